/- Part 10 of the texts of this claim. -/
import Derived.Test.YtgfbenanljjgaaaGreatVE9
import Derived.Test.YtgfbenanljjgaaaGreatVE7
import Derived.Test.YtgfbenanljjgaaaGreatVE6
import Derived.Test.YtgfbenanljjgaaaGreatVE5
set_option linter.unusedSimpArgs false
set_option linter.unusedVariables false
namespace Go.Proofs.YtgfbenanljjgaaaGreat.Du.Th.Ai
open Go Go.Oc
set_option maxRecDepth 8000
set_option maxHeartbeats 4000000
def armB:List Int:=[0,101,102,103,105,120,125,201,202,220,225,301,320]
theorem zOa:zAA Tryz.prog 61 [] (ints armB):=by
 refine zas (rs:=[ints armB]) [.tmp 0] Tryz.func61 rfl (by kernel_rfl) Tryz.ntmps61 rfl (by simp) rfl fun C vs=>?_
 apply zq
 refine zb fun K hK=>?_;simp only[go_sem];apply hK;apply zw (zk []);simp only[go_sem]
 apply zq
 refine zb fun K hK=>?_;simp only[go_sem];apply hK;apply zw (zk [0]);simp only[go_sem];apply ze;simp only[go_sem]
 try rfl
theorem zN2 (a b:Int):zAA Tryz.prog 30 [i64 a,i64 b] (.ag [i64 a,i64 b]):=by
 refine zas (rs:=[.ag [i64 a,i64 b]]) [.cell 4 48] Tryz.func30 rfl (by kernel_rfl) Tryz.ntmps30 rfl (by simp) rfl fun C vs=>?_
 apply zq
 refine zb fun K hK=>?_;simp only[go_sem];apply hK;apply zw (zk [0,1,4]);simp only[go_sem]
 apply zq
 refine zb fun K hK=>?_;simp only[go_sem];apply hK;apply zw (zk [4]);simp only[go_sem];apply ze;simp only[go_sem]
theorem zQ9 (g:Int):zAA Tryz.prog 31 [i64 g] (i64 (lowG g)):=by
 refine zas (rs:=[i64 (lowG g)]) [.tmp 2] Tryz.func31 rfl (by kernel_rfl) Tryz.ntmps31 rfl (by simp) rfl fun C vs=>?_
 apply zq
 refine zb fun K hK=>?_;simp only[go_sem];apply hK;apply zw (zk [0]);simp only[go_sem]
 repeat apply zq
 refine zb fun K hK=>?_;simp only[go_sem];apply hK;apply zw (zk [0,4]);simp only[go_sem]
 by_cases h:g=0
 ·subst h
  apply zc rfl<;>intro hc<;>(try simp only[go_sem] at hc)
  apply zq
  refine zb fun K hK=>?_;simp only[go_sem];apply hK;apply zw (zk [2]);simp only[go_sem];apply ze;simp only[go_sem]
  rfl
 ·have e:(g == 0)=false:=by simpa using h
  rw[e]
  apply zc rfl<;>intro hc<;>(try simp only[go_sem] at hc)
  apply zx
  try simp only[go_sem]
  apply zq
  refine zb fun K hK=>?_;simp only[go_sem];apply hK;apply zw (zk [2]);simp only[go_sem];apply ze;simp only[go_sem]
  simp [lowG,h]
theorem zUa {k:Nat}(h1:1≤k) (h2:k≤12):zAb (armB.getD k 0)=true:=by
 have:∀ k,k<13→1≤k→zAb (armB.getD k 0)=true:=by decide
 exact this k (by omega) h1
def bitI (x:Int) (k:Nat):Bool:=zF9 IntKind.i64 (shrI IntKind.i64 x (IntKind.u64.wrap (k:Int))) 1 == 1
def zDd (C:List Nat) (n:Nat):Int:=if C.length=0 then 0 else (C.getD (n % C.length) 0:Int)
structure LS where
 beds:List Bd
 sum:Int
 high:Int
 n:Nat
def loA (C:List Nat) (x:LS):Int:=min (zDd C x.n % 6) (20-x.sum)
def hiA (C:List Nat) (x:LS):Int:=min 20 (loA C x+zDd C (x.n+1) % 7)
def zC5 (C:List Nat) (bits:Int) (k:Nat) (x:LS):LS :=
 if x.beds.length<5∧bitI bits k=true then ⟨x.beds++[⟨armB.getD k 0,loA C x,hiA C x⟩],x.sum+loA C x,x.high+hiA C x,x.n+2⟩ else x
def zAu (C:List Nat) (bits:Int) (n:Nat):Nat→LS
 | 0=>⟨[],0,0,n⟩
 | k+1=>zC5 C bits k (zAu C bits n k)
def fixA (x:LS):List Bd:=if x.high<20 then (match x.beds with|[]=>[]|b::l=>⟨b.b,b.lo,min 20 (b.hi+20-x.high)⟩::l) else x.beds
def zB0 (W:List Int) (i:Nat):Int:=if i<W.length then zKz IntKind.i64 (W.getD i 0) (shlI IntKind.i64 128 ((i % 3:Nat):Int)) else 128
def aimA (W:List Int) (C:List Nat) (i n:Nat):Am:=⟨armB.getD (7+i % 3) 0,fixA (zAu C (zB0 W i) n 13)⟩
def zAv (W:List Int) (C:List Nat):Nat→List Am × Nat
 | 0=>([],0)
 | i+1=>((zAv W C i).1++[aimA W C i (zAv W C i).2],(zAu C (zB0 W i) (zAv W C i).2 13).n)
def cntW (W:List Int) (m:Nat):Nat:=if W.length=0 then 1 else min W.length m
theorem zGV (W:List Int) (C:List Nat):∀ i,(zAv W C i).1.length=i
 | 0=>rfl
 | i+1=>by simp [zAv,zGV W C i]
theorem zGR {C:List Nat}(hC:∀ x∈C,x<256) (n:Nat):0≤zDd C n∧zDd C n<256:=by
 unfold zDd
 split
 ·omega
 ·rename_i h
  have hl:=Nat.mod_lt n (show C.length > 0 by omega)
  rw[List.getD_eq_getElem?_getD,List.getElem?_eq_getElem hl]
  have:=hC _ (List.getElem_mem hl)
  show (0:Int)≤((C[n % C.length]:Nat):Int)∧((C[n % C.length]:Nat):Int)<256
  omega
structure LsI (k:Nat) (x:LS):Prop where
 len:x.beds.length≤5
 each:∀ c∈x.beds,(∃ j,j<k∧c.b=armB.getD j 0)∧0≤c.lo∧c.lo≤c.hi∧c.hi≤20
 up:x.beds.Pairwise fun a b=>a.b<b.b
 sum:loS x.beds=x.sum∧0≤x.sum∧x.sum≤20
 high:hiS x.beds=x.high∧0≤x.high∧x.high≤20*x.beds.length
theorem zUb {i j:Nat}(h:i<j) (hj:j<13):armB.getD i 0<armB.getD j 0:=by
 have:∀ j,j<13→∀ i,i<j→armB.getD i 0<armB.getD j 0:=by decide
 exact this j hj i h
theorem zI0 {C:List Nat}(hC:∀ x∈C,x<256) (bits:Int) (n:Nat):∀ k,k≤13→LsI k (zAu C bits n k)
 | 0,_=>⟨by simp [zAu],by simp [zAu],by simp [zAu],by simp [zAu,loS],by simp [zAu,hiS]⟩
 | k+1, hk=>by
   have ih:=zI0 hC bits n k (by omega)
   show LsI (k+1) (zC5 C bits k (zAu C bits n k))
   generalize zAu C bits n k=x at *
   unfold zC5
   split
   ·rename_i h
    have hs:=ih.sum
    have hh:=ih.high
    have b1:=zGR hC x.n
    have b2:=zGR hC (x.n+1)
    have hlo:0≤loA C x∧loA C x≤5∧loA C x≤20-x.sum:=by unfold loA;omega
    have hhi:loA C x≤hiA C x∧hiA C x≤20:=by unfold hiA;omega
    refine⟨by simp;omega,fun c hc=>?_,?_,?_,?_⟩
    ·rcases List.mem_append.1 hc with hc|hc
     ·obtain⟨⟨j,j1,j2⟩,h2⟩:=ih.each c hc
      exact⟨⟨j,by omega,j2⟩,h2⟩
     ·rw[List.mem_singleton] at hc
      subst hc
      exact⟨⟨k,by omega,rfl⟩,hlo.1,hhi.1,hhi.2⟩
    ·refine List.pairwise_append.2 ⟨ih.up,by simp,fun a ha b hb=>?_⟩
     rw[List.mem_singleton] at hb
     subst hb
     obtain⟨⟨j,j1,j2⟩,_⟩:=ih.each a ha
     rw[j2]
     exact zUb j1 (by omega)
    ·rw[zEI]
     simp only
     omega
    ·rw[zI2]
     simp only[List.length_append,List.length_cons,List.length_nil]
     omega
   ·exact⟨ih.len,fun c hc=>by
     obtain⟨⟨j,j1,j2⟩,h2⟩:=ih.each c hc
     exact⟨⟨j,by omega,j2⟩,h2⟩,ih.up,ih.sum,ih.high⟩
theorem zH5 (C:List Nat) (bits:Int) (n k:Nat) (h:(zAu C bits n k).beds≠[]):∀ m,(zAu C bits n (k+m)).beds≠[]
 | 0=>h
 | m+1=>by
   have ih:=zH5 C bits n k h m
   show (zC5 C bits (k+m) (zAu C bits n (k+m))).beds≠[]
   unfold zC5
   split
   ·simp
   ·exact ih
theorem zNN (C:List Nat) (bits:Int) (n k:Nat) (hk:k<13) (hb:bitI bits k=true):(zAu C bits n 13).beds≠[]:=by
 have h:(zAu C bits n (k+1)).beds≠[]:=by
  show (zC5 C bits k (zAu C bits n k)).beds≠[]
  unfold zC5
  split
  ·simp
  ·rename_i h
   intro e
   rw[e] at h
   exact h ⟨by simp,hb⟩
 have:=zH5 C bits n (k+1) h (13-(k+1))
 rwa [show k+1+(13-(k+1))=13 by omega] at this
theorem zLT:∀ {L:List Bd}{p:Option Int},(∀ x∈L,x.b=0∨zAb x.b=true)→L.Pairwise (fun x y=>x.b<y.b)→(∀ q,p=some q→∀ x∈L,q<x.b)→zCK p L=true
 | [],_,_,_,_=>rfl
 | x::L, p, hb, hp, hq=>by
   obtain⟨h1,h2⟩:=List.pairwise_cons.1 hp
   have ih:=zLT (L:=L) (p:=some x.b) (fun y hy=>hb y (List.mem_cons_of_mem x hy)) h2 fun q e y hy=>by
    injection e with e
    subst e
    exact h1 y hy
   unfold zCK
   rw[ih,Bool.and_true,Bool.and_eq_true]
   refine⟨?_,?_⟩
   ·rcases hb x (by simp) with h|h
    ·simp [h]
    ·simp [h]
   ·cases p with
    | none=>rfl
    | some q=>simpa using hq q rfl x (by simp)
theorem zGT {j:Nat}(h:j<13):armB.getD j 0=0∨zAb (armB.getD j 0)=true:=by
 have:∀ j,j<13→armB.getD j 0=0∨zAb (armB.getD j 0)=true:=by decide
 exact this j h
theorem zUJ {x:LS}(h:LsI 13 x) (hne:x.beds≠[]) {at_:Int}(ha:zAb at_=true):zC9 20 ⟨at_,fixA x⟩=true∧(fixA x).length=x.beds.length∧∀ c∈fixA x,∃ j,j<13∧c.b=armB.getD j 0:=by
 have hs:=h.sum
 have hh:=h.high
 unfold fixA
 split
 ·rename_i hlt
  cases hx:x.beds with
  | nil=>exact absurd hx hne
  | cons b l =>
    have he:=h.each
    have hu:=h.up
    rw[hx] at he hu hs hh
    have hb:=he b (by simp)
    have hl:=fun c (hc:c∈l)=>he c (List.mem_cons_of_mem b hc)
    obtain⟨u1,u2⟩:=List.pairwise_cons.1 hu
    have e1:loS (b::l)=b.lo+loS l:=by simp [loS]
    have e2:hiS (b::l)=b.hi+hiS l:=by simp [hiS]
    have hnn:0≤hiS l:=zPa fun y hy=>by
     obtain⟨c,hc,rfl⟩:=List.mem_map.1 hy
     have:=hl c hc;omega
    refine⟨?_,by simp,fun c hc=>?_⟩
    ·unfold zC9
     simp only[ha,Bool.true_and,Bool.and_eq_true,decide_eq_true_eq]
     refine⟨⟨⟨⟨rfl,?_⟩,?_⟩,?_⟩,?_⟩
     ·refine zLT (fun c hc=>?_) (List.pairwise_cons.2 ⟨fun y hy=>u1 y hy,u2⟩) (fun q e=>by cases e)
      rcases List.mem_cons.1 hc with rfl|hc
      ·obtain⟨⟨j,j1,j2⟩,_⟩:=hb
       simp only;rw[j2];exact zGT j1
      ·obtain⟨⟨j,j1,j2⟩,_⟩:=hl c hc
       rw[j2];exact zGT j1
     ·unfold chOk
      rw[List.all_eq_true]
      intro c hc
      simp only[Bool.and_eq_true,decide_eq_true_eq]
      rcases List.mem_cons.1 hc with rfl|hc
      ·simp only;omega
      ·have:=hl c hc;omega
     ·have:loS (⟨b.b,b.lo,min 20 (b.hi+20-x.high)⟩::l)=b.lo+loS l:=by simp [loS]
      rw[this];omega
     ·have:hiS (⟨b.b,b.lo,min 20 (b.hi+20-x.high)⟩::l)=min 20 (b.hi+20-x.high)+hiS l:=by simp [hiS]
      rw[this];omega
    ·rcases List.mem_cons.1 hc with rfl|hc
     ·exact hb.1
     ·exact (hl c hc).1
 ·rename_i hge
  refine⟨?_,rfl,fun c hc=>(h.each c hc).1⟩
  unfold zC9
  simp only[ha,Bool.true_and,Bool.and_eq_true,decide_eq_true_eq]
  refine⟨⟨⟨⟨by simpa using hne,?_⟩,?_⟩,?_⟩,?_⟩
  ·refine zLT (fun c hc=>?_) h.up (fun q e=>by cases e)
   obtain⟨⟨j,j1,j2⟩,_⟩:=h.each c hc
   rw[j2];exact zGT j1
  ·unfold chOk
   rw[List.all_eq_true]
   intro c hc
   simp only[Bool.and_eq_true,decide_eq_true_eq]
   have:=h.each c hc;omega
  ·omega
  ·omega
theorem zQz {v:Int}(hv:0≤v∧v≤65535) {j:Nat}(hj:j<3):bitI (zKz IntKind.i64 v (shlI IntKind.i64 128 (j:Int))) (7+j)=true:=by
 obtain⟨n,rfl⟩:∃ n:Nat,v=n:=⟨v.toNat,by omega⟩
 have hn:n<2 ^ 16:=by omega
 have hs:shlI IntKind.i64 128 (j:Int)=((2 ^ (7+j):Nat):Int):=by
  have:∀ j:Nat,j<3→shlI IntKind.i64 128 (j:Int)=((2 ^ (7+j):Nat):Int):=by decide
  exact this j hj
 have hw:IntKind.u64.wrap ((7+j:Nat):Int)=((7+j:Nat):Int):=by
  have:∀ j:Nat,j<3→IntKind.u64.wrap ((7+j:Nat):Int)=((7+j:Nat):Int):=by decide
  exact this j hj
 have hp:2 ^ (7+j)<2 ^ 16:=Nat.pow_lt_pow_right (by omega) (by omega)
 rw[hs]
 generalize hq:7+j=q at *
 have hqq:q<16:=by omega
 have hb:IntKind.i64.bits=64:=rfl
 have e1:zKz IntKind.i64 (n:Int) ((2 ^ q:Nat):Int)=((n ||| 2 ^ q:Nat):Int):=by
  unfold zKz
  rw[hb,BitVec.ofInt_natCast,BitVec.ofInt_natCast,BitVec.toNat_or,BitVec.toNat_ofNat,BitVec.toNat_ofNat,Nat.mod_eq_of_lt (by omega),Nat.mod_eq_of_lt (by omega)]
  have:=Nat.or_lt_two_pow (n:=16) hn hp
  rw[zI]<;>omega
 rw[e1]
 unfold bitI
 rw[hw]
 have e2:shrI IntKind.i64 ((n ||| 2 ^ q:Nat):Int) (q:Int)=(((n ||| 2 ^ q) / 2 ^ q:Nat):Int):=by
  unfold shrI
  have hm:min (q:Int).toNat 64=q:=by omega
  rw[hb,hm,Int.fdiv_eq_ediv_of_nonneg _ (by exact Int.le_of_lt (Int.pow_pos (by decide)))]
  norm_cast
 rw[e2]
 have hlt:=Nat.or_lt_two_pow (n:=16) hn hp
 have ht:Nat.testBit (n ||| 2 ^ q) q=true:=by simp [Nat.testBit_or,Nat.testBit_two_pow_self]
 rw[Nat.testBit_eq_decide_div_mod_eq,decide_eq_true_eq] at ht
 have hdl:(n ||| 2 ^ q) / 2 ^ q<2 ^ 16:=Nat.lt_of_le_of_lt (Nat.div_le_self _ _) hlt
 generalize (n ||| 2 ^ q) / 2 ^ q=y at *
 have e3:zF9 IntKind.i64 (y:Int) 1=((y % 2:Nat):Int):=by
  unfold zF9
  rw[hb]
  have h1:BitVec.ofInt 64 1=BitVec.ofNat 64 1:=rfl
  rw[BitVec.ofInt_natCast,h1,BitVec.toNat_and,BitVec.toNat_ofNat,BitVec.toNat_ofNat,Nat.mod_eq_of_lt (by omega),Nat.mod_eq_of_lt (by omega),Nat.and_one_is_mod]
  rw[zI]<;>omega
 rw[e3,ht]
 rfl
theorem zNx:bitI 128 7=true:=by decide
theorem zUm {W:List Int}{C:List Nat}(hW:∀ x∈W,0≤x∧x≤65535) (hC:∀ x∈C,x<256) {i:Nat}(hi:i<W.length∨i=0) (n:Nat) :
 zC9 20 (aimA W C i n)=true∧(aimA W C i n).beds.length≤5∧∀ c∈(aimA W C i n).beds,∃ j,j<13∧c.b=armB.getD j 0:=by
 have h1:=zI0 hC (zB0 W i) n 13 (Nat.le_refl _)
 have hm:i % 3<3:=Nat.mod_lt _ (by omega)
 have hbit:bitI (zB0 W i) (7+i % 3)=true:=by
  unfold zB0
  split
  ·rename_i hlt
   refine zQz ?_ hm
   rw[List.getD_eq_getElem?_getD,List.getElem?_eq_getElem hlt]
   exact hW _ (List.getElem_mem hlt)
  ·have:i=0:=by omega
   subst this
   exact zNx
 have hne:=zNN C (zB0 W i) n (7+i % 3) (by omega) hbit
 have hat:zAb (armB.getD (7+i % 3) 0)=true:=zUa (by omega) (by omega)
 unfold aimA
 generalize zAu C (zB0 W i) n 13=x at *
 generalize armB.getD (7+i % 3) 0=y at *
 obtain⟨a,b,c⟩:=zUJ h1 hne hat
 refine⟨a,?_,c⟩
 rw[b];exact h1.len
theorem zRP {W:List Int}{C:List Nat}(hW:∀ x∈W,0≤x∧x≤65535) (hC:∀ x∈C,x<256):∀ i,(i≤W.length∨i≤1) →
 ∀ a∈(zAv W C i).1,zC9 20 a=true∧a.beds.length≤5∧∀ c∈a.beds,∃ j,j<13∧c.b=armB.getD j 0
 | 0,_,a,ha=>by simp [zAv] at ha
 | i+1, h, a, ha=>by
   have ha:a∈(zAv W C i).1++[aimA W C i (zAv W C i).2]:=ha
   rcases List.mem_append.1 ha with ha|ha
   ·exact zRP hW hC i (by omega) a ha
   ·rw[List.mem_singleton] at ha
    subst ha
    exact zUm hW hC (by omega) _
def lawA (W:List Int) (C:List Nat) (m:Nat):List Am:=(zAv W C (cntW W m)).1
theorem zT9 {W:List Int}{C:List Nat}(hW:∀ x∈W,0≤x∧x≤65535) (hC:∀ x∈C,x<256) {m:Nat}(hm:1≤m∧m≤3):zAe 20 (lawA W C m)=0∧1≤(lawA W C m).length∧(lawA W C m).length≤3 ∧
 ∀ a∈lawA W C m,zC9 20 a=true∧a.beds.length≤5∧∀ c∈a.beds,∃ j,j<13∧c.b=armB.getD j 0:=by
 have hcn:1≤cntW W m∧cntW W m≤3∧(cntW W m≤W.length∨cntW W m≤1):=by unfold cntW;split<;>omega
 have hl:=zGV W C (cntW W m)
 have ha:=zRP hW hC (cntW W m) hcn.2.2
 refine⟨?_,by unfold lawA;omega,by unfold lawA;omega,ha⟩
 unfold zAe
 have hlen:(lawA W C m).length=cntW W m:=hl
 rw[if_neg,if_neg,if_pos]
 ·rw[List.all_eq_true]
  exact fun a q=>(ha a q).1
 ·have:(lawA W C m).isEmpty=false:=by
   cases e:lawA W C m with
   | nil=>rw[e] at hlen;simp at hlen;omega
   | cons a l=>rfl
  rw[this];simp
 ·simp only[Bool.or_eq_true,decide_eq_true_eq,List.any_eq_true,not_or,not_exists,not_and]
  refine⟨by omega,fun a q=>?_⟩
  have:=(ha a q).2.1
  omega
end Go.Proofs.YtgfbenanljjgaaaGreat.Du.Th.Ai

namespace Go.Proofs.YtgfbenanljjgaaaGreat.Du
open Go Go.Oc
set_option maxRecDepth 8000
set_option maxHeartbeats 4000000
abbrev mkL (bs:List Int) (g:Int) (cs:List (List Int)):List (Nat × RowC):=[(1000,.box [.os 1001 0 1 0 bs.length,.r (i64 g),.os 1002 0 1 0 cs.length]),(1001,.arr 140 1 (arrN bs)),(1002,.arr 39 1 (cs.map fun r=>[ints r]))]
theorem zSO (bs:List Int) (g:Int) (cs:List (List Int)) (l:List Int) (hl:cs[cs.length-1]? = some l) (h1:1≤cs.length∧cs.length≤100) :
 zA6 Tryz.prog 103 (mkL bs g cs) (mkL bs g cs) [.pt 1000 0 0] (.r (ints l)):=by
 have w1:IntKind.i64.wrap ((cs.length:Int)-1)=(cs.length:Int)-1:=by rw[zI]<;>omega
 have hx:cs[((cs.length:Int)-1).toNat]? = some l:=by rw[show ((cs.length:Int)-1).toNat=cs.length-1 by omega];exact hl
 refine zAd (n:=15) (rs:=[.r (ints l)]) _ _ [.tmp 2] Tryz.func103 rfl (by kernel_rfl) Tryz.ntmps103 rfl (by simp) rfl rfl fun C=>?_
 apply zq
 refine zb fun K hK=>?_;simp only[go_sem];apply hK;apply zw (zk [0]);simp only[go_sem]
 apply zq
 refine zDQ [(0,some 1000)] [1000] follows (by decide +kernel) (by kernel_rfl) (by simp only[zAO,List.mem_cons,List.not_mem_nil,forall_eq_or_imp,Oc.keyOf,go_sem];simp) (by intro k hk;simp only[List.mem_cons,List.not_mem_nil,or_false] at hk;first|(subst hk;exact⟨_,rfl⟩)|(rcases hk with rfl|rfl<;>exact⟨_,rfl⟩)|(rcases hk with rfl|rfl|rfl<;>exact⟨_,rfl⟩)) fun K hK=>?_
 simp only[go_sem,w1,hx,List.length_map];repeat first|intro _|refine⟨by omega,?_⟩
 apply hK;apply zw (zk [2]);simp only[go_sem];apply ze;simp only[go_sem]
def wonO (m:Nat):List Int:=1::List.replicate m 0
def rowN (g:Int) (bs:List Int) (m:Nat):Nat→List Int
 | 0=>wonO m
 | k+1=>rowO g bs (rowN g bs m k)
def cntO (g:Int) (bs:List Int) (m k:Nat):List (List Int):=(List.range (k+1)).map (rowN g bs m)
theorem zEE (g:Int) (bs:List Int) (m:Nat):∀ k,(rowN g bs m k).length=m+1
 | 0=>by simp [rowN,wonO]
 | k+1=>by simp [rowN,rowO,zEE g bs m k]
theorem zFt (g:Int) (bs:List Int) (m k:Nat):(cntO g bs m k).length=k+1:=by simp [cntO]
theorem zSo (g:Int) (bs:List Int) (m k:Nat):cntO g bs m (k+1)=cntO g bs m k++[rowN g bs m (k+1)]:=by
 unfold cntO
 rw[List.range_succ,List.map_append];rfl
theorem zSp (g:Int) (bs:List Int) (m k:Nat):(cntO g bs m k)[(cntO g bs m k).length-1]? = some (rowN g bs m k):=by
 rw[zFt]
 simp [cntO]
theorem zPo (g:Int) (bs:List Int) (hl:bs.length≤82) (m:Nat):∀ k,∀ x∈rowN g bs m k,0≤x∧x≤(82 ^ k:Nat)
 | 0, x, hx=>by
   unfold rowN wonO at hx
   rw[List.mem_cons] at hx
   rcases hx with rfl|hx
   ·simp
   ·rw[List.eq_of_mem_replicate hx];simp
 | k+1, x, hx=>by
   unfold rowN rowO at hx
   obtain⟨s,_,rfl⟩:=List.mem_map.1 hx
   have h:=zLO (M:=((82 ^ k:Nat):Int)) (zPo g bs hl m k) (Int.natCast_nonneg _) (zAJ g s bs)
   have hlen:=zFW bs g s
   rw[Nat.pow_succ]
   generalize 82 ^ k=P at *
   have h2:(P:Int)*((zAJ g s bs).length:Int)≤(P:Int)*82:=Int.mul_le_mul_of_nonneg_left (by omega) (by omega)
   refine⟨h.1,?_⟩
   push_cast
   omega
theorem zMy (g:Int) (bs:List Int) (hl:bs.length≤82) (m:Nat) {k:Nat}(hk:k≤6):∀ x∈rowN g bs m k,0≤x∧x≤1000000000000:=fun x hx=>by
 have h:=zPo g bs hl m k x hx
 have h2:82 ^ k≤82 ^ 6:=Nat.pow_le_pow_right (by omega) hk
 have h3:(82:Nat) ^ 6=304006671424:=by decide
 omega
def vY (b:Nat→Bool) (j:Nat) (v:AV):AV:=if b j then v else .r .un
def mkF (dn k:Nat) (la nw:List Int) (b:Nat→Bool) (vs:Nat→Nat):List (Nat × AV) :=
 [(9,.pt 15 (vs 15) 0),(49,.r (i64 (dn:Int))),(50,.r (i64 (k:Int))),
  (52,vY b 0 (.pt 15 (vs 15) 0)),
  (53,vY b 1 (.pt 15 (vs 15) 0)),
  (54,vY b 2 (.pt 15 (vs 15) 0)),
  (55,vY b 3 (.pt 15 (vs 15) 2)),
  (56,vY b 4 (bif b 10 then .r .un else .os 316 (vs 316) 1 0 (k+1))),
  (57,vY b 5 (.pt 15 (vs 15) 0)),
  (58,vY b 6 (.pt 15 (vs 15) 0)),
  (59,vY b 7 (.r (ints la))),
  (60,vY b 8 (.r (ints nw))),
  (61,vY b 9 (.r (.sl 1 [[ints nw]]))),
  (62,vY b 10 (.os 316 (vs 316) 1 0 (k+1+1))),
  (63,vY b 11 (.pt 15 (vs 15) 0)),
  (64,vY b 12 (.pt 15 (vs 15) 2))]
def mkR (bs:List Int) (g:Int) (k:Nat) (cs:List (List Int)) (nw:List Int) (b:Nat→Bool) (vs:Nat→Nat):List (Nat × RowC) :=
 [(15,.box [.os 315 (vs 315) 1 0 bs.length,.r (i64 g),bif b 13 then .os 316 (vs 316) 1 0 (k+1+1) else (bif b 10 then .os 316 (vs 316-1) 1 0 (k+1) else .os 316 (vs 316) 1 0 (k+1))]),(315,.arr 140 1 (arrN bs)),(316,.arr 39 1 (bif b 10 then (cs.map fun r=>[ints r])++[[ints nw]] else cs.map fun r=>[ints r]))]
attribute [go_sem] mkF mkR vY
theorem zKh {n:Nat}{F:(Nat→Nat)→List (Nat × AV)}{R:(Nat→Nat)→List (Nat × RowC)}{s s':AS}(h:Sub s s') (hf:FitV n F R s'):FitV n F R s:=by
 obtain⟨vs,hs⟩:=hf
 exact⟨vs,fun C a w hw=>hs C a w (h C a w hw)⟩
theorem zNv (bs:List Int) (g:Int) (dn m:Nat) (hb:∀ b∈bs,zAb b=true∧0≤b∧b≤499) (hbl:bs.length≤82) (hd:dn≤6) (hm:m≤1000) :
 zAA Tryz.prog 68 [ints bs,i64 g,i64 (dn:Int),i64 (m:Int)] (brdP bs g (cntO g bs m dn)):=by
 have wm:IntKind.i64.wrap ((m:Int)+1)=(m:Int)+1:=by rw[zI]<;>omega
 refine zas (rs:=[brdP bs g (cntO g bs m dn)]) [.tmp 8] Tryz.func68 rfl (by kernel_rfl) Tryz.ntmps68 rfl (by simp) rfl fun C vs=>?_
 apply zq
 refine zb fun K hK=>?_;simp only[go_sem];apply hK;apply zw (zk [0,1,2,3]);simp only[go_sem]
 apply zq
 refine zb fun K hK=>?_;simp only[go_sem];apply hK;refine zw (zCG 15 0 315 140 1 (by omega) (by omega) rfl (by simp only[go_sem,List.getElem?_cons_succ,List.getElem?_cons_zero])) ?_;refine zw (zCG 15 2 316 39 1 (by omega) (by omega) rfl (by simp only[go_sem,List.getElem?_cons_succ,List.getElem?_cons_zero,List.set_cons_zero])) ?_;apply zw (zk [0,2,3,9]);simp only[go_sem]
 repeat apply zq
 refine zb fun K hK=>?_;simp only[go_sem,List.length_map]
 intro _
 apply hK;apply zw (zk [2,3,9,16,17,18]);simp only[go_sem];apply zd
 refine zuv (n:=67) bs.length (fun i vs=>[(2,.r (i64 (dn:Int))),(3,.r (i64 (m:Int))),(9,.pt 15 (vs 15) 0),(16,.r (ints bs)),(17,.r (i64 (bs.length:Int))),(18,.r (i64 (i:Int)))])
  (fun i vs=>[(15,.box [.os 315 (vs 315) 1 0 i,.r (i64 g),.os 316 (vs 316) 1 0 0]),(315,.arr 140 1 (arrN (bs.take i))),(316,.arr 39 1 [])]) (fun _=>True) 0 (zj [] ?_ ?_) (Nat.zero_le _) trivial ?_
 ·try simp only[go_sem]
  try rfl
 ·try simp only[go_sem]
  try rfl
 ·intro i vs hi _
  by_cases hin:i<bs.length
  ·obtain⟨x,hx⟩:=zol hin
   have hlt:(bs.take i).length=i:=by rw[List.length_take];omega
   rw[zto hx]
   apply zq
   refine zb fun K hK=>?_;simp only[go_sem,hin];apply hK;apply zw (zk [2,3,9,16,17,18,19]);simp only[go_sem]
   apply zq
   apply zc rfl<;>intro hc<;>(try simp only[go_sem] at hc)
   apply zx
   try simp only[go_sem]
   apply zq
   apply zd
   apply zq
   refine zb fun K hK=>?_;simp only[go_sem,hx,hin,List.length_map];apply hK;apply zw (zk [2,3,9,11,16,17,18]);simp only[go_sem];refine zb fun K hK=>?_;simp only[go_sem,hlt,List.length_map]
   refine⟨by omega,?_⟩
   apply hK;apply zw (zk [2,3,9,16,17,18]);simp only[go_sem];refine zb fun K hK=>?_;simp only[go_sem];(try simp (disch:=omega) only[zI]);apply hK
   try simp only[go_sem]
   refine⟨by omega,zj [] ?_ ?_⟩
   ·try simp only[go_sem]
   ·try simp only[go_sem]
    try simp
  ·have hie:i=bs.length:=by omega
   subst hie
   apply zq
   refine zb fun K hK=>?_;simp only[go_sem,Nat.lt_irrefl];apply hK;apply zw (zk [2,3,9,19]);simp only[go_sem]
   apply zq
   apply zc rfl<;>intro hc<;>(try simp only[go_sem] at hc)
   apply zf;simp only[go_sem];rw[List.take_length]
   apply zq
   refine zb fun K hK=>?_;simp only[go_sem,wm]
   refine⟨by omega,?_⟩
   apply hK;apply zw (zk [2,9,12]);simp only[go_sem]
   apply zq
   refine zb fun K hK=>?_;simp only[go_sem,List.length_replicate]
   repeat refine⟨by omega,?_⟩
   apply hK
   have hwon:[RV.it IntKind.i64 1]::List.replicate m [RV.it IntKind.i64 0]=arrN (wonO m):=by simp [wonO]
   refine zw (zEW (ty:=3) (sz:=1) (off:=0) (m:=m+1) (es:=arrN (wonO m)) 12 36 (by omega) rfl (by simp only[go_sem];rw[hwon]) (by simp [wonO])) ?_
   have tk1:List.take (m+1) (arrN (wonO m))=arrN (wonO m):=List.take_of_length_le (by simp [wonO])
   simp only[go_sem,List.drop_zero,tk1];apply zw (zk [2,9,12]);simp only[go_sem]
   apply zq
   refine zb fun K hK=>?_;simp only[go_sem];apply hK;apply zw (zk [2,9]);simp only[go_sem]
   repeat apply zq
   refine zb fun K hK=>?_;simp only[go_sem];apply hK;apply zw (zk [9,49,50]);simp only[go_sem];apply zd
   refine zuv (n:=67) dn (fun k vs=>[(9,.pt 15 (vs 15) 0),(49,.r (i64 (dn:Int))),(50,.r (i64 (k:Int)))])
    (fun k vs=>[(15,.box [.os 315 (vs 315) 1 0 bs.length,.r (i64 g),.os 316 (vs 316) 1 0 (k+1)]),(315,.arr 140 1 (arrN bs)),(316,.arr 39 1 ((cntO g bs m k).map fun r=>[ints r]))]) (fun _=>True) 0 (zj [] ?_ ?_) (Nat.zero_le _) trivial ?_
   ·try simp only[go_sem]
    try rfl
   ·try simp only[go_sem]
    try rfl
   ·intro k vs hk _
    by_cases hkn:k<dn
    ·have hcl:=zFt g bs m k
     have hcla:=zSp g bs m k
     have hll:=zEE g bs m k
     have hnl:(rowN g bs m (k+1)).length=m+1:=zEE g bs m (k+1)
     have hla:=zSO bs g (cntO g bs m k) (rowN g bs m k) hcla (by omega)
     have hro:=zUx bs g (cntO g bs m k) (rowN g bs m k) hb (by omega) hbl (zMy g bs hbl m (by omega))
     have hnx:rowO g bs (rowN g bs m k)=rowN g bs m (k+1):=rfl
     rw[hnx] at hro
     rw[zSo]
     generalize hcs:cntO g bs m k=cs at *
     generalize rowN g bs m k=la at *
     generalize rowN g bs m (k+1)=nw at *
     simp only[mkL,hcl] at hla
     have htc:List.take (k+1) (cs.map fun r=>[ints r])=cs.map fun r=>[ints r]:=List.take_of_length_le (by simp [hcl])
     have htk:List.take (m+1) (arrN nw)=arrN nw:=List.take_of_length_le (by simp [hnl])
     apply zq
     refine zb fun K hK=>?_;simp only[go_sem,hkn];apply hK;apply zw (zk [9,49,50,51]);simp only[go_sem]
     apply zq
     apply zc rfl<;>intro hc<;>(try simp only[go_sem] at hc)
     apply zx
     try simp only[go_sem]
     apply zq
     apply zd
     have E:=And.intro hcl (And.intro hnl (And.intro hll htc))
     refine zQ3 (n:=67) (mkF dn k la nw) (mkR bs g k cs nw) follows (by kernel_rfl) (by kernel_rfl) (by decide +kernel) (zj [] ?_ ?_) ?_ ?_
     ·simp only[go_sem,zIf]
     ·simp only[go_sem,List.cons_append,List.nil_append]
     ·refine⟨fun b vs hdn hbk hde=>?_,fun b vs hdn hbk hde=>?_,fun b vs hdn hbk hde=>?_,fun b vs hdn hbk hde=>?_,fun b vs hdn hbk hde=>?_,fun b vs hdn hbk hde=>?_,fun b vs hdn hbk hde=>?_,fun b vs hdn hbk hde=>?_,fun b vs hdn hbk hde=>?_,fun b vs hdn hbk hde=>?_,fun b vs hdn hbk hde=>?_,fun b vs hdn hbk hde=>?_,fun b vs hdn hbk hde=>?_,fun b vs hdn hbk hde=>?_,trivial⟩
      ·skip
       have G:=dnT hdn hbk [11,12,13] (by decide +kernel)
       simp only[allB,and_true] at G
       cases g4:b 4<;>cases g8:b 8<;>cases g10:b 10
       all_goals (simp only[go_sem,upd,zIf,hbk,G,g4,g8,g10,E,List.length_map,Nat.add_sub_cancel,List.length_append,List.length_nil,Nat.zero_add])
       all_goals (refine zj [] ?_ ?_<;>(simp only[go_sem,upd,zIf,hbk,G,g4,g8,g10,E,List.length_map,Nat.add_sub_cancel,List.length_append,List.length_nil,Nat.zero_add]))
      ·skip
       have G:=dnT hdn hbk [2,11,12,13,3,4,10] (by decide +kernel)
       simp only[allB,and_true] at G
       cases g8:b 8
       all_goals (simp only[go_sem,upd,zIf,hbk,G,g8,E,List.length_map,Nat.add_sub_cancel,List.length_append,List.length_nil,Nat.zero_add])
       all_goals (refine zj [] ?_ ?_<;>(simp only[go_sem,upd,zIf,hbk,G,g8,E,List.length_map,Nat.add_sub_cancel,List.length_append,List.length_nil,Nat.zero_add]))
      ·skip
       have H:=upT hdn hde [1] (by decide +kernel)
       have G:=dnT hdn hbk [3,11,12,13,4,10] (by decide +kernel)
       simp only[allB,and_true] at H G
       cases g8:b 8
       all_goals (simp only[go_sem,upd,zIf,hbk,H,G,g8,E,List.length_map,Nat.add_sub_cancel,List.length_append,List.length_nil,Nat.zero_add])
       all_goals (refine zj [] ?_ ?_<;>(simp only[go_sem,upd,zIf,hbk,H,G,g8,E,List.length_map,Nat.add_sub_cancel,List.length_append,List.length_nil,Nat.zero_add]))
      ·skip
       have H:=upT hdn hde [2,1] (by decide +kernel)
       have G:=dnT hdn hbk [4,11,12,13,10] (by decide +kernel)
       simp only[allB,and_true] at H G
       cases g8:b 8
       all_goals (simp only[go_sem,upd,zIf,hbk,H,G,g8,E,List.length_map,Nat.add_sub_cancel,List.length_append,List.length_nil,Nat.zero_add])
       all_goals (refine zj [] ?_ ?_<;>(simp only[go_sem,upd,zIf,hbk,H,G,g8,E,List.length_map,Nat.add_sub_cancel,List.length_append,List.length_nil,Nat.zero_add]))
      ·skip
       have H:=upT hdn hde [3,2,1] (by decide +kernel)
       have G:=dnT hdn hbk [10,11,12,13] (by decide +kernel)
       simp only[allB,and_true] at H G
       cases g8:b 8
       all_goals (simp only[go_sem,upd,zIf,hbk,H,G,g8,E,List.length_map,Nat.add_sub_cancel,List.length_append,List.length_nil,Nat.zero_add])
       all_goals (refine zj [] ?_ ?_<;>(simp only[go_sem,upd,zIf,hbk,H,G,g8,E,List.length_map,Nat.add_sub_cancel,List.length_append,List.length_nil,Nat.zero_add]))
      ·skip
       have G:=dnT hdn hbk [8,11,12,13,9,10] (by decide +kernel)
       simp only[allB,and_true] at G
       cases g4:b 4
       all_goals (simp only[go_sem,upd,zIf,hbk,G,g4,E,List.length_map,Nat.add_sub_cancel,List.length_append,List.length_nil,Nat.zero_add])
       all_goals (refine zj [] ?_ ?_<;>(simp only[go_sem,upd,zIf,hbk,G,g4,E,List.length_map,Nat.add_sub_cancel,List.length_append,List.length_nil,Nat.zero_add]))
      ·skip
       have G:=dnT hdn hbk [7,11,12,13,8,9,10] (by decide +kernel)
       simp only[allB,and_true] at G
       cases g4:b 4
       all_goals (simp only[go_sem,upd,zIf,hbk,G,g4,E,List.length_map,Nat.add_sub_cancel,List.length_append,List.length_nil,Nat.zero_add])
       all_goals (refine zj [] ?_ ?_<;>(simp only[go_sem,upd,zIf,hbk,G,g4,E,List.length_map,Nat.add_sub_cancel,List.length_append,List.length_nil,Nat.zero_add]))
      ·skip
       have H:=upT hdn hde [6] (by decide +kernel)
       have G:=dnT hdn hbk [8,11,12,13,9,10] (by decide +kernel)
       simp only[allB,and_true] at H G
       cases g4:b 4
       all_goals (simp only[go_sem,upd,zIf,hbk,H,G,g4,E,List.length_map,Nat.add_sub_cancel,List.length_append,List.length_nil,Nat.zero_add])
       all_goals (refine zAW hla [(1000,15),(1001,315),(1002,316)] rfl (by simp only[go_sem,i64,ints]) (by simp only[go_sem,i64,ints,hcl,List.length_map];try simp) (by rfl) (by rfl) ?_)
       all_goals (simp only[go_sem,zIf,hbk,H,G,E,List.length_map,Nat.add_sub_cancel,List.length_append,List.length_nil,Nat.zero_add])
       all_goals (refine zj [] ?_ ?_<;>(simp only[go_sem,upd,zIf,hbk,H,G,g4,E,List.length_map,Nat.add_sub_cancel,List.length_append,List.length_nil,Nat.zero_add]))
      ·skip
       have H:=upT hdn hde [5,7,7,6] (by decide +kernel)
       have G:=dnT hdn hbk [9,10,11,12,13] (by decide +kernel)
       simp only[allB,and_true] at H G
       cases g4:b 4
       all_goals (simp only[go_sem,upd,zIf,hbk,H,G,g4,E,List.length_map,Nat.add_sub_cancel,List.length_append,List.length_nil,Nat.zero_add])
       all_goals (refine zPI hro rfl (by simp only[go_sem,i64,ints,E,List.length_map,Nat.add_sub_cancel,List.length_append,List.length_nil,Nat.zero_add]) (by simp only[go_sem,i64,ints,brdP,brdC,tabR,E,List.length_map,Nat.add_sub_cancel,List.length_append,List.length_nil,Nat.zero_add]) (by decide) (by intro h;first|(cases h;done)|rfl) ?_)
       all_goals simp only[go_sem,zIf,hbk,H,G,E,List.length_map,Nat.add_sub_cancel,List.length_append,List.length_nil,Nat.zero_add]
       all_goals refine zKh (zEW (ty:=3) (sz:=1) (off:=0) (m:=m+1) (es:=arrN nw) 60 60 (by omega) rfl (by rfl) (by simp [hnl,hll])) ?_
       all_goals simp only[go_sem,List.drop_zero,htk]
       all_goals (refine zj [] ?_ ?_<;>(simp only[go_sem,upd,zIf,hbk,H,G,g4,E,List.length_map,Nat.add_sub_cancel,List.length_append,List.length_nil,Nat.zero_add]))
      ·skip
       have H:=upT hdn hde [8,5,7,6] (by decide +kernel)
       have G:=dnT hdn hbk [10,11,12,13] (by decide +kernel)
       simp only[allB,and_true] at H G
       cases g4:b 4
       all_goals (simp only[go_sem,upd,zIf,hbk,H,G,g4,E,List.length_map,Nat.add_sub_cancel,List.length_append,List.length_nil,Nat.zero_add])
       all_goals (refine zj [] ?_ ?_<;>(simp only[go_sem,upd,zIf,hbk,H,G,g4,E,List.length_map,Nat.add_sub_cancel,List.length_append,List.length_nil,Nat.zero_add]))
      ·skip
       have H:=upT hdn hde [4,8,9,3,5,7,2,6,1] (by decide +kernel)
       have G:=dnT hdn hbk [11,12,13] (by decide +kernel)
       simp only[allB,and_true] at H G
       (simp only[go_sem,upd,zIf,hbk,H,G,E,List.length_map,Nat.add_sub_cancel,List.length_append,List.length_nil,Nat.zero_add])
       all_goals (try refine⟨⟨by omega,by omega⟩,?_⟩)
       all_goals refine zKh (zk [9,49,50,52,53,54,55,57,58,59,60,61,62,63,64]) ?_
       all_goals simp only[go_sem]
       all_goals (refine zj [] ?_ ?_<;>(simp only[go_sem,upd,zIf,hbk,H,G,E,List.length_map,Nat.add_sub_cancel,List.length_append,List.length_nil,Nat.zero_add]))
      ·skip
       have H:=upT hdn hde [0,0,1,2,3,4,5,6,7,8,9,10] (by decide +kernel)
       have G:=dnT hdn hbk [12,13] (by decide +kernel)
       simp only[allB,and_true] at H G
       (simp only[go_sem,upd,zIf,hbk,H,G,E,List.length_map,Nat.add_sub_cancel,List.length_append,List.length_nil,Nat.zero_add])
       all_goals (refine zj [] ?_ ?_<;>(simp only[go_sem,upd,zIf,hbk,H,G,E,List.length_map,Nat.add_sub_cancel,List.length_append,List.length_nil,Nat.zero_add]))
      ·skip
       have H:=upT hdn hde [0,1,2,3,4,5,6,7,8,9,10,11] (by decide +kernel)
       have G:=dnT hdn hbk [13] (by decide +kernel)
       simp only[allB,and_true] at H G
       (simp only[go_sem,upd,zIf,hbk,H,G,E,List.length_map,Nat.add_sub_cancel,List.length_append,List.length_nil,Nat.zero_add])
       all_goals (refine zj [] ?_ ?_<;>(simp only[go_sem,upd,zIf,hbk,H,G,E,List.length_map,Nat.add_sub_cancel,List.length_append,List.length_nil,Nat.zero_add]))
      ·skip
       have H:=upT hdn hde [0,1,2,3,4,5,6,7,8,9,10,10,10,12,11] (by decide +kernel)
       simp only[allB,and_true] at H
       (simp only[go_sem,upd,zIf,hbk,H,E,List.length_map,Nat.add_sub_cancel,List.length_append,List.length_nil,Nat.zero_add])
       all_goals (refine zj [] ?_ ?_<;>(simp only[go_sem,upd,zIf,hbk,H,E,List.length_map,Nat.add_sub_cancel,List.length_append,List.length_nil,Nat.zero_add]))
     intro b vs hb
     simp only[go_sem,hb,if_true,List.cons_append,List.nil_append];apply zw (zk [9,49,50]);simp only[go_sem];refine zb fun K hK=>?_;simp only[go_sem];(try simp (disch:=omega) only[zI]);apply hK
     try simp only[go_sem]
     refine⟨by omega,zj [] ?_ ?_⟩
     ·try simp only[go_sem]
     ·try simp only[go_sem]
      try simp
    ·have hke:k=dn:=by omega
     subst hke
     have hcl:=zFt g bs m k
     generalize hcs:cntO g bs m k=cs at *
     apply zq
     refine zb fun K hK=>?_;simp only[go_sem,Nat.lt_irrefl];apply hK;apply zw (zk [9,51]);simp only[go_sem]
     apply zq
     apply zc rfl<;>intro hc<;>(try simp only[go_sem] at hc)
     apply zf;simp only[go_sem];refine zw (zED 15 0 315 (ty:=140) (sz:=1) (off:=0) (m:=bs.length) (es:=arrN bs) (by omega) (by omega) rfl (by simp only[go_sem,List.getElem?_cons_succ,List.getElem?_cons_zero]) (by rfl) (by simp)) ?_
     have tk1:List.take bs.length (arrN bs)=arrN bs:=List.take_of_length_le (by simp)
     simp only[go_sem,List.drop_zero,tk1,List.set_cons_succ,List.set_cons_zero];refine zw (zED 15 2 316 (ty:=39) (sz:=1) (off:=0) (m:=k+1) (es:=cs.map fun r=>[ints r]) (by omega) (by omega) rfl (by simp only[go_sem,List.getElem?_cons_succ,List.getElem?_cons_zero]) (by rfl) (by simp [hcl])) ?_
     have tk2:List.take (k+1) (cs.map fun r=>[ints r])=cs.map fun r=>[ints r]:=List.take_of_length_le (by simp [hcl])
     simp only[go_sem,List.drop_zero,tk2,List.set_cons_succ,List.set_cons_zero];refine zw (zfP 9 15 (brdC bs g cs) (by omega) rfl rfl) ?_;apply zw (zk [9]);simp only[go_sem]
     apply zq
     refine zb fun K hK=>?_;simp only[go_sem];apply hK;apply zw (zk [8]);simp only[go_sem];apply ze;simp only[go_sem];exact zEX _
def totO (cs:List (List Int)) (s:Nat):Int:=((cs.drop 1).map fun r=>r.getD s 0).sum
theorem zRZ (bs:List Int) (g:Int) (cs:List (List Int)) (s n:Nat) (h1:1≤cs.length∧cs.length≤10) (hr:∀ r∈cs,r.length=n∧∀ x∈r,0≤x∧x≤1000000000000) (hs:s<n) :
 zAA Tryz.prog 71 [brdP bs g cs,i64 (s:Int)] (i64 (totO cs s)):=by
 obtain⟨ds,hds⟩:∃ ds,ds=cs.drop 1:=⟨_,rfl⟩
 have hdl:ds.length≤9:=by rw[hds,List.length_drop];omega
 have hdr:∀ r∈ds,r.length=n∧∀ x∈r,0≤x∧x≤1000000000000:=fun r hr'=>hr r (by rw[hds] at hr';exact List.mem_of_mem_drop hr')
 have hto:totO cs s=(ds.map fun r=>r.getD s 0).sum:=by rw[hds];rfl
 have hdm:List.drop 1 (cs.map fun r=>[ints r])=ds.map fun r=>[ints r]:=by rw[hds,List.map_drop]
 rw[hto]
 refine zas (rs:=[i64 ((ds.map fun r=>r.getD s 0).sum)]) [.tmp 4] Tryz.func71 rfl (by kernel_rfl) Tryz.ntmps71 rfl (by simp) rfl fun C vs=>?_
 apply zq
 refine zb fun K hK=>?_;simp only[go_sem];apply hK;apply zw (zk [0,1,4]);simp only[go_sem]
 repeat apply zq
 refine zb fun K hK=>?_;simp only[go_sem,hdm,List.length_map];repeat first|intro _|refine⟨by omega,?_⟩
 apply hK;apply zw (zk [1,4,11,12,13]);simp only[go_sem];apply zd
 refine zup (n:=25) ds.length (fun i vs=>[(1,.r (i64 (s:Int))),(4,.r (i64 (((ds.take i).map fun r=>r.getD s 0).sum))),(11,.r (tabR ds)),(12,.r (i64 (ds.length:Int))),(13,.r (i64 (i:Int)))])
  (fun i=>[]) (fun _=>True) 0 (zfo [] ?_ ?_) (Nat.zero_le _) trivial ?_
 ·try simp only[go_sem]
  try rfl
 ·try simp only[go_sem]
 ·intro i vs hi _
  by_cases hin:i<ds.length
  ·obtain⟨r,hri⟩:=zol hin
   obtain⟨r1,r2⟩:=hdr r (zmo hri)
   obtain⟨v,hv⟩:=zol (l:=r) (i:=s) (by omega)
   have hvM:=r2 v (zmo hv)
   have hsr:s<r.length:=by omega
   have hsum:∀ j,j≤ds.length→0≤((ds.take j).map fun r=>r.getD s 0).sum∧((ds.take j).map fun r=>r.getD s 0).sum≤1000000000000*j:=by
    intro j
    induction j with
    | zero=>intro _;simp
    | succ j ih =>
      intro hj
      obtain⟨q,hq⟩:=zol (l:=ds) (i:=j) (by omega)
      obtain⟨q1,q2⟩:=hdr q (zmo hq)
      obtain⟨y,hy⟩:=zol (l:=q) (i:=s) (by omega)
      have hyM:=q2 y (zmo hy)
      have:=ih (by omega)
      rw[zto hq,List.map_append,List.sum_append]
      simp only[List.map_cons,List.map_nil,List.sum_cons,List.sum_nil,List.getD_eq_getElem?_getD,hy,Option.getD_some] at *
      omega
   have hsi:=hsum i (by omega)
   rw[zto hri,List.map_append,List.sum_append]
   have hgv:([r].map fun r=>r.getD s 0).sum=v:=by simp [hv]
   rw[hgv]
   generalize ((ds.take i).map fun r=>r.getD s 0).sum=Z at *
   have wz:IntKind.i64.wrap (Z+v)=Z+v:=by rw[zI]<;>omega
   apply zq
   refine zb fun K hK=>?_;simp only[go_sem,hin];apply hK;apply zw (zk [1,4,11,12,13,14]);simp only[go_sem]
   apply zq
   apply zc rfl<;>intro hc<;>(try simp only[go_sem] at hc)
   apply zx
   try simp only[go_sem]
   apply zq
   apply zd
   apply zq
   refine zb fun K hK=>?_;simp only[go_sem,hri,hin,List.length_map];apply hK;apply zw (zk [1,4,6,11,12,13]);simp only[go_sem];refine zb fun K hK=>?_;simp only[go_sem,hv,hsr,wz,List.length_map];apply hK;apply zw (zk [1,4,11,12,13]);simp only[go_sem];refine zb fun K hK=>?_;simp only[go_sem];(try simp (disch:=omega) only[zI]);apply hK
   try simp only[go_sem]
   refine⟨by omega,zfo [] ?_ ?_⟩
   ·try simp only[go_sem]
   ·try simp only[go_sem]
  ·have hie:i=ds.length:=by omega
   subst hie
   rw[List.take_length]
   apply zq
   refine zb fun K hK=>?_;simp only[go_sem,Nat.lt_irrefl];apply hK;apply zw (zk [4,14]);simp only[go_sem]
   apply zq
   apply zc rfl<;>intro hc<;>(try simp only[go_sem] at hc)
   apply zf;simp only[go_sem]
   apply zq
   refine zb fun K hK=>?_;simp only[go_sem];apply hK;apply zw (zk [4]);simp only[go_sem];apply ze;simp only[go_sem]
def zJc (l:List Int) (b:Int) (x:Int × Int):Int:=if l.getD x.2.toNat 0 ≠ -1∧(b = -1∨l.getD x.2.toNat 0+1<b) then l.getD x.2.toNat 0+1 else b
def zCl (l:List Int) (T:List (Int × Int)):Int:=T.foldl (zJc l) (-1)
def fewO (g:Int) (bs:List Int):Nat→List Int
 | 0=>[0]
 | n+1=>fewO g bs n++[zCl (fewO g bs n) (zAJ g ((n+1:Nat):Int) bs)]
theorem zFr (g:Int) (bs:List Int):∀ n,(fewO g bs n).length=n+1
 | 0=>rfl
 | n+1=>by simp [fewO,zFr g bs n]
theorem zK2 (l:List Int) (T:List (Int × Int)) (x:Int × Int):zCl l (T++[x])=zJc l (zCl l T) x:=by simp [zCl]
theorem zMH {l:List Int}{M:Int}(h:∀ x∈l,-1≤x∧x≤M) (h0:0≤M):∀ T:List (Int × Int),∀ b:Int,-1≤b∧b≤M+1 → -1≤T.foldl (zJc l) b∧T.foldl (zJc l) b≤M+1
 | [],b,hb=>hb
 | x::T, b, hb=>by
   rw[List.foldl_cons]
   refine zMH h h0 T _ ?_
   have hx : -1≤l.getD x.2.toNat 0∧l.getD x.2.toNat 0≤M:=by
    rw[List.getD_eq_getElem?_getD]
    cases e:l[x.2.toNat]? with
    | none=>simp;omega
    | some y=>exact h y (zmo e)
   unfold zJc
   split<;>omega
theorem zNc (g:Int) (bs:List Int):∀ n,∀ x∈fewO g bs n,-1≤x∧x≤n
 | 0,x,hx=>by simp [fewO] at hx;omega
 | n+1, x, hx=>by
   unfold fewO at hx
   rw[List.mem_append,List.mem_singleton] at hx
   rcases hx with hx|rfl
   ·have:=zNc g bs n x hx;omega
   ·have:=zMH (zNc g bs n) (by omega) (zAJ g ((n+1:Nat):Int) bs) (-1) (by omega)
    unfold zCl;omega
theorem zQf (bs:List Int) (g k:Int) (m:Nat) (h:BdsO bs) (hg:0≤g∧g≤2) (hk:1≤k∧k≤9) (hm:m≤1000) :
 zAA Tryz.prog 38 [ouR bs g k,i64 (m:Int)] (.tu [ints (fewO g bs m),i64 0]):=by
 have hcm:=zKv bs g k m h hg hk (by omega)
 have hB:∀ b∈bs,zAb b=true:=fun b hb=>(h.bed b hb).1
 have hbd:=zNv bs g 0 0 (fun b hb=>h.bed b hb) h.len (by omega) (by omega)
 have hz0:((0:Int) != 0)=false:=rfl
 generalize cntO g bs 0 0=cs at *
 have hth:=zGb bs g cs
 refine zAx (rs:=[ints (fewO g bs m),i64 0]) [.cell 4 39,.tmp 5] Tryz.func38 rfl (by kernel_rfl) Tryz.ntmps38 rfl (by simp) rfl fun C hC vs=>?_
 apply zq
 refine zb fun K hK=>?_;simp only[go_sem];apply hK;refine zw (zfP 2 2 [ints bs,i64 g,i64 k] (by omega) rfl rfl) ?_;apply zw (zk [1,2,4,5]);simp only[go_sem]
 repeat apply zq
 refine zb fun K hK=>?_;simp only[go_sem]
 refine zh (hcm) rfl (by simp only[go_sem,i64,ints]) (by simp only[go_sem,i64,ints]) ?_
 (try simp only[go_sem]);apply hK;apply zw (zk [1,2,4,5,6]);simp only[go_sem]
 apply zq
 refine zb fun K hK=>?_;simp only[go_sem,hz0];apply hK;apply zw (zk [1,2,4,5,17]);simp only[go_sem]
 apply zc rfl<;>intro hc<;>(try simp only[go_sem] at hc)
 apply zx
 try simp only[go_sem]
 apply zq
 refine zb fun K hK=>?_;simp only[go_sem]
 refine zh (hbd) rfl (by simp only[go_sem,i64,ints]) (by simp only[go_sem,i64,ints]) ?_
 (try simp only[go_sem]);apply hK;refine zw (zCG 4 0 304 3 1 (by omega) (by omega) rfl (by simp only[go_sem,List.getElem?_cons_succ,List.getElem?_cons_zero])) ?_;apply zw (zk [1,4,7]);simp only[go_sem]
 apply zq
 refine zb fun K hK=>?_;simp only[go_sem];apply hK;apply zw (zk [1,4,7]);simp only[go_sem]
 repeat apply zq
 refine zb fun K hK=>?_;simp only[go_sem];apply hK;apply zw (zk [4,7,27,28]);simp only[go_sem];apply zd
 refine zuv (n:=61) m (fun i vs=>[(4,.pt 4 (vs 4) 0),(7,.r (brdP bs g cs)),(27,.r (i64 (m:Int))),(28,.r (i64 (i:Int)))])
  (fun i vs=>[(4,.box [.os 304 (vs 304) 1 0 (i+1)]),(304,.arr 3 1 (arrN (fewO g bs i)))]) (fun _=>True) 0 (zj [] ?_ ?_) (Nat.zero_le _) trivial ?_
 ·try simp only[go_sem]
  try rfl
 ·try simp only[go_sem]
  try rfl
 ·intro i vs hi _
  by_cases hin:i<m
  ·have hfl:=zFr g bs i
   have hfe:=zNc g bs i
   have hfs:fewO g bs (i+1)=fewO g bs i++[zCl (fewO g bs i) (zAJ g ((i+1:Nat):Int) bs)]:=rfl
   have hmem:=fun x (hx:x∈zAJ g ((i+1:Nat):Int) bs)=>zEC hB hx
   have hit:=zFX bs g cs ((i+1:Nat):Int) (by omega) (fun b hb=>(h.bed b hb).2)
   have hti:=hth ((i+1:Nat):Int)
   have wi:IntKind.i64.wrap ((i:Int)+1)=((i+1:Nat):Int):=by rw[zI]<;>omega
   rw[hfs]
   generalize hL:fewO g bs i=L at *
   generalize hT:zAJ g ((i+1:Nat):Int) bs=T at *
   have hbsn:=zK2 L
   have hble:=fun U=>zMH hfe (by omega) U (-1) (by omega)
   apply zq
   refine zb fun K hK=>?_;simp only[go_sem,hin];apply hK;apply zw (zk [4,7,27,28,29]);simp only[go_sem]
   apply zq
   apply zc rfl<;>intro hc<;>(try simp only[go_sem] at hc)
   apply zx
   try simp only[go_sem]
   apply zq
   apply zd
   apply zq
   refine zb fun K hK=>?_;simp only[go_sem];apply hK;apply zw (zk [4,7,8,27,28]);simp only[go_sem]
   apply zq
   refine zb fun K hK=>?_;simp only[go_sem];apply hK;apply zw (zk [4,7,8,9,27,28]);simp only[go_sem]
   repeat apply zq
   refine zb fun K hK=>?_;simp only[go_sem,wi]
   refine zh (hti) rfl (by simp only[go_sem,i64,ints,wi]) (by simp only[go_sem,i64,ints,wi]) ?_
   (try simp only[go_sem,wi]);apply hK;apply zw (zk [4,7,9,27,28,34]);simp only[go_sem];apply zd
   refine zCU hC (T.map thrR) hit [4,7,9,27,28,34] (by decide) (fun vs=>[(4,.pt 4 (vs 4) 0),(7,.r (brdP bs g cs)),(9,.pt 9 (vs 9) 0),(27,.r (i64 (m:Int))),(28,.r (i64 (i:Int))),(34,.r (.fn 104 [.rp [brdP bs g cs],.rp [i64 ((i+1:Nat):Int)]]))])
    (fun j vs=>[(4,.box [.os 304 (vs 304) 1 0 (i+1)]),(9,.box [.r (i64 (zCl L (T.take j)))]),(304,.arr 3 1 (arrN L))]) (fun _=>True) (zj [] ?_ ?_) trivial (fun _=>rfl) (fun _=>rfl) (fun _ _=>rfl) (by simp) (fun e he=>by obtain⟨x,_,rfl⟩:=List.mem_map.1 he;rfl) ?_ ?_
   ·try simp only[go_sem]
    try rfl
   ·try simp only[go_sem]
    try rfl
   ·intro j e vs us C' he _
    rw[List.getElem?_map] at he
    obtain⟨x,hx,rfl⟩:=Option.map_eq_some_iff.1 he
    obtain⟨m1,m2,m3,m4⟩:=hmem x (zmo hx)
    have hj:=(List.getElem?_eq_some_iff.1 hx).1
    refine zb fun K hK=>?_;simp only[go_sem];apply hK
    refine⟨rfl,fun C'=>?_⟩
    apply zw (zk [4,7,9,11,27,28,34]);simp only[go_sem];rw[zto hx,hbsn]
    have hv : -1≤zCl L (T.take j)∧zCl L (T.take j)≤(i:Int)+1:=hble (T.take j)
    have hx2:x.2=((x.2.toNat:Nat):Int):=by omega
    have hx3:x.2.toNat<i+1:=by omega
    obtain⟨y,hy⟩:=zol (l:=L) (i:=x.2.toNat) (by omega)
    have hyM:=hfe y (zmo hy)
    have hst:zJc L (zCl L (T.take j)) x=if y ≠ -1∧(zCl L (T.take j) = -1∨y+1<zCl L (T.take j)) then y+1 else zCl L (T.take j):=by
     unfold zJc
     rw[List.getD_eq_getElem?_getD,hy];rfl
    rw[hst]
    generalize zCl L (T.take j)=B at *
    rw[hx2]
    generalize x.2.toNat=q at *
    have hqL:q<L.length:=by omega
    have wy:IntKind.i64.wrap (y+1)=y+1:=by rw[zI]<;>omega
    apply zd
    apply zq
    refine zb fun K hK=>?_;simp only[go_sem,hy,hqL,hx3,hfl,List.length_map]
    refine⟨by omega,?_⟩
    apply hK;apply zw (zk [4,7,9,12,27,28,34]);simp only[go_sem]
    by_cases c0:y = -1
    ·have e0:(y != -1)=false:=by simp [c0]
     rw[if_neg (fun hh=>hh.1 c0)]
     apply zq
     refine zb fun K hK=>?_;simp only[go_sem,e0];apply hK;apply zw (zk [4,7,9,12,27,28,34,52]);simp only[go_sem]
     apply zc rfl<;>intro hc<;>(try simp only[go_sem] at hc)
     apply zx
     try simp only[go_sem]
     refine zj (F:=fun _=>[]) [] ?_ ?_
     ·try simp only[go_sem]
     ·try simp only[go_sem]
    ·have e0:(y != -1)=true:=by simp [c0]
     by_cases c1:B = -1
     ·have e1:(B == -1)=true:=by simp [c1]
      rw[if_pos ⟨c0,.inl c1⟩]
      apply zq
      refine zb fun K hK=>?_;simp only[go_sem,e0,e1];apply hK;apply zw (zk [4,7,9,12,27,28,34,52]);simp only[go_sem]
      apply zc rfl<;>intro hc<;>(try simp only[go_sem] at hc)
      refine zb fun K hK=>?_;simp only[go_sem,wy];apply hK
      try simp only[go_sem]
      refine zj (F:=fun _=>[]) [] ?_ ?_
      ·try simp only[go_sem]
      ·try simp only[go_sem]
     ·have e1:(B == -1)=false:=by simp [c1]
      by_cases c2:y+1<B
      ·have e2:decide (y+1<B)=true:=decide_eq_true c2
       rw[if_pos ⟨c0,.inr c2⟩]
       apply zq
       refine zb fun K hK=>?_;simp only[go_sem,e0,e1,wy,e2];apply hK;apply zw (zk [4,7,9,12,27,28,34,52]);simp only[go_sem]
       apply zc rfl<;>intro hc<;>(try simp only[go_sem] at hc)
       refine zb fun K hK=>?_;simp only[go_sem,wy];apply hK
       try simp only[go_sem]
       refine zj (F:=fun _=>[]) [] ?_ ?_
       ·try simp only[go_sem]
       ·try simp only[go_sem]
      ·have e2:decide (y+1<B)=false:=decide_eq_false c2
       rw[if_neg (fun hh=>hh.2.elim c1 c2)]
       apply zq
       refine zb fun K hK=>?_;simp only[go_sem,e0,e1,wy,e2];apply hK;apply zw (zk [4,7,9,12,27,28,34,52]);simp only[go_sem]
       apply zc rfl<;>intro hc<;>(try simp only[go_sem] at hc)
       apply zx
       try simp only[go_sem]
       refine zj (F:=fun _=>[]) [] ?_ ?_
       ·try simp only[go_sem]
       ·try simp only[go_sem]
   ·intro vs us _
    try simp only[go_sem]
    refine zw (zBk rfl) ?_
    try simp only[List.length_map,List.take_length]
    refine zb fun K hK=>?_;simp only[go_sem,hfl,List.length_map]
    refine⟨by omega,?_⟩
    apply hK;apply zw (zk [4,7,27,28]);simp only[go_sem];refine zb fun K hK=>?_;simp only[go_sem];(try simp (disch:=omega) only[zI]);apply hK
    try simp only[go_sem]
    refine⟨by omega,zj [9] ?_ ?_⟩
    ·try simp only[go_sem]
    ·try simp only[go_sem]
     try simp
  ·have hie:i=m:=by omega
   subst hie
   have hfl:=zFr g bs i
   generalize fewO g bs i=L at *
   apply zq
   refine zb fun K hK=>?_;simp only[go_sem,Nat.lt_irrefl];apply hK;apply zw (zk [4,29]);simp only[go_sem]
   apply zq
   apply zc rfl<;>intro hc<;>(try simp only[go_sem] at hc)
   apply zf;simp only[go_sem];refine zw (zED 4 0 304 (ty:=3) (sz:=1) (off:=0) (m:=i+1) (es:=arrN L) (by omega) (by omega) rfl (by simp only[go_sem,List.getElem?_cons_succ,List.getElem?_cons_zero]) (by rfl) (by simp [hfl])) ?_
   have tk1:List.take (i+1) (arrN L)=arrN L:=List.take_of_length_le (by simp [hfl])
   simp only[go_sem,List.drop_zero,tk1,List.set_cons_succ,List.set_cons_zero]
   apply zq
   refine zb fun K hK=>?_;simp only[go_sem];apply hK;apply zw (zk [4,5]);simp only[go_sem];apply ze;simp only[go_sem]
abbrev finC (bs:List Int) (g k:Int) (dn s:Nat):List RV:=[brdP bs g (cntO g bs s dn),ints bs,i64 g,i64 k,i64 (s:Int)]
theorem zKC (bs:List Int) (g:Int) (dn s:Nat) (h:BdsO bs) (hg:0≤g∧g≤2) (hk:1≤dn∧dn≤6) (hs:1≤s∧s≤1000) :
 zAA Tryz.prog 70 [ouR bs g (dn:Int),i64 (s:Int)] (.tu [.ag (finC bs g (dn:Int) dn s),i64 0]):=by
 have hch:=zJ7 bs g (dn:Int) h hg (by omega)
 have w1:zAT 1 1001 [(s:Int)]=true:=by simp [zAT];omega
 have c1:=zCR 1 1001 [(s:Int)]
 rw[w1] at c1
 have hbd:=zNv bs g dn s (fun b hb=>h.bed b hb) h.len (by omega) (by omega)
 have z0:((0:Int) != 0)=false:=rfl
 refine zas (rs:=[.ag (finC bs g (dn:Int) dn s),i64 0]) [.cell 4 142,.tmp 5] Tryz.func70 rfl (by kernel_rfl) Tryz.ntmps70 rfl (by simp) rfl fun C vs=>?_
 apply zq
 refine zb fun K hK=>?_;simp only[go_sem];apply hK;refine zw (zfP 2 2 [ints bs,i64 g,i64 (dn:Int)] (by omega) rfl rfl) ?_;apply zw (zk [1,2,4]);simp only[go_sem]
 apply zq
 apply zd
 apply zq
 refine zb fun K hK=>?_;simp only[go_sem]
 refine zh (hch) rfl (by simp only[go_sem,i64,ints,z0]) (by simp only[go_sem,i64,ints,z0]) ?_
 (try simp only[go_sem,z0]);apply hK;apply zw (zk [1,2,4,6]);simp only[go_sem]
 apply zc rfl<;>intro hc<;>(try simp only[go_sem] at hc)
 apply zq
 refine zb fun K hK=>?_;simp only[go_sem]
 refine zh (c1) rfl (by simp only[go_sem,i64,ints]) (by simp only[go_sem,i64,ints]) ?_
 (try simp only[go_sem]);apply hK;apply zw (zk [1,2,4,11]);simp only[go_sem]
 apply zc rfl<;>intro hc<;>(try simp only[go_sem] at hc)
 apply zx
 try simp only[go_sem]
 apply zq
 refine zAF [(2,none),(4,some 4)] follows (by decide +kernel) (by kernel_rfl) (by simp only[zAO,List.mem_cons,List.not_mem_nil,forall_eq_or_imp,Oc.keyOf,go_sem];simp) fun K hK=>?_
 simp only[go_sem]
 refine zh (hbd) rfl (by simp only[go_sem,i64,ints]) (by simp only[go_sem,i64,ints]) ?_
 (try simp only[go_sem]);apply hK;apply zw (zk [4,5]);simp only[go_sem];apply ze;simp only[go_sem]
 try exact zEX _
def sixO:List Int:=[120,125,205,220,225,320]
theorem zTi:BdsO sixO:=⟨by decide,by decide,by decide,by decide⟩
def zDm (g:Int) (bs:List Int) (m:Nat):Nat→Int→List Int→List (List Int)
 | 0,_,first=>[first]
 | k+1,s,first=>(zAJ g s bs).flatMap fun x=>if 0<(rowN g bs m k).getD x.2.toNat 0 then zDm g bs m k x.2 (first++[x.1]) else []
def zPy (g:Int) (bs:List Int) (m s k:Nat):List (List Int):=if 0<(rowN g bs m (k+1)).getD s 0 then zDm g bs m (k+1) s [] else []
def allO (g:Int) (bs:List Int) (m s dn:Nat):List (List Int):=(List.range dn).flatMap (zPy g bs m s)
theorem zL7 {α β:Type}{f:α→List β}{n:Nat}:∀ (l:List α),(∀ x∈l,(f x).length≤n)→(l.flatMap f).length≤l.length*n
 | [],_=>by simp
 | x::l, h=>by
   have h1:=h x (by simp)
   have h2:=zL7 l fun y hy=>h y (by simp [hy])
   rw[List.flatMap_cons,List.length_append,List.length_cons,Nat.succ_mul]
   omega
theorem zMV (g:Int) (bs:List Int) (m:Nat):∀ k s first,(zDm g bs m k s first).length≤bs.length ^ k
 | 0,_,_=>by simp [zDm]
 | k+1, s, first=>by
   unfold zDm
   refine Nat.le_trans (zL7 (n:=bs.length ^ k) _ fun x _=>?_) ?_
   ·split
    ·exact zMV g bs m k _ _
    ·simp
   ·rw[Nat.pow_succ,Nat.mul_comm (bs.length ^ k)]
    exact Nat.mul_le_mul_right _ (zFW bs g s)
theorem zUl {g:Int}{bs:List Int}{m s:Nat}(h:bs.length≤82):∀ dn,dn≤3→(allO g bs m s dn).length≤2000000:=fun dn hdn=>by
 have h1:∀ k∈List.range dn,(zPy g bs m s k).length≤82 ^ 3:=fun k hk=>by
  have hk:=List.mem_range.1 hk
  unfold zPy
  split
  ·exact Nat.le_trans (zMV g bs m _ _ _) (Nat.le_trans (Nat.pow_le_pow_left h _) (Nat.pow_le_pow_right (by omega) (by omega)))
  ·simp
 have:=zL7 _ h1
 rw[List.length_range] at this
 refine Nat.le_trans this (Nat.le_trans (Nat.mul_le_mul_right _ hdn) ?_)
 decide
end Go.Proofs.YtgfbenanljjgaaaGreat.Du

namespace Go.Oc
open Go Go.RowKit
section
variable {P:Program}{C:Ctx}{s:AS}{a:Act}{w:World}{ops:Array Oper}
end
end Go.Oc

namespace Go.Proofs.YtgfbenanljjgaaaGreat.Du.Th.Ai.At
open Go Go.Oc
set_option maxRecDepth 8000
set_option maxHeartbeats 8000000
def vY (b:Nat→Bool) (j:Nat) (v:AV):AV:=if b j then v else .r .un
def mkF (r:Rk) (s:Bool) (T:List Int) (st left k:Nat) (u:Addr) (b:Nat→Bool) (vs:Nat→Nat):List (Nat × AV) :=
 [(2,.r (.bo s)),(3,.r (.rp [i64 r.d,zAl r.aims,i64 r.start,i64 r.out])),(4,.r (.rp [i64 (st:Int),i64 (left:Int),i64 ((k:Int)+1)])),(6,.pt 6 (vs 6) 0),
  (9,vY b 0 (.r (rkR r))),
  (10,vY b 1 (.r (.bo s))),
  (11,vY b 2 (.r (.rp (tabC r s T)))),
  (12,vY b 3 (.r (.rp [i64 (st:Int),i64 (left:Int),i64 ((k:Int)+1)]))),
  (13,vY b 4 (.r (i64 (st:Int)))),
  (14,vY b 5 (.pu 30 (vs 30) u)),
  (15,vY b 6 (.r (.rp [i64 (left:Int),i64 ((k:Int)+1)]))),
  (16,vY b 7 (.r (i64 (left:Int)))),
  (17,vY b 8 (.r (.rp [i64 ((k:Int)+1)]))),
  (18,vY b 9 (.r (i64 ((k:Int)+1)))),
  (19,vY b 10 (.r (.fn 111 (capM u left k))))]
def mkR (vis:List AV) (u:Addr) (b:Nat→Bool) (vs:Nat→Nat):List (Nat × RowC) :=
 bif b 5 then [(6,.box [.r .ns]),(30,.box vis)] else [(6,.box [.r .ns])]
attribute [go_sem] mkF mkR vY
end Go.Proofs.YtgfbenanljjgaaaGreat.Du.Th.Ai.At

namespace Go.Proofs.YtgfbenanljjgaaaGreat.Du.Th.Ai
open Go Go.Oc
set_option maxRecDepth 8000
set_option maxHeartbeats 8000000
structure Ps where
 st:Int
 left:Int
 darts:Int
def atI (v:Int):List Int→Nat→Int
 | [],_=>-1
 | x::l,i=>if v=x then i else atI v l (i+1)
theorem zN1 (v:Int):∀ (l:List Int) (i:Nat),(∀ x∈l.take i,v≠x)→atI v l 0=atI v (l.drop i) i
 | l,0,_=>rfl
 | [],i+1,_=>by simp [atI]
 | y::l, i+1, h=>by
   have gen:∀ (l:List Int) (i k:Nat),(∀ x∈l.take i,v≠x)→atI v l k=atI v (l.drop i) (k+i):=by
    intro l
    induction l with
    | nil=>intro i k _;simp [atI]
    | cons z l ih =>
      intro i k hz
      cases i with
      | zero=>rfl
      | succ i =>
        have h0:=hz z (by simp)
        rw[atI,if_neg h0,ih i (k+1) (fun x hx=>hz x (by simp [hx]))]
        simp only[List.drop_succ_cons]
        congr 1;omega
   have:=gen (y::l) (i+1) 0 h
   rwa [Nat.zero_add] at this
theorem zNQ (v:Int) (l:List Int) (hl:l.length≤1000):zAA Tryz.prog 49 [ints l,i64 v] (i64 (atI v l 0)):=by
 refine zas (rs:=[i64 (atI v l 0)]) [.tmp 4] Tryz.func49 rfl (by kernel_rfl) Tryz.ntmps49 rfl (by simp) rfl fun C vs=>?_
 apply zq
 refine zb fun K hK=>?_;simp only[go_sem];apply hK;apply zw (zk [0,1]);simp only[go_sem]
 repeat apply zq
 refine zb fun K hK=>?_;simp only[go_sem,List.length_map]
 intro _
 apply hK;apply zw (zk [0,1,7,8]);simp only[go_sem];apply zd
 refine zup (n:=19) l.length (fun i vs=>[(0,.r (ints l)),(1,.r (i64 v)),(7,.r (i64 l.length)),(8,.r (i64 (i:Int)))]) (fun _=>[]) (fun i=>∀ x∈l.take i,v≠x) 0 (zfo [] ?_ ?_) (Nat.zero_le _) (by simp) ?_
 ·try simp only[go_sem]
 ·try simp only[go_sem]
 intro i vs hi hI
 by_cases hc0:i<l.length
 ·obtain⟨y,hy⟩:=zol hc0
  have hst:=zN1 v l i hI
  rw[zAH hy] at hst
  apply zq
  refine zb fun K hK=>?_;simp only[go_sem,hc0];apply hK;apply zw (zk [0,1,7,8,9]);simp only[go_sem]
  apply zq
  apply zc rfl<;>intro hc<;>(try simp only[go_sem] at hc)
  apply zx
  try simp only[go_sem]
  apply zq
  apply zd
  apply zq
  refine zb fun K hK=>?_;simp only[go_sem];apply hK;apply zw (zk [0,1,5,7,8]);simp only[go_sem]
  apply zq
  refine zb fun K hK=>?_;simp only[go_sem,hy,hc0,List.length_map];apply hK;apply zw (zk [0,1,5,7,8,16]);simp only[go_sem]
  by_cases hvy:v=y
  ·have e1:(v == y)=true:=by simpa using hvy
   rw[e1]
   apply zc rfl<;>intro hc<;>(try simp only[go_sem] at hc)
   apply zq
   refine zb fun K hK=>?_;simp only[go_sem];apply hK;apply zw (zk [4]);simp only[go_sem];apply ze;simp only[go_sem];rw[hst,atI,if_pos hvy]
  ·have e1:(v == y)=false:=by simpa using hvy
   rw[e1]
   apply zc rfl<;>intro hc<;>(try simp only[go_sem] at hc)
   apply zx
   try simp only[go_sem]
   refine zb fun K hK=>?_;simp only[go_sem];(try simp (disch:=omega) only[zI]);apply hK
   try simp only[go_sem]
   refine⟨hc0,?_,zfo [] ?_ ?_⟩
   ·intro x hx
    rw[zto hy] at hx
    rcases List.mem_append.1 hx with hx|hx
    ·exact hI x hx
    ·simp at hx;subst hx;exact hvy
   ·try simp only[go_sem]
   ·try simp only[go_sem]
 ·have hie:i=l.length:=by omega
  subst hie
  have hst:=zN1 v l l.length hI
  rw[List.drop_length] at hst
  apply zq
  refine zb fun K hK=>?_;simp only[go_sem,Nat.lt_irrefl];apply hK;apply zw (zk [0,1,7,8,9]);simp only[go_sem]
  apply zq
  apply zc rfl<;>intro hc<;>(try simp only[go_sem] at hc)
  apply zf;simp only[go_sem]
  apply zq
  refine zb fun K hK=>?_;simp only[go_sem];apply hK;apply zw (zk [4]);simp only[go_sem];apply ze;simp only[go_sem]
  rw[hst];rfl
theorem zK1 {l:List Int}(h:∀ x∈l,-1≤x):∀ (n:Nat) (T:List (Int × Int)),T.length=n→(zCl l T = -1∧∀ x∈T,l.getD x.2.toNat 0 = -1) ∨
 (0≤zCl l T∧(∃ x∈T,l.getD x.2.toNat 0 ≠ -1∧zCl l T=l.getD x.2.toNat 0+1)∧∀ y∈T,l.getD y.2.toNat 0 ≠ -1→zCl l T≤l.getD y.2.toNat 0+1)
 | 0, T, hn=>by
   rw[List.length_eq_zero_iff.1 hn]
   exact .inl ⟨rfl,by simp⟩
 | n+1, T, hn=>by
   have hne:T≠[]:=fun e=>by subst e;simp at hn
   obtain⟨U,x,rfl⟩:∃ U x,T=U++[x]:=⟨T.dropLast,T.getLast hne,(List.dropLast_concat_getLast hne).symm⟩
   have hU:U.length=n:=by simp at hn;omega
   have ih:=zK1 h n U hU
   rw[zK2]
   have hx : -1≤l.getD x.2.toNat 0:=by
    rw[List.getD_eq_getElem?_getD]
    cases e:l[x.2.toNat]? with
    | none=>simp
    | some y=>exact h y (zmo e)
   unfold zJc
   rcases ih with⟨i1,i2⟩|⟨i1,⟨z,iz,i2,i3⟩,i4⟩
   ·by_cases c:l.getD x.2.toNat 0 = -1
    ·rw[if_neg (fun hh=>hh.1 c)]
     exact .inl ⟨i1,fun y hy=>by
      rw[List.mem_append,List.mem_singleton] at hy
      rcases hy with hy|rfl
      ·exact i2 y hy
      ·exact c⟩
    ·rw[if_pos ⟨c,.inl i1⟩]
     refine .inr ⟨by omega,⟨x,by simp,c,rfl⟩,fun y hy hc=>?_⟩
     rw[List.mem_append,List.mem_singleton] at hy
     rcases hy with hy|rfl
     ·exact absurd (i2 y hy) hc
     ·exact Int.le_refl _
   ·right
    by_cases c:l.getD x.2.toNat 0 ≠ -1∧(zCl l U = -1∨l.getD x.2.toNat 0+1<zCl l U)
    ·rw[if_pos c]
     refine⟨by omega,⟨x,by simp,c.1,rfl⟩,fun y hy hc=>?_⟩
     rw[List.mem_append,List.mem_singleton] at hy
     rcases hy with hy|rfl
     ·have:=i4 y hy hc;omega
     ·exact Int.le_refl _
    ·rw[if_neg c]
     refine⟨i1,⟨z,by simp [iz],i2,i3⟩,fun y hy hc=>?_⟩
     rw[List.mem_append,List.mem_singleton] at hy
     rcases hy with hy|rfl
     ·exact i4 y hy hc
     ·omega
theorem zMA {g:Int}{bs:List Int}{s:Nat}:∀ {n:Nat},s≤n→(fewO g bs n).getD s 0=(fewO g bs s).getD s 0
 | 0,h=>by rw[show s=0 by omega]
 | n+1, h=>by
   by_cases c:s=n+1
   ·rw[c]
   ·have hl:=zFr g bs n
    rw[show fewO g bs (n+1)=fewO g bs n++[zCl (fewO g bs n) (zAJ g ((n+1:Nat):Int) bs)] from rfl,List.getD_eq_getElem?_getD,List.getElem?_append_left (by omega),← List.getD_eq_getElem?_getD]
    exact zMA (by omega)
theorem zSi {g:Int}{bs:List Int}(n:Nat):(fewO g bs (n+1)).getD (n+1) 0=zCl (fewO g bs n) (zAJ g ((n+1:Nat):Int) bs):=by
 have hl:=zFr g bs n
 rw[show fewO g bs (n+1)=fewO g bs n++[zCl (fewO g bs n) (zAJ g ((n+1:Nat):Int) bs)] from rfl,List.getD_eq_getElem?_getD,List.getElem?_append_right (by omega),hl,Nat.sub_self];rfl
theorem zNb {g:Int}{bs:List Int}(hB:∀ b∈bs,zAb b=true):∀ (N s:Nat),s≤N→∀ d,endB g bs d s=true↔(0≤(fewO g bs s).getD s 0∧(fewO g bs s).getD s 0≤d)
 | N, 0, _, d=>by
   have h1:endB g bs d 0=true:=by
    cases d with
    | zero=>rfl
    | succ d=>unfold endB;rfl
   have h2:(fewO g bs 0).getD 0 0=0:=rfl
   rw[h2]
   constructor
   ·intro _;omega
   ·intro _;exact h1
 | 0,s+1,h,d=>by omega
 | N+1, s+1, h, d=>by
   rw[zSi]
   have hle:∀ x∈fewO g bs s,-1≤x:=fun x hx=>(zNc g bs s x hx).1
   have hT:=fun x (hx:x∈zAJ g ((s+1:Nat):Int) bs)=>zEC hB hx
   have hsub:∀ x∈zAJ g ((s+1:Nat):Int) bs,∀ d,endB g bs d x.2=true↔(0≤(fewO g bs s).getD x.2.toNat 0∧(fewO g bs s).getD x.2.toNat 0≤d):=fun x hx d=>by
    obtain⟨_,q1,q2,_⟩:=hT x hx
    have ih:=zNb (g:=g) hB N x.2.toNat (by omega) d
    rw[zMA (s:=x.2.toNat) (n:=s) (by omega),← ih,show ((x.2.toNat:Nat):Int)=x.2 by omega]
   have hz:(((s+1:Nat):Int) == 0)=false:=by rw[beq_eq_false_iff_ne];omega
   rcases zK1 hle _ (zAJ g ((s+1:Nat):Int) bs) rfl with⟨b1,b2⟩|⟨b1,⟨z,hzm,b2,b3⟩,b4⟩
   ·rw[b1]
    constructor
    ·intro he
     exfalso
     cases d with
     | zero=>unfold endB at he;rw[hz] at he;cases he
     | succ d =>
       unfold endB at he
       rw[hz,Bool.false_or,List.any_eq_true] at he
       obtain⟨x,hx,hd⟩:=he
       have:=(hsub x hx d).1 hd
       rw[b2 x hx] at this
       omega
    ·intro hh;omega
   ·constructor
    ·intro he
     cases d with
     | zero=>unfold endB at he;rw[hz] at he;cases he
     | succ d =>
       unfold endB at he
       rw[hz,Bool.false_or,List.any_eq_true] at he
       obtain⟨x,hx,hd⟩:=he
       have q:=(hsub x hx d).1 hd
       have:=b4 x hx (by omega)
       omega
    ·intro hh
     cases d with
     | zero =>
       have hzl : -1≤(fewO g bs s).getD z.2.toNat 0:=by
        rw[List.getD_eq_getElem?_getD]
        cases e:(fewO g bs s)[z.2.toNat]? with
        | none=>simp
        | some y=>exact hle y (zmo e)
       omega
     | succ d =>
       unfold endB
       rw[hz,Bool.false_or,List.any_eq_true]
       have hzl : -1≤(fewO g bs s).getD z.2.toNat 0:=by
        rw[List.getD_eq_getElem?_getD]
        cases e:(fewO g bs s)[z.2.toNat]? with
        | none=>simp
        | some y=>exact hle y (zmo e)
       exact⟨z,hzm,(hsub z hzm d).2 (by omega)⟩
structure NarT (d:Int) (l l':List Bd):Prop where
 len:l'.length=l.length
 bed:∀ i,i<l.length→(bAt l' i).b=(bAt l i).b
 truth:∀ {y:List Int},TruthN d l' y→TruthN d l y
 can:∀ {i:Nat},i<l.length→canA l' i d≤canA l i d
theorem zTz {out own left:Int}{f:Int→Int}{l:List Bd}{i:Nat}(hi:i<l.length):(l.map fun b=>zEc out own left f b.b).getD i 0=zEc out own left f (bAt l i).b:=by
 obtain⟨b,hb⟩:=zol hi
 simp [List.getD,hb,bAt]
theorem zR2 {r:Rk}(hr:ROk r) {nums:List Int}{st:Nat}(hn:∀ x∈nums,VOk x) (hst:st<nums.length) (hlo:lowG r.out≤st) {a:Int}(ha:0≤a∧a≤1000000000) (h:zhA r true (nums.set st a) st=true):a≤numA r true nums st:=by
 obtain⟨g1,g2,g3,g4⟩:=zBC (fun k=>!zhA r true (nums.set st ((k:Int)+1)) st) 0 1000000000 (by omega) fun a b q1 q2 q3 q4=>by
  simp only[Bool.not_eq_true'] at q4 ⊢
  cases hb:zhA r true (nums.set st ((b:Int)+1)) st
  ·rfl
  ·have:=zBU hr hn hst hlo (a:=(a:Int)+1) (by omega) (by omega) (by omega) hb
   rw[this] at q4;cases q4
 unfold numA
 simp only[if_true]
 generalize srch (fun k=>!zhA r true (nums.set st ((k:Int)+1)) st) 0 1000000000=k at *
 refine Int.not_lt.1 fun hlt=>?_
 have hk:=g4 (by omega)
 simp only[Bool.not_eq_true'] at hk
 have:=zBU hr hn hst hlo (a:=(k:Int)+1) (b:=a) (by omega) (by omega) (by omega) h
 rw[this] at hk;cases hk
end Go.Proofs.YtgfbenanljjgaaaGreat.Du.Th.Ai
