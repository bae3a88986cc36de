/- Part 6 of the texts of this claim. -/
import Derived.Test.YtonpmcdkncbjoaaGreatVA5
set_option linter.unusedSimpArgs false
set_option linter.unusedVariables false
namespace Go.Proofs.YtonpmcdkncbjoaaGreat.Du.Th
open Go Go.Oc
set_option maxRecDepth 8000
def atE (l:List Int) (v:Int):Int:=indexF (fun x=>v == x) l
theorem atE_lt (v:Int):∀ (l:List Int),atE l v<l.length
 | []=>by simp [atE,indexF]
 | x::l=>by
   have ih:=atE_lt v l
   unfold atE at ih ⊢
   simp only[indexF,List.length_cons]
   split
   ·omega
   ·split<;>omega
theorem indexE_ok (l:List Int) (v:Int):ACalls Tryz.prog 65 [ints l,i64 v] (i64 (atE l v)):=by
 refine zas (rs:=[i64 (atE l v)]) [.tmp 4] Tryz.func65 rfl (by kernel_rfl) Tryz.ntmps65 rfl (by simp) rfl fun C vs=>?_
 apply zq
 refine zb fun K hK=>?_;simp only[go_sem];apply hK;clear hK K;apply zw (zk [0,1]);simp only[go_sem]
 repeat apply zq
 refine zb fun K hK=>?_;simp only[go_sem]
 intro hl
 apply hK;clear hK K;apply zw (zk [0,1,7,8]);simp only[go_sem];apply zd
 refine zup (n:=19) l.length (fun i vs=>[(0,.r (ints l)),(1,.r (i64 v)),(7,.r (i64 l.length)),(8,.r (i64 i))]) (fun _=>[])
  (fun i=>atE l v=if atE (l.drop i) v<0 then -1 else i+atE (l.drop i) v) 0 (zfo [] ?_ rfl) (Nat.zero_le _) ?_ ?_
 ·try simp only[go_sem]
 ·simp only[List.drop_zero]
  have:=indexF_ge (fun x=>v == x) l
  unfold atE
  split
  ·omega
  ·simp
 ·intro i vs hi hI
  apply zq
  refine zb fun K hK=>?_;simp only[go_sem];apply hK;clear hK K;apply zw (zk [0,1,7,8,9]);simp only[go_sem]
  apply zq
  apply zc rfl<;>intro hc<;>(try simp only[go_sem] at hc)
  ·have hci:=hc
   obtain⟨x,hx⟩:=zol hci
   rw[drop_of_opt hx] at hI
   apply zx
   try simp only[go_sem]
   apply zq
   apply zd
   apply zq
   refine zb fun K hK=>?_;simp only[go_sem];apply hK;clear hK K;apply zw (zk [0,1,5,7,8]);simp only[go_sem]
   apply zq
   refine zb fun K hK=>?_;simp only[go_sem,hx,hci];apply hK;clear hK K;apply zw (zk [0,1,5,7,8,16]);simp only[go_sem]
   by_cases he:(v == x)=true
   ·have h2:atE l v=i:=by rw[hI];simp [atE,indexF,he]
    rw[he,h2]
    apply zc rfl<;>intro hc<;>(try simp only[go_sem] at hc)
    apply zq
    refine zb fun K hK=>?_;simp only[go_sem];apply hK;clear hK K;apply zw (zk [4]);simp only[go_sem];apply ze;simp only[go_sem]
   ·have he':(v == x)=false:=by simpa using he
    rw[he']
    apply zc rfl<;>intro hc<;>(try simp only[go_sem] at hc)
    apply zx
    try simp only[go_sem]
    refine zb fun K hK=>?_;simp only[go_sem];(try simp (disch:=omega) only[zI]);apply hK;clear hK K
    try simp only[go_sem]
    refine⟨hci,?_,zfo [] ?_ rfl⟩
    ·rw[hI]
     simp only[atE,indexF,he',Bool.false_eq_true,if_false]
     have:=indexF_ge (fun x=>v == x) (l.drop (i+1))
     split<;>split<;>omega
    ·try simp only[go_sem]
  ·have hil:i=l.length:=by omega
   subst hil
   rw[List.drop_length] at hI
   have hI':atE l v = -1:=by rw[hI];simp [atE,indexF]
   apply zf;simp only[go_sem]
   apply zq
   refine zb fun K hK=>?_;simp only[go_sem];apply hK;clear hK K;apply zw (zk [4]);simp only[go_sem];apply ze;simp only[go_sem];rw[hI']
abbrev tR (t:List Int):List RV:=t.map fun x=>i64 x
abbrev tA (t:List Int):List AV:=(tR t).map AV.r
abbrev zeroT:List Int:=[0,0,0,0,0,0,0,0,0,0]
def incT (t:List Int) (i:Nat):List Int:=t.set i (t.getD i 0+1)
theorem incT_len (t:List Int) (i:Nat):(incT t i).length=t.length:=by simp [incT]
theorem tA_drop {t:List Int}{i:Nat}{x:Int}(h:t[i]? = some x):(tA t).drop i = .r (i64 x)::(tA t).drop (i+1):=by
 refine drop_of_opt ?_
 simp [h]
theorem tA_set {t:List Int}{i:Nat}{y:Int}(h:i<t.length):(tA t).take i++(AV.r (RV.it .i64 y)::(tA t).drop (i+1))=tA (t.set i y):=by
 have:((t.set i y).map fun x=>i64 x).map AV.r=(((t.map fun x=>i64 x).map AV.r).set i (.r (i64 y))):=by simp [List.map_set]
 show _=((t.set i y).map fun x=>i64 x).map AV.r
 rw[this,List.set_eq_take_append_cons_drop,if_pos (by simpa using h)]
theorem tA_len (t:List Int):(tA t).length=t.length:=by simp
def tallyK (beds:List Int):List Int→List Int→Option (List Int)
 | t,[]=>some t
 | t,d::ds=>if atE beds d<0 then none else tallyK beds (incT t (atE beds d).toNat) ds
def knownXs (beds ds:List Int):List (List RV):=match tallyK beds zeroT ds with|some t=>[[.ag (tR t)]]|none=>[]
abbrev sheetR (beds le mo:List Int):List RV:=ints beds::(tR le++tR mo)
theorem flat_tR:∀ t:List Int,RV.flatL (tR t)=true
 | []=>rfl
 | x::t=>by simp only[tR,List.map_cons,RV.flatL,RV.flatB,Bool.true_and];exact flat_tR t
def SmallT (b:Int) (t:List Int):Prop:=t.length=10∧∀ x∈t,0≤x∧x≤b
theorem incT_small {b:Int}{t:List Int}{i:Nat}(h:SmallT b t) (hb:0≤b):SmallT (b+1) (incT t i):=by
 refine⟨by rw[incT_len];exact h.1,fun x hx=>?_⟩
 rcases List.mem_or_eq_of_mem_set hx with h1|h1
 ·have:=h.2 x h1;omega
 ·subst h1
  rw[List.getD_eq_getElem?_getD]
  cases e:t[i]? with
  | none=>simp;omega
  | some y=>have:=h.2 y (zmo e);simp;omega
theorem known1_ok (beds ds le mo:List Int) (hb:beds.length≤10) (hd:ds.length≤1000):ICalls Tryz.prog true 64 [.rp [ints ds],.rp [.rp (sheetR beds le mo)]] (knownXs beds ds):=by
 refine icalls_st Tryz.func64 rfl (by kernel_rfl) Tryz.ntmps64 rfl (by simp) fun C ll=>?_
 apply zq
 refine zb fun K hK=>?_;simp only[go_sem,argL];apply hK;clear hK K;apply zw (zk [0,1,2,4]);simp only[go_sem]
 repeat apply zq
 refine zb fun K hK=>?_;simp only[go_sem]
 intros
 apply hK;clear hK K;apply zw (zk [0,2,4,8,9,10]);simp only[go_sem];apply zd
 refine awp_while (n:=31) (fun (y:Nat × List Int) vs=>[(0,.r (.yl ll)),(2,.r (.rp [.rp (sheetR beds le mo)])),(4,.pt 4 (vs 4) 0),(8,.r (ints ds)),(9,.r (i64 ds.length)),(10,.r (i64 y.1))])
  (fun y=>[(4,.box (tA y.2)),(999,.gh Tryz.prog ll true (some (knownXs beds ds)))]) (fun y=>y.1≤ds.length∧SmallT y.1 y.2∧tallyK beds zeroT ds=tallyK beds y.2 (ds.drop y.1)) (fun y=>ds.length-y.1) (0,zeroT) (zfo [] ?_ ?_) ⟨Nat.zero_le _,⟨rfl,by decide⟩,rfl⟩ ?_
 ·try simp only[go_sem]
 ·try simp only[go_sem]
  rfl
 ·rintro ⟨i,t⟩ vs ⟨hi,hs,hK⟩
  simp only at hi hs hK
  apply zq
  refine zb fun K hK=>?_;simp only[go_sem];apply hK;clear hK K;apply zw (zk [0,2,4,8,9,10,11]);simp only[go_sem]
  apply zq
  apply zc rfl<;>intro hc<;>(try simp only[go_sem] at hc)
  ·have hci:i<ds.length:=by first|exact hc|omega
   obtain⟨d,hx⟩:=zol hci
   rw[drop_of_opt hx,tallyK] at hK
   have hlt:=atE_lt d beds
   apply zx
   try simp only[go_sem]
   apply zq
   apply zd
   apply zq
   refine zb fun K hK=>?_;simp only[go_sem,hx,hci];apply hK;clear hK K;apply zw (zk [0,2,4,6,8,9,10]);simp only[go_sem]
   apply zq
   refine zb fun K hK=>?_;simp only[go_sem]
   refine zh (indexE_ok beds d) rfl (by simp only[go_sem,i64,ints]) (by simp only[go_sem,i64,ints]) ?_
   (try simp only[go_sem]);apply hK;clear hK K;apply zw (zk [0,2,4,7,8,9,10]);simp only[go_sem]
   by_cases hneg:atE beds d<0
   ·rw[if_pos hneg] at hK
    have hxs:knownXs beds ds=[]:=by rw[knownXs,hK]
    have e1:decide (atE beds d<0)=true:=by simp [hneg]
    rw[hxs]
    repeat apply zq
    refine zb fun K hK=>?_;simp only[go_sem];apply hK;clear hK K;rw[e1]
    apply zc rfl<;>intro hc<;>(try simp only[go_sem] at hc)
    apply ze;simp only[go_sem];exact⟨_,_,.inl rfl⟩
   ·rw[if_neg hneg] at hK
    have e1:decide (atE beds d<0)=false:=by simp;omega
    obtain⟨j,hj⟩:=Int.eq_ofNat_of_zero_le (show 0≤atE beds d by omega)
    rw[hj,Int.toNat_natCast] at hK
    have hjl:j<t.length:=by have:=hs.1;omega
    obtain⟨x,hxj⟩:=zol hjl
    have hsm:=hs.2 x (zmo hxj)
    have hinc:incT t j=t.set j (x+1):=by simp [incT,List.getD_eq_getElem?_getD,hxj]
    have hd1:=tA_drop hxj
    have hset:=tA_set (y:=x+1) hjl
    have hal:=tA_len t
    have hj10:(j:Int)<10:=by have:=hs.1;omega
    repeat apply zq
    refine zb fun K hK=>?_;simp only[go_sem];apply hK;clear hK K;rw[e1]
    apply zc rfl<;>intro hc<;>(try simp only[go_sem] at hc)
    apply zx
    try simp only[go_sem]
    rw[hj]
    refine zb fun K hK=>?_;simp only[go_sem,Nat.mul_one,hd1,hal,List.headD_cons,List.length_cons];(try simp (disch:=omega) only[zI])
    repeat refine⟨by omega,?_⟩
    apply hK;clear hK K;rw[hset,← hinc]
    apply zw (zk [0,2,4,8,9,10]);simp only[go_sem];refine zb fun K hK=>?_;simp only[go_sem];(try simp (disch:=omega) only[zI]);apply hK;clear hK K
    try simp only[go_sem]
    refine⟨(i+1,incT t j),⟨by omega,?_,hK⟩,by simp only;omega,zfo [] ?_ ?_⟩
    ·have:=incT_small (i:=j) hs (by omega)
     simpa using this
    ·try simp only[go_sem]
    ·try simp only[go_sem]
  ·have hil:i=ds.length:=by omega
   subst hil
   rw[List.drop_length,tallyK] at hK
   have hxs:knownXs beds ds=[[.ag (tR t)]]:=by rw[knownXs,hK]
   rw[hxs]
   have htk:List.take 10 (tR t)=tR t:=List.take_of_length_le (by rw[List.length_map,hs.1];exact Nat.le_refl _)
   have htl:(tR t).length=10:=by rw[List.length_map,hs.1]
   apply zf;simp only[go_sem];refine zw (zfP 4 4 (tR t) (by omega) rfl rfl) ?_;apply zw (zk [0,4]);simp only[go_sem];refine zb fun K hK=>?_;simp only[go_sem,htk,htl,Nat.le_refl]
   refine xcall_yield (z:=true) (e:=[.ag (tR t)]) (rest:=[]) (by simp only[go_sem]) rfl (by simp only[go_sem]) (.inl (by simp only[RV.flatL,RV.flatB,flat_tR,Bool.and_self])) ?_ ?_
   ·simp only[go_sem];apply hK;clear hK K;exact⟨_,_,.inl rfl⟩
   ·simp only[go_sem];apply hK;clear hK K;exact⟨_,_,.inr rfl⟩
theorem known_ok (u:Addr) (ds:List Int):ACalls Tryz.prog 34 [.vl u,ints ds] (.fn 64 [.rp [ints ds],.rp [.vl u]]):=by
 refine zas (rs:=[.fn 64 [.rp [ints ds],.rp [.vl u]]]) [.tmp 4] Tryz.func34 rfl (by kernel_rfl) Tryz.ntmps34 rfl (by simp) rfl fun C vs=>?_
 apply zq
 refine zb fun K hK=>?_;simp only[go_sem];apply hK;clear hK K;apply zw (zk [2,3]);simp only[go_sem];refine zw (zfP 2 2 [.vl u] (by omega) rfl rfl) ?_;refine zw (zfP 3 3 [ints ds] (by omega) rfl rfl) ?_
 apply zq
 refine zb fun K hK=>?_;simp only[go_sem];apply hK;clear hK K;apply ze;simp only[go_sem]
 simp [RV.le,leL_refl.le_refl,leL_refl]
theorem three_ok (u:Addr) (n:Int):ACalls Tryz.prog 36 [.vl u,i64 n] (.fn 68 [.rp [.vl u],.rp [i64 n]]):=by
 refine zas (rs:=[.fn 68 [.rp [.vl u],.rp [i64 n]]]) [.tmp 4] Tryz.func36 rfl (by kernel_rfl) Tryz.ntmps36 rfl (by simp) rfl fun C vs=>?_
 apply zq
 refine zb fun K hK=>?_;simp only[go_sem];apply hK;clear hK K;apply zw (zk [2,3]);simp only[go_sem];refine zw (zfP 2 2 [.vl u] (by omega) rfl rfl) ?_;refine zw (zfP 3 3 [i64 n] (by omega) rfl rfl) ?_
 apply zq
 refine zb fun K hK=>?_;simp only[go_sem];apply hK;clear hK K;apply ze;simp only[go_sem]
 simp [RV.le,leL_refl.le_refl,leL_refl]
def shA (beds le mo:List Int):List AV:=(sheetR beds le mo).map AV.r
theorem shA_len (beds le mo:List Int):(shA beds le mo).length=1+le.length+mo.length:=by simp [shA,sheetR];omega
theorem shA_eq (beds le mo:List Int):shA beds le mo=AV.r (ints beds)::(tA le++tA mo):=by simp [shA,sheetR]
theorem shA_drop1 {beds le mo:List Int}{k:Nat}{a:Int}(h:le[k]? = some a):(shA beds le mo).drop (1+k) = .r (RV.it .i64 a)::(shA beds le mo).drop (1+k+1):=by
 refine drop_of_opt ?_
 have hk:=(List.getElem?_eq_some_iff.1 h).1
 rw[shA_eq,Nat.add_comm 1 k,List.getElem?_cons_succ,List.getElem?_append_left (by simpa using hk)]
 simp [h]
theorem shA_drop2 {beds le mo:List Int}{k:Nat}{a:Int}(hl:le.length=10) (h:mo[k]? = some a):(shA beds le mo).drop (11+k) = .r (RV.it .i64 a)::(shA beds le mo).drop (11+k+1):=by
 refine drop_of_opt ?_
 rw[shA_eq,show 11+k=(10+k)+1 by omega,List.getElem?_cons_succ,List.getElem?_append_right (by simp;omega)]
 have:10+k-(tA le).length=k:=by rw[tA_len,hl];omega
 rw[this]
 simp [h]
theorem set_split {α:Type}{l:List α}{i:Nat}{y:α}(h:i<l.length):l.take i++(y::l.drop (i+1))=l.set i y:=by
 rw[List.set_eq_take_append_cons_drop,if_pos h]
theorem shA_set1 {beds le mo:List Int}{k:Nat}{y:Int}(h:k<le.length):(shA beds le mo).take (1+k)++(AV.r (RV.it .i64 y)::(shA beds le mo).drop (1+k+1))=shA beds (le.set k y) mo:=by
 rw[set_split (by rw[shA_len];omega),shA_eq,shA_eq,Nat.add_comm 1 k,List.set_cons_succ,List.set_append_left _ _ (by rw[tA_len];exact h)]
 simp [List.map_set]
theorem shA_set2 {beds le mo:List Int}{k:Nat}{y:Int}(hl:le.length=10) (h:k<mo.length):(shA beds le mo).take (11+k)++(AV.r (RV.it .i64 y)::(shA beds le mo).drop (11+k+1))=shA beds le (mo.set k y):=by
 rw[set_split (by rw[shA_len];omega),shA_eq,shA_eq,show 11+k=(10+k)+1 by omega,List.set_cons_succ,List.set_append_right _ _ (by rw[tA_len];omega)]
 have:10+k-(tA le).length=k:=by rw[tA_len,hl];omega
 rw[this]
 simp [List.map_set]
def leastT (b:Bool) (le t:List Int):List Int:=if b then List.zipWith min le t else t
def mostT (mo t:List Int):List Int:=List.zipWith max mo t
def accT (s:Bool × List Int × List Int) (t:List Int):Bool × List Int × List Int:=(true,leastT s.1 s.2.1 t,mostT s.2.2 t)
def accL (xs:List (List Int)):Bool × List Int × List Int:=xs.foldl accT (false,zeroT,zeroT)
def mixT (new old:List Int) (k:Nat):List Int:=new.take k++old.drop k
theorem mix_get {new old:List Int}{k:Nat}(hn:new.length=10) (ho:old.length=10) (hk:k<10):(mixT new old k)[k]? = old[k]?:=by
 unfold mixT
 rw[List.getElem?_append_right (by rw[List.length_take];omega),List.length_take,hn,show k-min k 10=0 by omega,List.getElem?_drop,Nat.add_zero]
theorem mix_set {new old:List Int}{k:Nat}{y:Int}(hn:new[k]? = some y) (hnl:new.length=10) (ho:old.length=10) (hk:k<10):(mixT new old k).set k y=mixT new old (k+1):=by
 unfold mixT
 rw[List.set_append_right _ _ (by rw[List.length_take];omega),List.length_take,hnl,show k-min k 10=0 by omega]
 obtain⟨z,hz⟩:=zol (l:=old) (i:=k) (by omega)
 rw[drop_of_opt hz,List.set_cons_zero,zto hn]
 simp
theorem mix_len {new old:List Int}{k:Nat}(hn:new.length=10) (ho:old.length=10) (hk:k≤10):(mixT new old k).length=10:=by
 unfold mixT
 rw[List.length_append,List.length_take,List.length_drop];omega
theorem leastT_len {b:Bool}{le t:List Int}(h1:le.length=10) (h2:t.length=10):(leastT b le t).length=10:=by
 unfold leastT;split
 ·rw[List.length_zipWith];omega
 ·exact h2
theorem mostT_len {mo t:List Int}(h1:mo.length=10) (h2:t.length=10):(mostT mo t).length=10:=by
 unfold mostT;rw[List.length_zipWith];omega
theorem mem_zipW {f:Int→Int→Int}{x:Int}:∀ {l m:List Int},x∈List.zipWith f l m→∃ a,a∈l∧∃ b,b∈m∧x=f a b
 | [],_,h=>by simp at h
 | _::_,[],h=>by simp at h
 | a::l, b::m, h=>by
   rw[List.zipWith_cons_cons] at h
   rcases List.mem_cons.1 h with h|h
   ·exact⟨a,by simp,b,by simp,h⟩
   ·obtain⟨a',h1,b',h2,h3⟩:=mem_zipW h
    exact⟨a',by simp [h1],b',by simp [h2],h3⟩
theorem accL_snoc (xs:List (List Int)) (t:List Int):accL (xs++[t])=accT (accL xs) t:=by simp [accL]
theorem accT_small {b:Int}{s:Bool × List Int × List Int}{t:List Int}(ht:SmallT b t) (h1:SmallT b s.2.1) (h2:SmallT b s.2.2):SmallT b (accT s t).2.1∧SmallT b (accT s t).2.2:=by
 refine⟨⟨leastT_len h1.1 ht.1,fun x hx=>?_⟩,mostT_len h2.1 ht.1,fun x hx=>?_⟩
 ·simp only[accT,leastT] at hx
  split at hx
  ·obtain⟨y,hy,z,hz,rfl⟩:=mem_zipW hx
   have:=h1.2 y hy
   have:=ht.2 z hz
   omega
  ·exact ht.2 x hx
 ·simp only[accT,mostT] at hx
  obtain⟨y,hy,z,hz,rfl⟩:=mem_zipW hx
  have:=h2.2 y hy
  have:=ht.2 z hz
  omega
theorem zeroT_small {b:Int}(hb:0≤b):SmallT b zeroT:=⟨rfl,fun x hx=>by
 have:x=0:=by simpa using hx
 omega⟩
theorem accL_small {b:Int}(hb:0≤b):∀ (xs:List (List Int)),(∀ t∈xs,SmallT b t)→SmallT b (accL xs).2.1∧SmallT b (accL xs).2.2:=by
 have gen:∀ (xs:List (List Int)) (s:Bool × List Int × List Int),(∀ t∈xs,SmallT b t)→SmallT b s.2.1→SmallT b s.2.2→SmallT b (xs.foldl accT s).2.1∧SmallT b (xs.foldl accT s).2.2:=by
  intro xs
  induction xs with
  | nil=>intro s _ h1 h2;exact⟨h1,h2⟩
  | cons t xs ih =>
    intro s h h1 h2
    obtain⟨g1,g2⟩:=accT_small (s:=s) (h t (by simp)) h1 h2
    exact ih (accT s t) (fun y hy=>h y (by simp [hy])) g1 g2
 exact fun xs h=>gen xs _ h (zeroT_small hb) (zeroT_small hb)
theorem accL_some (xs:List (List Int)):(accL xs).1 = !xs.isEmpty:=by
 rcases List.eq_nil_or_concat xs with rfl|⟨l,x,rfl⟩
 ·rfl
 ·rw[List.concat_eq_append,accL_snoc];simp [accT]
theorem frzPL_r (ks:List (Nat × RowC)) (rows:Nat→Row):∀ l:List RV,frzPL ks rows (l.map AV.r)
 | []=>trivial
 | x::l=>⟨trivial,frzPL_r ks rows l⟩
theorem frzL_r (ks:List (Nat × RowC)) (rows:Nat→Row):∀ l:List RV,frzL ks rows (l.map AV.r)=l.map AV.r
 | []=>rfl
 | x::l=>by simp only[List.map_cons,frzL,frz1,frzL_r ks rows l]
def addT (a b:List Int):List Int:=List.zipWith (· + ·) a b
set_option maxHeartbeats 1000000
theorem add_ok (u:Addr) (beds le mo:List Int) (f:Nat) (caps args:List RV) (xs:List (List Int)) (hle:SmallT 3000 le) (hmo:SmallT 3000 mo) (hxs:∀ t∈xs,SmallT 3 t)
 (hI:ICalls Tryz.prog true f args (xs.map fun t=>[.ag (tR t)]))
 (hcap:∀ (w:World) (p:Plan) (ver:Nat→Nat) (R':Nat→Prop) (vals:List Value),AV.relV w p ver (caps.map .r) vals→RV.rel w R' (.rp (sheetR beds le mo)) (.pointer (some u))→(∀ b,p.R b→R' b)→RV.relV w R' args vals) :
 MCalls Tryz.prog 37 [(1000,.box (shA beds le mo))] [(1000,.box (shA beds (addT le (accL xs).2.1) (addT mo (accL xs).2.2)))] [.pu 1000 0 u,.r (.fn f caps)] (.r (.bo (!xs.isEmpty))):=by
 refine mcalls_stO (n:=73) (rs:=[.r (.bo (!xs.isEmpty))]) _ _ [.cell 4 4] Tryz.func37 rfl (by kernel_rfl) Tryz.ntmps37 rfl (by simp) rfl rfl fun C hC=>?_
 apply zq
 refine zb fun K hK=>?_;simp only[go_sem];apply hK;apply zw (zk [0,1,4]);simp only[go_sem]
 apply zq
 refine zb fun K hK=>?_;simp only[go_sem];apply hK;apply zw (zk [0,1,4,5,6]);simp only[go_sem]
 repeat apply zq
 refine zb fun K hK=>?_;simp only[go_sem];apply hK;apply zw (zk [0,4,5,6,11]);simp only[go_sem];apply zd
 refine awp_rangeK ⟨hC.1,hC.2.1⟩ 1000 0 u rfl (by omega) (hC.2.2 1000 rfl) (sheetR beds le mo) (by intro j hj;simp only[upd];(repeat' split);all_goals first|rfl|omega) rfl (cf:=caps.map .r) (xs.map fun t=>[.ag (tR t)]) hI [0,4,5,6,11] (by decide)
  (fun vs=>[(0,.r (.vl u)),(4,.pt 4 (vs 4) 0),(5,.pt 5 (vs 5) 0),(6,.pt 6 (vs 6) 0),(11,.r (.fn f caps))])
  (fun i vs=>[(4,.box [.r (.bo (!(xs.take i).isEmpty))]),(5,.box (tA (accL (xs.take i)).2.1)),(6,.box (tA (accL (xs.take i)).2.2))]) (fun _=>True) (fun us=>?_) trivial (fun _=>rfl) (fun _=>rfl) (fun _=>rfl) hcap (fun _ _=>rfl) (by simp) ?_ ?_ ?_
 ·refine fitW_of (n:=73) (F:=fun vs=>[(0,.r (.vl u)),(4,.pt 4 (vs 4) 0),(5,.pt 5 (vs 5) 0),(6,.pt 6 (vs 6) 0),(11,.r (.fn f caps))])
   (R:=fun vs=>insc [(4,.box [.r (.bo (!(xs.take 0).isEmpty))]),(5,.box (tA (accL (xs.take 0)).2.1)),(6,.box (tA (accL (xs.take 0)).2.2))] 1000 (.sus ((sheetR beds le mo).map .r) us)) [] (by intro j hj;simp only[upd];(repeat' split);all_goals first|rfl|omega) ?_ ?_
  ·simp only[List.map_cons,List.map_nil,AV.park,AV.parkL,if_true,if_false,Nat.reduceEqDiff]
   try simp only[go_sem]
  ·simp only[List.map_cons,List.map_nil,RowC.park,AV.park,AV.parkL]
   try simp only[go_sem]
   rfl
 ·intro e he
  obtain⟨t,_,rfl⟩:=List.mem_map.1 he
  rfl
 ·intro i e vs us usp C' he _ hvl
  obtain⟨t,ht,rfl⟩:∃ t,xs[i]? = some t∧e=[.ag (tR t)]:=by
   rw[List.getElem?_map] at he
   cases hx:xs[i]? with
   | none=>rw[hx] at he;cases he
   | some t=>rw[hx] at he;injection he with he;exact⟨t,rfl,he.symm⟩
  have hts:=hxs t (zmo ht)
  obtain⟨al,am⟩:=accL_small (b:=3) (by omega) (xs.take i) (fun t ht=>hxs t (List.mem_of_mem_take ht))
  have hsn:xs.take (i+1)=xs.take i++[t]:=zto ht
  have hacc:accL (xs.take (i+1))=accT (accL (xs.take i)) t:=by rw[hsn,accL_snoc]
  have hsm:=accL_some (xs.take i)
  have hne:(xs.take (i+1)).isEmpty=false:=by rw[hsn];simp
  rw[hacc,hne]
  rw[← hsm]
  generalize accL (xs.take i)=S at *
  obtain⟨b,ol,om⟩:=S
  simp only[accT] at *
  have htk:List.take 10 (tR t)=tR t:=List.take_of_length_le (by rw[List.length_map,hts.1];exact Nat.le_refl _)
  have htl:(tR t).length=10:=by rw[List.length_map,hts.1]
  have hol:ol.length=10:=al.1
  have hom:om.length=10:=am.1
  have hll:(leastT b ol t).length=10:=leastT_len hol hts.1
  have hml:(mostT om t).length=10:=mostT_len hom hts.1
  try simp only[go_sem]
  refine zb fun K hK=>?_;simp only[go_sem]
  refine⟨hts.1,?_⟩
  apply hK
  refine⟨rfl,fun C''=>?_⟩
  refine zw (zfP 7 7 (tR t) (by omega) rfl rfl) ?_;apply zw (zk [4,5,6,7]);simp only[go_sem];apply zd
  repeat apply zq
  refine zb fun K hK=>?_;simp only[go_sem,htk,htl,Nat.le_refl];apply hK;apply zw (zk [4,5,6,13,14]);simp only[go_sem];apply zd
  refine awp_uptoW (n:=73) 10 (fun k vs=>[(4,.pt 4 (vs 4) 0),(5,.pt 5 (vs 5) 0),(6,.pt 6 (vs 6) 0),(13,.r (.ag (tR t))),(14,.r (i64 k))])
   (fun k vs=>[(0,.sus [.r (.vl u),.pt 4 (vs 4) 0,.pt 5 (vs 5) 0,.pt 6 (vs 6) 0,.r (.fn f caps)] us),(4,.box [.r (.bo b)]),(5,.box (tA (mixT (leastT b ol t) ol k))),(6,.box (tA (mixT (mostT om t) om k))),(1000,.sus (AV.r (ints beds)::List.map AV.r (tR le++tR mo)) usp)])
   (fun _=>True) 0 (fitW_of [7] (by intro j hj;simp only[upd];(repeat' split);all_goals first|rfl|omega|exact hvl _ hj) ?_ ?_) (Nat.zero_le _) trivial ?_
  ·try simp only[go_sem]
  ·try simp only[go_sem]
   simp [mixT,killC,delc]
  ·intro k vs hvl hk _
   apply zq
   refine zb fun K hK=>?_;simp only[go_sem];apply hK;apply zw (zk [4,5,6,13,14,15]);simp only[go_sem]
   apply zq
   apply zc rfl<;>intro hc<;>(try simp only[go_sem] at hc)
   ·have hck:k<10:=by first|exact hc|omega
    obtain⟨x,hx⟩:=zol (l:=t) (i:=k) (by rw[hts.1];omega)
    obtain⟨y,hy⟩:=zol (l:=ol) (i:=k) (by omega)
    obtain⟨z,hz⟩:=zol (l:=om) (i:=k) (by omega)
    have hxs1:=hts.2 x (zmo hx)
    have hys1:=al.2 y (zmo hy)
    have hzs1:=am.2 z (zmo hz)
    have hnm:(mostT om t)[k]? = some (max z x):=by simp [mostT,List.getElem?_zipWith,hz,hx]
    have hMg:(mixT (mostT om t) om k)[k]? = some z:=(mix_get hml hom hck).trans hz
    have hMl:(mixT (mostT om t) om k).length=10:=mix_len hml hom hk
    have hMs:=mix_set hnm hml hom hck
    have hLg:(mixT (leastT b ol t) ol k)[k]? = some y:=(mix_get hll hol hck).trans hy
    have hLl:(mixT (leastT b ol t) ol k).length=10:=mix_len hll hol hk
    have hdr:List.drop k (tR t)=i64 x::List.drop (k+1) (tR t):=drop_of_opt (by simp [hx])
    have hk10:(k:Int)<10:=by omega
    have hdM:=tA_drop hMg
    have hsM:=tA_set (t:=mixT (mostT om t) om k) (i:=k) (y:=max z x) (by omega)
    rw[hMs] at hsM
    have htl2:(tR t).length=10:=htl
    generalize hM:mixT (mostT om t) om k=MK at *
    have hMA:=tA_len MK
    have hns:(leastT b ol t)[k]? = some (if b then min y x else x):=by
     cases b
     ·simpa [leastT] using hx
     ·simp [leastT,List.getElem?_zipWith,hy,hx]
    have hLs:=mix_set hns hll hol hck
    generalize hL:mixT (leastT b ol t) ol k=LK at *
    have hdL:=tA_drop hLg
    have hLA:=tA_len LK
    apply zx
    try simp only[go_sem]
    apply zq
    apply zd
    apply zq
    refine zb fun K hK=>?_;simp only[go_sem,Nat.mul_one,hdr,htl,List.headD_cons]
    refine⟨by omega,?_⟩
    apply hK;apply zw (zk [4,5,6,8,9,13,14]);simp only[go_sem]
    repeat apply zq
    refine zb fun K hK=>?_;simp only[go_sem];apply hK;apply zw (zk [4,5,6,8,9,13,14,19]);simp only[go_sem]
    cases b
    ·have hLx:=hLs
     simp only[Bool.false_eq_true,if_false] at hLx
     have hs0:=tA_set (t:=LK) (i:=k) (y:=x) (by omega)
     have hg2:(LK.set k x)[k]? = some x:=by rw[List.getElem?_set,if_pos rfl,if_pos (by omega)]
     have hd2:=tA_drop hg2
     have hl2:=tA_len (LK.set k x)
     have hl3:(LK.set k x).length=10:=by rw[List.length_set];exact hLl
     have hs2:=tA_set (t:=LK.set k x) (i:=k) (y:=x) (by omega)
     rw[List.set_set,hLx] at hs2
     apply zc rfl<;>intro hc<;>(try simp only[go_sem] at hc)
     refine zb fun K hK=>?_;simp only[go_sem,Nat.mul_one,hLA]
     repeat refine⟨by omega,?_⟩
     apply hK;rw[hs0]
     apply zw (zk [4,5,6,8,9,13,14]);simp only[go_sem]
     refine awp_dreg2 [(5,some 5),(6,some 6)] follows (by decide +kernel) (by kernel_rfl) (by simp only[keysOk,List.mem_cons,List.not_mem_nil,forall_eq_or_imp,Oc.keyOf,go_sem];simp) fun K hK=>?_
     simp only[go_sem,Nat.mul_one,hd2,hdM,hl2,hMA,List.headD_cons,List.length_cons,Int.min_self]
     repeat refine⟨by omega,?_⟩
     apply hK;rw[hLx,hs2,hsM]
     apply zw (zk [4,5,6,13,14]);simp only[go_sem];refine zb fun K hK=>?_;simp only[go_sem];(try simp (disch:=omega) only[zI]);apply hK
     try simp only[go_sem]
     refine⟨hck,fitW_of [] (by first|exact hvl|(intro j hj;simp only[upd];(repeat' split);all_goals first|rfl|omega|exact hvl _ hj)) ?_ ?_⟩
     ·try simp only[go_sem]
     ·try simp only[go_sem]
    ·have hLx:=hLs
     simp only[if_true] at hLx
     have hs2:=tA_set (t:=LK) (i:=k) (y:=min y x) (by omega)
     rw[hLx] at hs2
     apply zc rfl<;>intro hc<;>(try simp only[go_sem] at hc)
     apply zx
     try simp only[go_sem]
     refine awp_dreg2 [(5,some 5),(6,some 6)] follows (by decide +kernel) (by kernel_rfl) (by simp only[keysOk,List.mem_cons,List.not_mem_nil,forall_eq_or_imp,Oc.keyOf,go_sem];simp) fun K hK=>?_
     simp only[go_sem,Nat.mul_one,hdL,hdM,hLA,hMA,List.headD_cons,List.length_cons]
     repeat refine⟨by omega,?_⟩
     apply hK;rw[hs2,hsM]
     apply zw (zk [4,5,6,13,14]);simp only[go_sem];refine zb fun K hK=>?_;simp only[go_sem];(try simp (disch:=omega) only[zI]);apply hK
     try simp only[go_sem]
     refine⟨hck,fitW_of [] (by first|exact hvl|(intro j hj;simp only[upd];(repeat' split);all_goals first|rfl|omega|exact hvl _ hj)) ?_ ?_⟩
     ·try simp only[go_sem]
     ·try simp only[go_sem]
   ·have hk10:k=10:=by omega
    subst hk10
    have e1:mixT (leastT b ol t) ol 10=leastT b ol t:=by
     unfold mixT
     rw[List.take_of_length_le (by omega),List.drop_of_length_le (by omega),List.append_nil]
    have e2:mixT (mostT om t) om 10=mostT om t:=by
     unfold mixT
     rw[List.take_of_length_le (by omega),List.drop_of_length_le (by omega),List.append_nil]
    rw[e1,e2]
    apply zf;simp only[go_sem];refine zb fun K hK=>?_;simp only[go_sem];apply hK
    try simp only[go_sem]
    refine⟨vs,hvl,?_⟩
    exact sub_look _ (allEq_mem (by simp only[go_sem]))
 ·intro vs us hvl _
  have e0:(AV.r (ints beds)::List.map AV.r (tR le++tR mo))=shA beds le mo:=(shA_eq beds le mo▸by simp)
  have hlen:(xs.map fun t=>[RV.ag (tR t)]).length=xs.length:=List.length_map _
  obtain⟨al,am⟩:=accL_small (b:=3) (by omega) xs hxs
  have hsm:=accL_some xs
  rw[hlen,List.take_length]
  generalize accL xs=S at *
  obtain⟨b,ol,om⟩:=S
  simp only at *
  rw[← hsm]
  try simp only[go_sem]
  rw[e0]
  refine zw (sub_wake rfl) ?_;refine zw (sub_unname 0 rfl) ?_;refine zw (zfP 5 5 (tR ol) (by omega) rfl rfl) ?_;refine zw (zfP 6 6 (tR om) (by omega) rfl rfl) ?_;apply zw (zk [0,4,5,6]);simp only[go_sem]
  repeat apply zq
  refine zb fun K hK=>?_;simp only[go_sem];apply hK;apply zw (zk [0,4,5,6,38]);simp only[go_sem];apply zd
  have hol:ol.length=10:=al.1
  have hom:om.length=10:=am.1
  have hlel:le.length=10:=hle.1
  have hmol:mo.length=10:=hmo.1
  have hal:(addT le ol).length=10:=by unfold addT;rw[List.length_zipWith];omega
  have haml:(addT mo om).length=10:=by unfold addT;rw[List.length_zipWith];omega
  refine awp_upto0 (n:=73) 10 (fun k vs=>[(0,.pt 1000 0 0),(4,.pt 4 (vs 4) 0),(5,.r (.rp (tR ol))),(6,.r (.rp (tR om))),(38,.r (i64 k))])
   (fun k=>[(4,.box [.r (.bo b)]),(1000,.box (shA beds (mixT (addT le ol) le k) (mixT (addT mo om) mo k)))]) (fun _=>True) 0 (fit0_of [] (by intro j hj;simp only[upd];(repeat' split);all_goals first|rfl|omega|exact hvl _ hj) ?_ ?_) (Nat.zero_le _) trivial ?_
  ·try simp only[go_sem]
  ·try simp only[go_sem]
   simp [mixT]
  ·intro k vs hvl hk _
   have hv0:=hvl 1000 (by omega)
   apply zq
   refine zb fun K hK=>?_;simp only[go_sem];apply hK;apply zw (zk [0,4,5,6,38,39]);simp only[go_sem]
   apply zq
   apply zc rfl<;>intro hc<;>(try simp only[go_sem] at hc)
   ·have hck:k<10:=by first|exact hc|omega
    obtain⟨x,hx⟩:=zol (l:=ol) (i:=k) (by omega)
    obtain⟨y,hy⟩:=zol (l:=om) (i:=k) (by omega)
    obtain⟨a,ha⟩:=zol (l:=le) (i:=k) (by omega)
    obtain⟨c,hcc⟩:=zol (l:=mo) (i:=k) (by omega)
    have b1:=al.2 x (zmo hx)
    have b2:=am.2 y (zmo hy)
    have b3:=hle.2 a (zmo ha)
    have b4:=hmo.2 c (zmo hcc)
    have hk10:(k:Int)<10:=by omega
    have n1:(addT le ol)[k]? = some (a+x):=by simp [addT,List.getElem?_zipWith,ha,hx]
    have n2:(addT mo om)[k]? = some (c+y):=by simp [addT,List.getElem?_zipWith,hcc,hy]
    have g1:(mixT (addT le ol) le k)[k]? = some a:=(mix_get hal hlel hck).trans ha
    have g2:(mixT (addT mo om) mo k)[k]? = some c:=(mix_get haml hmol hck).trans hcc
    have l1:(mixT (addT le ol) le k).length=10:=mix_len hal hlel hk
    have l2:(mixT (addT mo om) mo k).length=10:=mix_len haml hmol hk
    have s1:=mix_set n1 hal hlel hck
    have s2:=mix_set n2 haml hmol hck
    generalize mixT (addT le ol) le k=LK at *
    generalize mixT (addT mo om) mo k=MK at *
    have d1:=shA_drop1 (beds:=beds) (mo:=MK) g1
    have d2:=shA_drop2 (beds:=beds) l1 g2
    have t1:=shA_set1 (beds:=beds) (mo:=MK) (y:=a+x) (show k<LK.length by omega)
    rw[s1] at t1
    have l3:(mixT (addT le ol) le (k+1)).length=10:=mix_len hal hlel (by omega)
    have d3:=shA_drop2 (beds:=beds) l3 g2
    have t2:=shA_set2 (beds:=beds) (le:=mixT (addT le ol) le (k+1)) (mo:=MK) (k:=k) (y:=c+y) l3 (by omega)
    rw[s2] at t2
    have dx:List.drop k (tR ol)=i64 x::List.drop (k+1) (tR ol):=drop_of_opt (by simp [hx])
    have dy:List.drop k (tR om)=i64 y::List.drop (k+1) (tR om):=drop_of_opt (by simp [hy])
    have hL1:=shA_len beds LK MK
    have hL2:=shA_len beds (mixT (addT le ol) le (k+1)) MK
    apply zx
    try simp only[go_sem]
    apply zq
    apply zd
    apply zq
    refine zb fun K hK=>?_;simp only[go_sem];apply hK;apply zw (zk [0,4,5,6,10,38]);simp only[go_sem]
    refine awp_dreg2 [(0,some 1000),(5,none),(6,none)] follows (by decide +kernel) (by kernel_rfl) (by simp only[keysOk,List.mem_cons,List.not_mem_nil,forall_eq_or_imp,Oc.keyOf,go_sem];simp) fun K hK=>?_
    simp only[go_sem,Nat.mul_one,hv0,d1,d2,d3,dx,dy,t1,t2,hL1,hL2,l1,l2,l3,List.headD_cons,List.length_cons,Nat.zero_add];(try simp (disch:=omega) only[zI]);simp only[t1,t2,hL2,l3,l2]
    repeat refine⟨by omega,?_⟩
    apply hK;apply zw (zk [0,4,5,6,38]);simp only[go_sem];refine zb fun K hK=>?_;simp only[go_sem];(try simp (disch:=omega) only[zI]);apply hK
    try simp only[go_sem]
    refine⟨hck,fit0_of [] (by first|exact hvl|(intro j hj;simp only[upd];(repeat' split);all_goals first|rfl|omega|exact hvl _ hj)) ?_ ?_⟩
    ·try simp only[go_sem]
    ·try simp only[go_sem]
   ·have hk10:k=10:=by omega
    subst hk10
    have e1:mixT (addT le ol) le 10=addT le ol:=by
     unfold mixT
     rw[List.take_of_length_le (by omega),List.drop_of_length_le (by omega),List.append_nil]
    have e2:mixT (addT mo om) mo 10=addT mo om:=by
     unfold mixT
     rw[List.take_of_length_le (by omega),List.drop_of_length_le (by omega),List.append_nil]
    rw[e1,e2]
    apply zf;simp only[go_sem]
    apply zq
    refine zb fun K hK=>?_;simp only[go_sem];apply hK;apply ze;simp only[go_sem];exact⟨frzPL_r _ _ _,congrArg RowC.box (frzL_r _ _ _)⟩
def BedsOk (beds:List Int):Prop:=beds.length≤10∧∀ b∈beds,0≤b∧b≤499
def tally3 (i k m:Nat):List Int:=incT (incT (incT zeroT i) k) m
def cell3 (beds:List Int) (n:Int) (i k m:Nat):List (List Int) :=
 if scoreOf (beds.getD i 0)+scoreOf (beds.getD k 0)+scoreOf (beds.getD m 0)=n then [tally3 i k m] else []
def rowM (beds:List Int) (n:Int) (i k m:Nat):List (List Int):=((List.range beds.length).drop m).flatMap (cell3 beds n i k)
def rowK (beds:List Int) (n:Int) (i k:Nat):List (List Int):=((List.range beds.length).drop k).flatMap fun k=>rowM beds n i k k
def rowI (beds:List Int) (n:Int) (i:Nat):List (List Int):=((List.range beds.length).drop i).flatMap fun i=>rowK beds n i i
def threeT (beds:List Int) (n:Int):List (List Int):=rowI beds n 0
theorem range_drop {N m:Nat}(h:m<N):(List.range N).drop m=m::(List.range N).drop (m+1):=drop_of_opt (by simp [h])
theorem rowM_step {beds:List Int}{n:Int}{i k m:Nat}(h:m<beds.length):rowM beds n i k m=cell3 beds n i k m++rowM beds n i k (m+1):=by
 unfold rowM;rw[range_drop h,List.flatMap_cons]
theorem rowK_step {beds:List Int}{n:Int}{i k:Nat}(h:k<beds.length):rowK beds n i k=rowM beds n i k k++rowK beds n i (k+1):=by
 unfold rowK;rw[range_drop h,List.flatMap_cons]
theorem rowI_step {beds:List Int}{n:Int}{i:Nat}(h:i<beds.length):rowI beds n i=rowK beds n i i++rowI beds n (i+1):=by
 unfold rowI;rw[range_drop h,List.flatMap_cons]
theorem rowM_end {beds:List Int}{n:Int}{i k m:Nat}(h:beds.length≤m):rowM beds n i k m=[]:=by
 unfold rowM;rw[List.drop_of_length_le (by simpa using h)];rfl
theorem rowK_end {beds:List Int}{n:Int}{i k:Nat}(h:beds.length≤k):rowK beds n i k=[]:=by
 unfold rowK;rw[List.drop_of_length_le (by simpa using h)];rfl
theorem rowI_end {beds:List Int}{n:Int}{i:Nat}(h:beds.length≤i):rowI beds n i=[]:=by
 unfold rowI;rw[List.drop_of_length_le (by simpa using h)];rfl
theorem incT_eq {t:List Int}{i:Nat}{x:Int}(h:t[i]? = some x):incT t i=t.set i (x+1):=by simp [incT,List.getD_eq_getElem?_getD,h]
theorem tally3_small (i k m:Nat):SmallT 3 (tally3 i k m):=by
 have h0:SmallT 0 zeroT:=zeroT_small (by omega)
 have h1:=incT_small (i:=i) h0 (by omega)
 have h2:=incT_small (i:=k) h1 (by omega)
 exact incT_small (i:=m) h2 (by omega)
theorem threeT_small {beds:List Int}{n:Int}:∀ t∈threeT beds n,SmallT 3 t:=fun t ht=>by
 unfold threeT rowI at ht
 obtain⟨i,_,ht⟩:=List.mem_flatMap.1 ht
 unfold rowK at ht
 obtain⟨k,_,ht⟩:=List.mem_flatMap.1 ht
 unfold rowM at ht
 obtain⟨m,_,ht⟩:=List.mem_flatMap.1 ht
 unfold cell3 at ht
 split at ht
 ·rw[List.mem_singleton.1 ht];exact tally3_small i k m
 ·cases ht
abbrev yl1 (l:List (List Int)):List (List RV):=l.map fun t=>[.ag (tR t)]
theorem three1_ok (beds le mo:List Int) (n:Int) (hb:BedsOk beds):ICalls Tryz.prog true 68 [.rp [.rp (sheetR beds le mo)],.rp [i64 n]] (yl1 (threeT beds n)):=by
 have hlen:=hb.1
 refine icalls_st Tryz.func68 rfl (by kernel_rfl) Tryz.ntmps68 rfl (by simp) fun C ll=>?_
 apply zq
 refine zb fun K hK=>?_;simp only[go_sem,argL]
 intros
 apply hK;apply zw (zk [0,1,2,14,15,16]);simp only[go_sem];apply zd
 refine zup (n:=85) beds.length (fun i vs=>[(0,.r (.yl ll)),(1,.r (.rp [.rp (sheetR beds le mo)])),(2,.r (.rp [i64 n])),(14,.r (ints beds)),(15,.r (i64 beds.length)),(16,.r (i64 i))])
  (fun i=>[(999,.gh Tryz.prog ll true (some (yl1 (rowI beds n i))))]) (fun _=>True) 0 (zfo [] ?_ ?_) (Nat.zero_le _) trivial ?_
 ·try simp only[go_sem]
 ·try simp only[go_sem]
  rfl
 ·intro i vs hi _
  apply zq
  refine zb fun K hK=>?_;simp only[go_sem];apply hK;apply zw (zk [0,1,2,14,15,16,17]);simp only[go_sem]
  apply zq
  apply zc rfl<;>intro hc<;>(try simp only[go_sem] at hc)
  ·have hci:=hc
   obtain⟨a,ha⟩:=zol hci
   have hs1:=rowI_step (n:=n) hci
   apply zx
   try simp only[go_sem]
   apply zq
   apply zd
   apply zq
   refine zb fun K hK=>?_;simp only[go_sem,ha,hci];apply hK;apply zw (zk [0,1,2,4,5,14,15,16]);simp only[go_sem]
   apply zq
   refine zb fun K hK=>?_;simp only[go_sem]
   intros
   refine⟨by omega,?_⟩
   intro _
   apply hK;apply zw (zk [0,1,2,4,5,14,15,16,26,27,28]);simp only[go_sem]
   have hdm:List.drop i (beds.map fun x=>[RV.it IntKind.i64 x])=(beds.drop i).map fun x=>[RV.it IntKind.i64 x]:=List.map_drop.symm
   have hdl:(beds.drop i).length=beds.length-i:=List.length_drop
   rw[hdm,hs1]
   apply zd
   refine zup (n:=85) (beds.length-i) (fun k vs=>[(0,.r (.yl ll)),(1,.r (.rp [.rp (sheetR beds le mo)])),(2,.r (.rp [i64 n])),(4,.r (i64 i)),(5,.r (i64 a)),(14,.r (ints beds)),(15,.r (i64 beds.length)),(16,.r (i64 i)),(26,.r (ints (beds.drop i))),(27,.r (i64 ((beds.length-i:Nat):Int))),(28,.r (i64 k))])
    (fun k=>[(999,.gh Tryz.prog ll true (some (yl1 (rowK beds n i (i+k)++rowI beds n (i+1)))))]) (fun _=>True) 0 (zfo [] ?_ ?_) (Nat.zero_le _) trivial ?_
   ·try simp only[go_sem]
   ·try simp only[go_sem]
   ·intro k vs hk _
    apply zq
    refine zb fun K hK=>?_;simp only[go_sem];apply hK;apply zw (zk [0,1,2,4,5,14,15,16,26,27,28,29]);simp only[go_sem]
    apply zq
    apply zc rfl<;>intro hc<;>(try simp only[go_sem] at hc)
    ·have hck:k<beds.length-i:=by first|exact hc|omega
     have hkl:i+k<beds.length:=by omega
     obtain⟨b,hbx⟩:=zol hkl
     have hbd:(beds.drop i)[k]? = some b:=by rw[List.getElem?_drop];exact hbx
     have hkd:k<(beds.drop i).length:=by omega
     have hs2:=rowK_step (n:=n) (i:=i) hkl
     apply zx
     try simp only[go_sem]
     apply zq
     apply zd
     apply zq
     refine zb fun K hK=>?_;simp only[go_sem,hbd,hkd]
     refine⟨by omega,?_⟩
     apply hK;apply zw (zk [0,1,2,4,5,6,7,14,15,16,26,27,28]);simp only[go_sem]
     apply zq
     refine zb fun K hK=>?_;simp only[go_sem];(try simp (disch:=omega) only[zI])
     intros
     refine⟨by omega,?_⟩
     intro _
     apply hK;apply zw (zk [0,1,2,4,5,6,7,14,15,16,26,27,28,40,41,42]);simp only[go_sem]
     have htn:((i:Int)+(k:Int)).toNat=i+k:=by omega
     have hdm2:List.drop (i+k) (beds.map fun x=>[RV.it IntKind.i64 x])=(beds.drop (i+k)).map fun x=>[RV.it IntKind.i64 x]:=List.map_drop.symm
     have hdl2:(beds.drop (i+k)).length=beds.length-(i+k):=List.length_drop
     rw[htn,hdm2,hs2]
     apply zd
     refine zup (n:=85) (beds.length-(i+k)) (fun m vs=>[(0,.r (.yl ll)),(1,.r (.rp [.rp (sheetR beds le mo)])),(2,.r (.rp [i64 n])),(4,.r (i64 i)),(5,.r (i64 a)),(6,.r (i64 k)),(7,.r (i64 b)),(14,.r (ints beds)),(15,.r (i64 beds.length)),(16,.r (i64 i)),(26,.r (ints (beds.drop i))),(27,.r (i64 ((beds.length-i:Nat):Int))),(28,.r (i64 k)),(40,.r (ints (beds.drop (i+k)))),(41,.r (i64 ((beds.length-(i+k):Nat):Int))),(42,.r (i64 m))])
      (fun m=>[(999,.gh Tryz.prog ll true (some (yl1 (rowM beds n i (i+k) (i+k+m)++(rowK beds n i (i+k+1)++rowI beds n (i+1))))))]) (fun _=>True) 0 (zfo [] ?_ ?_) (Nat.zero_le _) trivial ?_
     ·try simp only[go_sem]
     ·try simp only[go_sem]
      simp [List.append_assoc]
     ·intro m vs hm _
      apply zq
      refine zb fun K hK=>?_;simp only[go_sem];apply hK;apply zw (zk [0,1,2,4,5,6,7,14,15,16,26,27,28,40,41,42,43]);simp only[go_sem]
      apply zq
      apply zc rfl<;>intro hc<;>(try simp only[go_sem] at hc)
      ·have hcm:m<beds.length-(i+k):=by first|exact hc|omega
       have hml:i+k+m<beds.length:=by omega
       obtain⟨c,hcx⟩:=zol hml
       have hcd:(beds.drop (i+k))[m]? = some c:=by rw[List.getElem?_drop];exact hcx
       have hmd:m<(beds.drop (i+k)).length:=by omega
       have hs3:=rowM_step (n:=n) (i:=i) (k:=i+k) hml
       have ba:=hb.2 a (zmo ha)
       have bb:=hb.2 b (zmo hbx)
       have bc:=hb.2 c (zmo hcx)
       have sa:=score_le ba.1 ba.2
       have sb:=score_le bb.1 bb.2
       have sc:=score_le bc.1 bc.2
       have hcell:cell3 beds n i (i+k) (i+k+m)=if scoreOf a+scoreOf b+scoreOf c=n then [tally3 i (i+k) (i+k+m)] else []:=by
        unfold cell3
        simp only[List.getD_eq_getElem?_getD,ha,hbx,hcx,Option.getD_some]
       rw[hs3,hcell]
       apply zx
       try simp only[go_sem]
       apply zq
       apply zd
       apply zq
       refine zb fun K hK=>?_;simp only[go_sem,hcd,hmd]
       refine⟨by omega,?_⟩
       apply hK;apply zw (zk [0,1,2,4,5,6,7,8,9,14,15,16,26,27,28,40,41,42]);simp only[go_sem]
       repeat apply zq
       refine zg follows (by decide +kernel) (by kernel_rfl) fun K hK=>?_;simp only[go_sem]
       refine zh (score_ok a ba.1 ba.2) rfl (by simp only[go_sem,i64,ints]) (by simp only[go_sem,i64,ints]) ?_
       (try simp only[go_sem])
       refine zh (score_ok b bb.1 bb.2) rfl (by simp only[go_sem,i64,ints]) (by simp only[go_sem,i64,ints]) ?_
       (try simp only[go_sem]);(try simp (disch:=omega) only[zI])
       refine zh (score_ok c bc.1 bc.2) rfl (by simp only[go_sem,i64,ints]) (by simp only[go_sem,i64,ints]) ?_
       (try simp only[go_sem]);(try simp (disch:=omega) only[zI]);apply hK;apply zw (zk [0,1,2,4,5,6,7,8,9,14,15,16,26,27,28,40,41,42,56]);simp only[go_sem]
       by_cases hsum:scoreOf a+scoreOf b+scoreOf c=n
       ·have e1:(scoreOf a+scoreOf b+scoreOf c != n)=false:=by simp [hsum]
        rw[e1,if_pos hsum]
        apply zc rfl<;>intro hc<;>(try simp only[go_sem] at hc)
        apply zx
        try simp only[go_sem]
        apply zq
        refine zb fun K hK=>?_;simp only[go_sem];apply hK;apply zw (zk [0,1,2,4,5,6,7,8,9,10,14,15,16,26,27,28,40,41,42]);simp only[go_sem]
        have ez:([AV.r (RV.it IntKind.i64 0),AV.r (RV.it IntKind.i64 0),AV.r (RV.it IntKind.i64 0),AV.r (RV.it IntKind.i64 0),AV.r (RV.it IntKind.i64 0),AV.r (RV.it IntKind.i64 0),AV.r (RV.it IntKind.i64 0),AV.r (RV.it IntKind.i64 0),AV.r (RV.it IntKind.i64 0),AV.r (RV.it IntKind.i64 0)]:List AV)=tA zeroT:=rfl
        have smx:SmallT 0 zeroT:=zeroT_small (by omega)
        have smy:SmallT 1 (incT zeroT i):=incT_small smx (by omega)
        have smz:SmallT 2 (incT (incT zeroT i) (i+k)):=incT_small smy (by omega)
        have smw:SmallT 3 (tally3 i (i+k) (i+k+m)):=tally3_small _ _ _
        have q0:=smx.1
        have q1:=smy.1
        have q2:=smz.1
        have q3:=smw.1
        have htn3:((i:Int)+(k:Int)+(m:Int)).toNat=i+k+m:=by omega
        have wk1:IntKind.i64.wrap ((i:Int)+(k:Int))=((i+k:Nat):Int):=by rw[zI]<;>omega
        have wk2:IntKind.i64.wrap (((i+k:Nat):Int)+(m:Int))=((i+k+m:Nat):Int):=by rw[zI]<;>omega
        rw[ez]
        obtain⟨x,hx⟩:=zol (l:=zeroT) (i:=i) (by omega)
        have ix:incT zeroT (i)=(zeroT).set (i) (x+1):=incT_eq hx
        have gx:=smx.2 x (zmo hx)
        have dx:=tA_drop hx
        have sx:=tA_set (t:=zeroT) (i:=i) (y:=x+1) (by omega)
        have lx:=tA_len (zeroT)
        rw[← ix] at sx
        apply zq
        refine zb fun K hK=>?_;simp only[go_sem,Nat.mul_one,dx,lx,List.headD_cons,List.length_cons];(try simp (disch:=omega) only[zI])
        repeat refine⟨by omega,?_⟩
        apply hK;rw[sx]
        apply zw (zk [0,1,2,4,5,6,7,8,9,10,14,15,16,26,27,28,40,41,42]);simp only[go_sem]
        obtain⟨y,hy⟩:=zol (l:=incT zeroT i) (i:=i+k) (by omega)
        have iy:incT (incT zeroT i) (i+k)=(incT zeroT i).set (i+k) (y+1):=incT_eq hy
        have gy:=smy.2 y (zmo hy)
        have dy:=tA_drop hy
        have sy:=tA_set (t:=incT zeroT i) (i:=i+k) (y:=y+1) (by omega)
        have ly:=tA_len (incT zeroT i)
        rw[← iy] at sy
        apply zq
        refine zb fun K hK=>?_;simp only[go_sem,Nat.mul_one];(try simp (disch:=omega) only[zI]);simp only[go_sem,Nat.mul_one,htn,dy,ly,List.headD_cons,List.length_cons];(try simp (disch:=omega) only[zI])
        repeat refine⟨by omega,?_⟩
        apply hK;rw[sy]
        apply zw (zk [0,1,2,4,5,6,7,8,9,10,14,15,16,26,27,28,40,41,42]);simp only[go_sem]
        obtain⟨z,hz⟩:=zol (l:=incT (incT zeroT i) (i+k)) (i:=i+k+m) (by omega)
        have iz:incT (incT (incT zeroT i) (i+k)) (i+k+m)=(incT (incT zeroT i) (i+k)).set (i+k+m) (z+1):=incT_eq hz
        have gz:=smz.2 z (zmo hz)
        have dz:=tA_drop hz
        have sz:=tA_set (t:=incT (incT zeroT i) (i+k)) (i:=i+k+m) (y:=z+1) (by omega)
        have lz:=tA_len (incT (incT zeroT i) (i+k))
        rw[← iz] at sz
        apply zq
        refine zb fun K hK=>?_;simp only[go_sem,Nat.mul_one];(try simp (disch:=omega) only[zI]);simp only[go_sem,Nat.mul_one,htn3,dz,lz,List.headD_cons,List.length_cons];(try simp (disch:=omega) only[zI])
        repeat refine⟨by omega,?_⟩
        apply hK;rw[sz]
        apply zw (zk [0,1,2,4,5,6,7,8,9,10,14,15,16,26,27,28,40,41,42]);simp only[go_sem]
        have et:incT (incT (incT zeroT i) (i+k)) (i+k+m)=tally3 i (i+k) (i+k+m):=rfl
        rw[et]
        generalize hT:tally3 i (i+k) (i+k+m)=T at *
        have htk:List.take 10 (tR T)=tR T:=List.take_of_length_le (by rw[List.length_map,q3];exact Nat.le_refl _)
        have htl:(tR T).length=10:=by rw[List.length_map,q3]
        refine zw (zfP 10 10 (tR T) (by omega) rfl rfl) ?_
        try simp only[go_sem]
        apply zq
        refine zb fun K hK=>?_;simp only[go_sem,htk,htl,Nat.le_refl]
        refine xcall_yield (z:=true) (e:=[.ag (tR T)]) (rest:=yl1 (rowM beds n i (i+k) (i+k+m+1)++(rowK beds n i (i+k+1)++rowI beds n (i+1)))) (by simp only[go_sem]) rfl (by simp only[go_sem]) (.inl (by simp only[RV.flatL,RV.flatB,flat_tR,Bool.and_self])) ?_ ?_
        ·simp only[go_sem];apply hK;apply zw (zk [0,1,2,4,5,6,7,14,15,16,26,27,28,40,41,42,81]);simp only[go_sem]
         apply zc rfl<;>intro hc<;>(try simp only[go_sem] at hc)
         apply zx
         try simp only[go_sem]
         refine zb fun K hK=>?_;simp only[go_sem];(try simp (disch:=omega) only[zI]);apply hK
         try simp only[go_sem]
         refine⟨hcm,zfo [] ?_ ?_⟩
         ·try simp only[go_sem]
         ·try simp only[go_sem]
          simp [Nat.add_assoc]
        ·simp only[go_sem];apply hK;apply zw (zk [81]);simp only[go_sem]
         apply zc rfl<;>intro hc<;>(try simp only[go_sem] at hc)
         apply ze;simp only[go_sem];exact⟨_,_,.inr rfl⟩
       ·have e1:(scoreOf a+scoreOf b+scoreOf c != n)=true:=by simp [hsum]
        rw[e1,if_neg hsum]
        apply zc rfl<;>intro hc<;>(try simp only[go_sem] at hc)
        apply zf;simp only[go_sem];refine zb fun K hK=>?_;simp only[go_sem];(try simp (disch:=omega) only[zI]);apply hK
        try simp only[go_sem]
        refine⟨hcm,zfo [] ?_ ?_⟩
        ·try simp only[go_sem]
        ·try simp only[go_sem]
         simp [Nat.add_assoc]
      ·have hme:m=beds.length-(i+k):=by omega
       apply zf;simp only[go_sem];rw[rowM_end (m:=i+k+m) (by omega)]
       refine zb fun K hK=>?_;simp only[go_sem];(try simp (disch:=omega) only[zI]);apply hK
       try simp only[go_sem]
       refine⟨hck,zfo [] ?_ ?_⟩
       ·try simp only[go_sem]
       ·try simp only[go_sem]
        simp [Nat.add_assoc]
    ·have hke:k=beds.length-i:=by omega
     apply zf;simp only[go_sem];rw[rowK_end (k:=i+k) (by omega)]
     refine zb fun K hK=>?_;simp only[go_sem];(try simp (disch:=omega) only[zI]);apply hK
     try simp only[go_sem]
     refine⟨hci,zfo [] ?_ ?_⟩
     ·try simp only[go_sem]
     ·try simp only[go_sem]
  ·apply zf;simp only[go_sem];rw[rowI_end (by omega)]
   exact⟨_,_,.inl rfl⟩
def truthsK (beds ds:List Int):List (List Int):=match tallyK beds zeroT ds with|some t=>[t]|none=>[]
theorem knownXs_eq (beds ds:List Int):knownXs beds ds=yl1 (truthsK beds ds):=by
 unfold knownXs truthsK
 cases tallyK beds zeroT ds<;>rfl
theorem tallyK_small {beds:List Int}:∀ {ds t r:List Int}{b:Int},tallyK beds t ds=some r→0≤b→SmallT b t→SmallT (b+ds.length) r
 | [], t, r, b, h, hb, hs=>by
   simp only[tallyK,Option.some.injEq] at h
   subst h
   simpa using hs
 | d::ds, t, r, b, h, hb, hs=>by
   rw[tallyK] at h
   split at h
   ·cases h
   ·have:=tallyK_small h (by omega) (incT_small (i:=(atE beds d).toNat) hs hb)
    rw[List.length_cons]
    have e:b+1+(ds.length:Int)=b+((ds.length+1:Nat):Int):=by omega
    rwa [e] at this
theorem truthsK_small {beds ds:List Int}(h:ds.length=3):∀ t∈truthsK beds ds,SmallT 3 t:=fun t ht=>by
 unfold truthsK at ht
 cases e:tallyK beds zeroT ds with
 | none=>rw[e] at ht;cases ht
 | some r =>
   rw[e] at ht
   rw[List.mem_singleton.1 ht]
   have:=tallyK_small e (by omega) (zeroT_small (b:=0) (by omega))
   rw[h] at this
   exact this
def truthsV (beds ds:List Int) (n:Int):List (List Int):=if ds=[] then threeT beds n else truthsK beds ds
def visitE (beds ds:List Int) (n:Int):Int :=
 if ds≠[]∧(ds.length≠3∨n≠0) then 4 else if ¬ (0≤n∧n≤240) then 3 else if (truthsV beds ds n).isEmpty then 9 else 0
theorem lift_rp {w:World}{R R':Nat→Prop}{u:Addr}{rs:List RV}{v:Value}(h:RV.rel w R (.rp [.vl u]) v) (hu:RV.rel w R' (.rp rs) (.pointer (some u))) (hR:∀ b,R b→R' b):RV.rel w R' (.rp [.rp rs]) v:=by
 simp only[RV.rel,RV.relC] at h ⊢
 obtain⟨ad,hv,hr,⟨x,hx,h1,h2⟩,_⟩:=h
 subst h2
 refine⟨ad,hv,hR _ hr,⟨_,hx,h1,?_⟩,trivial⟩
 simpa only[RV.rel] using hu
theorem cap_known {u:Addr}{ds:List Int}{rs:List RV}(w:World) (p:Plan) (ver:Nat→Nat) (R':Nat→Prop) (vals:List Value) (h:AV.relV w p ver ([.rp [ints ds],.rp [.vl u]].map .r) vals) (hu:RV.rel w R' (.rp rs) (.pointer (some u))) (hR:∀ b,p.R b→R' b) :
 RV.relV w R' [.rp [ints ds],.rp [.rp rs]] vals:=by
 simp only[List.map_cons,List.map_nil,AV.relV,AV.rel] at h
 obtain⟨v1,vs,rfl,h1,v2,vs2,rfl,h2,rfl⟩:=h
 simp only[RV.relV];exact⟨v1,[v2],rfl,RV.rel_mono hR (fun _ _=>rfl) _ _ h1,v2,[],rfl,lift_rp h2 hu hR,rfl⟩
theorem cap_three {u:Addr}{n:Int}{rs:List RV}(w:World) (p:Plan) (ver:Nat→Nat) (R':Nat→Prop) (vals:List Value) (h:AV.relV w p ver ([.rp [.vl u],.rp [i64 n]].map .r) vals) (hu:RV.rel w R' (.rp rs) (.pointer (some u))) (hR:∀ b,p.R b→R' b) :
 RV.relV w R' [.rp [.rp rs],.rp [i64 n]] vals:=by
 simp only[List.map_cons,List.map_nil,AV.relV,AV.rel] at h
 obtain⟨v1,vs,rfl,h1,v2,vs2,rfl,h2,rfl⟩:=h
 simp only[RV.relV];exact⟨v1,[v2],rfl,lift_rp h1 hu hR,v2,[],rfl,RV.rel_mono hR (fun _ _=>rfl) _ _ h2,rfl⟩
theorem addT_zero:∀ (a z:List Int),a.length=z.length→(∀ x∈z,x=0)→addT a z=a
 | [],[],_,_=>rfl
 | a::l, z::m, h, hz=>by
   have h0:=hz z (by simp)
   simp only[List.length_cons] at h
   have ih:=addT_zero l m (by omega) fun x hx=>hz x (by simp [hx])
   unfold addT at ih ⊢
   rw[List.zipWith_cons_cons,ih,h0,Int.add_zero]
 | [],_::_,h,_=>by simp at h
 | _::_,[],h,_=>by simp at h
theorem backL_r (ρ:List (Nat × Nat)) (ver:Nat→Nat):∀ l:List RV,backL ρ ver (l.map AV.r)=l.map AV.r
 | []=>rfl
 | x::l=>by simp only[List.map_cons,backL,backA,backL_r ρ ver l]
theorem shA_back (ρ:List (Nat × Nat)) (ver:Nat→Nat) (beds le mo:List Int):backL ρ ver (shA beds le mo)=shA beds le mo:=backL_r ρ ver _
theorem lendL_r (ρ:List (Nat × Nat)) (ver:Nat→Nat):∀ l:List RV,lendL ρ ver (l.map AV.r)=some (l.map AV.r)
 | []=>rfl
 | x::l=>by simp only[List.map_cons,lendL,lendA,lendL_r ρ ver l]
theorem shA_lend (ρ:List (Nat × Nat)) (ver:Nat→Nat) (beds le mo:List Int):lendL ρ ver (shA beds le mo)=some (shA beds le mo):=lendL_r ρ ver _
theorem accL_nil:accL []=(false,zeroT,zeroT):=rfl
def leV (beds le ds:List Int) (n:Int):List Int:=if visitE beds ds n=0 then addT le (accL (truthsV beds ds n)).2.1 else le
def moV (beds mo ds:List Int) (n:Int):List Int:=if visitE beds ds n=0 then addT mo (accL (truthsV beds ds n)).2.2 else mo
theorem visit_ok (beds le mo ds:List Int) (n:Int) (hb:BedsOk beds) (hle:SmallT 3000 le) (hmo:SmallT 3000 mo) :
 MCalls Tryz.prog 16 [(1000,.box (shA beds le mo))] [(1000,.box (shA beds (leV beds le ds n) (moV beds mo ds n)))] [.pt 1000 0 0,.ag [.r (ints ds),.r (i64 n)]] (.r (i64 (visitE beds ds n))):=by
 refine mcalls_stO (n:=45) (rs:=[.r (i64 (visitE beds ds n))]) _ _ [.tmp 4] Tryz.func16 rfl (by kernel_rfl) Tryz.ntmps16 rfl (by simp) rfl rfl fun C hC=>?_
 refine awp_name 0 rfl fun u=>?_
 have hbl:=hb.1
 have fin:∀ l:List RV,frzPL [(1000,RowC.box (shA beds le mo))] (fun _=>⟨0,.dead⟩) (l.map AV.r):=fun l=>frzPL_r _ _ l
 apply zq
 refine zb fun K hK=>?_;simp only[go_sem];apply hK;refine zw (zfP 3 3 [ints ds,i64 n] (by omega) rfl rfl) ?_;apply zw (zk [0,3,4]);simp only[go_sem]
 apply zq
 refine zb fun K hK=>?_;simp only[go_sem]
 refine zh (known_ok u ds) rfl (by simp only[go_sem,i64,ints]) (by simp only[go_sem,i64,ints]) ?_
 (try simp only[go_sem]);apply hK;apply zw (zk [0,3,5]);simp only[go_sem]
 apply zq
 apply zd
 by_cases hds:ds=[]
 ·subst hds
  have e0:visitE beds [] n=if ¬ (0≤n∧n≤240) then 3 else if (threeT beds n).isEmpty then 9 else 0:=by simp [visitE,truthsV]
  have eL:∀ e,visitE beds [] n=e→e≠0→leV beds le [] n=le∧moV beds mo [] n=mo:=fun e h1 h2=>by
   unfold leV moV
   rw[if_neg (by rw[h1];exact h2),if_neg (by rw[h1];exact h2)]
   exact⟨rfl,rfl⟩
  apply zq
  refine zb fun K hK=>?_;simp only[go_sem,List.length_nil,bne_self_eq_false]
  intros
  apply hK;apply zw (zk [0,3,5,10]);simp only[go_sem]
  apply zc rfl<;>intro hc<;>(try simp only[go_sem] at hc)
  by_cases hn:0≤n∧n≤240
  ·have w1:withinL 0 240 [n]=true:=by simp [withinL];omega
   rw[if_neg (by simpa using hn)] at e0
   apply zq
   refine zb fun K hK=>?_;simp only[go_sem]
   refine zh (within_ok 0 240 [n]) rfl (by simp only[go_sem,i64,ints,w1]) (by simp only[go_sem,i64,ints,w1]) ?_
   (try simp only[go_sem,w1]);apply hK;apply zw (zk [0,3,5,26]);simp only[go_sem]
   apply zc rfl<;>intro hc<;>(try simp only[go_sem] at hc)
   apply zq
   refine zb fun K hK=>?_;simp only[go_sem,List.length_nil,beq_self_eq_true]
   intros
   apply hK;apply zw (zk [0,3,5,32]);simp only[go_sem]
   apply zc rfl<;>intro hc<;>(try simp only[go_sem] at hc)
   refine zb fun K hK=>?_;simp only[go_sem]
   refine zh (three_ok u n) rfl (by simp only[go_sem,i64,ints]) (by simp only[go_sem,i64,ints]) ?_
   (try simp only[go_sem]);apply hK;apply zw (zk [0,5]);simp only[go_sem]
   have hmut:=add_ok u beds le mo 68 [.rp [.vl u],.rp [i64 n]] [.rp [.rp (sheetR beds le mo)],.rp [i64 n]] (threeT beds n) hle hmo threeT_small (three1_ok beds le mo n hb) cap_three
   repeat apply zq
   refine zb fun K hK=>?_;simp only[go_sem]
   refine xcall_mut (hmut) [(1000,1000)] rfl (by simp only[go_sem,i64,ints,shA_lend,shA_back]) (by simp only[go_sem,i64,ints,shA_lend,shA_back]) (by rfl) (by rfl) ?_
   (try simp only[go_sem,shA_lend,shA_back]);apply hK
   try rw[shA_back]
   apply zw (zk [0,44]);simp only[go_sem]
   cases he:(threeT beds n).isEmpty
   ·have e1:visitE beds [] n=0:=by rw[e0,he];simp
    have eq1:leV beds le [] n=addT le (accL (threeT beds n)).2.1:=by unfold leV;rw[if_pos e1];rfl
    have eq2:moV beds mo [] n=addT mo (accL (threeT beds n)).2.2:=by unfold moV;rw[if_pos e1];rfl
    rw[e1,eq1,eq2]
    apply zc rfl<;>intro hc<;>(try simp only[go_sem] at hc)
    apply zx
    try simp only[go_sem]
    apply zq
    refine zb fun K hK=>?_;simp only[go_sem];apply hK;apply zw (zk [4]);simp only[go_sem];apply ze;simp only[go_sem];exact⟨frzPL_r _ _ _,congrArg RowC.box (frzL_r _ _ _)⟩
   ·have e1:visitE beds [] n=9:=by rw[e0,he];simp
    obtain⟨eq1,eq2⟩:=eL 9 e1 (by decide)
    have hnil:threeT beds n=[]:=List.isEmpty_iff.1 he
    rw[hnil,accL_nil,addT_zero le zeroT hle.1 (by decide),addT_zero mo zeroT hmo.1 (by decide),e1,eq1,eq2]
    apply zc rfl<;>intro hc<;>(try simp only[go_sem] at hc)
    apply zq
    refine zb fun K hK=>?_;simp only[go_sem];apply hK;apply zw (zk [4]);simp only[go_sem];apply ze;simp only[go_sem];exact⟨frzPL_r _ _ _,congrArg RowC.box (frzL_r _ _ _)⟩
  ·have w1:withinL 0 240 [n]=false:=by simp [withinL];omega
   rw[if_pos hn] at e0
   obtain⟨eq1,eq2⟩:=eL 3 e0 (by decide)
   rw[e0,eq1,eq2]
   apply zq
   refine zb fun K hK=>?_;simp only[go_sem]
   refine zh (within_ok 0 240 [n]) rfl (by simp only[go_sem,i64,ints,w1]) (by simp only[go_sem,i64,ints,w1]) ?_
   (try simp only[go_sem,w1]);apply hK;apply zw (zk [0,3,5,26]);simp only[go_sem]
   apply zc rfl<;>intro hc<;>(try simp only[go_sem] at hc)
   apply zq
   refine zb fun K hK=>?_;simp only[go_sem];apply hK;apply zw (zk [4]);simp only[go_sem];apply ze;simp only[go_sem];exact⟨frzPL_r _ _ _,congrArg RowC.box (frzL_r _ _ _)⟩
 ·have hl0:((ds.length:Int) != 0)=true:=by
   have:ds.length≠0:=fun e=>hds (List.eq_nil_of_length_eq_zero e)
   simpa using hds
  have eL:∀ e,visitE beds ds n=e→e≠0→leV beds le ds n=le∧moV beds mo ds n=mo:=fun e h1 h2=>by
   unfold leV moV
   rw[if_neg (by rw[h1];exact h2),if_neg (by rw[h1];exact h2)]
   exact⟨rfl,rfl⟩
  have hq0:((ds.length:Int) == 0)=false:=by simpa using hds
  by_cases h3:ds.length=3
  ·have c3:((ds.length:Int) != 3)=false:=by simp [h3]
   by_cases hn0:n=0
   ·subst hn0
    have e0:visitE beds ds 0=if (truthsK beds ds).isEmpty then 9 else 0:=by simp [visitE,truthsV,h3,hds]
    have w1:withinL 0 240 [0]=true:=by decide
    apply zq
    refine zb fun K hK=>?_;simp only[go_sem,hl0,c3,bne_self_eq_false]
    intros
    apply hK;apply zw (zk [0,3,5,10]);simp only[go_sem]
    apply zc rfl<;>intro hc<;>(try simp only[go_sem] at hc)
    apply zq
    refine zb fun K hK=>?_;simp only[go_sem]
    refine zh (within_ok 0 240 [0]) rfl (by simp only[go_sem,i64,ints,w1]) (by simp only[go_sem,i64,ints,w1]) ?_
    (try simp only[go_sem,w1]);apply hK;apply zw (zk [0,3,5,26]);simp only[go_sem]
    apply zc rfl<;>intro hc<;>(try simp only[go_sem] at hc)
    apply zq
    refine zb fun K hK=>?_;simp only[go_sem,hq0]
    intros
    apply hK;apply zw (zk [0,5,32]);simp only[go_sem]
    apply zc rfl<;>intro hc<;>(try simp only[go_sem] at hc)
    apply zx
    try simp only[go_sem]
    have hmut:=add_ok u beds le mo 64 [.rp [ints ds],.rp [.vl u]] [.rp [ints ds],.rp [.rp (sheetR beds le mo)]] (truthsK beds ds) hle hmo (truthsK_small h3) (by have h:=known1_ok beds ds le mo hbl (by omega);rw[knownXs_eq] at h;exact h) cap_known
    repeat apply zq
    refine zb fun K hK=>?_;simp only[go_sem]
    refine xcall_mut (hmut) [(1000,1000)] rfl (by simp only[go_sem,i64,ints,shA_lend,shA_back]) (by simp only[go_sem,i64,ints,shA_lend,shA_back]) (by rfl) (by rfl) ?_
    (try simp only[go_sem,shA_lend,shA_back]);apply hK
    try rw[shA_back]
    apply zw (zk [0,44]);simp only[go_sem]
    cases he:(truthsK beds ds).isEmpty
    ·have e1:visitE beds ds 0=0:=by rw[e0,he];simp
     have eq1:leV beds le ds 0=addT le (accL (truthsK beds ds)).2.1:=by unfold leV truthsV;rw[if_pos e1,if_neg hds]
     have eq2:moV beds mo ds 0=addT mo (accL (truthsK beds ds)).2.2:=by unfold moV truthsV;rw[if_pos e1,if_neg hds]
     rw[e1,eq1,eq2]
     apply zc rfl<;>intro hc<;>(try simp only[go_sem] at hc)
     apply zx
     try simp only[go_sem]
     apply zq
     refine zb fun K hK=>?_;simp only[go_sem];apply hK;apply zw (zk [4]);simp only[go_sem];apply ze;simp only[go_sem];exact⟨frzPL_r _ _ _,congrArg RowC.box (frzL_r _ _ _)⟩
    ·have e1:visitE beds ds 0=9:=by rw[e0,he];simp
     obtain⟨eq1,eq2⟩:=eL 9 e1 (by decide)
     have hnil:truthsK beds ds=[]:=List.isEmpty_iff.1 he
     rw[hnil,accL_nil,addT_zero le zeroT hle.1 (by decide),addT_zero mo zeroT hmo.1 (by decide),e1,eq1,eq2]
     apply zc rfl<;>intro hc<;>(try simp only[go_sem] at hc)
     apply zq
     refine zb fun K hK=>?_;simp only[go_sem];apply hK;apply zw (zk [4]);simp only[go_sem];apply ze;simp only[go_sem];exact⟨frzPL_r _ _ _,congrArg RowC.box (frzL_r _ _ _)⟩
   ·have cn:(n != 0)=true:=by simpa using hn0
    have e0:visitE beds ds n=4:=by simp [visitE,hds,hn0]
    obtain⟨eq1,eq2⟩:=eL 4 e0 (by decide)
    rw[e0,eq1,eq2]
    apply zq
    refine zb fun K hK=>?_;simp only[go_sem,hl0,c3,cn]
    intros
    apply hK;apply zw (zk [0,3,5,10]);simp only[go_sem]
    apply zc rfl<;>intro hc<;>(try simp only[go_sem] at hc)
    apply zq
    refine zb fun K hK=>?_;simp only[go_sem];apply hK;apply zw (zk [4]);simp only[go_sem];apply ze;simp only[go_sem];exact⟨frzPL_r _ _ _,congrArg RowC.box (frzL_r _ _ _)⟩
  ·have c3:((ds.length:Int) != 3)=true:=by
    have:(ds.length:Int)≠3:=by omega
    simpa using this
   have e0:visitE beds ds n=4:=by simp [visitE,hds,h3]
   obtain⟨eq1,eq2⟩:=eL 4 e0 (by decide)
   rw[e0,eq1,eq2]
   apply zq
   refine zb fun K hK=>?_;simp only[go_sem,hl0,c3]
   intros
   apply hK;apply zw (zk [0,3,5,10]);simp only[go_sem]
   apply zc rfl<;>intro hc<;>(try simp only[go_sem] at hc)
   apply zq
   refine zb fun K hK=>?_;simp only[go_sem];apply hK;apply zw (zk [4]);simp only[go_sem];apply ze;simp only[go_sem];exact⟨frzPL_r _ _ _,congrArg RowC.box (frzL_r _ _ _)⟩
set_option maxHeartbeats 1000000
structure Vi where
 ds:List Int
 n:Int
abbrev viC (v:Vi):List RV:=[ints v.ds,i64 v.n]
abbrev visR (l:List Vi):RV:=.sl 2 (l.map viC)
def runF (bs:List Int):List Int→List Int→Nat→List Vi→List Int × List Int × Option (Nat × Int)
 | le,mo,_,[]=>(le,mo,none)
 | le,mo,i,v::l=>if visitE bs v.ds v.n=0 then runF bs (leV bs le v.ds v.n) (moV bs mo v.ds v.n) (i+1) l else (le,mo,some (i,visitE bs v.ds v.n))
def bedAt (bs le mo:List Int) (i:Nat):Bd:=⟨bs.getD i 0,le.getD i 0,mo.getD i 0⟩
def fitV (a:Am) (l:List Vi):Am × Int × Int × Int :=
 if 10<a.beds.length then (⟨0,[]⟩,0,0,5) else if (bedOk a.at_ && !a.beds.isEmpty&&seqOk none a.beds)=false then (⟨0,[]⟩,0,0,2) else if l=[] then (⟨0,[]⟩,0,0,7) else if 1000<l.length then (⟨0,[]⟩,0,0,5) else
 match runF (a.beds.map (·.b)) zeroT zeroT 0 l with
 | (_,_,some (i,e))=>(⟨0,[]⟩,0,i,e)
 | (le,mo,none)=>(⟨a.at_,(List.range a.beds.length).map (bedAt (a.beds.map (·.b)) le mo)⟩,3*l.length,0,0)
theorem SmallT.mono {b c:Int}{t:List Int}(h:SmallT b t) (hc:b≤c):SmallT c t:=⟨h.1,fun x hx=>by have:=h.2 x hx;omega⟩
theorem truthsV_small {bs ds:List Int}{n:Int}(h:visitE bs ds n=0):∀ t∈truthsV bs ds n,SmallT 3 t:=by
 unfold truthsV
 split
 ·exact threeT_small
 ·rename_i hds
  refine truthsK_small ?_
  unfold visitE at h
  split at h
  ·cases h
  ·rename_i h1
   have:¬ (ds.length≠3):=fun h2=>h1 ⟨hds,.inl h2⟩
   omega
theorem addT_small {b c:Int}{s t:List Int}(h1:SmallT b s) (h2:SmallT c t):SmallT (b+c) (addT s t):=by
 refine⟨by unfold addT;rw[List.length_zipWith,h1.1,h2.1];rfl,fun x hx=>?_⟩
 obtain⟨y,hy,z,hz,rfl⟩:=mem_zipW hx
 have:=h1.2 y hy
 have:=h2.2 z hz
 omega
theorem leV_small {b:Int}{bs le ds:List Int}{n:Int}(h:SmallT b le):SmallT (b+3) (leV bs le ds n)∧True:=by
 refine⟨?_,trivial⟩
 unfold leV
 split
 ·rename_i h0
  exact addT_small h (accL_small (by omega) _ (truthsV_small h0)).1
 ·exact h.mono (by omega)
theorem moV_small {b:Int}{bs mo ds:List Int}{n:Int}(h:SmallT b mo):SmallT (b+3) (moV bs mo ds n):=by
 unfold moV
 split
 ·rename_i h0
  exact addT_small h (accL_small (by omega) _ (truthsV_small h0)).2
 ·exact h.mono (by omega)
theorem bedOk_le {b:Int}(h:bedOk b=true):0≤b∧b≤499:=by
 simp only[bedOk,Bool.or_eq_true,Bool.and_eq_true,decide_eq_true_eq] at h
 omega
theorem seqOk_le:∀ {l:List Bd}{p:Option Int},seqOk p l=true→∀ x∈l,0≤x.b∧x.b≤499
 | [],_,_=>by simp
 | y::l, p, h=>by
   simp only[seqOk,Bool.and_eq_true,Bool.or_eq_true,decide_eq_true_eq] at h
   intro x hx
   rcases List.mem_cons.1 hx with rfl|hx
   ·rcases h.1.1 with h1|h1
    ·omega
    ·exact bedOk_le h1
   ·exact seqOk_le h.2 x hx
theorem fit_ok (a:Am) (l:List Vi) (hw:WfA a):ACalls Tryz.prog 7 [aimV a,visR l] (.tu [aimV (fitV a l).1,i64 (fitV a l).2.1,i64 (fitV a l).2.2.1,i64 (fitV a l).2.2.2]):=by
 refine zas (rs:=[aimV (fitV a l).1,i64 (fitV a l).2.1,i64 (fitV a l).2.2.1,i64 (fitV a l).2.2.2]) [.cell 4 34,.tmp 5,.tmp 6,.tmp 7] Tryz.func7 rfl (by kernel_rfl) Tryz.ntmps7 rfl (by simp) rfl fun C vs=>?_
 apply zq
 refine zb fun K hK=>?_;simp only[go_sem];apply hK;refine zw (zfP 2 2 (aimR a) (by omega) rfl rfl) ?_;apply zw (zk [1,2,4]);simp only[go_sem]
 apply zq
 refine zb fun K hK=>?_;simp only[go_sem,aimR];apply hK;refine zw (zfP 8 8 [i64 a.at_,bedsR a.beds,i64 0] (by omega) rfl rfl) ?_;apply zw (zk [1,2,4,8]);simp only[go_sem]
 apply zq
 apply zd
 by_cases h1:10<a.beds.length
 ·have c1:decide ((10:Int)<(a.beds.length:Int))=true:=by simp;omega
  have hv:fitV a l=(⟨0,[]⟩,0,0,5):=by rw[fitV,if_pos h1]
  rw[hv]
  apply zq
  refine zb fun K hK=>?_;simp only[go_sem,c1,aimR]
  intros
  apply hK;apply zw (zk [1,2,4,8,19]);simp only[go_sem]
  apply zc rfl<;>intro hc<;>(try simp only[go_sem] at hc)
  apply zq
  refine zb fun K hK=>?_;simp only[go_sem];apply hK;apply zw (zk [4,5,6,7]);simp only[go_sem];apply ze;simp only[go_sem]
 have c1:decide ((10:Int)<(a.beds.length:Int))=false:=by simp;omega
 apply zq
 refine zb fun K hK=>?_;simp only[go_sem,c1,aimR]
 intros
 apply hK;apply zw (zk [1,2,4,8,19]);simp only[go_sem]
 apply zc rfl<;>intro hc<;>(try simp only[go_sem] at hc)
 apply zq
 refine zb fun K hK=>?_;simp only[go_sem]
 refine zh (areBeds_ok a.at_ a.beds 0 hw.1 hw.2) rfl (by simp only[go_sem,i64,ints]) (by simp only[go_sem,i64,ints]) ?_
 (try simp only[go_sem]);apply hK;apply zw (zk [1,2,4,25]);simp only[go_sem]
 cases h2:(bedOk a.at_ && !a.beds.isEmpty&&seqOk none a.beds)
 ·have hv:fitV a l=(⟨0,[]⟩,0,0,2):=by rw[fitV,if_neg h1,if_pos h2]
  rw[hv]
  apply zc rfl<;>intro hc<;>(try simp only[go_sem] at hc)
  apply zq
  refine zb fun K hK=>?_;simp only[go_sem];apply hK;apply zw (zk [4,5,6,7]);simp only[go_sem];apply ze;simp only[go_sem]
 apply zc rfl<;>intro hc<;>(try simp only[go_sem] at hc)
 by_cases h3:l=[]
 ·have c3:((l.length:Int) == 0)=true:=by simp [h3]
  have hv:fitV a l=(⟨0,[]⟩,0,0,7):=by rw[fitV,if_neg h1,if_neg (by rw[h2];decide),if_pos h3]
  rw[hv]
  apply zq
  refine zb fun K hK=>?_;simp only[go_sem,c3]
  intros
  apply hK;apply zw (zk [1,2,4,30]);simp only[go_sem]
  apply zc rfl<;>intro hc<;>(try simp only[go_sem] at hc)
  apply zq
  refine zb fun K hK=>?_;simp only[go_sem];apply hK;apply zw (zk [4,5,6,7]);simp only[go_sem];apply ze;simp only[go_sem]
 have c3:((l.length:Int) == 0)=false:=by simpa using h3
 apply zq
 refine zb fun K hK=>?_;simp only[go_sem,c3]
 intros
 apply hK;apply zw (zk [1,2,4,30]);simp only[go_sem]
 apply zc rfl<;>intro hc<;>(try simp only[go_sem] at hc)
 by_cases h4:1000<l.length
 ·have c4:decide ((1000:Int)<(l.length:Int))=true:=by simp;omega
  have hv:fitV a l=(⟨0,[]⟩,0,0,5):=by rw[fitV,if_neg h1,if_neg (by rw[h2];decide),if_neg h3,if_pos h4]
  rw[hv]
  apply zq
  refine zb fun K hK=>?_;simp only[go_sem,c4]
  intros
  apply hK;apply zw (zk [1,2,4,35]);simp only[go_sem]
  apply zc rfl<;>intro hc<;>(try simp only[go_sem] at hc)
  apply zq
  refine zb fun K hK=>?_;simp only[go_sem];apply hK;apply zw (zk [4,5,6,7]);simp only[go_sem];apply ze;simp only[go_sem]
 have c4:decide ((1000:Int)<(l.length:Int))=false:=by simp;omega
 apply zq
 refine zb fun K hK=>?_;simp only[go_sem,c4]
 intros
 apply hK;apply zw (zk [1,2,4,35]);simp only[go_sem]
 apply zc rfl<;>intro hc<;>(try simp only[go_sem] at hc)
 apply zx
 try simp only[go_sem]
 have hV:fitV a l=match runF (a.beds.map (·.b)) zeroT zeroT 0 l with
  | (_,_,some (i,e))=>(⟨0,[]⟩,0,i,e)
  | (le,mo,none)=>(⟨a.at_,(List.range a.beds.length).map (bedAt (a.beds.map (·.b)) le mo)⟩,3*l.length,0,0):=by
  rw[fitV,if_neg h1,if_neg (by rw[h2];decide),if_neg h3,if_neg h4]
 have hseq:seqOk none a.beds=true:=by
  simp only[Bool.and_eq_true] at h2
  exact h2.2
 have hle:=seqOk_le hseq
 obtain⟨bs,hbs⟩:∃ bs,bs=a.beds.map (·.b):=⟨_,rfl⟩
 have hbl:bs.length=a.beds.length:=by rw[hbs];simp
 have hbo:BedsOk bs:=⟨by omega,fun b hb=>by
  rw[hbs] at hb
  obtain⟨x,hx,rfl⟩:=List.mem_map.1 hb
  exact hle x hx⟩
 rw[← hbs] at hV
 apply zq
 refine zb fun K hK=>?_;simp only[go_sem];apply hK;apply zw (zk [1,2,4,9]);simp only[go_sem]
 repeat apply zq
 refine zb fun K hK=>?_;simp only[go_sem,aimR]
 intros
 apply hK;apply zw (zk [1,2,4,9,43,44,45]);simp only[go_sem];apply zd;refine zw (sub_ownB 41 0 57 31 1 (by omega) (by omega) rfl rfl) ?_
 try simp only[go_sem]
 refine zuv (n:=115) a.beds.length (fun i vs=>[(1,.r (visR l)),(2,.r (.rp [i64 a.at_,bedsR a.beds])),(4,.pt 4 (vs 4) 0),(9,.pt 41 (vs 41) 0),(43,.r (bedsR a.beds)),(44,.r (i64 a.beds.length)),(45,.r (i64 i))])
  (fun i vs=>[(4,.box [.r (i64 0),.r .ns]),(41,.box (.os 57 (vs 57) 1 0 i::(tA zeroT++tA zeroT))),(57,.arr 31 1 ((bs.take i).map fun x=>[i64 x]))]) (fun _=>True) 0 (zj [8] ?_ ?_) (Nat.zero_le _) trivial ?_
 ·try simp only[go_sem]
 ·try simp only[go_sem]
  try simp
 ·intro i vs hi _
  apply zq
  refine zb fun K hK=>?_;simp only[go_sem];apply hK;apply zw (zk [1,2,4,9,43,44,45,46]);simp only[go_sem]
  apply zq
  apply zc rfl<;>intro hc<;>(try simp only[go_sem] at hc)
  ·have hci:=hc
   obtain⟨x,hx⟩:=zol hci
   have hbx:bs[i]? = some x.b:=by rw[hbs,List.getElem?_map,hx];rfl
   have htl:(bs.take i).length=i:=by rw[List.length_take];omega
   apply zx
   try simp only[go_sem]
   apply zq
   apply zd
   apply zq
   refine zb fun K hK=>?_;simp only[go_sem,hx,hci,bedR];apply hK;apply zw (zk [1,2,4,9,11,43,44,45]);simp only[go_sem]
   refine awp_dreg3 [(9,some 41),(11,some 11)] [41,11] follows (by decide +kernel) (by kernel_rfl) (by simp only[keysOk,List.mem_cons,List.not_mem_nil,forall_eq_or_imp,Oc.keyOf,go_sem];simp) (by intro k hk;simp only[List.mem_cons,List.not_mem_nil,or_false] at hk;first|(subst hk;exact⟨_,rfl⟩)|(rcases hk with rfl|rfl<;>exact⟨_,rfl⟩)|(rcases hk with rfl|rfl|rfl<;>exact⟨_,rfl⟩)) fun K hK=>?_
   simp only[go_sem,htl,List.length_map]
   refine⟨⟨by omega,by omega⟩,?_⟩
   apply hK;apply zw (zk [1,2,4,9,43,44,45]);simp only[go_sem];refine zb fun K hK=>?_;simp only[go_sem];(try simp (disch:=omega) only[zI]);apply hK
   try simp only[go_sem]
   refine⟨hci,zj [11] ?_ ?_⟩
   ·try simp only[go_sem]
   ·try simp only[go_sem]
    rw[zto hbx]
    simp
  ·have hil:i=a.beds.length:=by omega
   subst hil
   have etk:bs.take a.beds.length=bs:=by rw[← hbl,List.take_length]
   have etl:List.take a.beds.length (bs.map fun x=>[i64 x])=bs.map fun x=>[i64 x]:=List.take_of_length_le (by rw[List.length_map];omega)
   rw[etk]
   apply zf;simp only[go_sem];refine zw (sub_frzB 41 0 57 (by omega) (by omega) rfl rfl rfl (by rw[List.length_map];omega)) ?_;simp only[go_sem,List.drop_zero,etl,List.set_cons_zero]
   have esh:(AV.r (RV.sl 1 (bs.map fun x=>[i64 x]))::(tA zeroT++tA zeroT))=shA bs zeroT zeroT:=(shA_eq bs zeroT zeroT).symm
   rw[esh]
   apply zw (zk [1,2,4,9]);simp only[go_sem]
   repeat apply zq
   refine zb fun K hK=>?_;simp only[go_sem]
   intros
   apply hK;apply zw (zk [1,2,4,9,61,62,63]);simp only[go_sem];apply zd
   refine awp_whileV (n:=115) (fun (y:Nat × List Int × List Int) vs=>[(1,.r (visR l)),(2,.r (.rp [i64 a.at_,bedsR a.beds])),(4,.pt 4 (vs 4) 0),(9,.pt 41 (vs 41) 0),(61,.r (visR l)),(62,.r (i64 l.length)),(63,.r (i64 y.1))])
    (fun y vs=>[(4,.box [.r (i64 0),.r .ns]),(41,.box (shA bs y.2.1 y.2.2))])
    (fun y=>y.1≤l.length∧SmallT (3*(y.1:Int)) y.2.1∧SmallT (3*(y.1:Int)) y.2.2∧runF bs zeroT zeroT 0 l=runF bs y.2.1 y.2.2 y.1 (l.drop y.1)) (fun y=>l.length-y.1) (0,zeroT,zeroT) (zj [] ?_ ?_) ⟨Nat.zero_le _,zeroT_small (by simp),zeroT_small (by simp),rfl⟩ ?_
   ·try simp only[go_sem]
   ·try simp only[go_sem]
   ·rintro ⟨i,le,mo⟩ vs ⟨hi,hs1,hs2,hR⟩
    simp only at hi hs1 hs2 hR
    have hlel:=hs1.1
    have hmol:=hs2.1
    apply zq
    refine zb fun K hK=>?_;simp only[go_sem];apply hK;apply zw (zk [1,2,4,9,61,62,63,64]);simp only[go_sem]
    apply zq
    apply zc rfl<;>intro hc<;>(try simp only[go_sem] at hc)
    ·have hci:i<l.length:=by first|exact hc|omega
     obtain⟨v,hx⟩:=zol hci
     rw[drop_of_opt hx,runF] at hR
     apply zx
     try simp only[go_sem]
     apply zq
     apply zd
     apply zq
     refine zb fun K hK=>?_;simp only[go_sem,hx,hci];apply hK;apply zw (zk [1,2,4,9,12,13,61,62,63]);simp only[go_sem]
     apply zq
     refine zb fun K hK=>?_;simp only[go_sem]
     refine xcall_mut (visit_ok bs le mo v.ds v.n hbo (hs1.mono (by omega)) (hs2.mono (by omega))) [(1000,41)] rfl (by simp only[go_sem,i64,ints,shA_lend,shA_back]) (by simp only[go_sem,i64,ints,shA_lend,shA_back]) (by rfl) (by rfl) ?_
     (try simp only[go_sem,shA_lend,shA_back]);apply hK;apply zw (zk [1,2,4,9,12,14,61,62,63]);simp only[go_sem]
     by_cases hv0:visitE bs v.ds v.n=0
     ·have c5:(visitE bs v.ds v.n != 0)=false:=by simp [hv0]
      rw[if_pos hv0] at hR
      apply zq
      refine zb fun K hK=>?_;simp only[go_sem,c5];apply hK;apply zw (zk [1,2,4,9,12,14,61,62,63,72]);simp only[go_sem]
      apply zc rfl<;>intro hc<;>(try simp only[go_sem] at hc)
      apply zx
      try simp only[go_sem]
      refine zb fun K hK=>?_;simp only[go_sem];(try simp (disch:=omega) only[zI]);apply hK
      try simp only[go_sem]
      refine⟨(i+1,leV bs le v.ds v.n,moV bs mo v.ds v.n),⟨by omega,?_,?_,hR⟩,by simp only;omega,zj [13] ?_ ?_⟩
      ·have:=(leV_small (bs:=bs) (ds:=v.ds) (n:=v.n) hs1).1
       simpa [Int.mul_add] using this
      ·have:=moV_small (bs:=bs) (ds:=v.ds) (n:=v.n) hs2
       simpa [Int.mul_add] using this
      ·try simp only[go_sem]
      ·try simp only[go_sem]
     ·have c5:(visitE bs v.ds v.n != 0)=true:=by simpa using hv0
      rw[if_neg hv0] at hR
      have hv:fitV a l=(⟨0,[]⟩,0,(i:Int),visitE bs v.ds v.n):=by rw[hV,hR]
      rw[hv]
      apply zq
      refine zb fun K hK=>?_;simp only[go_sem,c5];apply hK;apply zw (zk [1,2,4,9,12,14,61,62,63,72]);simp only[go_sem]
      apply zc rfl<;>intro hc<;>(try simp only[go_sem] at hc)
      apply zq
      refine zb fun K hK=>?_;simp only[go_sem];apply hK;apply zw (zk [4,5,6,7]);simp only[go_sem];apply ze;simp only[go_sem]
    ·have hil:i=l.length:=by omega
     subst hil
     rw[List.drop_length,runF] at hR
     have hv:fitV a l=(⟨a.at_,(List.range a.beds.length).map (bedAt bs le mo)⟩,3*(l.length:Int),0,0):=by rw[hV,hR]
     rw[hv]
     have hll:l.length≤1000:=by omega
     apply zf;simp only[go_sem];refine zw (zfP 9 41 (sheetR bs le mo) (by omega) rfl rfl) ?_
     try simp only[go_sem]
     apply zw (zk [1,2,4,9]);simp only[go_sem]
     apply zq
     refine zb fun K hK=>?_;simp only[go_sem];apply hK;apply zw (zk [1,4,9]);simp only[go_sem]
     repeat apply zq
     refine zb fun K hK=>?_;simp only[go_sem,hbl]
     intros
     apply hK;apply zw (zk [1,4,9,83,84,85]);simp only[go_sem];apply zd;refine zw (sub_ownB 4 1 108 39 3 (by omega) (by omega) rfl rfl) ?_
     try simp only[go_sem]
     refine zuv (n:=115) a.beds.length (fun k vs=>[(1,.r (visR l)),(4,.pt 4 (vs 4) 0),(9,.r (.rp (sheetR bs le mo))),(83,.r (ints bs)),(84,.r (i64 a.beds.length)),(85,.r (i64 k))])
      (fun k vs=>[(4,.box [.r (i64 a.at_),.os 108 (vs 108) 3 0 k]),(108,.arr 39 3 (((List.range k).map (bedAt bs le mo)).map bedR))]) (fun _=>True) 0 (zj [13] ?_ ?_) (Nat.zero_le _) trivial ?_
     ·try simp only[go_sem]
     ·try simp only[go_sem]
      try simp
     ·intro k vs hk _
      apply zq
      refine zb fun K hK=>?_;simp only[go_sem];apply hK;apply zw (zk [1,4,9,83,84,85,86]);simp only[go_sem]
      apply zq
      apply zc rfl<;>intro hc<;>(try simp only[go_sem] at hc)
      ·have hck:k<a.beds.length:=by first|exact hc|omega
       have hkb:k<bs.length:=by omega
       obtain⟨b,hbx⟩:=zol hkb
       obtain⟨x,hxl⟩:=zol (l:=le) (i:=k) (by omega)
       obtain⟨y,hyl⟩:=zol (l:=mo) (i:=k) (by omega)
       have hat:bedAt bs le mo k=⟨b,x,y⟩:=by simp [bedAt,List.getD_eq_getElem?_getD,hbx,hxl,hyl]
       have hrl:((List.range k).map (bedAt bs le mo)).length=k:=by simp
       have hk10:(k:Int)<10:=by omega
       have d1:List.drop k (tR le++tR mo)=i64 x::List.drop (k+1) (tR le++tR mo):=drop_of_opt (by
        rw[List.getElem?_append_left (by simp;omega)]
        simp [hxl])
       have d0:List.drop 10 (tR le++tR mo)=tR mo:=by
        rw[List.drop_append_of_le_length (by simp;omega),List.drop_of_length_le (by simp;omega),List.nil_append]
       have d2:List.drop k (tR mo)=i64 y::List.drop (k+1) (tR mo):=drop_of_opt (by simp [hyl])
       have hL20:(tR le++tR mo).length=20:=by simp;omega
       apply zx
       try simp only[go_sem]
       apply zq
       apply zd
       apply zq
       refine zb fun K hK=>?_;simp only[go_sem,hbx,hkb];apply hK;apply zw (zk [1,4,9,15,16,83,84,85]);simp only[go_sem]
       refine awp_dreg3 [(4,some 4),(9,none)] [4] follows (by decide +kernel) (by kernel_rfl) (by simp only[keysOk,List.mem_cons,List.not_mem_nil,forall_eq_or_imp,Oc.keyOf,go_sem];simp) (by intro k hk;simp only[List.mem_cons,List.not_mem_nil,or_false] at hk;first|(subst hk;exact⟨_,rfl⟩)|(rcases hk with rfl|rfl<;>exact⟨_,rfl⟩)|(rcases hk with rfl|rfl|rfl<;>exact⟨_,rfl⟩)) fun K hK=>?_
       simp only[go_sem,Nat.mul_one,hrl,List.length_map,d0,d1,d2,hL20,List.headD_cons,List.length_cons]
       refine⟨by omega,by omega,⟨by omega,by omega⟩,?_⟩
       apply hK;apply zw (zk [1,4,9,83,84,85]);simp only[go_sem];refine zb fun K hK=>?_;simp only[go_sem];(try simp (disch:=omega) only[zI]);apply hK
       try simp only[go_sem]
       refine⟨hck,zj [] ?_ ?_⟩
       ·try simp only[go_sem]
       ·try simp only[go_sem]
        simp [List.range_succ,hat,bedR]
      ·have hkl:k=a.beds.length:=by omega
       subst hkl
       have etl2:List.take a.beds.length (((List.range a.beds.length).map (bedAt bs le mo)).map bedR)=((List.range a.beds.length).map (bedAt bs le mo)).map bedR:=List.take_of_length_le (by simp)
       apply zf;simp only[go_sem];refine zw (sub_frzB 4 1 108 (by omega) (by omega) rfl rfl rfl (by simp)) ?_;simp only[go_sem,List.drop_zero,etl2,List.set_cons_succ,List.set_cons_zero];apply zw (zk [1,4]);simp only[go_sem]
       apply zq
       refine zb fun K hK=>?_;simp only[go_sem];(try simp (disch:=omega) only[zI])
       intros
       apply hK;apply zw (zk [4,5,6,7]);simp only[go_sem];apply ze;simp only[go_sem]
       done
def Len10 (xs:List (List Int)):Prop:=∀ t∈xs,SmallT 3 t
theorem getD_zipWith {f:Int→Int→Int}{a b:List Int}{k:Nat}(h1:k<a.length) (h2:k<b.length):(List.zipWith f a b).getD k 0=f (a.getD k 0) (b.getD k 0):=by
 simp [List.getD_eq_getElem?_getD,List.getElem?_zipWith,List.getElem?_eq_getElem h1,List.getElem?_eq_getElem h2]
theorem accL_len {xs:List (List Int)}(h:Len10 xs):(accL xs).2.1.length=10∧(accL xs).2.2.length=10:=by
 obtain⟨h1,h2⟩:=accL_small (b:=3) (by omega) xs h
 exact⟨h1.1,h2.1⟩
theorem accL_least {k:Nat}(hk:k<10):∀ (n:Nat) (xs:List (List Int)),xs.length=n→xs≠[]→Len10 xs →
 (∃ t∈xs,t.getD k 0=(accL xs).2.1.getD k 0)∧∀ t∈xs,(accL xs).2.1.getD k 0≤t.getD k 0:=by
 intro n
 induction n with
 | zero=>intro xs h0 hne;exact absurd (List.length_eq_zero_iff.1 h0) hne
 | succ n ih =>
   intro xs hl hne hs
   rcases List.eq_nil_or_concat xs with rfl|⟨ys,t,rfl⟩
   ·exact absurd rfl hne
   rw[List.concat_eq_append] at *
   have ht:=hs t (by simp)
   have hys:Len10 ys:=fun x hx=>hs x (by simp [hx])
   rw[accL_snoc]
   simp only[accT]
   cases ys with
   | nil=>simp [accL,leastT]
   | cons y ys =>
     obtain⟨⟨u,hu,e⟩,hle⟩:=ih (y::ys) (by simpa using hl) (by simp) hys
     have hb:(accL (y::ys)).1=true:=by rw[accL_some];rfl
     have hlen:=(accL_len hys).1
     simp only[hb,leastT,if_true]
     rw[getD_zipWith (by omega) (by rw[ht.1];omega)]
     refine⟨?_,fun x hx=>?_⟩
     ·by_cases hc:(accL (y::ys)).2.1.getD k 0≤t.getD k 0
      ·exact⟨u,List.mem_append_left _ hu,by rw[e];omega⟩
      ·exact⟨t,by simp,by omega⟩
     ·rcases List.mem_append.1 hx with hx|hx
      ·have:=hle x hx;omega
      ·have:x=t:=by simpa using hx
       subst this;omega
theorem getD_nonneg {t:List Int}(h:SmallT 3 t) (k:Nat):0≤t.getD k 0:=by
 by_cases hk:k<t.length
 ·have:=h.2 (t.getD k 0) (by rw[List.getD_eq_getElem?_getD,List.getElem?_eq_getElem hk];simp)
  exact this.1
 ·rw[List.getD_eq_getElem?_getD,List.getElem?_eq_none (by omega)];simp
theorem accL_most {k:Nat}(hk:k<10):∀ (n:Nat) (xs:List (List Int)),xs.length=n→xs≠[]→Len10 xs →
 (∃ t∈xs,t.getD k 0=(accL xs).2.2.getD k 0)∧∀ t∈xs,t.getD k 0≤(accL xs).2.2.getD k 0:=by
 intro n
 induction n with
 | zero=>intro xs h0 hne;exact absurd (List.length_eq_zero_iff.1 h0) hne
 | succ n ih =>
   intro xs hl hne hs
   rcases List.eq_nil_or_concat xs with rfl|⟨ys,t,rfl⟩
   ·exact absurd rfl hne
   rw[List.concat_eq_append] at *
   have ht:=hs t (by simp)
   have hys:Len10 ys:=fun x hx=>hs x (by simp [hx])
   have hn:=getD_nonneg ht k
   rw[accL_snoc]
   simp only[accT,mostT]
   cases ys with
   | nil =>
     rw[getD_zipWith (by rw[(accL_len (xs:=[]) (by simp [Len10])).2];omega) (by rw[ht.1];omega)]
     have hz:(accL []).2.2.getD k 0=0:=by
      simp only[accL,List.foldl_nil]
      rcases k with _|_|_|_|_|_|_|_|_|_|k<;>first|rfl|omega
     rw[hz]
     refine⟨⟨t,by simp,by omega⟩,fun x hx=>?_⟩
     have:x=t:=by simpa using hx
     subst this;omega
   | cons y ys =>
     obtain⟨⟨u,hu,e⟩,hle⟩:=ih (y::ys) (by simpa using hl) (by simp) hys
     have hlen:=(accL_len hys).2
     rw[getD_zipWith (by omega) (by rw[ht.1];omega)]
     refine⟨?_,fun x hx=>?_⟩
     ·by_cases hc:t.getD k 0≤(accL (y::ys)).2.2.getD k 0
      ·exact⟨u,List.mem_append_left _ hu,by rw[e];omega⟩
      ·exact⟨t,by simp,by omega⟩
     ·rcases List.mem_append.1 hx with hx|hx
      ·have:=hle x hx;omega
      ·have:x=t:=by simpa using hx
       subst this;omega
theorem incT_comm (t:List Int) (i k:Nat):incT (incT t i) k=incT (incT t k) i:=by
 by_cases h:i=k
 ·rw[h]
 ·have hg:∀ (t:List Int) (i k:Nat),i≠k→(t.set i (t.getD i 0+1)).getD k 0=t.getD k 0:=by
   intro t i k h
   rw[List.getD_eq_getElem?_getD,List.getElem?_set_ne h,List.getD_eq_getElem?_getD]
  unfold incT
  rw[hg t i k h,hg t k i (Ne.symm h)]
  exact List.set_comm _ _ h
theorem tally3_12 (i k m:Nat):tally3 i k m=tally3 k i m:=by unfold tally3;rw[incT_comm zeroT]
theorem tally3_23 (i k m:Nat):tally3 i k m=tally3 i m k:=by unfold tally3;rw[incT_comm (incT zeroT i)]
theorem mem_rangeDrop {N m x:Nat}:x∈(List.range N).drop m↔m≤x∧x<N:=by
 rw[List.mem_iff_getElem?]
 constructor
 ·rintro ⟨i,hi⟩
  rw[List.getElem?_drop] at hi
  obtain⟨h1,h2⟩:=List.getElem?_eq_some_iff.1 hi
  simp at h1 h2
  omega
 ·rintro ⟨h1,h2⟩
  refine⟨x-m,?_⟩
  rw[List.getElem?_drop,show m+(x-m)=x by omega,List.getElem?_range h2]
def sum3 (beds:List Int) (x y z:Nat):Int:=scoreOf (beds.getD x 0)+scoreOf (beds.getD y 0)+scoreOf (beds.getD z 0)
theorem mem_three {beds:List Int}{n:Int}{t:List Int}:t∈threeT beds n↔∃ i k m,i≤k∧k≤m∧m<beds.length∧sum3 beds i k m=n∧t=tally3 i k m:=by
 simp only[threeT,rowI,rowK,rowM,List.mem_flatMap,mem_rangeDrop,cell3,sum3]
 constructor
 ·rintro ⟨i,hi,k,hk,m,hm,ht⟩
  split at ht
  ·exact⟨i,k,m,hk.1,hm.1,hm.2,by assumption,by simpa using ht⟩
  ·simp at ht
 ·rintro ⟨i,k,m,h1,h2,h3,h4,rfl⟩
  refine⟨i,⟨by omega,by omega⟩,k,⟨by omega,by omega⟩,m,⟨by omega,by omega⟩,?_⟩
  rw[if_pos h4]
  simp
theorem sum3_12 (beds:List Int) (x y z:Nat):sum3 beds x y z=sum3 beds y x z:=by unfold sum3;omega
theorem sum3_23 (beds:List Int) (x y z:Nat):sum3 beds x y z=sum3 beds x z y:=by unfold sum3;omega
theorem mem_three' {beds:List Int}{n:Int}{t:List Int}:t∈threeT beds n↔∃ x y z,x<beds.length∧y<beds.length∧z<beds.length∧sum3 beds x y z=n∧t=tally3 x y z:=by
 rw[mem_three]
 constructor
 ·rintro ⟨i,k,m,h1,h2,h3,h4,h5⟩
  exact⟨i,k,m,by omega,by omega,h3,h4,h5⟩
 ·rintro ⟨x,y,z,h1,h2,h3,h4,rfl⟩
  by_cases a:x≤y
  ·by_cases b:y≤z
   ·exact⟨x,y,z,a,b,h3,h4,rfl⟩
   ·by_cases c:x≤z
    ·exact⟨x,z,y,c,by omega,h2,by rw[← sum3_23];exact h4,tally3_23 _ _ _⟩
    ·exact⟨z,x,y,by omega,a,h2,by rw[sum3_12,← sum3_23];exact h4,by rw[tally3_23,tally3_12]⟩
  ·by_cases b:x≤z
   ·exact⟨y,x,z,by omega,b,h3,by rw[← sum3_12];exact h4,tally3_12 _ _ _⟩
   ·by_cases c:y≤z
    ·exact⟨y,z,x,c,by omega,h1,by rw[← sum3_23,← sum3_12];exact h4,by rw[tally3_12,tally3_23]⟩
    ·exact⟨z,y,x,by omega,by omega,h1,by rw[sum3_12,← sum3_23,← sum3_12];exact h4,by rw[tally3_12,tally3_23,tally3_12]⟩
def hasV (beds ds:List Int) (n:Int) (x y z:Nat):Bool :=
 if ds=[] then decide (sum3 beds x y z=n) else decide (ds.getD 0 0=beds.getD x 0)&&decide (ds.getD 1 0=beds.getD y 0)&&decide (ds.getD 2 0=beds.getD z 0)
def tripT (beds ds:List Int) (n:Int) (i:Nat):List (List Int) :=
 let N:=beds.length
 if hasV beds ds n (i / N / N) (i / N % N) (i % N) then [tally3 (i / N / N) (i / N % N) (i % N)] else []
def refTs (beds ds:List Int) (n:Int) (i:Nat):List (List Int):=(List.range i).flatMap (tripT beds ds n)
theorem mem_refTs {beds ds:List Int}{n:Int}{t:List Int}:t∈refTs beds ds n (beds.length*beds.length*beds.length)↔∃ x y z,x<beds.length∧y<beds.length∧z<beds.length∧hasV beds ds n x y z=true∧t=tally3 x y z:=by
 simp only[refTs,List.mem_flatMap,tripT,List.mem_range]
 generalize beds.length=N
 constructor
 ·rintro ⟨i,hi,h⟩
  split at h
  ·have ht:=List.mem_singleton.1 h
   have hN:0<N:=by
    rcases Nat.eq_zero_or_pos N with h0|h0
    ·rw[h0] at hi;simp at hi
    ·exact h0
   refine⟨i / N / N,i / N % N,i % N,?_,Nat.mod_lt _ hN,Nat.mod_lt _ hN,by assumption,ht⟩
   rw[Nat.div_div_eq_div_mul,Nat.div_lt_iff_lt_mul (Nat.mul_pos hN hN)]
   rw[Nat.mul_assoc] at hi
   exact hi
  ·simp at h
 ·rintro ⟨x,y,z,hx,hy,hz,hh,rfl⟩
  have hN:0<N:=by omega
  have e0:(x*N*N+y*N+z) / N=x*N+y:=by
   rw[show x*N*N+y*N+z=z+(x*N+y)*N by rw[Nat.add_mul];omega,Nat.add_mul_div_right _ _ hN,Nat.div_eq_of_lt hz,Nat.zero_add]
  have e1:(x*N*N+y*N+z) % N=z:=by
   rw[show x*N*N+y*N+z=z+(x*N+y)*N by rw[Nat.add_mul];omega,Nat.add_mul_mod_self_right,Nat.mod_eq_of_lt hz]
  have e2:(x*N+y) / N=x:=by rw[Nat.add_comm,Nat.add_mul_div_right _ _ hN,Nat.div_eq_of_lt hy,Nat.zero_add]
  have e3:(x*N+y) % N=y:=by rw[Nat.add_comm,Nat.add_mul_mod_self_right,Nat.mod_eq_of_lt hy]
  refine⟨x*N*N+y*N+z,?_,?_⟩
  ·have h1:(x+1)*N*N≤N*N*N:=Nat.mul_le_mul_right _ (Nat.mul_le_mul_right _ hx)
   have h2:(y+1)*N≤N*N:=Nat.mul_le_mul_right _ hy
   rw[Nat.add_mul,Nat.add_mul,Nat.one_mul] at h1
   rw[Nat.add_mul,Nat.one_mul] at h2
   omega
  ·simp only[e0,e1,e2,e3,hh,if_true,List.mem_singleton]
theorem atE_mem (v:Int):∀ (l:List Int),(atE l v<0→v ∉ l)∧(0≤atE l v→l[(atE l v).toNat]? = some v)
 | []=>by simp [atE,indexF]
 | x::l=>by
   obtain⟨h1,h2⟩:=atE_mem v l
   unfold atE at *
   simp only[indexF]
   by_cases hv:v=x
   ·subst hv
    simp
   ·have hb:(v == x)=false:=by simpa using hv
    simp only[hb,Bool.false_eq_true,if_false]
    split
    ·rename_i hlt
     refine⟨fun _=>?_,fun h=>by omega⟩
     simp [hv,h1 hlt]
    ·rename_i hge
     refine⟨fun h=>by omega,fun _=>?_⟩
     have:=h2 (by omega)
     rw[show (indexF (fun x=>v == x) l+1).toNat=(indexF (fun x=>v == x) l).toNat+1 by omega,List.getElem?_cons_succ]
     exact this
theorem getD_inj {l:List Int}(h:l.Pairwise (· < ·)) {x y:Nat}(hx:x<l.length) (hy:y<l.length) (he:l.getD x 0=l.getD y 0):x=y:=by
 rw[List.getD_eq_getElem?_getD,List.getD_eq_getElem?_getD,List.getElem?_eq_getElem hx,List.getElem?_eq_getElem hy] at he
 simp only[Option.getD_some] at he
 rw[List.pairwise_iff_getElem] at h
 rcases Nat.lt_trichotomy x y with c|c|c
 ·have:=h x y hx hy c;omega
 ·exact c
 ·have:=h y x hy hx c;omega
theorem atE_getD {l:List Int}(h:l.Pairwise (· < ·)) {x:Nat}(hx:x<l.length):atE l (l.getD x 0)=x:=by
 have hm:l.getD x 0∈l:=by
  rw[List.getD_eq_getElem?_getD,List.getElem?_eq_getElem hx];simp
 obtain⟨h1,h2⟩:=atE_mem (l.getD x 0) l
 have h0:0≤atE l (l.getD x 0):=by
  rcases Int.lt_or_le (atE l (l.getD x 0)) 0 with c|c
  ·exact absurd hm (h1 c)
  ·exact c
 have:=h2 h0
 obtain⟨a,b⟩:=List.getElem?_eq_some_iff.1 this
 have:=getD_inj h a hx (by rw[List.getD_eq_getElem?_getD,List.getElem?_eq_getElem a,b];simp)
 omega
theorem mem_truthsV {bs ds:List Int}{n:Int}{t:List Int}(hp:bs.Pairwise (· < ·)) (hd:ds=[]∨ds.length=3):t∈truthsV bs ds n↔t∈refTs bs ds n (bs.length*bs.length*bs.length):=by
 rw[mem_refTs]
 unfold truthsV
 split
 ·rename_i h0
  simp only[hasV,h0,if_true,decide_eq_true_eq];exact mem_three'
 ·rename_i h0
  obtain⟨d0,d1,d2,rfl⟩:∃ a b c,ds=[a,b,c]:=by
   rcases ds with _|⟨a,_|⟨b,_|⟨c,_|⟨d,l⟩⟩⟩⟩<;>simp at hd h0 ⊢
  simp only[hasV,h0,if_false,List.getD_cons_zero,List.getD_cons_succ,Bool.and_eq_true,decide_eq_true_eq]
  constructor
  ·intro h
   simp only[truthsK,tallyK] at h
   split at h
   ·rename_i r he
    have hr:=List.mem_singleton.1 h
    subst hr
    split at he
    ·cases he
    rename_i a0
    split at he
    ·cases he
    rename_i a1
    split at he
    ·cases he
    rename_i a2
    have b0:=(atE_mem d0 bs).2 (by omega)
    have b1:=(atE_mem d1 bs).2 (by omega)
    have b2:=(atE_mem d2 bs).2 (by omega)
    refine⟨_,_,_,(List.getElem?_eq_some_iff.1 b0).1,(List.getElem?_eq_some_iff.1 b1).1,(List.getElem?_eq_some_iff.1 b2).1,⟨⟨?_,?_⟩,?_⟩,(Option.some.inj he).symm⟩
    ·rw[List.getD_eq_getElem?_getD,b0];rfl
    ·rw[List.getD_eq_getElem?_getD,b1];rfl
    ·rw[List.getD_eq_getElem?_getD,b2];rfl
   ·cases h
  ·rintro ⟨x,y,z,hx,hy,hz,⟨⟨rfl,rfl⟩,rfl⟩,rfl⟩
   simp only[truthsK,tallyK,atE_getD hp hx,atE_getD hp hy,atE_getD hp hz];rw[if_neg (by omega),if_neg (by omega),if_neg (by omega)]
   simp [tally3]
def one1 (a k:Nat):Int:=if a=k then 1 else 0
theorem getD_incT {t:List Int}{i k:Nat}(hi:i<t.length):(incT t i).getD k 0=t.getD k 0+one1 i k:=by
 unfold incT one1
 by_cases h:i=k
 ·subst h
  simp [List.getD_eq_getElem?_getD,List.getElem?_set_self hi]
 ·simp [List.getD_eq_getElem?_getD,List.getElem?_set_ne h,h]
theorem getD_tally3 {x y z k:Nat}(hx:x<10) (hy:y<10) (hz:z<10) (hk:k<10):(tally3 x y z).getD k 0=one1 x k+one1 y k+one1 z k:=by
 unfold tally3
 rw[getD_incT (by simp [incT_len];omega),getD_incT (by simp [incT_len];omega),getD_incT (by simp;omega)]
 have:zeroT.getD k 0=0:=by
  rcases k with _|_|_|_|_|_|_|_|_|_|k<;>first|rfl|omega
 rw[this];omega
set_option maxRecDepth 8000
theorem one1_le (a k:Nat):0≤one1 a k∧one1 a k≤1:=by unfold one1;split<;>omega
theorem zeroT_getD {k:Nat}(hk:k<10):zeroT.getD k 0=0:=by
 rcases k with _|_|_|_|_|_|_|_|_|_|k<;>first|rfl|omega
theorem getD_addT {a b:List Int}{k:Nat}(h1:k<a.length) (h2:k<b.length):(addT a b).getD k 0=a.getD k 0+b.getD k 0:=getD_zipWith h1 h2
theorem SmallT.getD {b:Int}{t:List Int}(h:SmallT b t) {k:Nat}(hk:k<10):0≤t.getD k 0∧t.getD k 0≤b:=by
 obtain⟨x,hx⟩:=zol (l:=t) (i:=k) (by rw[h.1];exact hk)
 have:=h.2 x (zmo hx)
 rw[List.getD_eq_getElem?_getD,hx]
 exact this
theorem aimOk_facts {d:Int}{a:Am}(h:aimOk d a=true):bedOk a.at_=true∧a.beds≠[]∧seqOk none a.beds=true∧chOk d a.beds=true∧loS a.beds≤d∧d≤hiS a.beds:=by
 simp only[aimOk,Bool.and_eq_true,decide_eq_true_eq,Bool.not_eq_true'] at h
 obtain⟨⟨⟨⟨⟨h1,h2⟩,h3⟩,h4⟩,h5⟩,h6⟩:=h
 exact⟨h1,fun e=>(by rw[e] at h2;cases h2),h3,h4,h5,h6⟩
theorem checkV_zero {d:Int}{l:List Am}(h:checkV d l=0):l.length≤20∧(∀ a∈l,a.beds.length≤10)∧l≠[]∧(1≤d∧d≤3000)∧∀ a∈l,aimOk d a=true:=by
 unfold checkV at h
 split at h
 ·cases h
 rename_i h1
 split at h
 ·cases h
 rename_i h2
 split at h
 ·rename_i h3
  simp only[Bool.or_eq_true,decide_eq_true_eq,List.any_eq_true,not_or,not_exists,not_and,Nat.not_lt,Bool.not_eq_true,Bool.not_eq_false',Bool.and_eq_true] at h1 h2
  refine⟨h1.1,h1.2,fun e=>?_,by simpa using h2.2,List.all_eq_true.1 h3⟩
  rw[e] at h2
  simp at h2
 ·cases h
structure Th where
 x:Nat
 y:Nat
 z:Nat
 kn:Bool
def visF (bs:List Int) (p:Th):Vi:=⟨[bs.getD p.x 0,bs.getD p.y 0,bs.getD p.z 0],0⟩
def visT (bs:List Int) (p:Th):Vi:=⟨[],sum3 bs p.x p.y p.z⟩
def visP (bs:List Int) (p:Th):Vi:=if p.kn then visF bs p else visT bs p
def tal (p:Th):List Int:=tally3 p.x p.y p.z
structure BsOk (bs:List Int):Prop where
 asc:bs.Pairwise (· < ·)
 ne:bs≠[]
 len:bs.length≤10
 bed:∀ b∈bs,(b=0∨bedOk b=true)∧0≤scoreOf b∧scoreOf b≤60
def InB (bs:List Int) (p:Th):Prop:=p.x<bs.length∧p.y<bs.length∧p.z<bs.length
theorem mem_getD {bs:List Int}{k:Nat}(h:k<bs.length):bs.getD k 0∈bs:=by
 rw[List.getD_eq_getElem?_getD,List.getElem?_eq_getElem h];simp
theorem visT_mem {bs:List Int}{p:Th}(hb:BsOk bs) (hp:InB bs p):tal p∈truthsV bs (visT bs p).ds (visT bs p).n:=by
 refine (mem_truthsV hb.asc (.inl rfl)).2 (mem_refTs.2 ?_)
 exact⟨p.x,p.y,p.z,hp.1,hp.2.1,hp.2.2,by simp [hasV,visT],rfl⟩
theorem visF_mem {bs:List Int}{p:Th}{u:List Int}(hb:BsOk bs) (hp:InB bs p):u∈truthsV bs (visF bs p).ds (visF bs p).n↔u=tal p:=by
 refine (mem_truthsV hb.asc (.inr rfl)).trans (mem_refTs.trans ?_)
 constructor
 ·rintro ⟨x,y,z,hx,hy,hz,hh,rfl⟩
  simp only[hasV,visF,List.getD_cons_zero,List.getD_cons_succ,reduceCtorEq,if_false,Bool.and_eq_true,decide_eq_true_eq] at hh
  obtain⟨⟨h1,h2⟩,h3⟩:=hh
  rw[tal,getD_inj hb.asc hp.1 hx h1,getD_inj hb.asc hp.2.1 hy h2,getD_inj hb.asc hp.2.2 hz h3]
 ·rintro rfl
  exact⟨p.x,p.y,p.z,hp.1,hp.2.1,hp.2.2,by simp [hasV,visF],rfl⟩
theorem visP_mem {bs:List Int}{p:Th}(hb:BsOk bs) (hp:InB bs p):tal p∈truthsV bs (visP bs p).ds (visP bs p).n:=by
 unfold visP
 split
 ·exact (visF_mem hb hp).2 rfl
 ·exact visT_mem hb hp
theorem sum3_le {bs:List Int}{p:Th}(hb:BsOk bs) (hp:InB bs p):0≤sum3 bs p.x p.y p.z∧sum3 bs p.x p.y p.z≤180:=by
 have h1:=(hb.bed _ (mem_getD hp.1)).2
 have h2:=(hb.bed _ (mem_getD hp.2.1)).2
 have h3:=(hb.bed _ (mem_getD hp.2.2)).2
 unfold sum3;omega
theorem visP_E {bs:List Int}{p:Th}(hb:BsOk bs) (hp:InB bs p):visitE bs (visP bs p).ds (visP bs p).n=0:=by
 have hm:=visP_mem hb hp
 have hne:(truthsV bs (visP bs p).ds (visP bs p).n).isEmpty=false:=by
  cases h:truthsV bs (visP bs p).ds (visP bs p).n with
  | nil=>rw[h] at hm;simp at hm
  | cons=>rfl
 have hs:=sum3_le hb hp
 unfold visitE
 rw[hne]
 have h0:¬ ((visP bs p).ds≠[]∧((visP bs p).ds.length≠3∨(visP bs p).n≠0)):=by
  unfold visP;split<;>simp [visF,visT]
 have h1:0≤(visP bs p).n∧(visP bs p).n≤240:=by
  unfold visP;split
  ·simp [visF]
  ·simp only[visT];omega
 rw[if_neg h0,if_neg (by simpa using h1)]
 simp
def loK (bs:List Int) (k:Nat) (v:Vi):Int:=(accL (truthsV bs v.ds v.n)).2.1.getD k 0
def hiK (bs:List Int) (k:Nat) (v:Vi):Int:=(accL (truthsV bs v.ds v.n)).2.2.getD k 0
def tK (k:Nat) (p:Th):Int:=(tal p).getD k 0
theorem visP_len {bs:List Int}{p:Th}(hb:BsOk bs) (hp:InB bs p):Len10 (truthsV bs (visP bs p).ds (visP bs p).n):=truthsV_small (visP_E hb hp)
theorem visP_ne {bs:List Int}{p:Th}(hb:BsOk bs) (hp:InB bs p):truthsV bs (visP bs p).ds (visP bs p).n≠[]:=fun e=>by
 have:=visP_mem hb hp
 rw[e] at this;simp at this
theorem visP_full {bs:List Int}{p:Th}(h:p.kn=true):visP bs p=visF bs p:=by simp [visP,h]
theorem exact_ {bs:List Int}{p:Th}{k:Nat}(hk:k<10) (hb:BsOk bs) (hp:InB bs p) (h:p.kn=true):loK bs k (visP bs p)=tK k p∧hiK bs k (visP bs p)=tK k p:=by
 obtain⟨t,ht,e1⟩:=(accL_least hk _ _ rfl (visP_ne hb hp) (visP_len hb hp)).1
 obtain⟨u,hu,e2⟩:=(accL_most hk _ _ rfl (visP_ne hb hp) (visP_len hb hp)).1
 rw[visP_full h] at ht hu
 rw[visF_mem hb hp] at ht hu
 subst ht hu
 exact⟨e1.symm,e2.symm⟩
theorem sum_le {α:Type}{f g:α→Int}:∀ {l:List α},(∀ x∈l,f x≤g x)→(l.map f).sum≤(l.map g).sum
 | [],_=>by simp
 | x::l, h=>by
   have h1:=h x (by simp)
   have h2:=sum_le (l:=l) fun y hy=>h y (by simp [hy])
   simp only[List.map_cons,List.sum_cons];omega
theorem sum_eq {α:Type}{f g:α→Int}{l:List α}(h:∀ x∈l,f x=g x):(l.map f).sum=(l.map g).sum:=by
 rw[List.map_congr_left h]
theorem sum_app:∀ (a b:List Int),(a++b).sum=a.sum+b.sum
 | [],b=>by simp
 | x::a,b=>by simp only[List.cons_append,List.sum_cons,sum_app a b];omega
theorem sum_const {α:Type}{f:α→Int}{c:Int}:∀ {l:List α},(∀ x∈l,f x=c)→(l.map f).sum=c*l.length
 | [],_=>by simp
 | x::l, h=>by
   simp only[List.map_cons,List.sum_cons,sum_const (l:=l) fun y hy=>h y (by simp [hy]),h x (by simp),List.length_cons,Int.natCast_add,Int.mul_add];omega
theorem sum_bound {α:Type}{f:α→Int}{c:Int}{l:List α}(h:∀ x∈l,f x≤c):(l.map f).sum≤c*l.length:=by
 have:=sum_le (f:=f) (g:=fun _=>c) h
 rwa [sum_const (f:=fun _:α=>c) (c:=c) (fun _ _=>rfl)] at this
theorem sum_nonneg {α:Type}{f:α→Int}{l:List α}(h:∀ x∈l,0≤f x):0≤(l.map f).sum:=by
 have:=sum_le (f:=fun _=>0) (g:=f) h
 rwa [sum_const (f:=fun _:α=>0) (c:=0) (fun _ _=>rfl),Int.zero_mul] at this
theorem sum_add {α:Type}{f g:α→Int}:∀ {l:List α},(l.map fun x=>f x+g x).sum=(l.map f).sum+(l.map g).sum
 | []=>by simp
 | x::l=>by simp only[List.map_cons,List.sum_cons,sum_add (l:=l)];omega
theorem sum_swap {α β:Type}{f:α→β→Int}{l:List α}:∀ {m:List β},(l.map fun x=>(m.map (f x)).sum).sum=(m.map fun y=>(l.map fun x=>f x y).sum).sum
 | []=>by simp only[List.map_nil,List.sum_nil];exact (sum_const (f:=fun _:α=>0) (fun _ _=>rfl)).trans (Int.zero_mul _)
 | y::m=>by
   simp only[List.map_cons,List.sum_cons,← sum_swap (l:=l) (m:=m)];exact sum_add
theorem sum_one1 {x:Nat}:∀ {N:Nat},x<N→((List.range N).map (one1 x)).sum=1:=by
 have h0:∀ {N:Nat},N≤x→((List.range N).map (one1 x)).sum=0:=by
  intro N hN
  refine (sum_const (c:=0) fun k hk=>?_).trans (Int.zero_mul _)
  have:=List.mem_range.1 hk
  unfold one1;rw[if_neg (by omega)]
 intro N
 induction N with
 | zero=>intro h;omega
 | succ N ih =>
   intro h
   rw[List.range_succ,List.map_append,sum_app]
   by_cases e:x=N
   ·subst e;rw[h0 (Nat.le_refl _)];simp [one1]
   ·rw[ih (by omega)];simp [one1,e]
theorem foldl_addT {α:Type}{f:α→List Int}{k:Nat}(hk:k<10):∀ {l:List α}{le:List Int},(∀ v∈l,(f v).length=10)→le.length=10 →
 (l.foldl (fun a v=>addT a (f v)) le).length=10∧(l.foldl (fun a v=>addT a (f v)) le).getD k 0=le.getD k 0+(l.map fun v=>(f v).getD k 0).sum
 | [],le,_,h=>by simp [h]
 | v::l, le, hf, h=>by
   have hv:=hf v (by simp)
   have hl:(addT le (f v)).length=10:=by unfold addT;rw[List.length_zipWith];omega
   obtain⟨h1,h2⟩:=foldl_addT hk (l:=l) (le:=addT le (f v)) (fun u hu=>hf u (by simp [hu])) hl
   refine⟨h1,?_⟩
   rw[List.foldl_cons,h2,getD_addT (by omega) (by omega),List.map_cons,List.sum_cons];omega
theorem runF_all {bs:List Int}:∀ {l:List Vi}{le mo:List Int}{i:Nat},(∀ v∈l,visitE bs v.ds v.n=0) →
 runF bs le mo i l=(l.foldl (fun a v=>addT a (accL (truthsV bs v.ds v.n)).2.1) le,l.foldl (fun a v=>addT a (accL (truthsV bs v.ds v.n)).2.2) mo,none)
 | [],_,_,_,_=>rfl
 | v::l, le, mo, i, h=>by
   have hv:=h v (by simp)
   rw[runF,if_pos hv,runF_all fun u hu=>h u (by simp [hu]),leV,if_pos hv,moV,if_pos hv]
   rfl
def spB (bs:List Int) (l:List Vi):List Bd:=(List.range bs.length).map fun k=>Bd.mk (bs.getD k 0) (l.map (loK bs k)).sum (l.map (hiK bs k)).sum
def aimB (bs:List Int):Am:=⟨320,bs.map fun b=>Bd.mk b 0 0⟩
theorem seqOk_ofC:∀ {l:List Bd}{p:Option Int},(l.map (·.b)).Pairwise (· < ·)→(∀ x∈l,x.b=0∨bedOk x.b=true)→(∀ q,p=some q→∀ x∈l,q<x.b)→seqOk p l=true
 | [],_,_,_,_=>rfl
 | x::l, p, h1, h2, h3=>by
   rw[List.map_cons,List.pairwise_cons] at h1
   have hx:=h2 x (by simp)
   have hr:seqOk (some x.b) l=true:=seqOk_ofC h1.2 (fun y hy=>h2 y (by simp [hy])) fun q hq y hy=>by
    injection hq with hq;subst hq
    exact h1.1 _ (List.mem_map.2 ⟨y,hy,rfl⟩)
   simp only[seqOk,hr,Bool.and_true,Bool.and_eq_true,Bool.or_eq_true,decide_eq_true_eq]
   refine⟨hx,?_⟩
   cases p with
   | none=>rfl
   | some q=>simpa using h3 q rfl x (by simp)
theorem seqOk_bs {bs:List Int}{l:List Bd}(hb:BsOk bs) (h:l.map (·.b)=bs):seqOk none l=true :=
 seqOk_ofC (by rw[h];exact hb.asc) (fun x hx=>(hb.bed x.b (by rw[← h];exact List.mem_map.2 ⟨x,hx,rfl⟩)).1) fun q hq=>by cases hq
theorem fitV_vis {bs:List Int}{l:List Vi}(hb:BsOk bs) (h0:l≠[]) (h1:l.length≤30) (hv:∀ v∈l,visitE bs v.ds v.n=0):fitV (aimB bs) l=(Am.mk 320 (spB bs l),3*(l.length:Int),0,0):=by
 have hm:(aimB bs).beds.map (·.b)=bs:=by simp [aimB,List.map_map,Function.comp_def]
 have hl:(aimB bs).beds.length=bs.length:=by simp [aimB]
 have hne:(aimB bs).beds.isEmpty=false:=by
  have:=hb.ne
  cases bs with
  | nil=>exact absurd rfl this
  | cons=>rfl
 have hg:(bedOk (aimB bs).at_ && !(aimB bs).beds.isEmpty&&seqOk none (aimB bs).beds)=true:=by
  rw[hne,seqOk_bs hb hm];rfl
 have hlen:=hb.len
 rw[fitV,if_neg (by omega),if_neg (by rw[hg];decide),if_neg h0,if_neg (by omega),hm,runF_all hv]
 simp only[aimB,List.length_map,Prod.mk.injEq,Am.mk.injEq,and_true,true_and]
 unfold spB
 refine List.map_congr_left fun k hk=>?_
 have hk:=List.mem_range.1 hk
 have hA:∀ v∈l,(accL (truthsV bs v.ds v.n)).2.1.length=10∧(accL (truthsV bs v.ds v.n)).2.2.length=10:=fun v hv'=>accL_len (truthsV_small (hv v hv'))
 unfold bedAt
 rw[(foldl_addT (k:=k) (by omega) (fun v hv'=>(hA v hv').1) rfl).2,(foldl_addT (k:=k) (by omega) (fun v hv'=>(hA v hv').2) rfl).2,zeroT_getD (by omega),Int.zero_add,Int.zero_add]
 rfl
structure Ls (bs:List Int) (L:List Th):Prop where
 b:BsOk bs
 ne:L≠[]
 len:L.length≤30
 in_:∀ p∈L,InB bs p
def cntK (L:List Th) (k:Nat):Int:=(L.map (tK k)).sum
abbrev visL (bs:List Int) (L:List Th):List Vi:=L.map (visP bs)
theorem fit_vis {bs:List Int}{L:List Th}(h:Ls bs L):fitV (aimB bs) (visL bs L)=(Am.mk 320 (spB bs (visL bs L)),3*(L.length:Int),0,0):=by
 have:=fitV_vis (l:=visL bs L) h.b (by simpa using h.ne) (by simpa using h.len) fun v hv=>by
  obtain⟨p,hp,rfl⟩:=List.mem_map.1 hv
  exact visP_E h.b (h.in_ p hp)
 rwa [List.length_map] at this
theorem cnt_full {bs:List Int}{L:List Th}{k:Nat}(hk:k<10) (h:Ls bs L) (hf:∀ p∈L,p.kn=true):((visL bs L).map (loK bs k)).sum=cntK L k∧((visL bs L).map (hiK bs k)).sum=cntK L k:=by
 simp only[visL,List.map_map];exact⟨sum_eq fun p hp=>(exact_ hk h.b (h.in_ p hp) (hf p hp)).1,sum_eq fun p hp=>(exact_ hk h.b (h.in_ p hp) (hf p hp)).2⟩
theorem sum_tK {N:Nat}{p:Th}(hN:N≤10) (h:p.x<N∧p.y<N∧p.z<N):((List.range N).map fun k=>tK k p).sum=3:=by
 have:((List.range N).map fun k=>tK k p).sum=((List.range N).map fun k=>(one1 p.x k+one1 p.y k)+one1 p.z k).sum:=sum_eq fun k hk=>by
  have hk:=List.mem_range.1 hk
  exact getD_tally3 (by omega) (by omega) (by omega) (by omega)
 rw[this,sum_add,sum_add,sum_one1 h.1,sum_one1 h.2.1,sum_one1 h.2.2]
 rfl
theorem sum_cnt {bs:List Int}{L:List Th}(h:Ls bs L):((List.range bs.length).map (cntK L)).sum=3*L.length:=by
 unfold cntK
 rw[sum_swap (f:=fun k p=>tK k p)]
 exact sum_const fun p hp=>sum_tK h.b.len (h.in_ p hp)
set_option maxRecDepth 8000
def hitN (H:List (List Nat)) (i k:Nat):Nat:=if i<H.length then (H.getD i []).getD k 0 else 0
def thP (nb:Nat) (H:List (List Nat)) (kn:Bool) (i:Nat):Th.Th:=⟨hitN H i 0 % nb,hitN H i 1 % nb,hitN H i 2 % nb,kn⟩
def visN (H:List (List Nat)):Nat:=max 1 (min 20 H.length)
def thsP (nb:Nat) (H:List (List Nat)) (kn:Bool) (m:Nat):List Th.Th:=(List.range m).map (thP nb H kn)
theorem ths_ls {bs:List Int}(hb:Th.BsOk bs) (H:List (List Nat)) (kn:Bool):Th.Ls bs (thsP bs.length H kn (visN H)):=by
 have hpos:0<bs.length:=List.length_pos_iff.2 hb.ne
 have hv:1≤visN H∧visN H≤20:=by unfold visN;omega
 refine⟨hb,fun e=>?_,by simp [thsP];omega,fun p hp=>?_⟩
 ·have:(thsP bs.length H kn (visN H)).length=0:=by rw[e];rfl
  simp [thsP] at this
  omega
 ·obtain⟨i,_,rfl⟩:=List.mem_map.1 hp
  exact⟨Nat.mod_lt _ hpos,Nat.mod_lt _ hpos,Nat.mod_lt _ hpos⟩
def fitB (bs:List Int) (H:List (List Nat)) (kn:Bool):List Bd:=Th.spB bs (Th.visL bs (thsP bs.length H kn (visN H)))
theorem fit_val {bs:List Int}(hb:Th.BsOk bs) (H:List (List Nat)) (kn:Bool):Th.fitV (Th.aimB bs) (Th.visL bs (thsP bs.length H kn (visN H)))=(⟨320,fitB bs H kn⟩,3*(visN H:Int),0,0):=by
 have h:=Th.fit_vis (ths_ls hb H kn)
 have hl:(thsP bs.length H kn (visN H)).length=visN H:=by simp [thsP]
 rw[hl] at h
 exact h
end Go.Proofs.YtonpmcdkncbjoaaGreat.Du.Th

namespace Go.Proofs.YtonpmcdkncbjoaaGreat.Du
open Go Go.Oc
abbrev tabR (T:List (List Int)):RV:=.sl 1 (T.map fun row=>[ints row])
def opensD (out b:Int):Bool:=if out=1 then decide (b / 100=2) else if out=2 then decide (2≤b / 100) else true
set_option maxRecDepth 8000
mutual
theorem rv_le:∀ x:RV,RV.le x x
 | .sl _ _=>by simp only[RV.le];exact .inl trivial
 | .ag xs=>by simp only[RV.le];exact rv_leL xs
 | .fn _ xs=>by simp only[RV.le];exact⟨trivial,rv_leL xs⟩
 | .rp xs=>by simp only[RV.le];exact rv_leL xs
 | .un | .bo _ | .it _ _ | .ns | .np | .nf | .tu _ | .st _ | .ud | .yl _ | .sx _ _ | .vl _ | .bf _ _ | .nz=>by simp only[RV.le]
theorem rv_leL:∀ xs:List RV,RV.leL xs xs
 | []=>by simp only[RV.leL]
 | x::xs=>by simp only[RV.leL];exact⟨rv_le x,rv_leL xs⟩
end
theorem bedOk_pos {b:Int}(h:bedOk b=true):0<scoreOf b:=by
 simp only[bedOk,Bool.or_eq_true,Bool.and_eq_true,decide_eq_true_eq] at h
 unfold scoreOf
 refine Int.mul_pos (by omega) (by omega)
end Go.Proofs.YtonpmcdkncbjoaaGreat.Du

namespace Go.Proofs.YtonpmcdkncbjoaaGreat.Bo
open Go Go.Oc
set_option maxRecDepth 8000
def nbW:List Int:=[20,1,18,4,13,6,10,15,2,17,3,19,7,16,8,11,14,9,12,5]
def bsW:List Int:=[0,101,105,112,120,125,220,301,305,320]
def turnL (l:List Int) (k:Nat):List Int:=l.drop (l.length-k)++l.take (l.length-k)
def aftL (w l:List Int) (k:Nat):List Int:=List.zipWith (· + ·) w (turnL l k)
theorem turn_len (l:List Int) (k:Nat):(turnL l k).length=l.length:=by
 unfold turnL;rw[List.length_append,List.length_drop,List.length_take];omega
theorem suml_app:∀ (a b:List Int),(a++b).sum=a.sum+b.sum
 | [],b=>by simp
 | x::a,b=>by simp only[List.cons_append,List.sum_cons,suml_app a b];omega
theorem turn_sum (l:List Int) (k:Nat):(turnL l k).sum=l.sum:=by
 unfold turnL
 conv=>rhs;rw[← List.take_append_drop (l.length-k) l]
 rw[suml_app,suml_app];omega
theorem turn_mem {l:List Int}{k:Nat}{x:Int}(h:x∈turnL l k):x∈l:=by
 unfold turnL at h
 rcases List.mem_append.1 h with h|h
 ·exact List.mem_of_mem_drop h
 ·exact List.mem_of_mem_take h
theorem aft_len {w l:List Int}(h:w.length=l.length) (k:Nat):(aftL w l k).length=w.length:=by
 unfold aftL;rw[List.length_zipWith,turn_len];omega
theorem sum_zip:∀ {a b:List Int},a.length=b.length→(List.zipWith (· + ·) a b).sum=a.sum+b.sum
 | [],[],_=>by simp
 | x::a, y::b, h=>by
   have:=sum_zip (a:=a) (b:=b) (by simpa using h)
   simp only[List.zipWith_cons_cons,List.sum_cons,this];omega
 | [],_::_,h=>by simp at h
 | _::_,[],h=>by simp at h
theorem aft_sum {w l:List Int}(h:w.length=l.length) (k:Nat):(aftL w l k).sum=w.sum+l.sum:=by
 unfold aftL;rw[sum_zip (by rw[turn_len];exact h),turn_sum]
theorem aft_get {w l:List Int}{k i:Nat}{x y:Int}(h1:w[i]? = some x) (h2:(turnL l k)[i]? = some y):(aftL w l k)[i]? = some (x+y):=by
 unfold aftL;rw[List.getElem?_zipWith,h1,h2]
theorem aft_bound {w l:List Int}{k:Nat}{a b:Int}(ha:∀ x∈w,0≤x∧x≤a) (hb:∀ x∈l,0≤x∧x≤b):∀ x∈aftL w l k,0≤x∧x≤a+b:=fun x hx=>by
 obtain⟨i,hi⟩:=List.getElem?_of_mem hx
 unfold aftL at hi
 rw[List.getElem?_zipWith] at hi
 cases h1:w[i]? with
 | none=>rw[h1] at hi;simp at hi
 | some u =>
   cases h2:(turnL l k)[i]? with
   | none=>rw[h1,h2] at hi;simp at hi
   | some v =>
     rw[h1,h2] at hi
     injection hi with hi
     have p:=ha u (List.mem_of_getElem? h1)
     have q:=hb v (turn_mem (List.mem_of_getElem? h2))
     omega
def bstN (f:Nat→Int):Nat→Nat
 | 0=>0
 | n+1=>if f (n+1)<f (bstN f n) then n+1 else bstN f n
theorem bst_ok (f:Nat→Int):∀ n,bstN f n≤n∧∀ j,j≤n→f (bstN f n)≤f j
 | 0=>⟨Nat.le_refl _,fun j hj=>by rw[show j=0 by omega];exact Int.le_refl _⟩
 | n+1=>by
   obtain⟨h1,h2⟩:=bst_ok f n
   unfold bstN
   split
   ·rename_i h
    refine⟨Nat.le_refl _,fun j hj=>?_⟩
    by_cases e:j=n+1
    ·subst e;omega
    ·have:=h2 j (by omega);omega
   ·rename_i h
    refine⟨by omega,fun j hj=>?_⟩
    by_cases e:j=n+1
    ·subst e;omega
    ·exact h2 j (by omega)
def wkP (c:List Int) (n:Int):Nat→Int
 | 0=>0
 | k+1=>wkP c n k+if (bsW.getD k 0) % 100=n then c.getD k 0 else 0
def weekI (c:List Int) (i:Nat):List Int:=(List.range 20).map fun j=>if j<i then wkP c (nbW.getD j 0) 10 else 0
theorem week_zero (c:List Int):weekI c 0=List.replicate 20 0:=by
 refine List.eq_replicate_iff.2 ⟨by simp [weekI],fun b hb=>?_⟩
 obtain⟨j,_,rfl⟩:=List.mem_map.1 hb
 exact if_neg (Nat.not_lt_zero _)
theorem week_len (c:List Int) (i:Nat):(weekI c i).length=20:=by simp [weekI]
theorem week_set (c:List Int) {i:Nat}(hi:i<20):(weekI c i).set i (wkP c (nbW.getD i 0) 10)=weekI c (i+1):=by
 refine List.ext_getElem (by simp [weekI]) fun j h1 h2=>?_
 simp only[weekI,List.length_map,List.length_range] at h2
 rw[List.getElem_set]
 simp only[weekI,List.getElem_map,List.getElem_range]
 split
 ·rename_i e;subst e;rw[if_pos (by omega)]
 ·rename_i e
  by_cases hj:j<i
  ·rw[if_pos hj,if_pos (by omega)]
  ·rw[if_neg hj,if_neg (by omega)]
theorem week_at (c:List Int) {i:Nat}(hi:i<20):(weekI c i)[i]? = some 0:=by
 unfold weekI;rw[List.getElem?_map,List.getElem?_range hi];simp
theorem week_sum {c:List Int}(h:c.length=10):(weekI c 20).sum+(c.getD 0 0+c.getD 5 0)=c.sum:=by
 match c,h with
 | [c0, c1, c2, c3, c4, c5, c6, c7, c8, c9], _ =>
   have e:weekI [c0,c1,c2,c3,c4,c5,c6,c7,c8,c9] 20=(List.range 20).map fun j=>wkP [c0,c1,c2,c3,c4,c5,c6,c7,c8,c9] (nbW.getD j 0) 10 :=
    List.map_congr_left fun j hj=>if_pos (List.mem_range.1 hj)
   rw[e]
   simp [List.range_succ,wkP,nbW,bsW]
   omega
theorem wkP_bound {c:List Int}{m:Int}(hm:0≤m) (h:∀ x∈c,0≤x∧x≤m) (n:Int):∀ k,0≤wkP c n k∧wkP c n k≤k*m
 | 0=>by simp [wkP]
 | k+1=>by
   obtain⟨h1,h2⟩:=wkP_bound hm h n k
   have h3:0≤c.getD k 0∧c.getD k 0≤m:=by
    rw[List.getD_eq_getElem?_getD]
    cases e:c[k]? with
    | none=>exact⟨Int.le_refl _,hm⟩
    | some x=>exact h x (List.mem_of_getElem? e)
   have e:((k+1:Nat):Int)*m=k*m+m:=by rw[Int.natCast_add,Int.add_mul];simp
   unfold wkP
   rw[e]
   split<;>omega
end Go.Proofs.YtonpmcdkncbjoaaGreat.Bo

namespace Go.Proofs.YtonpmcdkncbjoaaGreat.Du.Th
open Go Go.Oc
set_option maxRecDepth 8000
set_option maxHeartbeats 4000000
def triN (nb:Nat) (H:List (List Nat)) (i k:Nat):Nat:=hitN H i k % nb
def dartsL (bs:List Int) (H:List (List Nat)) (i k:Nat):List Int:=(List.range k).map fun j=>bs.getD (triN bs.length H i j) 0
theorem darts_snoc (bs:List Int) (H:List (List Nat)) (i k:Nat):dartsL bs H i (k+1)=dartsL bs H i k++[bs.getD (triN bs.length H i k) 0]:=by
 simp [dartsL,List.range_succ]
theorem darts_len (bs:List Int) (H:List (List Nat)) (i k:Nat):(dartsL bs H i k).length=k:=by simp [dartsL]
theorem vis_known (bs:List Int) (H:List (List Nat)) (i:Nat):Th.visP bs (thP bs.length H true i)=⟨dartsL bs H i 3,0⟩:=rfl
def knL (bs:List Int) (H:List (List Nat)) (m:Nat):List (List RV):=(List.range m).map fun i=>[ints (dartsL bs H i 3),i64 0]
theorem kn_snoc (bs:List Int) (H:List (List Nat)) (m:Nat):knL bs H (m+1)=knL bs H m++[[ints (dartsL bs H m 3),i64 0]]:=by simp [knL,List.range_succ]
theorem kn_len (bs:List Int) (H:List (List Nat)) (m:Nat):(knL bs H m).length=m:=by simp [knL]
theorem kn_eq (bs:List Int) (H:List (List Nat)) (m:Nat):(Th.visL bs (thsP bs.length H true m)).map Th.viC=knL bs H m:=by
 simp only[thsP,knL,List.map_map];exact List.map_congr_left fun i _=>by simp only[Function.comp,vis_known,Th.viC]
theorem fit_known {bs:List Int}(hb:Th.BsOk bs) (H:List (List Nat)):ACalls Tryz.prog 7 [aimV (Th.aimB bs),.sl 2 (knL bs H (visN H))] (.tu [aimV ⟨320,fitB bs H true⟩,i64 (3*(visN H:Int)),i64 0,i64 0]):=by
 have hw:WfA (Th.aimB bs):=by
  refine⟨by unfold Th.aimB I64;simp only;omega,fun c hc=>?_⟩
  obtain⟨b,hb',rfl⟩:=List.mem_map.1 hc
  have hq:0≤b∧b≤499:=by
   rcases (hb.bed b hb').1 with h|h
   ·omega
   ·exact bedOk_le h
  unfold I64;simp only;omega
 have h:=Th.fit_ok (Th.aimB bs) (Th.visL bs (thsP bs.length H true (visN H))) hw
 rw[fit_val hb H true] at h
 rw[← kn_eq]
 exact h
end Go.Proofs.YtonpmcdkncbjoaaGreat.Du.Th
namespace Go.Proofs.YtonpmcdkncbjoaaGreat.Du.Th
open Go Go.Oc Go.Proofs.YtonpmcdkncbjoaaGreat.Bo
theorem bsW_ok:BsOk bsW:=by
 refine⟨by decide,by decide,by decide,fun b hb=>?_⟩
 simp only[bsW,List.mem_cons,List.not_mem_nil,or_false] at hb
 rcases hb with rfl|rfl|rfl|rfl|rfl|rfl|rfl|rfl|rfl|rfl<;>decide
def cntW (H:List (List Nat)):List Int:=(List.range 10).map fun k=>cntK (thsP 10 H true (visN H)) k
theorem cnt_len (H:List (List Nat)):(cntW H).length=10:=by simp [cntW]
theorem cnt_bound {bs:List Int}{L:List Th}{k:Nat}(hk:k<10) (h:Ls bs L):0≤cntK L k∧cntK L k≤3*(L.length:Int):=by
 have e:∀ p∈L,0≤tK k p∧tK k p≤3:=fun p hp=>by
  have hi:=h.in_ p hp
  have hb:=h.b.len
  unfold InB at hi
  unfold tK tal
  rw[getD_tally3 (by omega) (by omega) (by omega) hk]
  have h1:=one1_le p.x k
  have h2:=one1_le p.y k
  have h3:=one1_le p.z k
  omega
 exact⟨sum_nonneg fun p hp=>(e p hp).1,sum_bound fun p hp=>(e p hp).2⟩
theorem ths_len (nb:Nat) (H:List (List Nat)) (kn:Bool) (m:Nat):(thsP nb H kn m).length=m:=by simp [thsP]
theorem cntW_get (H:List (List Nat)) {k:Nat}(hk:k<10):(cntW H).getD k 0=cntK (thsP 10 H true (visN H)) k:=by
 unfold cntW
 rw[List.getD_eq_getElem?_getD,List.getElem?_map,List.getElem?_range hk];rfl
theorem cntW_le (H:List (List Nat)):∀ x∈cntW H,0≤x∧x≤60:=fun x hx=>by
 obtain⟨k,hk,rfl⟩:=List.mem_map.1 hx
 have:=cnt_bound (List.mem_range.1 hk) (ths_ls bsW_ok H true)
 rw[ths_len] at this
 have hv:visN H≤20:=by unfold visN;omega
 have e:(thsP bsW.length H true (visN H))=thsP 10 H true (visN H):=rfl
 rw[e] at this
 omega
theorem fitW (H:List (List Nat)):fitB bsW H true=(List.range 10).map fun k=>Bd.mk (bsW.getD k 0) ((cntW H).getD k 0) ((cntW H).getD k 0):=by
 have hl:bsW.length=10:=rfl
 unfold fitB spB
 rw[hl]
 refine List.map_congr_left fun k hk=>?_
 have hk:=List.mem_range.1 hk
 have h2:=cnt_full (k:=k) hk (ths_ls bsW_ok H true) fun p hp=>by
  obtain⟨j,_,rfl⟩:=List.mem_map.1 hp
  rfl
 rw[hl] at h2
 rw[h2.1,h2.2,cntW_get H hk]
theorem cnt_sum (H:List (List Nat)):(cntW H).sum=3*(visN H:Int):=by
 have h:=sum_cnt (ths_ls bsW_ok H true)
 rw[ths_len] at h
 exact h
end Go.Proofs.YtonpmcdkncbjoaaGreat.Du.Th
