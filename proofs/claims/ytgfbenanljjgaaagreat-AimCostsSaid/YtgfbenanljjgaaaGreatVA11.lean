/- For all rules and positions, the given function AimCosts returns true: the means of all aims by both tables, the listed aim and the aims that may be the best ones, or the errors, are what the document says, and the rules are not changed. No conditions beyond those of the given statement. -/
import Derived.Test.YtgfbenanljjgaaaGreatVA10
import Derived.Test.YtgfbenanljjgaaaGreatVA9
import Derived.Test.YtgfbenanljjgaaaGreatVA5
import Derived.ChangeShapes
import Derived.WideShapes
import Derived.OpenShut
import Derived.ShutString
import Derived.ChangeOld
import Derived.Carry
import Derived.Below
import Derived.Test.YtgfbenanljjgaaaGreatRows
import Derived.JoinedOf
namespace Go.Proofs.YtgfbenanljjgaaaGreat.Du.Th.Ai
open Go Go.Oc
set_option linter.unusedSimpArgs false
set_option linter.unusedVariables false
set_option maxRecDepth 8000
set_option maxHeartbeats 4000000
theorem one_ok {r : Rk} (hr : ROk r) (hao : ∀ a ∈ r.aims,aimOk r.d a = true) (s : Bool) (T A : List Int) (st left : Nat) (ix : Nat) (a : Am) (ha : r.aims[ix]? = some a) (hTl : st < T.length) (hAl : left < A.length) (hl60 : left ≤ 60) (hTv : ∀ x ∈ T,VOk x) (hAv : ∀ x ∈ A,VOk x) :
 ACalls Tryz.prog 56 [rkR r,ints T,ints A,i64 (st : Int),i64 (left : Int),i64 (ix : Int),.bo s] (i64 (meanA r s (T.getD st 0) left (fun x=>A.getD x.toNat 0) a)):=by
 obtain ⟨at_,l⟩:=a
 have hal : ix < r.aims.length:=(List.getElem?_eq_some_iff.1 ha).1
 have hO : AOk r.d l:=hr.aims _ (mem_of_opt ha)
 have hlen:=hO.len
 have hst:=hr.start
 have hlg:=lowG_le r.out
 obtain ⟨own,hown⟩:=opt_of_lt hTl
 have gown : T.getD st 0 = own:=by simp [List.getD,hown]
 have hov:=hTv own (mem_of_opt hown)
 rw [gown]
 have hfv : ∀ x : Int,VOk (A.getD x.toNat 0):=fun x=>getD_vok hAv _
 obtain ⟨nx,hnx⟩ : ∃ nx : Bd → Int,nx = fun b=>nextA r.out own left (fun x=>A.getD x.toNat 0) b.b:=⟨_,rfl⟩
 have hvv : ∀ x ∈ l.map nx,VOk x:=fun x hx=>by
  obtain ⟨b,_,rfl⟩:=List.mem_map.1 hx
  rw [hnx]; exact nextA_vok hov hfv _
 have hmean:=rmean_ok s r.d r.aims ix ⟨at_,l⟩ ha hO (hao _ (mem_of_opt ha)) (l.map nx) (by simp) hvv
 have hM : meanA r s own left (fun x=>A.getD x.toNat 0) ⟨at_,l⟩ = meanS s r.d l (l.map nx):=by rw [hnx]; rfl
 rw [hM]
 have hbed:=hO.bed
 refine acalls_st (rs:=[i64 (meanS s r.d l (l.map nx))]) [.tmp 14] Tryz.func56 rfl (by kernel_rfl) Tryz.ntmps56 rfl (by simp) rfl fun C vs=>?_
 refine zq ?_
 refine zb fun K hK=>?_;simp only [go_sem];refine hK _ ?_;clear hK K;refine zw (sub_frzP 7 7 [i64 r.d,aimsR r.aims,i64 r.start,i64 r.out] (by omega) rfl rfl) ?_;refine zw (zk [1,2,3,4,5,6,7]) ?_;simp only [go_sem]
 refine zq ?_
 refine awp_dreg2 [(5,none),(7,none)] follows (by decide +kernel) (by kernel_rfl) (by simp only [keysOk,List.mem_cons,List.not_mem_nil,forall_eq_or_imp,Oc.keyOf,go_sem]; simp) fun K hK=>?_
 simp only [go_sem,ha,hal,aimR];refine hK _ ?_;clear hK K;refine zw (sub_own 15 600 3 1 (by omega) (by rfl)) ?_;refine zw (zk [1,2,3,4,5,6,7,15,16]) ?_;simp only [go_sem]
 repeat refine zq ?_
 refine zb fun K hK=>?_;simp only [go_sem];refine hK _ ?_;clear hK K;refine zw (zk [1,2,3,4,5,6,7,15,16,17]) ?_;simp only [go_sem];refine zd ?_
 refine awp_upto (n:=83) l.length (fun i vs=>[(1,.r (ints T)),(2,.r (ints A)),(3,.r (i64 (st : Int))),(4,.r (i64 (left : Int))),(5,.r (i64 (ix : Int))),(6,.r (.bo s)),(7,.r (.rp [i64 r.d,aimsR r.aims,i64 r.start,i64 r.out])),(15,.os 600 (vs 600) 1 0 i),(16,.r (bedsR l)),(17,.r (i64 i))])
  (fun i=>[(600,.arr 3 1 (arrV ((l.map nx).take i)))]) (fun _=>True) 0 (fit_of [] ?_ ?_) (Nat.zero_le _) trivial ?_
 · try simp only [go_sem]
 · try simp only [go_sem]
   try rfl
 · intro i vs hi _
   have hlt1 : ((l.map nx).take i).length = i:=by simp; omega
   repeat refine zq ?_
   refine zb fun K hK=>?_;simp only [go_sem,List.length_map]
   intro _
   refine hK _ ?_;clear hK K;refine zw (zk [1,2,3,4,5,6,7,15,16,17,30]) ?_;simp only [go_sem]
   refine zc rfl (fun hc=>?_) (fun hc=>?_) <;> (try simp only [go_sem] at hc)
   · have hci:=hc
     obtain ⟨b,hb⟩:=opt_of_lt hci
     have hbb:=hbed b (mem_of_opt hb)
     have hs:=score_nn hbb
     have hsc:=refScore_ok b.b hbb.1 hbb.2
     have hop:=ropens_ok b.b r.out hbb hr.out
     have hlow:=rlow_ok r.out
     have w1 : IntKind.i64.wrap ((left : Int) - scoreOf b.b) = (left : Int) - scoreOf b.b:=by rw [zI] <;> omega
     have hsn : (l.map nx).take (i + 1) = (l.map nx).take i ++ [nx b]:=by
      refine take_of_opt ?_
      rw [List.getElem?_map,hb]; rfl
     generalize (l.map nx).take i = V at *
     have hnb : nx b = if (decide ((left : Int) - scoreOf b.b = 0) && opA r.out b.b) = true then 0 else if (left : Int) - scoreOf b.b < lowG r.out then own else A.getD ((left : Int) - scoreOf b.b).toNat 0:=by rw [hnx]; rfl
     refine zx ?_
     try simp only [go_sem]
     refine zq ?_
     refine zd ?_
     refine zq ?_
     refine zb fun K hK=>?_;simp only [go_sem,hb,hci,bedR,w1]
     refine zh (hsc) rfl (by simp only [go_sem,i64,ints,hb,hci,bedR,w1]) (by simp only [go_sem,i64,ints,hb,hci,bedR,w1]) (by first | exact .inl rfl | exact .inr rfl) ?_
     (try simp only [go_sem,hb,hci,bedR,w1]);refine hK _ ?_;clear hK K;refine zw (zk [1,2,3,4,5,6,7,15,16,17,18]) ?_;simp only [go_sem]
     refine awp_join (n:=83) (fun (_ : Unit) vs=>[(1,.r (ints T)),(2,.r (ints A)),(3,.r (i64 (st : Int))),(4,.r (i64 (left : Int))),(5,.r (i64 (ix : Int))),(6,.r (.bo s)),(7,.r (.rp [i64 r.d,aimsR r.aims,i64 r.start,i64 r.out])),(15,.os 600 (vs 600) 1 0 (i + 1)),(16,.r (bedsR l)),(17,.r (i64 i))])
      (fun _=>[(600,.arr 3 1 (arrV (V ++ [nx b])))]) (fun _=>True) (fun _ h=>h) ?_ ?_
     · skip
       refine zd ?_
       by_cases h0 : (left : Int) - scoreOf b.b = 0
       · have e0 : ((left : Int) - scoreOf b.b == 0) = true:=by simpa using h0
         rw [decide_eq_true h0] at hnb
         refine zq ?_
         refine awp_dreg2 [(7,none),(16,none),(17,none),(18,none)] follows (by decide +kernel) (by kernel_rfl) (by simp only [keysOk,List.mem_cons,List.not_mem_nil,forall_eq_or_imp,Oc.keyOf,go_sem]; simp) fun K hK=>?_
         simp only [go_sem,e0,hb,hci,bedR]
         refine zh (hop) rfl (by simp only [go_sem,i64,ints,e0,hb,hci,bedR]) (by simp only [go_sem,i64,ints,e0,hb,hci,bedR]) (by first | exact .inl rfl | exact .inr rfl) ?_
         (try simp only [go_sem,e0,hb,hci,bedR]);refine hK _ ?_;clear hK K;refine zw (zk [1,2,3,4,5,6,7,15,16,17,18,48]) ?_;simp only [go_sem]
         cases hO2 : opA r.out b.b
         · rw [hO2] at hnb
           simp only [Bool.and_false,Bool.false_eq_true,if_false] at hnb
           refine zc rfl (fun hc=>?_) (fun hc=>?_) <;> (try simp only [go_sem] at hc)
           refine zq ?_
           refine zb fun K hK=>?_;simp only [go_sem]
           refine zh (hlow) rfl (by simp only [go_sem,i64,ints]) (by simp only [go_sem,i64,ints]) (by first | exact .inl rfl | exact .inr rfl) ?_
           (try simp only [go_sem]);refine hK _ ?_;clear hK K;refine zw (zk [1,2,3,4,5,6,7,15,16,17,18,64]) ?_;simp only [go_sem]
           by_cases hl : (left : Int) - scoreOf b.b < lowG r.out
           · have el : decide (lowG r.out ≤ (left : Int) - scoreOf b.b) = false:=by simp; omega
             rw [if_pos hl] at hnb
             rw [el]
             refine zc rfl (fun hc=>?_) (fun hc=>?_) <;> (try simp only [go_sem] at hc)
             refine zb fun K hK=>?_;simp only [go_sem,hown,hTl,hlt1,List.length_map]
             refine ⟨by omega,?_⟩
             refine hK _ ?_;clear hK K
             refine ⟨(),fit_of [] ?_ ?_⟩
             · try simp only [go_sem]
             · try simp only [go_sem]
               rw [hnb]
               simp
           · have el : decide (lowG r.out ≤ (left : Int) - scoreOf b.b) = true:=by simp; omega
             rw [if_neg hl] at hnb
             obtain ⟨q,hq⟩ : ∃ q : Nat,(left : Int) - scoreOf b.b = q:=⟨((left : Int) - scoreOf b.b).toNat,by omega⟩
             have hqA : q < A.length:=by omega
             obtain ⟨y,hy⟩:=opt_of_lt hqA
             have gy : A.getD q 0 = y:=by simp [List.getD,hy]
             rw [hq,Int.toNat_natCast,gy] at hnb
             rw [el,hq]
             refine zc rfl (fun hc=>?_) (fun hc=>?_) <;> (try simp only [go_sem] at hc)
             refine zb fun K hK=>?_;simp only [go_sem,hy,hqA,hlt1,List.length_map]
             refine ⟨by omega,?_⟩
             refine hK _ ?_;clear hK K
             refine ⟨(),fit_of [] ?_ ?_⟩
             · try simp only [go_sem]
             · try simp only [go_sem]
               rw [hnb]
               simp
         · rw [hO2] at hnb
           simp only [Bool.and_true,if_true] at hnb
           refine zc rfl (fun hc=>?_) (fun hc=>?_) <;> (try simp only [go_sem] at hc)
           refine zb fun K hK=>?_;simp only [go_sem,hlt1,List.length_map]
           refine ⟨by omega,?_⟩
           refine hK _ ?_;clear hK K
           refine ⟨(),fit_of [] ?_ ?_⟩
           · try simp only [go_sem]
           · try simp only [go_sem]
             rw [hnb]
             simp
       · have e0 : ((left : Int) - scoreOf b.b == 0) = false:=by simpa using h0
         rw [decide_eq_false h0] at hnb
         simp only [Bool.false_and,Bool.false_eq_true,if_false] at hnb
         refine zq ?_
         refine awp_dreg2 [(7,none),(16,none),(17,none),(18,none)] follows (by decide +kernel) (by kernel_rfl) (by simp only [keysOk,List.mem_cons,List.not_mem_nil,forall_eq_or_imp,Oc.keyOf,go_sem]; simp) fun K hK=>?_
         simp only [go_sem,e0,hb,hci,bedR];refine hK _ ?_;clear hK K;refine zw (zk [1,2,3,4,5,6,7,15,16,17,18,48]) ?_;simp only [go_sem]
         refine zc rfl (fun hc=>?_) (fun hc=>?_) <;> (try simp only [go_sem] at hc)
         refine zq ?_
         refine zb fun K hK=>?_;simp only [go_sem]
         refine zh (hlow) rfl (by simp only [go_sem,i64,ints]) (by simp only [go_sem,i64,ints]) (by first | exact .inl rfl | exact .inr rfl) ?_
         (try simp only [go_sem]);refine hK _ ?_;clear hK K;refine zw (zk [1,2,3,4,5,6,7,15,16,17,18,64]) ?_;simp only [go_sem]
         by_cases hl : (left : Int) - scoreOf b.b < lowG r.out
         · have el : decide (lowG r.out ≤ (left : Int) - scoreOf b.b) = false:=by simp; omega
           rw [if_pos hl] at hnb
           rw [el]
           refine zc rfl (fun hc=>?_) (fun hc=>?_) <;> (try simp only [go_sem] at hc)
           refine zb fun K hK=>?_;simp only [go_sem,hown,hTl,hlt1,List.length_map]
           refine ⟨by omega,?_⟩
           refine hK _ ?_;clear hK K
           refine ⟨(),fit_of [] ?_ ?_⟩
           · try simp only [go_sem]
           · try simp only [go_sem]
             rw [hnb]
             simp
         · have el : decide (lowG r.out ≤ (left : Int) - scoreOf b.b) = true:=by simp; omega
           rw [if_neg hl] at hnb
           obtain ⟨q,hq⟩ : ∃ q : Nat,(left : Int) - scoreOf b.b = q:=⟨((left : Int) - scoreOf b.b).toNat,by omega⟩
           have hqA : q < A.length:=by omega
           obtain ⟨y,hy⟩:=opt_of_lt hqA
           have gy : A.getD q 0 = y:=by simp [List.getD,hy]
           rw [hq,Int.toNat_natCast,gy] at hnb
           rw [el,hq]
           refine zc rfl (fun hc=>?_) (fun hc=>?_) <;> (try simp only [go_sem] at hc)
           refine zb fun K hK=>?_;simp only [go_sem,hy,hqA,hlt1,List.length_map]
           refine ⟨by omega,?_⟩
           refine hK _ ?_;clear hK K
           refine ⟨(),fit_of [] ?_ ?_⟩
           · try simp only [go_sem]
           · try simp only [go_sem]
             rw [hnb]
             simp
     intro _ vs _
     refine zb fun K hK=>?_;simp only [go_sem];(try simp (disch:=omega) only [zI]);refine hK _ ?_;clear hK K
     try simp only [go_sem]
     refine ⟨hci,fit_of [] ?_ ?_⟩
     · try simp only [go_sem]
     · try simp only [go_sem]
       rw [hsn]
   · have hii : i = l.length:=by omega
     subst hii
     have e3 : (l.map nx).take l.length = l.map nx:=List.take_of_length_le (by simp)
     rw [e3]
     have htk : ((arrV (l.map nx)).drop 0).take l.length = arrV (l.map nx):=by rw [List.drop_zero,List.take_of_length_le (by simp)]
     have hVl : (l.map nx).length = l.length:=by simp
     generalize l.map nx = V at *
     refine zf ?_;simp only [go_sem];refine zw (sub_frz 15 600 (ty:=3) (sz:=1) (off:=0) (m:=l.length) (es:=arrV V) (by omega) rfl (by rfl) (by simp [hVl])) ?_;rw [htk]
     refine zw (zk [5,6,7,15]) ?_;simp only [go_sem]
     refine zq ?_
     refine zb fun K hK=>?_;simp only [go_sem]
     refine zh (hmean) rfl (by simp only [go_sem,i64,ints]) (by simp only [go_sem,i64,ints]) (by first | exact .inl rfl | exact .inr rfl) ?_
     (try simp only [go_sem]);refine hK _ ?_;clear hK K;refine zw (zk [14]) ?_;simp only [go_sem];refine ze ?_;simp only [go_sem]
set_option maxHeartbeats 8000000
theorem nextA_congr {out own left : Int} {f g : Int → Int} (h : ∀ x,lowG out ≤ x → x ≤ left → f x = g x) {b : Int} (hb : 0 ≤ b ∧ b ≤ 499) : nextA out own left f b = nextA out own left g b:=by
 have hs:=score_nn hb
 unfold nextA
 split
 · rfl
 · split
   · rfl
   · exact h _ (by omega) (by omega)
theorem meanA_congr {r : Rk} {s : Bool} {own left : Int} {f g : Int → Int} (h : ∀ x,lowG r.out ≤ x → x ≤ left → f x = g x) {a : Am} (ha : AOk r.d a.beds) : meanA r s own left f a = meanA r s own left g a:=by
 unfold meanA
 congr 1
 exact List.map_congr_left fun b hb=>nextA_congr h (ha.bed b hb)
def rowR (r : Rk) (s : Bool) (T : List Int) (st : Nat) : Nat → List Int
 | 0=>T.take (st + 1)
 | k + 1=>(List.range (st + 1)).map fun (x : Nat)=>if (x : Int) < lowG r.out then 0 else valA r s T (T.getD st 0) (k + 1) x
theorem rowR_len {r : Rk} {s : Bool} {T : List Int} {st : Nat} (hT : st < T.length) : ∀ k,(rowR r s T st k).length = st + 1
 | 0=>by simp [rowR]; omega
 | k + 1=>by simp [rowR]
theorem rowR_get {r : Rk} {s : Bool} {T : List Int} {st : Nat} (hT : st < T.length) : ∀ (k : Nat) (x : Int),lowG r.out ≤ x → x ≤ st → (rowR r s T st k).getD x.toNat 0 = valA r s T (T.getD st 0) k x
 | 0, x, h1, h2 => by
   have hl:=lowG_le r.out
   simp only [rowR,valA,List.getD_eq_getElem?_getD];rw [List.getElem?_take_of_lt (by omega)]
 | k + 1, x, h1, h2 => by
   have hl:=lowG_le r.out
   obtain ⟨n,rfl⟩ : ∃ n : Nat,x = n:=⟨x.toNat,by omega⟩
   have hn : n < st + 1:=by omega
   simp only [rowR,Int.toNat_natCast];rw [List.getD_eq_getElem?_getD,List.getElem?_map,List.getElem?_range hn]
   simp only [Option.map_some,Option.getD_some];rw [if_neg (by omega)]
theorem rowR_vok {r : Rk} (hr : ROk r) {s : Bool} {T : List Int} {st : Nat} (hT : ∀ x ∈ T,VOk x) : ∀ k,∀ x ∈ rowR r s T st k,VOk x
 | 0=>fun x hx=>hT x (List.mem_of_mem_take hx)
 | k + 1 => fun x hx => by
   obtain ⟨y,_,rfl⟩:=List.mem_map.1 hx
   split
   · exact .inl ⟨by omega,by omega⟩
   · exact valA_vok hr hT (getD_vok hT _) _ _
def rowM (r : Rk) (s : Bool) (T : List Int) (st k m : Nat) : List Int:=(List.range (st + 1)).map fun (x : Nat)=>if (x : Int) < lowG r.out ∨ lowG r.out + (m : Int) ≤ x then 0 else valA r s T (T.getD st 0) (k + 1) x
theorem rowM_len (r : Rk) (s : Bool) (T : List Int) (st k m : Nat) : (rowM r s T st k m).length = st + 1:=by simp [rowM]
theorem rowM_zero (r : Rk) (s : Bool) (T : List Int) (st k : Nat) : rowM r s T st k 0 = List.replicate (st + 1) 0:=by
 unfold rowM
 rw [List.eq_replicate_iff]
 refine ⟨by simp,fun y hy=>?_⟩
 obtain ⟨x,_,rfl⟩:=List.mem_map.1 hy
 rw [if_pos (by omega)]
theorem rowM_full {r : Rk} {s : Bool} {T : List Int} {st k m : Nat} (hm : (st : Int) < lowG r.out + m) : rowM r s T st k m = rowR r s T st (k + 1):=by
 unfold rowM rowR
 refine List.map_congr_left fun x hx=>?_
 have:=List.mem_range.1 hx
 by_cases h : (x : Int) < lowG r.out
 · rw [if_pos (.inl h),if_pos h]
 · rw [if_neg (by omega),if_neg h]
theorem rowM_set {r : Rk} {s : Bool} {T : List Int} {st k m q : Nat} (hq : (q : Int) = lowG r.out + m) (hqs : q ≤ st) : (rowM r s T st k m).set q (valA r s T (T.getD st 0) (k + 1) q) = rowM r s T st k (m + 1):=by
 have hl:=lowG_le r.out
 refine List.ext_getElem? fun j=>?_
 by_cases hj : j < st + 1
 · by_cases hjq : q = j
   · subst hjq
     rw [List.getElem?_set_self (by rw [rowM_len]; omega)]
     simp only [rowM,List.getElem?_map,List.getElem?_range hj,Option.map_some];rw [if_neg (by omega)]
   · rw [List.getElem?_set_ne hjq]
     simp only [rowM,List.getElem?_map,List.getElem?_range hj,Option.map_some]
     congr 1
     by_cases h : (j : Int) < lowG r.out ∨ lowG r.out + (m : Int) ≤ j
     · rw [if_pos h,if_pos (by omega)]
     · rw [if_neg h,if_neg (by omega)]
 · rw [List.getElem?_eq_none (by simp [rowM_len]; omega),List.getElem?_eq_none (by simp [rowM_len]; omega)]
abbrev rowsR (r : Rk) (s : Bool) (T : List Int) (st k : Nat) : List (List RV):=(List.range k).map fun j=>[ints (rowR r s T st j)]
theorem values_ok {r : Rk} (hr : ROk r) (hao : ∀ a ∈ r.aims,aimOk r.d a = true) (s : Bool) (T : List Int) (st : Nat) (hTl : st < T.length) (hst60 : st ≤ 60) (hTL : T.length ≤ 1000) (hTv : ∀ x ∈ T,VOk x) :
 ACalls Tryz.prog 55 [rkR r,ints T,i64 (st : Int),.bo s] (.sl 1 (rowsR r s T st 4)):=by
 have hst:=hr.start
 have hlg:=lowG_le r.out
 have hlow:=rlow_ok r.out
 have hrl:=rowR_len (r:=r) (s:=s) hTl
 have hone:=fun k q ix a ha (hq : q ≤ st)=>one_ok hr hao s T (rowR r s T st k) st q ix a ha hTl (by rw [hrl]; omega) (by omega) hTv (rowR_vok hr hTv k)
 have w1 : IntKind.i64.wrap ((st : Int) + 1) = ((st + 1 : Nat) : Int):=by rw [zI] <;> omega
 refine acalls_st (rs:=[.sl 1 (rowsR r s T st 4)]) [.tmp 8] Tryz.func55 rfl (by kernel_rfl) Tryz.ntmps55 rfl (by simp) rfl fun C vs=>?_
 refine zq ?_
 refine zb fun K hK=>?_;simp only [go_sem];refine hK _ ?_;clear hK K;refine zw (sub_frzP 4 4 [i64 r.d,aimsR r.aims,i64 r.start,i64 r.out] (by omega) rfl rfl) ?_;refine zw (zk [1,2,3,4]) ?_;simp only [go_sem]
 refine zq ?_
 refine awp_long ?_
 refine sops_take 6 (by kernel_rfl) fun K hK=>?_
 simp only [go_sem,List.take_succ_cons,List.take_zero,List.drop_succ_cons,List.drop_zero,List.append_eq,List.cons_append,List.nil_append,w1]
 refine ⟨⟨by omega,by omega⟩,⟨by omega,by omega⟩,?_⟩
 refine hK _ rfl ?_
 clear hK K
 have hr0 : ((List.take (st + 1) (List.map (fun x=>[RV.it IntKind.i64 x]) T)).drop 0).take (min (st + 1) T.length) = (T.take (st + 1)).map fun x=>[i64 x]:=by
  rw [List.drop_zero,← List.map_take,List.take_of_length_le (by simp)]
 refine sops_sub (sub_frz 19 19 (ty:=3) (sz:=1) (off:=0) (m:=min (st + 1) T.length) (es:=List.take (st + 1) (List.map (fun x=>[RV.it IntKind.i64 x]) T)) (by omega) rfl (by rfl) (by simp)) ?_
 rw [hr0]
 refine sops_sub (zk [1,2,3,4,19]) ?_
 simp only [go_sem]
 refine sops_own (by simp [go_sem]) ?_
 simp only [go_sem,sBuildOwn]
 repeat first | refine ⟨by omega,?_⟩
 refine sops_end (by kernel_rfl) fun K hK=>?_
 simp only [go_sem,List.drop_succ_cons,List.drop_zero,List.append_eq,List.cons_append,List.nil_append];refine hK _ ?_;clear hK K;refine zw (zk [1,2,3,4,9]) ?_;simp only [go_sem]
 repeat refine zq ?_
 refine zb fun K hK=>?_;simp only [go_sem];refine hK _ ?_;clear hK K;refine zw (zk [1,2,3,4,9,10]) ?_;simp only [go_sem];refine zd ?_
 refine awp_upto (n:=72) 4 (fun k vs=>[(1,.r (ints T)),(2,.r (i64 (st : Int))),(3,.r (.bo s)),(4,.r (.rp [i64 r.d,aimsR r.aims,i64 r.start,i64 r.out])),(9,.os 20 (vs 20) 1 0 k),(10,.r (i64 (k : Int)))])
  (fun k=>[(20,.arr 39 1 (rowsR r s T st k))]) (fun k=>1 ≤ k) 1 (fit_of [] ?_ ?_) (by omega) (Nat.le_refl _) ?_
 · try simp only [go_sem]
 · try simp only [go_sem]
   rfl
 intro k vs hk hk1
 have hrk : (rowsR r s T st k).length = k:=by simp
 by_cases hk4 : k < 4
 · have e4 : decide ((k : Int) ≤ 3) = true:=by simp; omega
   repeat refine zq ?_
   refine zb fun K hK=>?_;simp only [go_sem,e4];refine hK _ ?_;clear hK K;refine zw (zk [1,2,3,4,9,10,22]) ?_;simp only [go_sem]
   refine zc rfl (fun hc=>?_) (fun hc=>?_) <;> (try simp only [go_sem] at hc)
   refine zx ?_
   try simp only [go_sem]
   refine zq ?_
   refine zd ?_
   refine zq ?_
   refine zb fun K hK=>?_;simp only [go_sem,w1]
   intros
   (try refine ⟨⟨by omega,by omega,by omega⟩,?_⟩)
   refine hK _ ?_;clear hK K;refine zw (zk [1,2,3,4,9,10,11]) ?_;simp only [go_sem]
   repeat refine zq ?_
   refine zb fun K hK=>?_;simp only [go_sem]
   refine zh (hlow) rfl (by simp only [go_sem,i64,ints]) (by simp only [go_sem,i64,ints]) (by first | exact .inl rfl | exact .inr rfl) ?_
   (try simp only [go_sem]);refine hK _ ?_;clear hK K;refine zw (zk [1,2,3,4,9,10,11,12]) ?_;simp only [go_sem];refine zd ?_
   obtain ⟨d,hd⟩ : ∃ d,k = d + 1:=⟨k - 1,by omega⟩
   subst hd
   have hz:=rowM_zero r s T st d
   obtain ⟨N,hN⟩ : ∃ N : Nat,(N : Int) = st + 1 - lowG r.out ∨ (N = 0 ∧ (st : Int) + 1 < lowG r.out):=by
    by_cases h : lowG r.out ≤ st + 1
    · exact ⟨((st : Int) + 1 - lowG r.out).toNat,.inl (by omega)⟩
    · exact ⟨0,.inr ⟨rfl,by omega⟩⟩
   refine awp_upto (n:=72) N (fun m vs=>[(1,.r (ints T)),(2,.r (i64 (st : Int))),(3,.r (.bo s)),(4,.r (.rp [i64 r.d,aimsR r.aims,i64 r.start,i64 r.out])),(9,.os 20 (vs 20) 1 0 (d + 1)),(10,.r (i64 ((d + 1 : Nat) : Int))),(11,.os 27 (vs 27) 1 0 (st + 1)),(12,.r (i64 (lowG r.out + (m : Int))))])
    (fun m=>[(20,.arr 39 1 (rowsR r s T st (d + 1))),(27,.arr 3 1 (arrV (rowM r s T st d m)))]) (fun _=>True) 0 (fit_of [] ?_ ?_) (Nat.zero_le _) trivial ?_
   · try simp only [go_sem]
     try simp
   · try simp only [go_sem]
     rw [hz]
     simp only [List.map_replicate]
     rfl
   intro m vs hm _
   by_cases hmN : m < N
   · obtain ⟨q,hq⟩ : ∃ q : Nat,(q : Int) = lowG r.out + m:=⟨(lowG r.out + m).toNat,by omega⟩
     have hqs : q ≤ st:=by omega
     have e5 : decide (lowG r.out + (m : Int) ≤ st) = true:=by simp; omega
     have hMl:=rowM_len r s T st d m
     have hset:=rowM_set (r:=r) (s:=s) (T:=T) (k:=d) (m:=m) hq hqs
     have hqm : lowG r.out + (m : Int) = (q : Int):=hq.symm
     generalize rowM r s T st d m = M at *
     have hqM : q < M.length:=by omega
     obtain ⟨y,hy⟩:=opt_of_lt hqM
     repeat refine zq ?_
     refine zb fun K hK=>?_;simp only [go_sem,e5];refine hK _ ?_;clear hK K;refine zw (zk [1,2,3,4,9,10,11,12,33]) ?_;simp only [go_sem]
     refine zc rfl (fun hc=>?_) (fun hc=>?_) <;> (try simp only [go_sem] at hc)
     refine zx ?_
     try simp only [go_sem]
     refine zq ?_
     refine zd ?_;rw [hqm]
     refine zq ?_
     refine zb fun K hK=>?_;simp only [go_sem,hy,hqM]
     refine ⟨by omega,?_⟩
     refine hK _ ?_;clear hK K;refine zw (zk [1,2,3,4,9,10,11,12]) ?_;simp only [go_sem]
     refine zq ?_
     refine zb fun K hK=>?_;simp only [go_sem];refine hK _ ?_;clear hK K;refine zw (zk [1,2,3,4,9,10,11,12,13]) ?_;simp only [go_sem];refine zd ?_
     obtain ⟨MQ,hMQ⟩ : ∃ MQ : List Int,MQ = r.aims.map (meanA r s (T.getD st 0) (q : Int) (fun x=>(rowR r s T st d).getD x.toNat 0)):=⟨_,rfl⟩
     have hval : leastA MQ = valA r s T (T.getD st 0) (d + 1) q:=by
      rw [hMQ]
      show leastA _ = leastA (r.aims.map (meanA r s (T.getD st 0) (q : Int) (valA r s T (T.getD st 0) d)))
      congr 1
      refine List.map_congr_left fun a ha=>meanA_congr (fun x h1 h2=>rowR_get hTl d x h1 (by omega)) (hr.aims a ha)
     have hMQl : MQ.length = r.aims.length:=by rw [hMQ,List.length_map]
     have hset0 : (arrV M).set q [RV.it IntKind.i64 2000000000] = arrV (M.set q (leastA (MQ.take 0))):=(arrV_set M q 2000000000).symm
     rw [hset0]
     have hoL:=hr.len
     refine awp_upto (n:=72) r.aims.length (fun i vs=>[(1,.r (ints T)),(2,.r (i64 (st : Int))),(3,.r (.bo s)),(4,.r (.rp [i64 r.d,aimsR r.aims,i64 r.start,i64 r.out])),(9,.os 20 (vs 20) 1 0 (d + 1)),(10,.r (i64 ((d + 1 : Nat) : Int))),(11,.os 27 (vs 27) 1 0 (st + 1)),(12,.r (i64 (q : Int))),(13,.r (i64 (i : Int)))])
      (fun i=>[(20,.arr 39 1 (rowsR r s T st (d + 1))),(27,.arr 3 1 (arrV (M.set q (leastA (MQ.take i)))))]) (fun _=>True) 0 (fit_of [] ?_ ?_) (Nat.zero_le _) trivial ?_
     · try simp only [go_sem]
     · try simp only [go_sem]
     intro i vs hi _
     have hget : (M.set q (leastA (MQ.take i)))[q]? = some (leastA (MQ.take i)):=by rw [List.getElem?_set_self hqM]
     have hsl : q < (M.set q (leastA (MQ.take i))).length:=by simp; omega
     have hsl2 : (M.set q (leastA (MQ.take i))).length = st + 1:=by simp [hMl]
     have hss : ∀ v : Int,(arrV (M.set q (leastA (MQ.take i)))).set q [RV.it IntKind.i64 v] = arrV (M.set q v):=fun v=>by
      have:=(arrV_set (M.set q (leastA (MQ.take i))) q v).symm
      rw [List.set_set] at this
      exact this
     by_cases hiA : i < r.aims.length
     · obtain ⟨a,ha⟩:=opt_of_lt hiA
       have hcall:=hone d q i a ha hqs
       have hmq : MQ[i]? = some (meanA r s (T.getD st 0) (q : Int) (fun x=>(rowR r s T st d).getD x.toNat 0) a):=by rw [hMQ,List.getElem?_map,ha]; rfl
       generalize meanA r s (T.getD st 0) (q : Int) (fun x=>(rowR r s T st d).getD x.toNat 0) a = v at *
       have hsn : leastA (MQ.take (i + 1)) = min (leastA (MQ.take i)) v:=by
        rw [take_of_opt hmq]
        unfold leastA
        rw [List.foldl_append]; rfl
       have hrow : (rowsR r s T st (d + 1))[d]? = some [ints (rowR r s T st d)]:=by simp
       have hrd : (rowsR r s T st (d + 1)).length = d + 1:=by simp
       have hrg : (rowsR r s T st (d + 1)).getD d [] = [ints (rowR r s T st d)]:=by rw [List.getD_eq_getElem?_getD,hrow]; rfl
       have wd : IntKind.i64.wrap ((d : Int) + 1 - 1) = d:=by rw [zI] <;> omega
       generalize rowsR r s T st (d + 1) = RR at *
       generalize rowR r s T st d = RD at *
       repeat refine zq ?_
       refine zb fun K hK=>?_;simp only [go_sem,hiA,List.length_map]
       intro _
       refine hK _ ?_;clear hK K;refine zw (zk [1,2,3,4,9,10,11,12,13,44]) ?_;simp only [go_sem]
       refine zc rfl (fun hc=>?_) (fun hc=>?_) <;> (try simp only [go_sem] at hc)
       refine zx ?_
       try simp only [go_sem]
       refine zq ?_
       refine zd ?_
       refine awp_dreg2 [(1,none),(2,none),(3,none),(4,none),(9,some 20),(10,none),(11,some 27),(12,none),(13,none)] follows (by decide +kernel) (by kernel_rfl) (by simp only [keysOk,List.mem_cons,List.not_mem_nil,forall_eq_or_imp,Oc.keyOf,go_sem]; simp) fun K hK=>?_
       simp only [go_sem,hget,hsl,hsl2,hrow,hrg,hrd,wd]
       refine ⟨by omega,by omega,?_⟩
       refine zh (hcall) rfl (by simp only [go_sem,i64,ints,hget,hsl,hsl2,hrow,hrg,hrd,wd]) (by simp only [go_sem,i64,ints,hget,hsl,hsl2,hrow,hrg,hrd,wd]) (by first | exact .inl rfl | exact .inr rfl) ?_
       (try simp only [go_sem,hget,hsl,hsl2,hrow,hrg,hrd,wd])
       repeat refine ⟨by omega,?_⟩
       refine hK _ ?_;clear hK K;rw [hss,← hsn]
       refine zw (zk [1,2,3,4,9,10,11,12,13]) ?_;simp only [go_sem];refine zb fun K hK=>?_;simp only [go_sem];(try simp (disch:=omega) only [zI]);refine hK _ ?_;clear hK K
       try simp only [go_sem]
       refine ⟨hiA,fit_of [] ?_ ?_⟩
       · try simp only [go_sem]
       · try simp only [go_sem]
     · have hie : i = r.aims.length:=by omega
       subst hie
       have e6 : MQ.take r.aims.length = MQ:=List.take_of_length_le (by omega)
       rw [e6,hval,hset]
       repeat refine zq ?_
       refine zb fun K hK=>?_;simp only [go_sem,hiA,List.length_map]
       intro _
       refine hK _ ?_;clear hK K;refine zw (zk [1,2,3,4,9,10,11,12,13,44]) ?_;simp only [go_sem]
       refine zc rfl (fun hc=>?_) (fun hc=>?_) <;> (try simp only [go_sem] at hc)
       refine zf ?_;simp only [go_sem]
       have wq : IntKind.i64.wrap ((q : Int) + 1) = lowG r.out + ((m + 1 : Nat) : Int):=by rw [zI] <;> omega
       refine zb fun K hK=>?_;simp only [go_sem,wq];refine hK _ ?_;clear hK K
       try simp only [go_sem]
       refine ⟨hmN,fit_of [] ?_ ?_⟩
       · try simp only [go_sem]
         try omega
       · try simp only [go_sem]
   · have e5 : decide (lowG r.out + (m : Int) ≤ st) = false:=by simp; omega
     have hme : m = N:=by omega
     subst hme
     have hfull:=rowM_full (r:=r) (s:=s) (T:=T) (st:=st) (k:=d) (m:=m) (by omega)
     rw [hfull]
     have hlr:=hrl (d + 1)
     have hsn : rowsR r s T st (d + 1) ++ [[ints (rowR r s T st (d + 1))]] = rowsR r s T st (d + 1 + 1):=by
      unfold rowsR
      rw [List.range_succ (n:=d + 1),List.map_append]; rfl
     have hrd : (rowsR r s T st (d + 1)).length = d + 1:=by simp
     rw [← hsn]
     generalize rowsR r s T st (d + 1) = RR at *
     generalize rowR r s T st (d + 1) = RD at *
     have htk : ((arrV RD).drop 0).take (st + 1) = arrV RD:=by rw [List.drop_zero,List.take_of_length_le (by simp [hlr])]
     repeat refine zq ?_
     refine zb fun K hK=>?_;simp only [go_sem,e5];refine hK _ ?_;clear hK K;refine zw (zk [1,2,3,4,9,10,11,12,33]) ?_;simp only [go_sem]
     refine zc rfl (fun hc=>?_) (fun hc=>?_) <;> (try simp only [go_sem] at hc)
     refine zf ?_;simp only [go_sem];refine zw (sub_frz 11 27 (ty:=3) (sz:=1) (off:=0) (m:=st + 1) (es:=arrV RD) (by omega) rfl (by rfl) (by simp [hlr])) ?_;rw [htk]
     refine zw (zk [1,2,3,4,9,10,11]) ?_;simp only [go_sem];refine zb fun K hK=>?_;simp only [go_sem,hrd]
     refine ⟨by omega,?_⟩
     refine hK _ ?_;clear hK K;refine zw (zk [1,2,3,4,9,10]) ?_;simp only [go_sem];refine zb fun K hK=>?_;simp only [go_sem];(try simp (disch:=omega) only [zI]);refine hK _ ?_;clear hK K
     try simp only [go_sem]
     refine ⟨by omega,fit_of [] ?_ ?_⟩
     · try simp only [go_sem]
     · try simp only [go_sem]
 · have e4 : decide ((k : Int) ≤ 3) = false:=by simp; omega
   have hk' : k = 4:=by omega
   subst hk'
   repeat refine zq ?_
   refine zb fun K hK=>?_;simp only [go_sem,e4];refine hK _ ?_;clear hK K;refine zw (zk [1,2,3,4,9,10,22]) ?_;simp only [go_sem]
   refine zc rfl (fun hc=>?_) (fun hc=>?_) <;> (try simp only [go_sem] at hc)
   refine zf ?_;simp only [go_sem]
   refine zq ?_
   refine zb fun K hK=>?_;simp only [go_sem];refine hK _ ?_;clear hK K;refine zw (zk [8]) ?_;simp only [go_sem];refine ze ?_;simp only [go_sem];exact ⟨by simp,List.take_of_length_le (by simp)⟩
theorem rholds_ok {r : Rk} (hr : ROk r) (hao : ∀ a ∈ r.aims,aimOk r.d a = true) (s : Bool) (T : List Int) (st : Nat) (hTl : st < T.length) (hst60 : st ≤ 60) (hTL : T.length ≤ 1000) (hlo : lowG r.out ≤ st) (hTv : ∀ x ∈ T,VOk x) :
 ACalls Tryz.prog 57 [rkR r,ints T,i64 (st : Int),.bo s] (.bo (holdsA r s T st)):=by
 have hlg:=lowG_le r.out
 have hval:=values_ok hr hao s T st hTl hst60 hTL hTv
 have hrow : (rowsR r s T st 4)[3]? = some [ints (rowR r s T st 3)]:=by simp
 have hrl : (rowsR r s T st 4).length = 4:=by simp
 have hrg : (rowsR r s T st 4).getD 3 [] = [ints (rowR r s T st 3)]:=by rw [List.getD_eq_getElem?_getD,hrow]; rfl
 have hget:=rowR_get (r:=r) (s:=s) hTl 3 st hlo (Int.le_refl _)
 simp only [Int.toNat_natCast] at hget
 have hRl:=rowR_len (r:=r) (s:=s) hTl 3
 obtain ⟨x,hx⟩:=opt_of_lt hTl
 have gx : T.getD st 0 = x:=by simp [List.getD,hx]
 have hb:=valA_le hr (s:=s) hTv (getD_vok hTv st) 3 st
 have hH : holdsA r s T st = if s then decide (x ≤ 1000000 + valA r s T (T.getD st 0) 3 st) else decide (1000000 + valA r s T (T.getD st 0) 3 st ≤ x) || decide (x = 2000000000):=by unfold holdsA; rw [gx]
 rw [hH]
 generalize valA r s T (T.getD st 0) 3 (st : Int) = v at *
 generalize rowR r s T st 3 = V at *
 obtain ⟨v',hv'⟩:=opt_of_lt (l:=V) (i:=st) (by omega)
 have gv : v' = v:=by rw [← hget]; simp [List.getD,hv']
 subst gv
 have hVl : st < V.length:=by omega
 generalize rowsR r s T st 4 = RR at *
 have w1 : IntKind.i64.wrap (1000000 + v') = 1000000 + v':=by rw [zI] <;> omega
 refine acalls_st (rs:=[.bo (if s then decide (x ≤ 1000000 + v') else decide (1000000 + v' ≤ x) || decide (x = 2000000000))]) [.tmp 8] Tryz.func57 rfl (by kernel_rfl) Tryz.ntmps57 rfl (by simp) rfl fun C vs=>?_
 refine zq ?_
 refine zb fun K hK=>?_;simp only [go_sem];refine hK _ ?_;clear hK K;refine zw (sub_frzP 4 4 [i64 r.d,aimsR r.aims,i64 r.start,i64 r.out] (by omega) rfl rfl) ?_;refine zw (zk [1,2,3,4]) ?_;simp only [go_sem]
 refine zq ?_
 refine zb fun K hK=>?_;simp only [go_sem,hrow,hrl,hrg,hv',hVl,w1]
 refine zh (hval) rfl (by simp only [go_sem,i64,ints,hrow,hrl,hrg,hv',hVl,w1]) (by simp only [go_sem,i64,ints,hrow,hrl,hrg,hv',hVl,w1]) (by first | exact .inl rfl | exact .inr rfl) ?_
 (try simp only [go_sem,hrow,hrl,hrg,hv',hVl,w1]);refine hK _ ?_;clear hK K;refine zw (zk [1,2,3,9]) ?_;simp only [go_sem]
 repeat refine zq ?_
 refine zb fun K hK=>?_;simp only [go_sem];refine hK _ ?_;clear hK K;refine zw (zk [1,2,9,21]) ?_;simp only [go_sem]
 cases s
 · skip
   refine zc rfl (fun hc=>?_) (fun hc=>?_) <;> (try simp only [go_sem] at hc)
   refine zx ?_
   try simp only [go_sem]
   by_cases hn : x = 2000000000
   · have en : (x == 2000000000) = true:=by simpa using hn
     refine zq ?_
     refine zb fun K hK=>?_;simp only [go_sem,hx,hTl,en];refine hK _ ?_;clear hK K;refine zw (zk [8]) ?_;simp only [go_sem];refine ze ?_;simp only [go_sem]
     simp [hn]
   · have en : (x == 2000000000) = false:=by simpa using hn
     refine zq ?_
     refine zb fun K hK=>?_;simp only [go_sem,hx,hTl,en];refine hK _ ?_;clear hK K;refine zw (zk [8]) ?_;simp only [go_sem];refine ze ?_;simp only [go_sem]
     simp [hn]
 · have hss:=(rfl : true = true)
   refine zc rfl (fun hc=>?_) (fun hc=>?_) <;> (try simp only [go_sem] at hc)
   refine zq ?_
   refine zb fun K hK=>?_;simp only [go_sem,hx,hTl];refine hK _ ?_;clear hK K;refine zw (zk [8]) ?_;simp only [go_sem];refine ze ?_;simp only [go_sem]
theorem rtable_ok {r : Rk} (hr : ROk r) (hao : ∀ a ∈ r.aims,aimOk r.d a = true) (s : Bool) : ACalls Tryz.prog 19 [rkR r,.bo s] (ints (tabB r s (cntA r))):=by
 have hst:=hr.start
 have hlg:=lowG_le r.out
 have hlow:=rlow_ok r.out
 have hcnt : (cntA r : Int) = r.start + 1 - lowG r.out:=by unfold cntA; omega
 have htab:=fun i (hi : i ≤ cntA r)=>tab_eq hr s i hi
 obtain ⟨len,hlen⟩ : ∃ len,len = (r.start + 1).toNat:=⟨_,rfl⟩
 have hln : (len : Int) = r.start + 1:=by omega
 have hll : ∀ i,i ≤ cntA r → (tabB r s i).length = len:=fun i hi=>by rw [← (htab i hi).1,(htab i hi).2.1,hlen]
 have hvv : ∀ i,i ≤ cntA r → ∀ x ∈ tabB r s i,VOk x:=fun i hi=>by rw [← (htab i hi).1]; exact (htab i hi).2.2
 have hz : tabB r s 0 = List.replicate len 0:=by rw [hlen]; rfl
 have w1 : IntKind.i64.wrap (r.start + 1) = (len : Int):=by rw [zI] <;> omega
 refine acalls_st (rs:=[ints (tabB r s (cntA r))]) [.tmp 4] Tryz.func19 rfl (by kernel_rfl) Tryz.ntmps19 rfl (by simp) rfl fun C vs=>?_
 refine zq ?_
 refine zb fun K hK=>?_;simp only [go_sem];refine hK _ ?_;clear hK K;refine zw (sub_frzP 2 2 [i64 r.d,aimsR r.aims,i64 r.start,i64 r.out] (by omega) rfl rfl) ?_;refine zw (zk [1,2]) ?_;simp only [go_sem]
 refine zq ?_
 refine zb fun K hK=>?_;simp only [go_sem,w1]
 (try refine ⟨⟨by omega,by omega,by omega⟩,?_⟩)
 refine ⟨by omega,?_⟩
 refine hK _ ?_;clear hK K;refine zw (zk [1,2,5]) ?_;simp only [go_sem]
 repeat refine zq ?_
 refine zb fun K hK=>?_;simp only [go_sem]
 refine zh (hlow) rfl (by simp only [go_sem,i64,ints]) (by simp only [go_sem,i64,ints]) (by first | exact .inl rfl | exact .inr rfl) ?_
 (try simp only [go_sem]);refine hK _ ?_;clear hK K;refine zw (zk [1,2,5,6]) ?_;simp only [go_sem];refine zd ?_
 refine awp_upto (n:=69) (cntA r) (fun i vs=>[(1,.r (.bo s)),(2,.r (.rp [i64 r.d,aimsR r.aims,i64 r.start,i64 r.out])),(5,.os 12 (vs 12) 1 0 len),(6,.r (i64 (lowG r.out + (i : Int))))])
  (fun i=>[(12,.arr 3 1 (arrV (tabB r s i)))]) (fun _=>True) 0 (fit_of [] ?_ ?_) (Nat.zero_le _) trivial ?_
 · try simp only [go_sem]
   try simp
 · try simp only [go_sem]
   rw [hz]
   simp only [List.map_replicate]
   try rfl
 intro i vs hi _
 by_cases hlt : i < cntA r
 · have e1 : decide (lowG r.out + (i : Int) ≤ r.start) = true:=by simp; omega
   repeat refine zq ?_
   refine zb fun K hK=>?_;simp only [go_sem,e1];refine hK _ ?_;clear hK K;refine zw (zk [1,2,5,6,19]) ?_;simp only [go_sem]
   refine zc rfl (fun hc=>?_) (fun hc=>?_) <;> (try simp only [go_sem] at hc)
   refine zx ?_
   try simp only [go_sem]
   refine zq ?_
   refine zd ?_
   obtain ⟨q,hq⟩ : ∃ q,q = (lowG r.out).toNat + i:=⟨_,rfl⟩
   have hqi : lowG r.out + (i : Int) = (q : Int):=by omega
   have hP0:=hll i hi
   have hPv:=hvv i hi
   have hnx : tabB r s (i + 1) = (tabB r s i).set q (numB r s (tabB r s i) q):=by rw [hq]; rfl
   rw [hqi,hnx]
   generalize tabB r s i = P0 at *
   have hqP : q < P0.length:=by omega
   obtain ⟨f,hf⟩ : ∃ f : Int → Bool,f = fun n=>holdsA r s (P0.set q n) q:=⟨_,rfl⟩
   obtain ⟨g0,hg0⟩ : ∃ g0 : Int,g0 = if s = true then 0 else 1000000001:=⟨_,rfl⟩
   obtain ⟨b0,hb0⟩ : ∃ b0 : Int,b0 = if s = true then 1000000001 else 999999:=⟨_,rfl⟩
   have hnum : numB r s P0 q = if 1000000000 < halv f g0 b0 then 2000000000 else halv f g0 b0:=by
    rw [hg0,hb0,hf]
    unfold numB
    cases s <;> simp only [if_true,Bool.false_eq_true,if_false]
   have hgb : (0 ≤ g0 ∧ g0 ≤ 1000000001) ∧ 0 ≤ b0 ∧ b0 ≤ 1000000001:=by rw [hg0,hb0]; split <;> omega
   rw [hnum]
   refine zq ?_
   refine zb fun K hK=>?_;simp only [go_sem];refine hK _ ?_;clear hK K;refine zw (zk [1,2,5,6,7,8]) ?_;simp only [go_sem]
   repeat refine zq ?_
   refine zb fun K hK=>?_;simp only [go_sem];refine hK _ ?_;clear hK K;refine zw (zk [1,2,5,6,7,8,22]) ?_;simp only [go_sem]
   refine awp_join (n:=69) (fun (_ : Unit) vs=>[(1,.r (.bo s)),(2,.r (.rp [i64 r.d,aimsR r.aims,i64 r.start,i64 r.out])),(5,.os 12 (vs 12) 1 0 len),(6,.r (i64 (q : Int))),(7,.r (i64 g0)),(8,.r (i64 b0))]) (fun _=>[(12,.arr 3 1 (arrV P0))]) (fun _=>True) (fun _ h=>h) ?_ ?_
   · cases s
     · skip
       refine zc rfl (fun hc=>?_) (fun hc=>?_) <;> (try simp only [go_sem] at hc)
       refine zx ?_
       try simp only [go_sem]
       refine ⟨(),fit_of [] ?_ ?_⟩
       · try simp only [go_sem]
         simp [hg0,hb0]
       · try simp only [go_sem]
     · have hss:=(rfl : true = true)
       refine zc rfl (fun hc=>?_) (fun hc=>?_) <;> (try simp only [go_sem] at hc)
       refine zb fun K hK=>?_;simp only [go_sem];refine hK _ ?_;clear hK K
       refine ⟨(),trivial,fit_of [] ?_ ?_⟩
       · try simp only [go_sem]
         simp [hg0,hb0]
       · try simp only [go_sem]
   intro _ vs _
   clear hg0 hb0 hnum hnx
   refine zq ?_
   refine zd ?_
   refine awp_while (n:=69) (α:=Int × Int × List Int) (fun x vs=>[(1,.r (.bo s)),(2,.r (.rp [i64 r.d,aimsR r.aims,i64 r.start,i64 r.out])),(5,.os 12 (vs 12) 1 0 len),(6,.r (i64 (q : Int))),(7,.r (i64 x.1)),(8,.r (i64 x.2.1))]) (fun x=>[(12,.arr 3 1 (arrV x.2.2))])
    (fun x=>((0 ≤ x.1 ∧ x.1 ≤ 1000000001) ∧ 0 ≤ x.2.1 ∧ x.2.1 ≤ 1000000001) ∧ halv f x.1 x.2.1 = halv f g0 b0 ∧ x.2.2.length = len ∧ ∀ n,x.2.2.set q n = P0.set q n) (fun x=>(max x.1 x.2.1 - min x.1 x.2.1).toNat) (g0,b0,P0) (fit_of [] ?_ ?_) ⟨hgb,rfl,hP0,fun _=>rfl⟩ ?_
   · try simp only [go_sem]
   · try simp only [go_sem]
   rintro ⟨g,b,P⟩ vs ⟨hgb',hhv,hPl,hPs⟩
   simp only at hgb' hhv hPl hPs ⊢
   rw [halv] at hhv
   have wx : IntKind.i64.wrap (max g b - min g b) = max g b - min g b:=by rw [zI] <;> omega
   obtain ⟨y,hy⟩:=opt_of_lt (l:=P) (i:=q) (by omega)
   have hqPl : q < P.length:=by omega
   by_cases hgt : 1 < max g b - min g b
   · rw [dif_pos hgt] at hhv
     obtain ⟨m,hm⟩ : ∃ m,m = min g b + (max g b - min g b) / 2:=⟨_,rfl⟩
     rw [← hm] at hhv
     have hm0 : 0 ≤ m ∧ m ≤ 1000000000:=by omega
     have e2 : decide (1 < max g b - min g b) = true:=by simpa using hgt
     have wt : Int.tdiv (max g b - min g b) 2 = (max g b - min g b) / 2:=Int.tdiv_eq_ediv_of_nonneg (by omega)
     have wd : IntKind.i64.wrap ((max g b - min g b) / 2) = (max g b - min g b) / 2:=by rw [zI] <;> omega
     have wm : IntKind.i64.wrap (min g b + (max g b - min g b) / 2) = m:=by rw [zI] <;> omega
     have hset : (arrV P).set q [RV.it IntKind.i64 m] = arrV (P0.set q m):=by rw [← hPs m]; exact (arrV_set P q m).symm
     have hP1l : (P0.set q m).length = len:=by simp [hP0]
     have hP1g : (P0.set q m)[q]? = some m:=by rw [List.getElem?_set_self hqP]
     have hP1v:=set_vok hPv q (n:=m) (.inl ⟨hm0.1,hm0.2⟩)
     have hP1s : ∀ n,(P0.set q m).set q n = P0.set q n:=fun n=>by rw [List.set_set]
     have hfm : f m = holdsA r s (P0.set q m) q:=by rw [hf]
     have hcall:=rholds_ok hr hao s (P0.set q m) q (by omega) (by omega) (by omega) (by omega) hP1v
     rw [← hfm] at hcall
     generalize hP1 : P0.set q m = P1 at *
     have hq1 : q < P1.length:=by omega
     have hP1le : (len ≤ P1.length) = True:=by simp; omega
     have htk : (arrV P1).take len = arrV P1:=List.take_of_length_le (by simp [hP1l])
     repeat refine zq ?_
     refine zb fun K hK=>?_;simp only [go_sem,wx,e2];refine hK _ ?_;clear hK K;refine zw (zk [1,2,5,6,7,8,30]) ?_;simp only [go_sem]
     refine zc rfl (fun hc=>?_) (fun hc=>?_) <;> (try simp only [go_sem] at hc)
     refine zx ?_
     try simp only [go_sem]
     refine zd ?_
     refine zq ?_
     refine zb fun K hK=>?_;simp only [go_sem,wx,wt,wd,wm,hy,hqPl,List.length_map]
     refine ⟨by omega,?_⟩
     refine hK _ ?_;clear hK K;rw [hset]
     refine zw (zk [1,2,5,6,7,8]) ?_;simp only [go_sem]
     refine zq ?_
     refine zb fun K hK=>?_;simp only [go_sem]
     refine zh (hcall) rfl (by simp only [go_sem,i64,ints,htk,List.drop_zero,List.length_map,hP1le]) (by simp only [go_sem,i64,ints,htk,List.drop_zero,List.length_map,hP1le]) (by first | exact .inl rfl | exact .inr rfl) ?_
     (try simp only [go_sem,htk,List.drop_zero,List.length_map,hP1le]);refine hK _ ?_;clear hK K;refine zw (zk [1,2,5,6,7,8,50]) ?_;simp only [go_sem]
     cases hfb : f m
     · rw [hfb] at hhv
       simp only [Bool.false_eq_true,if_false] at hhv
       refine zc rfl (fun hc=>?_) (fun hc=>?_) <;> (try simp only [go_sem] at hc)
       refine zb fun K hK=>?_;simp only [go_sem,hP1g,hq1,List.length_map]
       refine ⟨by omega,?_⟩
       refine hK _ ?_;clear hK K
       refine ⟨(g,m,P1),⟨⟨hgb'.1,by show 0 ≤ m; omega,by show m ≤ 1000000001; omega⟩,hhv,hP1l,hP1s⟩,by show (max g m - min g m).toNat < (max g b - min g b).toNat; omega,fit_of [] ?_ ?_⟩
       · try simp only [go_sem]
       · try simp only [go_sem]
     · rw [hfb] at hhv
       simp only [if_true] at hhv
       refine zc rfl (fun hc=>?_) (fun hc=>?_) <;> (try simp only [go_sem] at hc)
       refine zb fun K hK=>?_;simp only [go_sem,hP1g,hq1,List.length_map]
       refine ⟨by omega,?_⟩
       refine hK _ ?_;clear hK K
       refine ⟨(m,b,P1),⟨⟨⟨by show 0 ≤ m; omega,by show m ≤ 1000000001; omega⟩,hgb'.2⟩,hhv,hP1l,hP1s⟩,by show (max m b - min m b).toNat < (max g b - min g b).toNat; omega,fit_of [] ?_ ?_⟩
       · try simp only [go_sem]
       · try simp only [go_sem]
   · rw [dif_neg hgt] at hhv
     rw [← hhv]
     have e2 : decide (1 < max g b - min g b) = false:=by simpa using hgt
     have hset : ∀ v : Int,(arrV P).set q [RV.it IntKind.i64 v] = arrV (P0.set q v):=fun v=>by rw [← hPs v]; exact (arrV_set P q v).symm
     have hP1l : ∀ v : Int,(P0.set q v).length = len:=fun v=>by simp [hP0]
     have hss : ∀ v : Int,(arrV (P0.set q g)).set q [RV.it IntKind.i64 v] = arrV (P0.set q v):=fun v=>by
      have:=(arrV_set (P0.set q g) q v).symm
      rw [List.set_set] at this
      exact this
     have hP1g : (P0.set q g)[q]? = some g:=by rw [List.getElem?_set_self hqP]
     have hq1 : q < (P0.set q g).length:=by rw [hP1l]; omega
     have wq : IntKind.i64.wrap ((q : Int) + 1) = lowG r.out + ((i + 1 : Nat) : Int):=by rw [zI] <;> omega
     repeat refine zq ?_
     refine zb fun K hK=>?_;simp only [go_sem,wx,e2];refine hK _ ?_;clear hK K;refine zw (zk [1,2,5,6,7,8,30]) ?_;simp only [go_sem]
     refine zc rfl (fun hc=>?_) (fun hc=>?_) <;> (try simp only [go_sem] at hc)
     refine zf ?_;simp only [go_sem]
     refine zq ?_
     refine zb fun K hK=>?_;simp only [go_sem,hy,hqPl,List.length_map]
     refine ⟨by omega,?_⟩
     refine hK _ ?_;clear hK K;rw [hset]
     refine zw (zk [1,2,5,6,7]) ?_;simp only [go_sem]
     refine zq ?_
     refine zb fun K hK=>?_;simp only [go_sem];refine hK _ ?_;clear hK K;refine zw (zk [1,2,5,6,64]) ?_;simp only [go_sem]
     by_cases hbig : 1000000000 < g
     · have e3 : decide (1000000000 < g) = true:=by simpa using hbig
       rw [if_pos hbig,e3]
       refine zc rfl (fun hc=>?_) (fun hc=>?_) <;> (try simp only [go_sem] at hc)
       refine zb fun K hK=>?_;simp only [go_sem,hP1g,hq1,List.length_map]
       refine ⟨by omega,?_⟩
       refine hK _ ?_;clear hK K;rw [hss]
       refine zw (zk [1,2,5,6]) ?_;simp only [go_sem];refine zb fun K hK=>?_;simp only [go_sem,wq];refine hK _ ?_;clear hK K
       try simp only [go_sem]
       refine ⟨hlt,fit_of [] ?_ ?_⟩
       · try simp only [go_sem]
         try omega
       · try simp only [go_sem]
     · have e3 : decide (1000000000 < g) = false:=by simpa using hbig
       rw [if_neg hbig,e3]
       refine zc rfl (fun hc=>?_) (fun hc=>?_) <;> (try simp only [go_sem] at hc)
       refine zx ?_
       try simp only [go_sem]
       refine zb fun K hK=>?_;simp only [go_sem,wq];refine hK _ ?_;clear hK K
       try simp only [go_sem]
       refine ⟨hlt,fit_of [] ?_ ?_⟩
       · try simp only [go_sem]
         try omega
       · try simp only [go_sem]
 · have e1 : decide (lowG r.out + (i : Int) ≤ r.start) = false:=by simp; omega
   have hie : i = cntA r:=by omega
   subst hie
   have hlc:=hll _ (Nat.le_refl _)
   repeat refine zq ?_
   refine zb fun K hK=>?_;simp only [go_sem,e1];refine hK _ ?_;clear hK K;refine zw (zk [1,2,5,6,19]) ?_;simp only [go_sem]
   refine zc rfl (fun hc=>?_) (fun hc=>?_) <;> (try simp only [go_sem] at hc)
   refine zf ?_;simp only [go_sem]
   refine zq ?_
   refine zb fun K hK=>?_;simp only [go_sem];refine hK _ ?_;clear hK K;refine zw (zk [4]) ?_;simp only [go_sem];refine ze ?_;simp only [go_sem];exact ⟨by omega,List.take_of_length_le (by simp [hlc])⟩
theorem rpos_ok (r : Rk) (p : Ps) : ACalls Tryz.prog 17 [rkR r,psR p] (.bo (posOk r p)):=by
 have hlow:=rlow_ok r.out
 unfold posOk
 refine acalls_st (rs:=[.bo (decide ((lowG r.out ≤ p.st ∧ p.st ≤ r.start) ∧ (lowG r.out ≤ p.left ∧ p.left ≤ p.st) ∧ (1 ≤ p.darts ∧ p.darts ≤ 3) ∧ (p.darts < 3 ∨ p.left = p.st)))]) [.tmp 4] Tryz.func17 rfl (by kernel_rfl) Tryz.ntmps17 rfl (by simp) rfl fun C vs=>?_
 refine zq ?_
 refine zb fun K hK=>?_;simp only [go_sem];refine hK _ ?_;clear hK K;refine zw (sub_frzP 2 2 [i64 r.d,aimsR r.aims,i64 r.start,i64 r.out] (by omega) rfl rfl) ?_;refine zw (sub_frzP 3 3 [i64 p.st,i64 p.left,i64 p.darts] (by omega) rfl rfl) ?_;refine zw (zk [2,3]) ?_;simp only [go_sem]
 refine zq ?_
 refine zb fun K hK=>?_;simp only [go_sem]
 refine zh (hlow) rfl (by simp only [go_sem,i64,ints]) (by simp only [go_sem,i64,ints]) (by first | exact .inl rfl | exact .inr rfl) ?_
 (try simp only [go_sem]);refine hK _ ?_;clear hK K;refine zw (zk [2,3,5]) ?_;simp only [go_sem]
 by_cases h1 : lowG r.out ≤ p.st
 · have eh1 : decide (lowG r.out ≤ p.st) = true:=decide_eq_true h1
   by_cases h2 : p.st ≤ r.start
   · have eh2 : decide (p.st ≤ r.start) = true:=decide_eq_true h2
     by_cases h3 : lowG r.out ≤ p.left
     · have eh3 : decide (lowG r.out ≤ p.left) = true:=decide_eq_true h3
       by_cases h4 : p.left ≤ p.st
       · have eh4 : decide (p.left ≤ p.st) = true:=decide_eq_true h4
         by_cases h5 : 1 ≤ p.darts
         · have eh5 : decide (1 ≤ p.darts) = true:=decide_eq_true h5
           by_cases h6 : p.darts ≤ 3
           · have eh6 : decide (p.darts ≤ 3) = true:=decide_eq_true h6
             by_cases h7 : p.darts < 3
             · have eh7 : decide (p.darts < 3) = true:=decide_eq_true h7
               refine zq ?_
               refine zb fun K hK=>?_;simp only [go_sem,eh1,eh2,eh3,eh4,eh5,eh6,eh7]
               (try intros)
               refine hK _ ?_;clear hK K;refine zw (zk [4]) ?_;simp only [go_sem];refine ze ?_;simp only [go_sem]
               try (rw [Bool.eq_iff_iff]; simp; omega)
             · have eh7 : decide (p.darts < 3) = false:=decide_eq_false h7
               by_cases h8 : p.left = p.st
               · have e8 : (p.left == p.st) = true:=by simpa using h8
                 refine zq ?_
                 refine zb fun K hK=>?_;simp only [go_sem,eh1,eh2,eh3,eh4,eh5,eh6,eh7,e8]
                 (try intros)
                 refine hK _ ?_;clear hK K;refine zw (zk [4]) ?_;simp only [go_sem];refine ze ?_;simp only [go_sem]
                 try (rw [Bool.eq_iff_iff]; simp; omega)
               · have e8 : (p.left == p.st) = false:=by simpa using h8
                 refine zq ?_
                 refine zb fun K hK=>?_;simp only [go_sem,eh1,eh2,eh3,eh4,eh5,eh6,eh7,e8]
                 (try intros)
                 refine hK _ ?_;clear hK K;refine zw (zk [4]) ?_;simp only [go_sem];refine ze ?_;simp only [go_sem]
                 try (rw [Bool.eq_iff_iff]; simp; omega)
           · have eh6 : decide (p.darts ≤ 3) = false:=decide_eq_false h6
             refine zq ?_
             refine zb fun K hK=>?_;simp only [go_sem,eh1,eh2,eh3,eh4,eh5,eh6]
             (try intros)
             refine hK _ ?_;clear hK K;refine zw (zk [4]) ?_;simp only [go_sem];refine ze ?_;simp only [go_sem]
             try (rw [Bool.eq_iff_iff]; simp; omega)
         · have eh5 : decide (1 ≤ p.darts) = false:=decide_eq_false h5
           refine zq ?_
           refine zb fun K hK=>?_;simp only [go_sem,eh1,eh2,eh3,eh4,eh5]
           (try intros)
           refine hK _ ?_;clear hK K;refine zw (zk [4]) ?_;simp only [go_sem];refine ze ?_;simp only [go_sem]
           try (rw [Bool.eq_iff_iff]; simp; omega)
       · have eh4 : decide (p.left ≤ p.st) = false:=decide_eq_false h4
         refine zq ?_
         refine zb fun K hK=>?_;simp only [go_sem,eh1,eh2,eh3,eh4]
         (try intros)
         refine hK _ ?_;clear hK K;refine zw (zk [4]) ?_;simp only [go_sem];refine ze ?_;simp only [go_sem]
         try (rw [Bool.eq_iff_iff]; simp; omega)
     · have eh3 : decide (lowG r.out ≤ p.left) = false:=decide_eq_false h3
       refine zq ?_
       refine zb fun K hK=>?_;simp only [go_sem,eh1,eh2,eh3]
       (try intros)
       refine hK _ ?_;clear hK K;refine zw (zk [4]) ?_;simp only [go_sem];refine ze ?_;simp only [go_sem]
       try (rw [Bool.eq_iff_iff]; simp; omega)
   · have eh2 : decide (p.st ≤ r.start) = false:=decide_eq_false h2
     refine zq ?_
     refine zb fun K hK=>?_;simp only [go_sem,eh1,eh2]
     (try intros)
     refine hK _ ?_;clear hK K;refine zw (zk [4]) ?_;simp only [go_sem];refine ze ?_;simp only [go_sem]
     try (rw [Bool.eq_iff_iff]; simp; omega)
 · have eh1 : decide (lowG r.out ≤ p.st) = false:=decide_eq_false h1
   refine zq ?_
   refine zb fun K hK=>?_;simp only [go_sem,eh1]
   (try intros)
   refine hK _ ?_;clear hK K;refine zw (zk [4]) ?_;simp only [go_sem];refine ze ?_;simp only [go_sem]
   try (rw [Bool.eq_iff_iff]; simp; omega)
theorem rmeans_ok {r : Rk} (hr : ROk r) (hao : ∀ a ∈ r.aims,aimOk r.d a = true) (s : Bool) (T : List Int) (hTL : T.length = (r.start + 1).toNat) (hTv : ∀ x ∈ T,VOk x) (p : Ps) (hp : posOk r p = true) :
 ACalls Tryz.prog 18 [rkR r,ints T,psR p,.bo s] (ints (At.atV r s T p.st.toNat p.left.toNat (p.darts - 1).toNat)):=by
 have hst:=hr.start
 have hlg:=lowG_le r.out
 simp only [posOk,decide_eq_true_eq] at hp
 obtain ⟨pst,pleft,pd⟩:=p
 simp only at hp ⊢
 obtain ⟨st,rfl⟩ : ∃ st : Nat,pst = st:=⟨pst.toNat,by omega⟩
 obtain ⟨left,rfl⟩ : ∃ left : Nat,pleft = left:=⟨pleft.toNat,by omega⟩
 obtain ⟨k,rfl⟩ : ∃ k : Nat,pd = (k : Int) + 1:=⟨(pd - 1).toNat,by omega⟩
 have ek : ((k : Int) + 1 - 1).toNat = k:=by omega
 simp only [Int.toNat_natCast,ek]
 have hTl : st < T.length:=by omega
 have hval:=values_ok hr hao s T st hTl (by omega) (by omega) hTv
 have hrow : (rowsR r s T st 4)[k]? = some [ints (rowR r s T st k)]:=by
  simp only [rowsR,List.getElem?_map,List.getElem?_range (show k < 4 by omega),Option.map_some]
 have hrl : (rowsR r s T st 4).length = 4:=by simp
 have hrg : (rowsR r s T st 4).getD k [] = [ints (rowR r s T st k)]:=by rw [List.getD_eq_getElem?_getD,hrow]; rfl
 have hRl:=rowR_len (r:=r) (s:=s) hTl k
 have hRv:=rowR_vok hr (s:=s) (st:=st) hTv k
 have hget:=fun x h1 h2=>rowR_get (r:=r) (s:=s) hTl k x h1 h2
 have hone:=fun (ix : Nat) (a : Am) (ha : r.aims[ix]? = some a)=>one_ok hr hao s T (rowR r s T st k) st left ix a ha hTl (by omega) (by omega) hTv hRv
 have hmn : ∀ a ∈ r.aims,meanA r s (T.getD st 0) left (fun x=>(rowR r s T st k).getD x.toNat 0) a = meanA r s (T.getD st 0) left (valA r s T (T.getD st 0) k) a :=
  fun a ha=>meanA_congr (fun x h1 h2=>hget x h1 (by omega)) (hr.aims a ha)
 unfold At.atV
 obtain ⟨f,hf⟩ : ∃ f : Am → Int,f = meanA r s (T.getD st 0) left (valA r s T (T.getD st 0) k):=⟨_,rfl⟩
 rw [← hf]
 have hone' : ∀ (ix : Nat) (a : Am),r.aims[ix]? = some a → ACalls Tryz.prog 56 [rkR r,ints T,ints (rowR r s T st k),i64 (st : Int),i64 (left : Int),i64 (ix : Int),.bo s] (i64 (f a)):=fun ix a ha=>by
  have:=hone ix a ha
  rw [hmn a (mem_of_opt ha),← hf] at this
  exact this
 generalize rowR r s T st k = A at *
 generalize rowsR r s T st 4 = RR at *
 have w1 : IntKind.i64.wrap ((k : Int) + 1 - 1) = (k : Int):=by rw [zI] <;> omega
 have hk4 : k < 4:=by omega
 have hrl4:=hr.len
 refine acalls_st (rs:=[ints (r.aims.map f)]) [.tmp 8] Tryz.func18 rfl (by kernel_rfl) Tryz.ntmps18 rfl (by simp) rfl fun C vs=>?_
 refine zq ?_
 refine zb fun K hK=>?_;simp only [go_sem];refine hK _ ?_;clear hK K;refine zw (sub_frzP 4 4 [i64 r.d,aimsR r.aims,i64 r.start,i64 r.out] (by omega) rfl rfl) ?_;refine zw (sub_frzP 6 6 [i64 (st : Int),i64 (left : Int),i64 ((k : Int) + 1)] (by omega) rfl rfl) ?_;refine zw (zk [1,3,4,6]) ?_;simp only [go_sem]
 refine zq ?_
 refine awp_dreg2 [(1,none),(3,none),(4,none),(6,none)] follows (by decide +kernel) (by kernel_rfl) (by simp only [keysOk,List.mem_cons,List.not_mem_nil,forall_eq_or_imp,Oc.keyOf,go_sem]; simp) fun K hK=>?_
 simp only [go_sem,w1,hrow,hrl,hrg,hk4]
 refine zh (hval) rfl (by simp only [go_sem,i64,ints,w1,hrow,hrl,hrg,hk4]) (by simp only [go_sem,i64,ints,w1,hrow,hrl,hrg,hk4]) (by first | exact .inl rfl | exact .inr rfl) ?_
 (try simp only [go_sem,w1,hrow,hrl,hrg,hk4])
 refine ⟨by omega,?_⟩
 refine hK _ ?_;clear hK K;refine zw (sub_own 9 600 3 1 (by omega) (by rfl)) ?_;refine zw (zk [1,3,4,6,9,10]) ?_;simp only [go_sem]
 repeat refine zq ?_
 refine zb fun K hK=>?_;simp only [go_sem];refine hK _ ?_;clear hK K;refine zw (zk [1,3,4,6,9,10,11]) ?_;simp only [go_sem];refine zd ?_
 refine awp_uptoV (n:=46) r.aims.length (fun i vs=>[(1,.r (ints T)),(3,.r (.bo s)),(4,.r (.rp [i64 r.d,aimsR r.aims,i64 r.start,i64 r.out])),(6,.r (.rp [i64 (st : Int),i64 (left : Int),i64 ((k : Int) + 1)])),(9,.os 600 (vs 600) 1 0 i),(10,.r (ints A)),(11,.r (i64 i))])
  (fun i vs=>[(600,.arr 3 1 (arrV ((r.aims.map f).take i)))]) (fun _=>True) 0 (zj [] ?_ ?_) (Nat.zero_le _) trivial ?_
 · try simp only [go_sem]
 · try simp only [go_sem]
   try rfl
 intro i vs hi _
 have hfl : (r.aims.map f).length = r.aims.length:=List.length_map ..
 by_cases hil : i < r.aims.length
 · obtain ⟨a,ha⟩:=opt_of_lt hil
   have hfa : (r.aims.map f)[i]? = some (f a):=by rw [List.getElem?_map,ha]; rfl
   have hsn : (r.aims.map f).take (i + 1) = (r.aims.map f).take i ++ [f a]:=take_of_opt hfa
   have hlt : ((r.aims.map f).take i).length = i:=by rw [List.length_take]; omega
   have ho:=hone' i a ha
   rw [hsn]
   generalize (r.aims.map f).take i = Z at *
   repeat refine zq ?_
   refine zb fun K hK=>?_;simp only [go_sem,aimR,List.length_map]
   intro _
   refine hK _ ?_;clear hK K;refine zw (zk [1,3,4,6,9,10,11,29]) ?_;simp only [go_sem]
   refine zc rfl (fun hc=>?_) (fun hc=>?_) <;> (try simp only [go_sem] at hc)
   rotate_left
   · exact absurd hil hc
   refine zx ?_
   try simp only [go_sem]
   refine zq ?_
   refine zd ?_;refine zb fun K hK=>?_;simp only [go_sem,hlt,List.length_map]
   refine zh (ho) rfl (by simp only [go_sem,i64,ints,hlt,List.length_map]) (by simp only [go_sem,i64,ints,hlt,List.length_map]) (by first | exact .inl rfl | exact .inr rfl) ?_
   (try simp only [go_sem,hlt,List.length_map])
   refine ⟨by omega,?_⟩
   refine hK _ ?_;clear hK K;refine zw (zk [1,3,4,6,9,10,11]) ?_;simp only [go_sem];refine zb fun K hK=>?_;simp only [go_sem];(try simp (disch:=omega) only [zI]);refine hK _ ?_;clear hK K
   try simp only [go_sem]
   refine ⟨hil,zj [] ?_ ?_⟩
   · try simp only [go_sem]
   · try simp only [go_sem]
     try simp
 · have hie : i = r.aims.length:=by omega
   subst hie
   have htk : (r.aims.map f).take r.aims.length = r.aims.map f:=List.take_of_length_le (by simp)
   have htk2 : ((((r.aims.map f).map fun x=>[i64 x])).drop 0).take r.aims.length = (r.aims.map f).map fun x=>[i64 x]:=by rw [List.drop_zero,List.take_of_length_le (by simp)]
   rw [htk]
   repeat refine zq ?_
   refine zb fun K hK=>?_;simp only [go_sem,aimR,Nat.lt_irrefl,List.length_map]
   intro _
   refine hK _ ?_;clear hK K;refine zw (zk [1,3,4,6,9,10,11,29]) ?_;simp only [go_sem]
   refine zc rfl (fun hc=>?_) (fun hc=>?_) <;> (try simp only [go_sem] at hc)
   refine zf ?_;simp only [go_sem];refine zw (sub_frz 9 600 (ty:=3) (sz:=1) (off:=0) (m:=r.aims.length) (es:=(r.aims.map f).map fun x=>[i64 x]) (by omega) rfl (by rfl) (by simp)) ?_;rw [htk2]
   refine zw (zk [9]) ?_;simp only [go_sem]
   refine zq ?_
   refine zb fun K hK=>?_;simp only [go_sem];refine hK _ ?_;clear hK K;refine zw (zk [8]) ?_;simp only [go_sem];refine ze ?_;simp only [go_sem]
theorem great_no {r : Rk} (h : greatR r = false) : r.aims.length ≤ 25 ∧ ∀ a ∈ r.aims,a.beds.length ≤ 12:=by
 unfold greatR at h
 simp only [Bool.or_eq_false_iff,decide_eq_false_iff_not] at h
 refine ⟨by omega,fun a ha=>?_⟩
 have:=h.2
 rw [List.any_eq_false] at this
 have:=this a ha
 unfold bigB at this
 simp only [decide_eq_true_eq] at this
 omega
theorem eqN48 : eqN Tryz.prog 48 = some 2:=by kernel_rfl
theorem law_costs (r : Rk) (hw : WfL r.d r.aims) (p : Ps) : ACalls Tryz.prog 3 [rkR r,psR p] (.bo true):=by
 have hg:=great_ok r
 have hkn:=known_ok
 refine acalls_st (rs:=[.bo true]) [.tmp 4] Tryz.func3 rfl (by kernel_rfl) Tryz.ntmps3 rfl (by simp) rfl fun C vs=>?_
 refine zq ?_
 refine zb fun K hK=>?_;simp only [go_sem];refine hK _ ?_;clear hK K;refine zw (sub_frzP 2 2 [i64 r.d,aimsR r.aims,i64 r.start,i64 r.out] (by omega) rfl rfl) ?_;refine zw (sub_frzP 3 3 [i64 p.st,i64 p.left,i64 p.darts] (by omega) rfl rfl) ?_;refine zw (zk [2,3]) ?_;simp only [go_sem]
 cases hG : greatR r
 case true =>
  rw [hG] at hg
  repeat refine zq ?_
  refine zb fun K hK=>?_;simp only [go_sem]
  refine zh (hg) rfl (by simp only [go_sem,i64,ints]) (by simp only [go_sem,i64,ints]) (by first | exact .inl rfl | exact .inr rfl) ?_
  (try simp only [go_sem]);refine hK _ ?_;clear hK K;refine zw (zk [2,3,23]) ?_;simp only [go_sem]
  refine zc rfl (fun hc=>?_) (fun hc=>?_) <;> (try simp only [go_sem] at hc)
  refine zq ?_
  refine zb fun K hK=>?_;simp only [go_sem]
  refine zh (hkn) rfl (by simp only [go_sem,i64,ints]) (by simp only [go_sem,i64,ints]) (by first | exact .inl rfl | exact .inr rfl) ?_
  (try simp only [go_sem]);refine hK _ ?_;clear hK K;refine zw (zk [4]) ?_;simp only [go_sem];refine ze ?_;simp only [go_sem]
 case false =>
 rw [hG] at hg
 obtain ⟨gl,gb⟩:=great_no hG
 have hown:=own_ok r (by omega) (fun a ha=>by have:=gb a ha; omega)
 have haim:=aim_ok r p hw
 have hco:=costs_ok r p hw
 have hmy:=may_ok r p hw
 have heq:=equalT_ok r
 have hrc:=rcheck_ok r hw
 have hrp:=rpos_ok r p
 repeat refine zq ?_
 refine zb fun K hK=>?_;simp only [go_sem]
 refine zh (hg) rfl (by simp only [go_sem,i64,ints]) (by simp only [go_sem,i64,ints]) (by first | exact .inl rfl | exact .inr rfl) ?_
 (try simp only [go_sem]);refine hK _ ?_;clear hK K;refine zw (zk [2,3,23]) ?_;simp only [go_sem]
 refine zc rfl (fun hc=>?_) (fun hc=>?_) <;> (try simp only [go_sem] at hc)
 refine zx ?_
 try simp only [go_sem]
 refine zq ?_
 refine zb fun K hK=>?_;simp only [go_sem]
 refine zh (hown) rfl (by simp only [go_sem,i64,ints]) (by simp only [go_sem,i64,ints]) (by first | exact .inl rfl | exact .inr rfl) ?_
 (try simp only [go_sem]);refine hK _ ?_;clear hK K;refine zw (sub_frzP 5 5 [i64 r.d,aimsR r.aims,i64 r.start,i64 r.out] (by omega) (by try simp only [go_sem]) (by try simp only [go_sem])) ?_;refine zw (zk [2,3,5]) ?_;simp only [go_sem]
 by_cases h0 : openR r p = 0
 rotate_left
 · have hQ : aimQ r p = (0,0,openR r p):=by unfold aimQ; rw [if_neg h0]
   rw [hQ] at haim
   rw [if_neg h0] at hco hmy
   simp only at haim
   refine zq ?_
   refine zb fun K hK=>?_;simp only [go_sem]
   refine zh (haim) rfl (by simp only [go_sem,i64,ints]) (by simp only [go_sem,i64,ints]) (by first | exact .inl rfl | exact .inr rfl) ?_
   (try simp only [go_sem]);refine hK _ ?_;clear hK K;refine zw (zk [2,3,5,6,7,8]) ?_;simp only [go_sem]
   refine zq ?_
   refine zb fun K hK=>?_;simp only [go_sem]
   refine zh (hco) rfl (by simp only [go_sem,i64,ints]) (by simp only [go_sem,i64,ints]) (by first | exact .inl rfl | exact .inr rfl) ?_
   (try simp only [go_sem]);refine hK _ ?_;clear hK K;refine zw (zk [2,3,5,6,7,8,9,10]) ?_;simp only [go_sem]
   refine zq ?_
   refine zb fun K hK=>?_;simp only [go_sem]
   refine zh (hmy) rfl (by simp only [go_sem,i64,ints]) (by simp only [go_sem,i64,ints]) (by first | exact .inl rfl | exact .inr rfl) ?_
   (try simp only [go_sem]);refine hK _ ?_;clear hK K;refine zw (zk [2,3,5,6,7,8,9,10,11,12]) ?_;simp only [go_sem]
   repeat refine zq ?_
   refine zb fun K hK=>?_;simp only [go_sem]
   refine zh (heq) rfl (by simp only [go_sem,i64,ints]) (by simp only [go_sem,i64,ints]) (by first | exact .inl rfl | exact .inr rfl) ?_
   (try simp only [go_sem]);refine hK _ ?_;clear hK K;refine zw (zk [2,3,6,7,8,9,10,11,12,49]) ?_;simp only [go_sem]
   refine zc rfl (fun hc=>?_) (fun hc=>?_) <;> (try simp only [go_sem] at hc)
   refine zx ?_
   try simp only [go_sem]
   refine zq ?_
   refine zb fun K hK=>?_;simp only [go_sem]
   refine zh (hrc) rfl (by simp only [go_sem,i64,ints]) (by simp only [go_sem,i64,ints]) (by first | exact .inl rfl | exact .inr rfl) ?_
   (try simp only [go_sem]);refine hK _ ?_;clear hK K;refine zw (zk [2,3,6,7,8,9,10,11,12,13]) ?_;simp only [go_sem]
   have e00 : ((0 : Int) == 0) = true:=rfl
   by_cases hc0 : checkR r = 0
   · have hpo : posOk r p = false:=by
      unfold openR at h0
      rw [if_pos hc0] at h0
      cases hpo : posOk r p
      · rfl
      · rw [hpo] at h0; simp at h0
     have hop : openR r p = 2:=by unfold openR; rw [if_pos hc0,hpo]; rfl
     rw [hpo] at hrp
     have en : ((2 : Int) != 0) = true:=rfl
     rw [hc0,hop]
     repeat refine zq ?_
     refine zb fun K hK=>?_;simp only [go_sem,e00]
     refine zh (hrp) rfl (by simp only [go_sem,i64,ints,e00]) (by simp only [go_sem,i64,ints,e00]) (by first | exact .inl rfl | exact .inr rfl) ?_
     (try simp only [go_sem,e00]);refine hK _ ?_;clear hK K;refine zw (zk [6,7,8,9,10,11,12,13,59]) ?_;simp only [go_sem]
     refine zc rfl (fun hc=>?_) (fun hc=>?_) <;> (try simp only [go_sem] at hc)
     refine zb fun K hK=>?_;simp only [go_sem];refine hK _ ?_;clear hK K;refine zw (zk [6,7,8,9,10,11,12,13]) ?_;simp only [go_sem]
     repeat refine zq ?_
     refine zb fun K hK=>?_;simp only [go_sem];refine hK _ ?_;clear hK K;refine zw (zk [6,7,8,9,10,11,12,13,61]) ?_;simp only [go_sem];rw [en]
     refine zc rfl (fun hc=>?_) (fun hc=>?_) <;> (try simp only [go_sem] at hc)
     refine zq ?_
     refine zb fun K hK=>?_;simp only [go_sem,beq_self_eq_true,e00];(try simp (disch:=omega) only [zI])
     (try refine ⟨fun _=>?_,fun h=>by simp at h⟩)
     refine zh (hkn) rfl (by simp only [go_sem,i64,ints]) (by simp only [go_sem,i64,ints]) (by first | exact .inl rfl | exact .inr rfl) ?_
     (try simp only [go_sem]);refine hK _ ?_;clear hK K;refine zw (zk [4]) ?_;simp only [go_sem];refine ze ?_;simp only [go_sem]
   · have hop : openR r p = checkR r:=by unfold openR; rw [if_neg hc0]
     have e0 : (checkR r == 0) = false:=by simpa using hc0
     have en : (checkR r != 0) = true:=by simpa using hc0
     rw [hop]
     repeat refine zq ?_
     refine zb fun K hK=>?_;simp only [go_sem,e0];refine hK _ ?_;clear hK K;refine zw (zk [6,7,8,9,10,11,12,13,59]) ?_;simp only [go_sem]
     refine zc rfl (fun hc=>?_) (fun hc=>?_) <;> (try simp only [go_sem] at hc)
     refine zx ?_
     try simp only [go_sem]
     refine zw (zk [6,7,8,9,10,11,12,13]) ?_;simp only [go_sem]
     repeat refine zq ?_
     refine zb fun K hK=>?_;simp only [go_sem];refine hK _ ?_;clear hK K;refine zw (zk [6,7,8,9,10,11,12,13,61]) ?_;simp only [go_sem];rw [en]
     refine zc rfl (fun hc=>?_) (fun hc=>?_) <;> (try simp only [go_sem] at hc)
     refine zq ?_
     refine zb fun K hK=>?_;simp only [go_sem,beq_self_eq_true,e00];(try simp (disch:=omega) only [zI])
     (try refine ⟨fun _=>?_,fun h=>by simp at h⟩)
     refine zh (hkn) rfl (by simp only [go_sem,i64,ints]) (by simp only [go_sem,i64,ints]) (by first | exact .inl rfl | exact .inr rfl) ?_
     (try simp only [go_sem]);refine hK _ ?_;clear hK K;refine zw (zk [4]) ?_;simp only [go_sem];refine ze ?_;simp only [go_sem]
 obtain ⟨hr,hp⟩:=openR_zero h0
 have hc0 : checkR r = 0:=by
  by_cases h : checkR r = 0
  · exact h
  · exfalso; unfold openR at h0; rw [if_neg h] at h0; exact h h0
 have hao : ∀ a ∈ r.aims,aimOk r.d a = true:=(checkV_zero (checkR_zero hc0).1).2.2.2.2
 have tf:=tab_eq hr false (cntA r) (Nat.le_refl _)
 have tt:=tab_eq hr true (cntA r) (Nat.le_refl _)
 have hr0:=rtable_ok hr hao false
 have hr1:=rtable_ok hr hao true
 rw [← tf.1] at hr0
 rw [← tt.1] at hr1
 have hm0:=rmeans_ok hr hao false (tabT r false) tf.2.1 tf.2.2 p hp
 have hm1:=rmeans_ok hr hao true (tabT r true) tt.2.1 tt.2.2 p hp
 have hQ : aimQ r p = aimL (At.atV r false (tabT r false) p.st.toNat p.left.toNat (p.darts - 1).toNat):=by unfold aimQ; rw [if_pos h0]
 rw [hQ] at haim
 rw [if_pos h0] at hco hmy
 rw [h0] at hco hmy
 rw [hc0] at hrc
 rw [hp] at hrp
 have hBv : ∀ y ∈ At.atV r false (tabT r false) p.st.toNat p.left.toNat (p.darts - 1).toNat,VOk y:=fun y hy=>by
  obtain ⟨a,ha,rfl⟩:=List.mem_map.1 hy
  exact meanA_vok (getD_vok tf.2.2 _) (valA_vok hr tf.2.2 (getD_vok tf.2.2 _) _) (hr.aims a ha)
 have hBl : (At.atV r false (tabT r false) p.st.toNat p.left.toNat (p.darts - 1).toNat).length = r.aims.length:=by simp [At.atV]
 have hAl : (At.atV r true (tabT r true) p.st.toNat p.left.toNat (p.darts - 1).toNat).length = r.aims.length:=by simp [At.atV]
 have hmz:=may_zip (hAl.trans hBl.symm) hBv
 have hrl:=hr.len
 have hmL : mayL r p = mayE (leastA (At.atV r false (tabT r false) p.st.toNat p.left.toNat (p.darts - 1).toNat)) 0 (costL r p):=by
  unfold mayL costL; exact hmz
 rw [hmL] at hmy
 unfold costL at hmy hco
 unfold tabT at *
 generalize tabA r true (cntA r) = T1 at *
 generalize tabA r false (cntA r) = T0 at *
 generalize At.atV r false T0 p.st.toNat p.left.toNat (p.darts - 1).toNat = B at *
 generalize At.atV r true T1 p.st.toNat p.left.toNat (p.darts - 1).toNat = A at *
 have hzl : (A.zip B).length = A.length:=by rw [List.length_zip]; omega
 have hzg : ∀ i x y,A[i]? = some x → B[i]? = some y → (A.zip B)[i]? = some (x,y):=fun i x y hx hy=>List.getElem?_zip_eq_some.2 ⟨hx,hy⟩
 generalize A.zip B = Z at *
 have hfl:=fstM_least B
 have hal:=alike_ok (mayE (leastA B) 0 Z) (mayE (leastA B) 0 Z)
 rw [decide_eq_true rfl] at hal
 have hml:=mayE_len (leastA B) Z 0
 have hlv:=leastA_vok hBv
 have e00 : ((0 : Int) == 0) = true:=rfl
 refine zq ?_
 refine zb fun K hK=>?_;simp only [go_sem]
 refine zh (haim) rfl (by simp only [go_sem,i64,ints]) (by simp only [go_sem,i64,ints]) (by first | exact .inl rfl | exact .inr rfl) ?_
 (try simp only [go_sem]);refine hK _ ?_;clear hK K;refine zw (zk [2,3,5,6,7,8]) ?_;simp only [go_sem]
 refine zq ?_
 refine zb fun K hK=>?_;simp only [go_sem]
 refine zh (hco) rfl (by simp only [go_sem,i64,ints]) (by simp only [go_sem,i64,ints]) (by first | exact .inl rfl | exact .inr rfl) ?_
 (try simp only [go_sem]);refine hK _ ?_;clear hK K;refine zw (zk [2,3,5,6,7,8,9,10]) ?_;simp only [go_sem]
 refine zq ?_
 refine zb fun K hK=>?_;simp only [go_sem]
 refine zh (hmy) rfl (by simp only [go_sem,i64,ints]) (by simp only [go_sem,i64,ints]) (by first | exact .inl rfl | exact .inr rfl) ?_
 (try simp only [go_sem]);refine hK _ ?_;clear hK K;refine zw (zk [2,3,5,6,7,8,9,10,11,12]) ?_;simp only [go_sem]
 repeat refine zq ?_
 refine zb fun K hK=>?_;simp only [go_sem]
 refine zh (heq) rfl (by simp only [go_sem,i64,ints]) (by simp only [go_sem,i64,ints]) (by first | exact .inl rfl | exact .inr rfl) ?_
 (try simp only [go_sem]);refine hK _ ?_;clear hK K;refine zw (zk [2,3,6,7,8,9,10,11,12,49]) ?_;simp only [go_sem]
 refine zc rfl (fun hc=>?_) (fun hc=>?_) <;> (try simp only [go_sem] at hc)
 refine zx ?_
 try simp only [go_sem]
 refine zq ?_
 refine zb fun K hK=>?_;simp only [go_sem]
 refine zh (hrc) rfl (by simp only [go_sem,i64,ints]) (by simp only [go_sem,i64,ints]) (by first | exact .inl rfl | exact .inr rfl) ?_
 (try simp only [go_sem]);refine hK _ ?_;clear hK K;refine zw (zk [2,3,6,7,8,9,10,11,12,13]) ?_;simp only [go_sem]
 repeat refine zq ?_
 refine zb fun K hK=>?_;simp only [go_sem,e00]
 refine zh (hrp) rfl (by simp only [go_sem,i64,ints,e00]) (by simp only [go_sem,i64,ints,e00]) (by first | exact .inl rfl | exact .inr rfl) ?_
 (try simp only [go_sem,e00]);refine hK _ ?_;clear hK K;refine zw (zk [2,3,6,7,8,9,10,11,12,13,59]) ?_;simp only [go_sem]
 refine zc rfl (fun hc=>?_) (fun hc=>?_) <;> (try simp only [go_sem] at hc)
 refine zx ?_
 try simp only [go_sem]
 have e01 : ((0 : Int) != 0) = false:=rfl
 repeat refine zq ?_
 refine zb fun K hK=>?_;simp only [go_sem,e01];refine hK _ ?_;clear hK K;refine zw (zk [2,3,6,7,8,9,10,11,12,13,61]) ?_;simp only [go_sem]
 refine zc rfl (fun hc=>?_) (fun hc=>?_) <;> (try simp only [go_sem] at hc)
 refine zx ?_
 try simp only [go_sem]
 refine zq ?_
 refine awp_dreg2 [(2,none),(3,none)] follows (by decide +kernel) (by kernel_rfl) (by simp only [keysOk,List.mem_cons,List.not_mem_nil,forall_eq_or_imp,Oc.keyOf,go_sem]; simp) fun K hK=>?_
 simp only [go_sem]
 refine zh (hr0) rfl (by simp only [go_sem,i64,ints]) (by simp only [go_sem,i64,ints]) (by first | exact .inl rfl | exact .inr rfl) ?_
 (try simp only [go_sem])
 refine zh (hm0) rfl (by simp only [go_sem,i64,ints]) (by simp only [go_sem,i64,ints]) (by first | exact .inl rfl | exact .inr rfl) ?_
 (try simp only [go_sem])
 refine zh (hr1) rfl (by simp only [go_sem,i64,ints]) (by simp only [go_sem,i64,ints]) (by first | exact .inl rfl | exact .inr rfl) ?_
 (try simp only [go_sem])
 refine zh (hm1) rfl (by simp only [go_sem,i64,ints]) (by simp only [go_sem,i64,ints]) (by first | exact .inl rfl | exact .inr rfl) ?_
 (try simp only [go_sem]);refine hK _ ?_;clear hK K;refine zw (zk [6,7,8,9,10,11,12,14,15]) ?_;simp only [go_sem]
 refine zq ?_
 refine zb fun K hK=>?_;simp only [go_sem];refine hK _ ?_;clear hK K;refine zw (sub_own 18 300 3 1 (by omega) (by rfl)) ?_;refine zw (zk [6,7,8,9,10,11,12,14,15,16,17,18]) ?_;simp only [go_sem]
 repeat refine zq ?_
 refine zb fun K hK=>?_;simp only [go_sem];refine hK _ ?_;clear hK K;refine zw (zk [6,7,8,9,10,11,12,14,15,16,17,18,19]) ?_;simp only [go_sem];refine zd ?_
 refine awp_uptoV (n:=211) B.length (fun i vs=>[(6,.r (i64 (aimL B).1)),(7,.r (i64 (aimL B).2.1)),(8,.r (i64 (aimL B).2.2)),(9,.r (spsR Z)),(10,.r (i64 0)),(11,.r (ints (mayE (leastA B) 0 Z))),(12,.r (i64 0)),(14,.r (ints B)),(15,.r (ints A)),(16,.r (i64 (fstM 0 (B.take i) (2000000000,0)).1)),(17,.r (i64 (fstM 0 (B.take i) (2000000000,0)).2)),(18,.os 300 (vs 300) 1 0 0),(19,.r (i64 i))])
  (fun i vs=>[(300,.arr 3 1 [])]) (fun _=>True) 0 (zj [] ?_ ?_) (Nat.zero_le _) trivial ?_
 · try simp only [go_sem]
   try simp [fstM]
 · try simp only [go_sem]
   try rfl
 intro i vs hi _
 by_cases hic : i < B.length
 · obtain ⟨x,hx⟩:=opt_of_lt hic
   have hlt : (B.take i).length = i:=by rw [List.length_take]; omega
   have hsn : fstM 0 (B.take (i + 1)) (2000000000,0) = if x < (fstM 0 (B.take i) (2000000000,0)).1 then (x,(i : Int)) else fstM 0 (B.take i) (2000000000,0):=by
    rw [take_of_opt hx,fstM_app,Nat.zero_add,hlt]; rfl
   rw [hsn]
   generalize fstM 0 (B.take i) (2000000000,0) = S at *
   obtain ⟨m,f⟩:=S
   simp only
   repeat refine zq ?_
   refine zb fun K hK=>?_;simp only [go_sem,List.length_map]
   intro _
   refine hK _ ?_;clear hK K;refine zw (zk [6,7,8,9,10,11,12,14,15,16,17,18,19,108]) ?_;simp only [go_sem]
   refine zc rfl (fun hc=>?_) (fun hc=>?_) <;> (try simp only [go_sem] at hc)
   rotate_left
   · exact absurd hic hc
   refine zx ?_
   try simp only [go_sem]
   refine zq ?_
   refine zd ?_
   refine zq ?_
   refine zb fun K hK=>?_;simp only [go_sem,hx,hic,List.length_map];refine hK _ ?_;clear hK K;refine zw (zk [6,7,8,9,10,11,12,14,15,16,17,18,19,116]) ?_;simp only [go_sem]
   by_cases hxm : x < m
   · have ec : decide (x < m) = true:=decide_eq_true hxm
     rw [ec,if_pos hxm]
     refine zc rfl (fun hc=>?_) (fun hc=>?_) <;> (try simp only [go_sem] at hc)
     refine zb fun K hK=>?_;simp only [go_sem,hx,hic,List.length_map];refine hK _ ?_;clear hK K;refine zw (zk [6,7,8,9,10,11,12,14,15,16,17,18,19]) ?_;simp only [go_sem];refine zb fun K hK=>?_;simp only [go_sem];(try simp (disch:=omega) only [zI]);refine hK _ ?_;clear hK K
     try simp only [go_sem]
     refine ⟨hic,zj [] ?_ ?_⟩
     · try simp only [go_sem]
       try simp
     · try simp only [go_sem]
   · have ec : decide (x < m) = false:=decide_eq_false hxm
     rw [ec,if_neg hxm]
     refine zc rfl (fun hc=>?_) (fun hc=>?_) <;> (try simp only [go_sem] at hc)
     refine zx ?_
     try simp only [go_sem]
     refine zb fun K hK=>?_;simp only [go_sem];(try simp (disch:=omega) only [zI]);refine hK _ ?_;clear hK K
     try simp only [go_sem]
     refine ⟨hic,zj [] ?_ ?_⟩
     · try simp only [go_sem]
       try simp
     · try simp only [go_sem]
 have hie : i = B.length:=by omega
 subst hie
 have htk : B.take B.length = B:=List.take_of_length_le (by omega)
 rw [htk]
 have hS1 : (fstM 0 B (2000000000,0)).1 = leastA B:=by
  rw [hfl]; by_cases h : leastA B = 2000000000
  · rw [if_pos h,h]
  · rw [if_neg h]
 rw [hS1]
 repeat refine zq ?_
 refine zb fun K hK=>?_;simp only [go_sem,Nat.lt_irrefl,List.length_map]
 intro _
 refine hK _ ?_;clear hK K;refine zw (zk [6,7,8,9,10,11,12,14,15,16,17,18,19,108]) ?_;simp only [go_sem]
 refine zc rfl (fun hc=>?_) (fun hc=>?_) <;> (try simp only [go_sem] at hc)
 refine zf ?_;simp only [go_sem];refine zw (zk [6,7,8,9,10,11,12,14,15,16,17,18]) ?_;simp only [go_sem]
 repeat refine zq ?_
 refine zb fun K hK=>?_;simp only [go_sem];refine hK _ ?_;clear hK K;refine zw (zk [6,7,8,9,10,11,12,14,15,16,17,18,20]) ?_;simp only [go_sem];refine zd ?_
 refine awp_uptoV (n:=211) B.length (fun i vs=>[(6,.r (i64 (aimL B).1)),(7,.r (i64 (aimL B).2.1)),(8,.r (i64 (aimL B).2.2)),(9,.r (spsR Z)),(10,.r (i64 0)),(11,.r (ints (mayE (leastA B) 0 Z))),(12,.r (i64 0)),(14,.r (ints B)),(15,.r (ints A)),(16,.r (i64 (leastA B))),(17,.r (i64 (fstM 0 B (2000000000,0)).2)),(18,.os 300 (vs 300) 1 0 (mayE (leastA B) 0 (Z.take i)).length),(20,.r (i64 i))])
  (fun i vs=>[(300,.arr 3 1 (arrV (mayE (leastA B) 0 (Z.take i))))]) (fun _=>True) 0 (zj [] ?_ ?_) (Nat.zero_le _) trivial ?_
 · try simp only [go_sem]
   try simp [mayE]
 · try simp only [go_sem]
   try rfl
 intro i vs hi _
 by_cases hic : i < B.length
 · obtain ⟨y,hy⟩:=opt_of_lt hic
   have hiA : i < A.length:=by omega
   obtain ⟨x,hx⟩:=opt_of_lt hiA
   have hz:=hzg i x y hx hy
   have hlt : (Z.take i).length = i:=by rw [List.length_take]; omega
   have hsn : mayE (leastA B) 0 (Z.take (i + 1)) = mayE (leastA B) 0 (Z.take i) ++ (if x ≤ leastA B then [(i : Int)] else []):=by
    rw [take_of_opt hz,mayE_app,Nat.zero_add,hlt]; rfl
   have hml2:=mayE_len (leastA B) (Z.take i) 0
   rw [hsn]
   rw [hlt] at hml2
   generalize mayE (leastA B) 0 (Z.take i) = S at *
   repeat refine zq ?_
   refine zb fun K hK=>?_;simp only [go_sem,List.length_map]
   intro _
   refine hK _ ?_;clear hK K;refine zw (zk [6,7,8,9,10,11,12,14,15,16,17,18,20,125]) ?_;simp only [go_sem]
   refine zc rfl (fun hc=>?_) (fun hc=>?_) <;> (try simp only [go_sem] at hc)
   rotate_left
   · exact absurd hic hc
   refine zx ?_
   try simp only [go_sem]
   refine zq ?_
   refine zd ?_
   refine zq ?_
   refine zb fun K hK=>?_;simp only [go_sem,hx,hiA,List.length_map];refine hK _ ?_;clear hK K;refine zw (zk [6,7,8,9,10,11,12,14,15,16,17,18,20,133]) ?_;simp only [go_sem]
   by_cases hxm : x ≤ leastA B
   · have ec : decide (x ≤ leastA B) = true:=decide_eq_true hxm
     rw [ec,if_pos hxm]
     refine zc rfl (fun hc=>?_) (fun hc=>?_) <;> (try simp only [go_sem] at hc)
     refine zb fun K hK=>?_;simp only [go_sem,List.length_map]
     refine ⟨by omega,?_⟩
     refine hK _ ?_;clear hK K;refine zw (zk [6,7,8,9,10,11,12,14,15,16,17,18,20]) ?_;simp only [go_sem];refine zb fun K hK=>?_;simp only [go_sem];(try simp (disch:=omega) only [zI]);refine hK _ ?_;clear hK K
     try simp only [go_sem]
     refine ⟨hic,zj [] ?_ ?_⟩
     · try simp only [go_sem]
       try simp
     · try simp only [go_sem]
       try simp
   · have ec : decide (x ≤ leastA B) = false:=decide_eq_false hxm
     rw [ec,if_neg hxm]
     refine zc rfl (fun hc=>?_) (fun hc=>?_) <;> (try simp only [go_sem] at hc)
     refine zx ?_
     try simp only [go_sem]
     refine zb fun K hK=>?_;simp only [go_sem];(try simp (disch:=omega) only [zI]);refine hK _ ?_;clear hK K
     try simp only [go_sem]
     refine ⟨hic,zj [] ?_ ?_⟩
     · try simp only [go_sem]
       try simp
     · try simp only [go_sem]
       try simp
 have hie : i = B.length:=by omega
 subst hie
 have htz : Z.take B.length = Z:=List.take_of_length_le (by omega)
 rw [htz]
 have htk2 : (((arrV (mayE (leastA B) 0 Z)).drop 0).take (mayE (leastA B) 0 Z).length) = arrV (mayE (leastA B) 0 Z):=by rw [List.drop_zero,List.take_of_length_le (by simp)]
 have hZB : Z.length = B.length:=by omega
 repeat refine zq ?_
 refine zb fun K hK=>?_;simp only [go_sem,Nat.lt_irrefl,List.length_map]
 intro _
 refine hK _ ?_;clear hK K;refine zw (zk [6,7,8,9,10,11,12,14,15,16,17,18,20,125]) ?_;simp only [go_sem]
 refine zc rfl (fun hc=>?_) (fun hc=>?_) <;> (try simp only [go_sem] at hc)
 refine zf ?_;simp only [go_sem];refine zw (sub_frz 18 300 (ty:=3) (sz:=1) (off:=0) (m:=(mayE (leastA B) 0 Z).length) (es:=arrV (mayE (leastA B) 0 Z)) (by omega) rfl (by rfl) (by simp)) ?_;rw [htk2]
 refine zw (zk [6,7,8,9,10,11,12,14,15,16,17,18]) ?_;simp only [go_sem]
 generalize mayE (leastA B) 0 Z = M at *
 have eZ : ((Z.length : Int) != (B.length : Int)) = false:=by rw [hZB]; simp
 repeat refine zq ?_
 refine awp_join (n:=211) (fun (_ : Unit) vs=>[(9,.r (spsR Z)),(11,.r (ints M)),(14,.r (ints B)),(15,.r (ints A)),(18,.r (ints M)),(184,.r (.bo false))]) (fun _=>[]) (fun _=>True) (fun _ h=>h) ?_ ?_
 · by_cases hN : leastA B = 2000000000
   · have hL : aimL B = (0,0,7):=by unfold aimL; rw [if_pos hN]
     rw [hN,hL]
     have f1 : ((2000000000 : Int) == 2000000000) = true:=rfl
     have f2 : ((7 : Int) != 7) = false:=rfl
     have f3 : decide ((2000000000 : Int) < 2000000000) = false:=rfl
     refine zb fun K hK=>?_;simp only [go_sem,f1,f2,f3,e01,eZ,List.length_map]
     repeat intro _
     refine hK _ ?_;clear hK K
     try simp only [go_sem]
     exact ⟨(),fit_of [] (by try simp only [go_sem]) (by try simp only [go_sem])⟩
   · have hL : aimL B = (atI (leastA B) B 0,leastA B,0):=by unfold aimL; rw [if_neg hN]
     have hF2 : (fstM 0 B (2000000000,0)).2 = atI (leastA B) B 0:=by rw [hfl,if_neg hN]
     rw [hL,hF2]
     have f1 : (leastA B == 2000000000) = false:=by simpa using hN
     have f3 : decide (leastA B < 2000000000) = true:=by unfold VOk at hlv; simp; omega
     have f4 : (leastA B != leastA B) = false:=by simp
     have f5 : (atI (leastA B) B 0 != atI (leastA B) B 0) = false:=by simp
     refine zb fun K hK=>?_;simp only [go_sem,f1,f3,f4,f5,e01,eZ,List.length_map]
     repeat intro _
     refine hK _ ?_;clear hK K
     try simp only [go_sem]
     exact ⟨(),fit_of [] (by try simp only [go_sem]) (by try simp only [go_sem])⟩
 intro _ vs _
 refine zc rfl (fun hc=>?_) (fun hc=>?_) <;> (try simp only [go_sem] at hc)
 refine zx ?_
 try simp only [go_sem]
 repeat refine zq ?_
 refine zb fun K hK=>?_;simp only [go_sem];refine hK _ ?_;clear hK K;refine zw (zk [9,11,14,15,18,21]) ?_;simp only [go_sem];refine zd ?_
 refine awp_upto (n:=211) Z.length (fun i vs=>[(9,.r (spsR Z)),(11,.r (ints M)),(14,.r (ints B)),(15,.r (ints A)),(18,.r (ints M)),(21,.r (i64 i))])
  (fun i=>[]) (fun _=>True) 0 (fit_of [] ?_ ?_) (Nat.zero_le _) trivial ?_
 · try simp only [go_sem]
 · try simp only [go_sem]
 intro i vs hi _
 by_cases hic : i < Z.length
 · have hiB : i < B.length:=by omega
   have hiA : i < A.length:=by omega
   obtain ⟨y,hy⟩:=opt_of_lt hiB
   obtain ⟨x,hx⟩:=opt_of_lt hiA
   have hz:=hzg i x y hx hy
   repeat refine zq ?_
   refine zb fun K hK=>?_;simp only [go_sem,List.length_map]
   intro _
   refine hK _ ?_;clear hK K;refine zw (zk [9,11,14,15,18,21,188]) ?_;simp only [go_sem]
   refine zc rfl (fun hc=>?_) (fun hc=>?_) <;> (try simp only [go_sem] at hc)
   rotate_left
   · exact absurd hic hc
   refine zx ?_
   try simp only [go_sem]
   refine zq ?_
   refine zd ?_
   refine zq ?_
   refine awp_dreg2 [(9,none),(14,none),(15,none),(21,none)] follows (by decide +kernel) (by kernel_rfl) (by simp only [keysOk,List.mem_cons,List.not_mem_nil,forall_eq_or_imp,Oc.keyOf,go_sem]; simp) fun K hK=>?_
   simp only [go_sem,hx,hy,hz,hic,hiA,hiB,List.length_map,eqN48,cmpL,eq_self,if_true,List.length_cons,List.length_nil,beq_self_eq_true,Bool.and_true,Bool.and_self,Bool.not_true];refine hK _ ?_;clear hK K;refine zw (zk [9,11,14,15,18,21,204]) ?_;simp only [go_sem]
   refine zc rfl (fun hc=>?_) (fun hc=>?_) <;> (try simp only [go_sem] at hc)
   refine zx ?_
   try simp only [go_sem]
   refine zb fun K hK=>?_;simp only [go_sem];(try simp (disch:=omega) only [zI]);refine hK _ ?_;clear hK K
   try simp only [go_sem]
   refine ⟨hic,fit_of [] ?_ ?_⟩
   · try simp only [go_sem]
   · try simp only [go_sem]
 have hie : i = Z.length:=by omega
 subst hie
 repeat refine zq ?_
 refine zb fun K hK=>?_;simp only [go_sem,Nat.lt_irrefl,List.length_map]
 intro _
 refine hK _ ?_;clear hK K;refine zw (zk [9,11,14,15,18,21,188]) ?_;simp only [go_sem]
 refine zc rfl (fun hc=>?_) (fun hc=>?_) <;> (try simp only [go_sem] at hc)
 refine zf ?_;simp only [go_sem]
 refine zq ?_
 refine zb fun K hK=>?_;simp only [go_sem]
 refine zh (hal) rfl (by simp only [go_sem,i64,ints]) (by simp only [go_sem,i64,ints]) (by first | exact .inl rfl | exact .inr rfl) ?_
 (try simp only [go_sem])
 refine zh (hkn) rfl (by simp only [go_sem,i64,ints]) (by simp only [go_sem,i64,ints]) (by first | exact .inl rfl | exact .inr rfl) ?_
 (try simp only [go_sem]);refine hK _ ?_;clear hK K;refine zw (zk [4]) ?_;simp only [go_sem];refine ze ?_;simp only [go_sem]
end Go.Proofs.YtgfbenanljjgaaaGreat.Du.Th.Ai

namespace Go.Oc
open Go Go.RowKit Go.ChangeShapes Go.WideShapes
inductive Sh where
 | int (k : IntKind)
 | bool
 | sl (es : List Sh)
def fieldsSh (P : Program) (sh : TypeId → Option (List Sh)) : List Field → Nat → Option (List Sh)
 | [],_=>some []
 | f :: fs, o =>
   match sh f.type with
   | some ss=>if f.offset == o && ss.length == P.cellsOf f.type then match fieldsSh P sh fs (o + ss.length) with | some q=>some (ss ++ q) | none=>none else none
   | none=>none
def shape (P : Program) : Nat → TypeId → Option (List Sh)
 | 0,_=>none
 | n + 1, t =>
   match P.underlying t with
   | some (.int k)=>some [.int k]
   | some .bool=>some [.bool]
   | some (.slice e) =>
     match shape P n e with
     | some ss=>if ss.length == P.cellsOf e && decide (0 < ss.length) then some [.sl ss] else none
     | none=>none
   | some (.array m e) =>
     match shape P n e with
     | some ss=>if ss.length == P.cellsOf e && P.cellsOf t == m * ss.length then some (List.replicate m ss).flatten else none
     | none=>none
   | some (.struct fs) =>
     match fieldsSh P (shape P n) fs.toList 0 with
     | some ss=>if ss.length == P.cellsOf t then some ss else none
     | none=>none
   | _=>none
mutual
def Fits : Sh → RV → Prop
 | .int k,x=>∃ n,x = .it k n ∧ (Lit.int k n).wf = true
 | .bool,x=>∃ b,x = .bo b
 | .sl ss,x=>∃ es,x = .sl ss.length es ∧ FitsE ss es
def FitsL : List Sh → List RV → Prop
 | [],xs=>xs = []
 | s :: ss,xs=>∃ y ys,xs = y :: ys ∧ Fits s y ∧ FitsL ss ys
def FitsE (ss : List Sh) : List (List RV) → Prop
 | []=>True
 | e :: es=>FitsL ss e ∧ FitsE ss es
end
theorem fitsL_append : ∀ {s1 s2 : List Sh} {x1 x2 : List RV},FitsL s1 x1 → FitsL s2 x2 → FitsL (s1 ++ s2) (x1 ++ x2)
 | [],_,_,_,h1,h2=>by simp only [FitsL] at h1; subst h1; simpa using h2
 | s :: ss, s2, x1, x2, h1, h2 => by
   simp only [FitsL] at h1
   obtain ⟨y,ys,rfl,h3,h4⟩:=h1
   simp only [List.cons_append,FitsL];exact ⟨y,_,rfl,h3,fitsL_append h4 h2⟩
theorem fitsL_length : ∀ {ss : List Sh} {xs : List RV},FitsL ss xs → xs.length = ss.length
 | [],_,h=>by simp only [FitsL] at h; subst h; rfl
 | s :: ss, _, h => by
   simp only [FitsL] at h
   obtain ⟨y,ys,rfl,_,h⟩:=h
   simp [fitsL_length h]
theorem fitsE_of : ∀ {ss : List Sh} {es : List (List RV)},(∀ e ∈ es,FitsL ss e) → FitsE ss es
 | _,[],_=>by simp only [FitsE]
 | ss,e :: es,h=>by simp only [FitsE]; exact ⟨h e (by simp),fitsE_of fun x hx=>h x (by simp [hx])⟩
theorem choice {α : Type} {Q : Nat → α → Prop} : ∀ (n : Nat),(∀ i,i < n → ∃ x,Q i x) → ∃ xs : List α,xs.length = n ∧ ∀ i x,xs[i]? = some x → Q i x
 | 0,_=>⟨[],rfl,by simp⟩
 | n + 1, h => by
   obtain ⟨xs,hl,hx⟩:=choice n fun i hi=>h i (by omega)
   obtain ⟨y,hy⟩:=h n (by omega)
   refine ⟨xs ++ [y],by simp [hl],fun i x hi=>?_⟩
   by_cases h1 : i < n
   · rw [List.getElem?_append_left (by omega)] at hi; exact hx i x hi
   · rw [List.getElem?_append_right (by omega)] at hi
     have : i = n:=by have:=(List.getElem?_eq_some_iff.1 hi).1; simp at this; omega
     subst this
     simp [hl] at hi
     exact hi ▸ hy
section
variable {w : World} {P : Program}
theorem cells?_get {base n : Nat} {a : Addr} {cs : List Value} (h : w.cells? base a n = some cs) : cs.length = n ∧ ∀ i,i < n → w.cell? (a.add i) = cs[i]?:=by
 unfold World.cells? at h
 split at h
 · exact ⟨by simpa using mapM_some_length h,fun i hi=>mapM_some_get h i i (by simp [hi])⟩
 · cases h
theorem cell_lt {a : Addr} {v : Value} (h : w.cell? a = some v) : a.block < w.heap.size:=by
 refine Decidable.byContradiction fun hn=>?_
 have : w.heap[a.block]? = none:=by simp; omega
 simp [World.cell?,this] at h
def old (w : World) : Nat → Prop:=fun b=>b < w.heap.size
theorem relC_of_cells {xs : List RV} {cs : List Value} {ad : Addr} (hV : RV.relV w (old w) xs cs) (hone : ∀ u ∈ cs,u.oneCell' = true) (hc : ∀ i,i < cs.length → w.cell? (ad.add i) = cs[i]?) : RV.relC w (old w) xs ad 0:=by
 refine RV.relC_of_get fun i x hx=>?_
 obtain ⟨u,hu,hr⟩:=RV.relV_get hV hx
 have hi:=(List.getElem?_eq_some_iff.1 hu).1
 refine ⟨u,?_,hone u (List.mem_of_getElem? hu),hr⟩
 rw [Nat.zero_add,hc i hi,hu]
variable {H : Type} {enc : TypeId × Value → H} {base : Nat} {spare : Nat → Bool} {held : Bool}
def Good3 (w : World) (ss : List Sh) (cs : List Value) : Prop:=∃ xs,FitsL ss xs ∧ RV.relV w (old w) xs cs ∧ ∀ u ∈ cs,u.oneCell' = true
theorem good3_append {s1 s2 : List Sh} {c1 c2 : List Value} (h1 : Good3 w s1 c1) (h2 : Good3 w s2 c2) : Good3 w (s1 ++ s2) (c1 ++ c2):=by
 obtain ⟨x1,f1,r1,o1⟩:=h1
 obtain ⟨x2,f2,r2,o2⟩:=h2
 refine ⟨x1 ++ x2,fitsL_append f1 f2,RV.relV_append r1 r2,fun u hu=>?_⟩
 rcases List.mem_append.1 hu with hu | hu
 · exact o1 u hu
 · exact o2 u hu
theorem good3_length {ss : List Sh} {cs : List Value} (h : Good3 w ss cs) : cs.length = ss.length:=by
 obtain ⟨xs,f,r,_⟩:=h
 rw [RV.relV_length r,fitsL_length f]
theorem trod_fits : ∀ (fuel n : Nat) (t : TypeId) (cs : List Value) (x : DataW H × List MemPlace) (ss : List Sh),DataW.trod enc P w base spare held fuel t cs = some x → shape P n t = some ss → Good3 w ss cs:=by
 intro fuel
 induction fuel with
 | zero=>intro n t cs x ss h; simp [DataW.trod] at h
 | succ fuel ih =>
   intro n t cs x ss h hs
   cases n with
   | zero=>simp [shape] at hs
   | succ n =>
     unfold shape at hs
     split at hs
     · rename_i k ht
       injection hs with hs; subst hs
       obtain ⟨m,rfl,_,hw⟩:=DataW.trod_int ht h
       exact ⟨[.it k m],by simp only [FitsL,Fits]; exact ⟨_,[],rfl,⟨m,rfl,hw⟩,rfl⟩,by simp only [RV.relV,RV.rel]; exact ⟨_,[],rfl,rfl,rfl⟩,by simp [Value.oneCell']⟩
     · rename_i ht
       injection hs with hs; subst hs
       obtain ⟨b,rfl,_⟩:=DataW.trod_bool ht h
       exact ⟨[.bo b],by simp only [FitsL,Fits]; exact ⟨_,[],rfl,⟨b,rfl⟩,rfl⟩,by simp only [RV.relV,RV.rel]; exact ⟨_,[],rfl,rfl,rfl⟩,by simp [Value.oneCell']⟩
     · rename_i e ht
       split at hs
       · rename_i es hes
         split at hs
         · rename_i hc
           simp only [Bool.and_eq_true,beq_iff_eq,decide_eq_true_eq] at hc
           injection hs with hs; subst hs
           rcases DataW.trod_slice ht h with ⟨rfl,_⟩ | ⟨a,len,cap,elems,rest,m,hm,rfl,_,_,hlc,hcm,hel,hget,_⟩
           · refine ⟨[.sl es.length []],?_,?_,by simp [Value.oneCell']⟩
             · simp only [FitsL,Fits];exact ⟨_,[],rfl,⟨[],rfl,by simp only [FitsE]⟩,rfl⟩
             · simp only [RV.relV,RV.rel];exact ⟨_,[],rfl,⟨none,0,rfl,Nat.le_refl _,Nat.zero_le _,fun h=>absurd rfl h⟩,rfl⟩
           · injection hm with hm; subst hm
             have hall : ∀ i,i < len → ∃ e',FitsL es e' ∧ e'.length = es.length ∧ RV.relC w (old w) e' (a.add (i * es.length)) 0 ∧ a.block < w.heap.size:=fun i hi=>by
              have h1:=hget i hi
              have h2 : i < elems.length:=by omega
              rw [List.getElem?_eq_getElem h2] at h1
              obtain ⟨ci,hci,htr⟩:=Option.bind_eq_some_iff.1 h1
              rw [← hc.1] at hci
              obtain ⟨hl,hcell⟩:=cells?_get hci
              obtain ⟨xs,f,r,o⟩:=ih n e ci _ es htr hes
              refine ⟨xs,f,fitsL_length f,relC_of_cells r o (fun j hj=>hcell j (by omega)),?_⟩
              have h3:=hcell 0 hc.2
              have h4 : 0 < ci.length:=by omega
              rw [List.getElem?_eq_getElem h4] at h3
              have:=cell_lt h3
              rwa [block_add,block_add] at this
             obtain ⟨els,hlen,hels⟩:=choice len hall
             refine ⟨[.sl es.length els],?_,?_,by simp [Value.oneCell']⟩
             · simp only [FitsL,Fits]
               refine ⟨_,[],rfl,⟨els,rfl,fitsE_of fun e' he'=>?_⟩,rfl⟩
               obtain ⟨i,hi⟩:=List.getElem?_of_mem he'
               exact (hels i e' hi).1
             · simp only [RV.relV,RV.rel]
               refine ⟨_,[],rfl,⟨some a,cap,by rw [hlen],by omega,hcm,fun hne=>?_⟩,rfl⟩
               obtain ⟨e0,he0⟩ : ∃ e0,els[0]? = some e0:=by
                cases els with
                | nil=>exact absurd rfl hne
                | cons a l=>exact ⟨a,rfl⟩
               refine ⟨a,rfl,(hels 0 e0 he0).2.2.2,RV.relE_of_get fun i e' he'=>?_⟩
               obtain ⟨_,q1,q2,_⟩:=hels i e' he'
               exact ⟨q1,RV.relC_unbase _ q2⟩
         · cases hs
       · cases hs
     · rename_i m e ht
       split at hs
       · rename_i es hes
         split at hs
         · rename_i hc
           simp only [Bool.and_eq_true,beq_iff_eq] at hc
           injection hs with hs; subst hs
           obtain ⟨xs,fm,hm,_,hcl,hxl,hget⟩:=DataW.trod_array ht h
           injection hm with hm; subst hm
           have key : ∀ j,j ≤ m → Good3 w (List.replicate j es).flatten (cs.take (j * es.length)):=by
            intro j
            induction j with
            | zero=>intro _; exact ⟨[],by simp [FitsL],by simp [RV.relV],by simp⟩
            | succ j ihj =>
              intro hj
              have h1:=hget j (by omega)
              have h2 : j < xs.length:=by omega
              rw [List.getElem?_eq_getElem h2,← hc.1] at h1
              have h3:=ih n e _ _ es h1 hes
              have:=good3_append (ihj (by omega)) h3
              rw [← List.take_add] at this
              rw [List.replicate_succ',List.flatten_append,Nat.add_mul]
              simpa using this
           have:=key m (Nat.le_refl _)
           rwa [← hc.2,← hcl,List.take_length] at this
         · cases hs
       · cases hs
     · rename_i fs ht
       split at hs
       · rename_i q hq
         split at hs
         · rename_i hc
           simp only [beq_iff_eq] at hc
           injection hs with hs; subst hs
           obtain ⟨xs,fm,hm,_,hcl,hxl,hget⟩:=DataW.trod_struct ht h
           injection hm with hm; subst hm
           have key : ∀ (l : List Field) (o : Nat) (q : List Sh),(∀ f ∈ l,∃ y,DataW.trod enc P w base spare held fuel f.type ((cs.drop f.offset).take (P.cellsOf f.type)) = some y) → fieldsSh P (shape P n) l o = some q → Good3 w q ((cs.drop o).take q.length):=by
            intro l
            induction l with
            | nil =>
              intro o q _ hq
              simp only [fieldsSh,Option.some.injEq] at hq
              subst hq
              exact ⟨[],by simp [FitsL],by simp [RV.relV],by simp⟩
            | cons f l ihl =>
              intro o q hall hq
              simp only [fieldsSh] at hq
              split at hq
              · rename_i s1 hs1
                split at hq
                · rename_i hc1
                  simp only [Bool.and_eq_true,beq_iff_eq] at hc1
                  split at hq
                  · rename_i q2 hq2
                    injection hq with hq; subst hq
                    obtain ⟨y,hy⟩:=hall f (by simp)
                    have g1:=ih n f.type _ _ s1 hy hs1
                    have g2:=ihl (o + s1.length) q2 (fun f' hf'=>hall f' (by simp [hf'])) hq2
                    rw [hc1.1,← hc1.2] at g1
                    have:=good3_append g1 g2
                    rw [← List.drop_drop,← List.take_add] at this
                    simpa using this
                  · cases hq
                · cases hq
              · cases hq
           have:=key fs.toList 0 q (fun f hf=>by
            obtain ⟨i,hi⟩:=List.getElem?_of_mem hf
            have hi' : fs[i]? = some f:=by simpa using hi
            have h1:=hget i f hi'
            have h2 : i < xs.length:=by have:=(Array.getElem?_eq_some_iff.1 hi').1; omega
            exact ⟨xs[i],by rw [h1]; exact List.getElem?_eq_getElem h2⟩) hq
           rwa [List.drop_zero,hc,← hcl,List.take_length] at this
         · cases hs
       · cases hs
     · cases hs
def FitsT (P : Program) (n : Nat) (t : TypeId) (x : RV) : Prop:=∃ ss,shape P n t = some ss ∧ if aggOf P t then ∃ xs,x = .ag xs ∧ FitsL ss xs else FitsL ss [x]
theorem arg_fits {n : Nat} {t : TypeId} {v : Value} {d : DataW H} {ps : List MemPlace} {r : Reach} {b0 : Nat} (hs : (shape P n t).isSome = true) (hval : Value.okWide P w r b0 t v) (h : DataW.Trod enc P w base spare held t v d ps) :
 ∃ x,FitsT P n t x ∧ x.rel w (old w) v:=by
 obtain ⟨ss,hss⟩:=Option.isSome_iff_exists.1 hs
 obtain ⟨fuel,hf⟩:=h
 obtain ⟨xs,f,r,o⟩:=trod_fits fuel n t _ _ ss hf hss
 have one : aggOf P t = false → v.cells.toList = [v] → ∃ x,FitsT P n t x ∧ x.rel w (old w) v:=fun ha hc=>by
  rw [hc] at r
  match xs,r with
  | [x], r =>
    simp only [RV.relV] at r
    obtain ⟨u,us,e,hr,_⟩:=r
    injection e with e1 e2
    subst e1
    exact ⟨x,⟨ss,hss,by rw [ha]; exact f⟩,hr⟩
  | [],r=>simp [RV.relV] at r
  | _ :: _ :: _, r =>
    simp only [RV.relV] at r
    obtain ⟨u,us,e,_,u2,us2,e2,_⟩:=r
    injection e with _ e
    rw [e2] at e; cases e
 cases n with
 | zero=>simp [shape] at hss
 | succ n =>
   have hss':=hss
   unfold shape at hss'
   split at hss'
   · rename_i k ht
     obtain ⟨m,rfl⟩:=okWide_int ht hval
     exact one (by simp [aggOf,ht]) rfl
   · rename_i ht
     obtain ⟨b,rfl⟩:=okWide_bool ht hval
     exact one (by simp [aggOf,ht]) rfl
   · rename_i e ht
     obtain ⟨a,l,c,rfl⟩:=okWide_slice ht hval
     exact one (by simp [aggOf,ht]) rfl
   · rename_i m e ht
     obtain ⟨cs,rfl⟩ : ∃ cs,v = .agg cs:=by
      simp only [Value.okWide,ht] at hval
      obtain ⟨cs,h1,_⟩:=hval
      exact ⟨cs,h1⟩
     exact ⟨.ag xs,⟨ss,hss,by simp only [aggOf,ht,if_true]; exact ⟨xs,rfl,f⟩⟩,by simp only [RV.rel]; exact ⟨cs,rfl,o,r⟩⟩
   · rename_i fs ht
     obtain ⟨cs,rfl,_⟩:=okWide_struct ht hval
     exact ⟨.ag xs,⟨ss,hss,by simp only [aggOf,ht,if_true]; exact ⟨xs,rfl,f⟩⟩,by simp only [RV.rel]; exact ⟨cs,rfl,o,r⟩⟩
   · cases hss'
theorem wf_i64 {n : Int} (h : (Lit.int .i64 n).wf = true) : -9223372036854775808 ≤ n ∧ n ≤ 9223372036854775807:=by
 simp only [Lit.wf,Bool.and_eq_true,decide_eq_true_eq] at h
 have h1 : IntKind.min .i64 = -9223372036854775808:=by decide
 have h2 : IntKind.max .i64 = 9223372036854775807:=by decide
 rw [h1,h2] at h
 exact h
theorem fitsE_ints : ∀ {es : List (List RV)},FitsE [.int .i64] es → ∃ l : List Int,es = l.map (fun x=>[.it .i64 x]) ∧ ∀ x ∈ l,-9223372036854775808 ≤ x ∧ x ≤ 9223372036854775807
 | [],_=>⟨[],rfl,by simp⟩
 | e :: es, h => by
   simp only [FitsE,FitsL,Fits] at h
   obtain ⟨⟨y,ys,rfl,⟨n,rfl,hn⟩,rfl⟩,h⟩:=h
   obtain ⟨l,rfl,hl⟩:=fitsE_ints h
   refine ⟨n :: l,rfl,fun x hx=>?_⟩
   rcases List.mem_cons.1 hx with rfl | hx
   · exact wf_i64 hn
   · exact hl x hx
theorem fitsT_ag {n : Nat} {t : TypeId} {x : RV} {ss : List Sh} (h : FitsT P n t x) (hs : shape P n t = some ss) (ha : aggOf P t = true) : ∃ xs,x = .ag xs ∧ FitsL ss xs:=by
 obtain ⟨s',h1,h2⟩:=h
 rw [hs] at h1; injection h1 with h1; subst h1
 rw [ha] at h2
 exact h2
theorem fitsT_one {n : Nat} {t : TypeId} {x : RV} {s : Sh} (h : FitsT P n t x) (hs : shape P n t = some [s]) (ha : aggOf P t = false) : Fits s x:=by
 obtain ⟨s',h1,h2⟩:=h
 rw [hs] at h1; injection h1 with h1; subst h1
 rw [ha] at h2
 simp only [Bool.false_eq_true,if_false,FitsL] at h2
 obtain ⟨y,ys,e,h3,_⟩:=h2
 injection e with e1 e2
 subst e1
 exact h3
theorem fitsT_int {n : Nat} {t : TypeId} {x : RV} (h : FitsT P n t x) (hs : shape P n t = some [.int .i64]) (ha : aggOf P t = false) : ∃ m,x = .it .i64 m ∧ -9223372036854775808 ≤ m ∧ m ≤ 9223372036854775807:=by
 have:=fitsT_one h hs ha
 simp only [Fits] at this
 obtain ⟨m,h1,h2⟩:=this
 exact ⟨m,h1,wf_i64 h2⟩
theorem fitsT_ints {n : Nat} {t : TypeId} {x : RV} (h : FitsT P n t x) (hs : shape P n t = some [.sl [.int .i64]]) (ha : aggOf P t = false) : ∃ l : List Int,x = .sl 1 (l.map (fun x=>[.it .i64 x])) ∧ ∀ x ∈ l,-9223372036854775808 ≤ x ∧ x ≤ 9223372036854775807:=by
 have:=fitsT_one h hs ha
 simp only [Fits] at this
 obtain ⟨es,h1,h2⟩:=this
 obtain ⟨l,rfl,hl⟩:=fitsE_ints h2
 exact ⟨l,h1,hl⟩
end
end Go.Oc

namespace Go.Proofs.YtgfbenanljjgaaaGreat.Du.Th.Ai
open Go Go.Oc
theorem fitsE_bed : ∀ {es : List (List RV)},FitsE [.int .i64,.int .i64,.int .i64] es → ∃ l : List Bd,es = l.map bedR ∧ Wf l
 | [],_=>⟨[],rfl,by simp [Wf]⟩
 | e :: es, h => by
   simp only [Oc.FitsE,Oc.FitsL,Oc.Fits] at h
   obtain ⟨⟨_,_,rfl,⟨a,rfl,ha⟩,_,_,rfl,⟨b,rfl,hb⟩,_,_,rfl,⟨c,rfl,hc⟩,rfl⟩,h⟩:=h
   obtain ⟨l,rfl,hl⟩:=fitsE_bed h
   refine ⟨⟨a,b,c⟩ :: l,rfl,fun x hx=>?_⟩
   rcases List.mem_cons.1 hx with rfl | hx
   · exact ⟨wf_i64 ha,wf_i64 hb,wf_i64 hc⟩
   · exact hl x hx
theorem fitsE_aim : ∀ {es : List (List RV)},FitsE [.int .i64,.sl [.int .i64,.int .i64,.int .i64]] es → ∃ l : List Am,es = l.map Du.aimR ∧ ∀ a ∈ l,WfA a
 | [],_=>⟨[],rfl,by simp⟩
 | e :: es, h => by
   simp only [Oc.FitsE,Oc.FitsL,Oc.Fits] at h
   obtain ⟨⟨_,_,rfl,⟨a,rfl,ha⟩,_,_,rfl,⟨q,rfl,hq⟩,rfl⟩,h⟩:=h
   obtain ⟨l,rfl,hl⟩:=fitsE_aim h
   obtain ⟨b,rfl,hb⟩:=fitsE_bed hq
   refine ⟨⟨a,b⟩ :: l,rfl,fun x hx=>?_⟩
   rcases List.mem_cons.1 hx with rfl | hx
   · exact ⟨wf_i64 ha,hb⟩
   · exact hl x hx
structure WfK (r : Rk) : Prop where
 law : WfL r.d r.aims
 start : I64 r.start
 out : I64 r.out
theorem fits27 {x : RV} (h : FitsT Tryz.prog 9 27 x) : ∃ r,x = rkR r ∧ WfK r:=by
 obtain ⟨xs,rfl,hx⟩:=fitsT_ag (ss:=[.int .i64,.sl [.int .i64,.sl [.int .i64,.int .i64,.int .i64]],.int .i64,.int .i64]) h (by kernel_rfl) (by kernel_rfl)
 simp only [Oc.FitsL,Oc.Fits] at hx
 obtain ⟨_,_,rfl,⟨d,rfl,hd⟩,_,_,rfl,⟨es,rfl,hes⟩,_,_,rfl,⟨st,rfl,hst⟩,_,_,rfl,⟨o,rfl,ho⟩,rfl⟩:=hx
 obtain ⟨l,rfl,hl⟩:=fitsE_aim hes
 exact ⟨⟨d,l,st,o⟩,rfl,⟨wf_i64 hd,hl⟩,wf_i64 hst,wf_i64 ho⟩
theorem fits29 {x : RV} (h : FitsT Tryz.prog 9 29 x) : ∃ p : Ps,x = psR p:=by
 obtain ⟨xs,rfl,hx⟩:=fitsT_ag (ss:=[.int .i64,.int .i64,.int .i64]) h (by kernel_rfl) (by kernel_rfl)
 simp only [Oc.FitsL,Oc.Fits] at hx
 obtain ⟨_,_,rfl,⟨a,rfl,ha⟩,_,_,rfl,⟨b,rfl,hb⟩,_,_,rfl,⟨c,rfl,hc⟩,rfl⟩:=hx
 exact ⟨⟨a,b,c⟩,rfl⟩
end Go.Proofs.YtgfbenanljjgaaaGreat.Du.Th.Ai

namespace Go.Oc
open Go Go.RowKit
theorem wf_u8 {n : Int} (h : (Lit.int .u8 n).wf = true) : 0 ≤ n ∧ n ≤ 255:=by
 simp only [Lit.wf,Bool.and_eq_true,decide_eq_true_eq] at h
 have h1 : IntKind.min .u8 = 0:=by decide
 have h2 : IntKind.max .u8 = 255:=by decide
 rw [h1,h2] at h
 exact h
theorem wf_u16 {n : Int} (h : (Lit.int .u16 n).wf = true) : 0 ≤ n ∧ n ≤ 65535:=by
 simp only [Lit.wf,Bool.and_eq_true,decide_eq_true_eq] at h
 have h1 : IntKind.min .u16 = 0:=by decide
 have h2 : IntKind.max .u16 = 65535:=by decide
 rw [h1,h2] at h
 exact h
theorem wf_u32 {n : Int} (h : (Lit.int .u32 n).wf = true) : 0 ≤ n ∧ n ≤ 4294967295:=by
 simp only [Lit.wf,Bool.and_eq_true,decide_eq_true_eq] at h
 have h1 : IntKind.min .u32 = 0:=by decide
 have h2 : IntKind.max .u32 = 4294967295:=by decide
 rw [h1,h2] at h
 exact h
theorem fitsE_u8 : ∀ {es : List (List RV)},FitsE [.int .u8] es → ∃ l : List Int,es = l.map (fun x=>[.it .u8 x]) ∧ ∀ x ∈ l,0 ≤ x ∧ x ≤ 255
 | [],_=>⟨[],rfl,by simp⟩
 | e :: es, h => by
   simp only [FitsE,FitsL,Fits] at h
   obtain ⟨⟨y,ys,rfl,⟨n,rfl,hn⟩,rfl⟩,h⟩:=h
   obtain ⟨l,rfl,hl⟩:=fitsE_u8 h
   refine ⟨n :: l,rfl,fun x hx=>?_⟩
   rcases List.mem_cons.1 hx with rfl | hx
   · exact wf_u8 hn
   · exact hl x hx
theorem fitsE_u16 : ∀ {es : List (List RV)},FitsE [.int .u16] es → ∃ l : List Int,es = l.map (fun x=>[.it .u16 x]) ∧ ∀ x ∈ l,0 ≤ x ∧ x ≤ 65535
 | [],_=>⟨[],rfl,by simp⟩
 | e :: es, h => by
   simp only [FitsE,FitsL,Fits] at h
   obtain ⟨⟨y,ys,rfl,⟨n,rfl,hn⟩,rfl⟩,h⟩:=h
   obtain ⟨l,rfl,hl⟩:=fitsE_u16 h
   refine ⟨n :: l,rfl,fun x hx=>?_⟩
   rcases List.mem_cons.1 hx with rfl | hx
   · exact wf_u16 hn
   · exact hl x hx
end Go.Oc

namespace Go.Proofs.YtgfbenanljjgaaaGreat
open Go Go.Oc
theorem law3' {x0 x1 : RV} (h0 : FitsT Tryz.prog 9 27 x0) (h1 : FitsT Tryz.prog 9 29 x1) : ACalls Tryz.prog 3 [x0,x1] (.bo true):=by
 obtain ⟨r,rfl,hw⟩:=Du.Th.Ai.fits27 h0
 obtain ⟨p,rfl⟩:=Du.Th.Ai.fits29 h1
 exact Du.Th.Ai.law_costs r hw.law p
end Go.Proofs.YtgfbenanljjgaaaGreat


namespace Go.Proofs.YtgfbenanljjgaaaGreat
open Go Go.Oc Go.ChangeShapes Go.WideShapes Go.RowKit
set_option linter.unusedVariables false
theorem own : ownKnob Tryz.prog.godebug = none := by kernel_rfl
theorem laidOut : laidOutB Tryz.prog = true := by kernel_rfl
set_option maxRecDepth 100000 in
theorem lifted (os : Os) (started : os.Started) (H : Type) (enc : TypeId × Value → H) :
    ReturnsInHanded {} Tryz.checked os 3 .any (Rows.aimCostsSpec.pre6 enc Tryz.prog Tryz.f3 Rows.aimCostsRow.domain false) (Rows.aimCostsSpec.post enc Tryz.prog Tryz.f3 false true false false) := by
  refine returnsInHanded_of_change (C := Tryz.checked) own started (by kernel_rfl) Tryz.func3
    (ChangeSpec.witness6 (enc := enc) (C := Tryz.checked) false ⟨#[], #[.agg #[.int .i64 0, .slice none 0 0, .int .i64 0, .int .i64 0], .agg #[.int .i64 0, .int .i64 0, .int .i64 0]], []⟩ 8 (by kernel_rfl) (by kernel_rfl) (by kernel_rfl) (by kernel_rfl)) ?_
  intro W base args ds gs before hval0 hW hcnd _
  have hval : ∀ (j : Nat) t v, Tryz.f3.params[j]? = some t → args[j]? = some v → Value.okWide Tryz.prog W .any base t v := hval0
  have hW' := hW
  obtain ⟨p, q, hA0, hV, rfl, hfz, hnd⟩ := hW
  have hA : DataW.TrodAll enc Tryz.prog W 0 (fun _ => true) true Tryz.f3.params.toList args.toList ds p := hA0
  rw [Tryz.params3] at hA hval
  obtain ⟨v0, vs0, d0, ds0, p0, q0, hargs, rfl, rfl, h0, r0⟩ := trodAll_cons hA
  obtain ⟨v1, vs1, d1, ds1, p1, q1, rfl, rfl, rfl, h1, r1⟩ := trodAll_cons r0
  obtain ⟨rfl, rfl, rfl⟩ := trodAll_nil r1
  obtain rfl : args = #[v0, v1] := by cases args; simp_all
  obtain ⟨rfl, rfl⟩ := trodVars_none hV
  have lt0 : ∀ x ∈ p0, x.block < W.heap.size := by obtain ⟨m, hm⟩ := h0; exact DataW.trod_lt m _ _ _ hm
  have lt1 : ∀ x ∈ p1, x.block < W.heap.size := by obtain ⟨m, hm⟩ := h1; exact DataW.trod_lt m _ _ _ hm
  obtain ⟨x0, g0, e0⟩ := arg_fits (n := 9) (by kernel_rfl) (hval 0 27 v0 rfl rfl) h0
  obtain ⟨x1, g1, e1⟩ := arg_fits (n := 9) (by kernel_rfl) (hval 1 29 v1 rfl rfl) h1
  clear hA0 hval0
  refine ((law3' g0 g1).2 W (old W) #[v0, v1] (fun _ h => h) (by simp only [RV.relV]; exact ⟨_, _, rfl, e0, _, _, rfl, e1, rfl⟩)).mono fun e W' he => ?_
  obtain ⟨v, R', rfl, bel, _, _, _, hr⟩ := he
  simp only [RV.rel] at hr
  subst hr
  exact ⟨_, rfl, _, _, _, [], _, [], hW', trodAll_mk1 (shut_bool Tryz.underlying4 _), (trodAll_cons_mk (Below.trod laidOut (by kernel_rfl) (of_decide_eq_true (by kernel_rfl)) h0 bel lt0) (trodAll_cons_mk (Below.trod laidOut (by kernel_rfl) (of_decide_eq_true (by kernel_rfl)) h1 bel lt1) trodAll_mk0)), rfl, bel.frame _, fun h => by cases h⟩
theorem over : Rows.aimCostsRow.holds Tryz.pinned (OpenSpec.ofChange Rows.aimCostsSpec) :=
  OpenClaim.holds_of_wide 3 Tryz.f3 rfl rfl rfl rfl rfl rfl rfl ⟨rfl, rfl, rfl, rfl, rfl⟩ rfl rfl rfl rfl rfl (by kernel_rfl) Tryz.func3 (by kernel_rfl)
    (of_decide_eq_true (by kernel_rfl)) (by unfold Func.isWrapper; first | (rw [if_pos (by decide +kernel)]; kernel_rfl) | (rw [if_neg (by decide +kernel)]; exact ⟨rfl, rfl⟩))
    (fun os started H enc _ => lifted os started H enc)
theorem aimCosts_holds : Rows.AimCostsSaid := over
#print axioms aimCosts_holds
end Go.Proofs.YtgfbenanljjgaaaGreat
