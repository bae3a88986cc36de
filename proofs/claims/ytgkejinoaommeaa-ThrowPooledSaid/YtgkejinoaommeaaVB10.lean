/- For all arguments, the given function ThrowPooled returns true: the sum of two truths is a truth of the pooled law; the order of both laws does not matter; each span of mean scores holds the sums of both. No conditions beyond those of the given statement. -/
import Derived.Test.YtgkejinoaommeaaVB9
import Derived.Test.YtgkejinoaommeaaVB6
import Derived.Test.YtgkejinoaommeaaVB5
import Derived.ChangeShapes
import Derived.WideShapes
import Derived.OpenShut
import Derived.ShutString
import Derived.ChangeOld
import Derived.Carry
import Derived.Below
import Derived.JoinedOf
import Derived.Test.YtgkejinoaommeaaRows
import Derived.SizedLaws
namespace Go.Proofs.Ytgkejinoaommeaa
open Go Go.Oc
set_option linter.unusedSimpArgs false
set_option linter.unusedVariables false
set_option maxRecDepth 8000
set_option maxHeartbeats 2000000
theorem TI.le {l : List Bd} {den : Int} {x : List Int × Int} (h : TI l den x) (h0 : ∀ c ∈ l,0 ≤ c.lo) : x.2 ≤ den:=by
 have hs:=h.sum
 have hn : ∀ {M : List Int},(∀ v ∈ M,0 ≤ v) → 0 ≤ M.sum:=fun {M}=>by
  induction M with
  | nil=>intro _; simp
  | cons y M ih =>
    intro hM
    have:=ih fun v hv=>hM v (by simp [hv])
    have:=hM y (by simp)
    simp only [List.sum_cons]; omega
 have : 0 ≤ x.1.sum:=hn fun v hv=>by
  obtain ⟨i,hi⟩:=List.getElem?_of_mem hv
  have hil:=(List.getElem?_eq_some_iff.1 hi).1
  have h1:=(h.each i (by rw [← h.len]; exact hil)).1
  rw [List.getD_eq_getElem?_getD,hi] at h1
  have h2:=h0 _ (bAt_mem (show i < l.length by rw [← h.len]; exact hil))
  simp only [Option.getD_some] at *
  omega
 omega
theorem truthU_ok (a : Am) (den : Int) (bs : List Int) (hb : ∀ n ∈ bs,0 ≤ n ∧ n ≤ 255) (h : loS a.beds ≤ den) (hd : den ≤ 3000) (hl : 1 ≤ a.beds.length ∧ a.beds.length ≤ 19) (h1 : ∀ c ∈ a.beds,0 ≤ c.lo ∧ c.lo ≤ c.hi ∧ c.hi ≤ 3000) (hh : den ≤ hiS a.beds) :
 ACalls Try.prog 32 [.ag [i64 a.at_,bedsR a.beds],i64 den,u8s bs] (ints (truthU a.beds den bs)):=by
 have hT:=TI.it (bs:=bs) hb hl.1 h (fun c hc=>(h1 c hc).2.1)
 have hdone:=itU_done (bs:=bs) hb hl.1 h (fun c hc=>(h1 c hc).2.1) hh
 obtain ⟨L,hL⟩ : ∃ L,L = a.beds:=⟨_,rfl⟩
 rw [← hL] at h hl h1 hT hdone hh ⊢
 have hlo : ∀ i,i ≤ L.length → (0 ≤ loS (L.take i) ∧ loS (L.take i) ≤ den):=fun i hi=>by
  have h2:=loS_le (B:=3000) (l:=L.take i) fun c hc=>by have:=h1 c (List.mem_of_mem_take hc); omega
  have h3:=loS_le (B:=3000) (l:=L.drop i) fun c hc=>by have:=h1 c (List.mem_of_mem_drop hc); omega
  have h4 : loS L = loS (L.take i) + loS (L.drop i):=by
   have:=congrArg loS (List.take_append_drop i L).symm
   rw [this]
   simp only [loS,List.map_append,List.sum_append]
  omega
 refine acalls_st (rs:=[ints (truthU L den bs)]) [.tmp 6] Try.func32 rfl (by kernel_rfl) Try.ntmps32 rfl (by simp) rfl fun C vs=>?_
 repeat refine zq ?_
 refine zb (by kernel_rfl) fun K hK=>?_
 simp only [go_sem]
 (try simp (disch:=omega) only [zI])
 repeat first | intro _ | refine ⟨by omega,?_⟩ | refine ⟨⟨by omega,by omega⟩,?_⟩
 refine hK _ ?_
 clear hK K
 refine zw (sub_frzP 3 3 [i64 a.at_,bedsR L] (by omega) rfl rfl) ?_
 refine zw (zk [1,2,3]) ?_
 simp only [go_sem]
 repeat refine zq ?_
 refine zb (by kernel_rfl) fun K hK=>?_
 simp only [go_sem]
 (try simp (disch:=omega) only [zI])
 repeat first | intro _ | refine ⟨by omega,?_⟩ | refine ⟨⟨by omega,by omega⟩,?_⟩
 refine hK _ ?_
 clear hK K
 refine zw (zk [2,3,7,8]) ?_
 simp only [go_sem]
 refine zw (sub_own 7 32 3 1 (by omega) rfl) ?_
 try simp only [go_sem]
 repeat refine zq ?_
 refine zb (by kernel_rfl) fun K hK=>?_
 simp only [go_sem]
 (try simp (disch:=omega) only [zI])
 repeat first | intro _ | refine ⟨by omega,?_⟩ | refine ⟨⟨by omega,by omega⟩,?_⟩
 refine hK _ ?_
 clear hK K
 refine zw (zk [2,3,7,8,9]) ?_
 simp only [go_sem]
 repeat refine zq ?_
 refine zd ?_
 refine awp_uptoV (n:=127) L.length (fun i vs=>[(2,.r (u8s bs)),(3,.r (.rp [i64 a.at_,bedsR L])),(7,.os 32 (vs 32) 1 0 i),(8,.r (i64 (den - loS (L.take i)))),(9,.r (i64 (i : Int)))])
  (fun i vs=>[(32,.arr 3 1 (((L.map (·.lo)).take i).map fun x=>[i64 x]))]) (fun _=>True) 0 (zj [] ?_ ?_) (Nat.zero_le _) trivial ?_
 · try simp only [go_sem]
   simp [loS]
 · try simp only [go_sem]
 · intro i vs hi _
   repeat refine zq ?_
   refine zb (by kernel_rfl) fun K hK=>?_
   simp only [go_sem]
   (try simp (disch:=omega) only [zI])
   repeat first | intro _ | refine ⟨by omega,?_⟩ | refine ⟨⟨by omega,by omega⟩,?_⟩
   refine hK _ ?_
   clear hK K
   refine zw (zk [2,3,7,8,9,20]) ?_
   simp only [go_sem]
   repeat refine zq ?_
   refine zc rfl (fun hc=>?_) (fun hc=>?_) <;> (try simp only [go_sem] at hc)
   · have hci : i < L.length:=by omega
     obtain ⟨c,hc1⟩:=opt_of_lt hci
     obtain ⟨g0,g1,g2⟩:=h1 c (mem_of_opt hc1)
     have hs0:=hlo i (by omega)
     have hs1:=hlo (i + 1) (by omega)
     have hlS : loS (L.take (i + 1)) = loS (L.take i) + c.lo:=by rw [take_of_opt hc1]; simp [loS]
     have hli : ((L.map (·.lo)).take i).length = i:=by rw [List.length_take]; simp; omega
     have hMt : (L.map (·.lo)).take (i + 1) = (L.map (·.lo)).take i ++ [c.lo]:=take_of_opt (by simp [hc1])
     refine zx ?_
     try simp only [go_sem]
     repeat refine zq ?_
     refine zd ?_
     repeat refine zq ?_
     refine zb (by kernel_rfl) fun K hK=>?_
     simp only [go_sem,hc1,hci,bedR,hli]
     (try simp (disch:=omega) only [zI])
     repeat first | intro _ | refine ⟨by omega,?_⟩ | refine ⟨⟨by omega,by omega⟩,?_⟩
     refine hK _ ?_
     clear hK K
     refine zw (zk [2,3,7,8,9]) ?_
     simp only [go_sem]
     repeat refine zq ?_
     refine zb (by kernel_rfl) fun K hK=>?_
     simp only [go_sem,hc1,hci,bedR]
     (try simp (disch:=omega) only [zI])
     repeat first | intro _ | refine ⟨by omega,?_⟩ | refine ⟨⟨by omega,by omega⟩,?_⟩
     refine hK _ ?_
     clear hK K
     refine zw (zk [2,3,7,8,9]) ?_
     simp only [go_sem]
     repeat refine zq ?_
     refine zb (by kernel_rfl) fun K hK=>?_
     simp only [go_sem]
     (try simp (disch:=omega) only [zI])
     repeat first | intro _ | refine ⟨by omega,?_⟩ | refine ⟨⟨by omega,by omega⟩,?_⟩
     refine hK _ ?_
     clear hK K
     try simp only [go_sem]
     refine ⟨by omega,zj [] ?_ ?_⟩
     · try simp only [go_sem]
       rw [hlS]
       omega
     · try simp only [go_sem]
       rw [hMt]
       simp
   · have hil : i = L.length:=by omega
     subst hil
     rw [List.take_length,List.take_of_length_le (by simp)]
     refine zf ?_
     simp only [go_sem]
     refine zw (zk [2,3,7,8]) ?_
     simp only [go_sem]
     repeat refine zq ?_
     refine zb (by kernel_rfl) fun K hK=>?_
     simp only [go_sem]
     (try simp (disch:=omega) only [zI])
     repeat first | intro _ | refine ⟨by omega,?_⟩ | refine ⟨⟨by omega,by omega⟩,?_⟩
     refine hK _ ?_
     clear hK K
     refine zw (zk [2,3,7,8,10]) ?_
     simp only [go_sem]
     repeat refine zq ?_
     refine zd ?_
     refine awp_uptoV (n:=127) 31 (fun k vs=>[(2,.r (u8s bs)),(3,.r (.rp [i64 a.at_,bedsR L])),(7,.os 32 (vs 32) 1 0 L.length),(8,.r (i64 (itU L bs den k).2)),(10,.r (i64 (k : Int)))])
      (fun k vs=>[(32,.arr 3 1 ((itU L bs den k).1.map fun x=>[i64 x]))]) (fun _=>True) 0 (zj [] ?_ ?_) (Nat.zero_le _) trivial ?_
     · try simp only [go_sem]
       rfl
     · try simp only [go_sem]
       rfl
     · intro k vs hk _
       have hTk:=hT k
       have hTn:=hT (k + 1)
       have hst : itU L bs den (k + 1) = stepU L bs k (itU L bs den k):=rfl
       have hx2:=hTk.le fun c hc=>(h1 c hc).1
       have hlk:=hTk.len
       have h00:=hTk.left
       have hse:=hTk.each
       by_cases hc0 : 0 < (itU L bs den k).2
       · have hk31 : k < 31:=by
          by_cases e : k = 31
          · rw [e,hdone] at hc0; omega
          · omega
         generalize hxe : itU L bs den k = x at *
         have e0 : decide (0 < x.2) = true:=by simpa using hc0
         have hbk:=mbyteOf_ok bs k
         have hbk1:=mbyteOf_ok bs (k + 1)
         have hbl:=byteL_le hb k
         have hbl1:=byteL_le hb (k + 1)
         have hz0 : ((L.length : Int) == 0) = false:=beq_eq_false_iff_ne.2 (by omega)
         have hz1 : (L.length : Int) ≠ 0:=by omega
         have hix : (byteL bs k + (k : Int)).tmod (L.length : Int) = ((idxU L bs k : Nat) : Int):=by
          rw [Int.tmod_eq_emod_of_nonneg (by omega)]; unfold idxU
          rw [Int.natCast_emod]; congr 1; omega
         have hm40 : (byteL bs (k + 1)).tmod 40 = byteL bs (k + 1) % 40:=Int.tmod_eq_emod_of_nonneg hbl1.1
         have hil:=idxU_lt (l:=L) (bs:=bs) (k:=k) hl.1
         have hmu:=moreU_le hb hl.1 hTk k
         repeat refine zq ?_
         refine zb (by kernel_rfl) fun K hK=>?_
         simp only [go_sem,e0]
         (try simp (disch:=omega) only [zI])
         repeat first | intro _ | refine ⟨by omega,?_⟩ | refine ⟨⟨by omega,by omega⟩,?_⟩
         refine hK _ ?_
         clear hK K
         refine zw (zk [2,3,7,8,10,43]) ?_
         simp only [go_sem]
         repeat refine zq ?_
         refine zc rfl (fun hc=>?_) (fun hc=>?_) <;> (try simp only [go_sem] at hc)
         refine zx ?_
         try simp only [go_sem]
         repeat refine zq ?_
         refine zd ?_
         repeat refine zq ?_
         refine zb (by kernel_rfl) fun K hK=>?_
         simp only [go_sem]
         (try simp (disch:=omega) only [zI])
         refine zh (hbk) rfl (by simp only [go_sem,i64,ints]) (by simp only [go_sem,i64,ints]) (by first | exact .inl rfl | exact .inr rfl) ?_
         (try simp only [go_sem])
         (try simp (disch:=omega) only [zI])
         try simp only [go_sem,hix,hz0,hz1]
         try simp (disch:=omega) only [zI]
         try simp only [go_sem,hix,hz0,hz1]
         intro _
         refine ⟨hz1,?_⟩
         repeat first | intro _ | refine ⟨by omega,?_⟩ | refine ⟨⟨by omega,by omega⟩,?_⟩
         refine hK _ ?_
         clear hK K
         refine zw (zk [2,3,7,8,10,11]) ?_
         simp only [go_sem]
         obtain ⟨j,hj⟩ : ∃ j,j = idxU L bs k:=⟨_,rfl⟩
         obtain ⟨mm,hmm⟩ : ∃ mm,mm = moreU L bs k x:=⟨_,rfl⟩
         obtain ⟨c,hcj⟩:=opt_of_lt (show j < L.length by omega)
         obtain ⟨g0,g1,g2⟩:=h1 c (mem_of_opt hcj)
         obtain ⟨y,hy⟩ : ∃ y,y = x.1.getD j 0:=⟨_,rfl⟩
         have hyj : x.1[j]? = some y:=by rw [hy,List.getD_eq_getElem?_getD,List.getElem?_eq_getElem (by omega)]; rfl
         have hbj : bAt L j = c:=by simp [bAt,List.getD,hcj]
         have hye:=hse j (by omega)
         rw [hbj,← hy] at hye
         have htk : takeU L j x = min x.2 (c.hi - y):=by unfold takeU; rw [hbj,hy]
         have hme : mm = if k < 30 then min (min x.2 (c.hi - y)) (1 + byteL bs (k + 1) % 40) else min x.2 (c.hi - y):=by
          rw [hmm]; unfold moreU; rw [← hj,htk]
         have hjl : j < L.length:=by omega
         have hjx : j < x.1.length:=by omega
         have hws : IntKind.i64.wrap (c.hi - y) = c.hi - y:=by rw [zI] <;> omega
         have hgv : giveU (idxU L bs k) (moreU L bs k x) x = (x.1.set j (y + mm),x.2 - mm):=by rw [← hj,← hmm]; unfold giveU; rw [← hy]
         rw [← hj,htk,← hmm] at hmu
         rw [← hj]
         repeat refine zq ?_
         refine awp_dreg2 [(7,some 32),(3,none),(8,none),(11,none)] follows (by decide +kernel) (by kernel_rfl) (by simp only [keysOk,List.mem_cons,List.not_mem_nil,forall_eq_or_imp,Oc.keyOf,go_sem]; simp) fun K hK=>?_
         simp only [go_sem,hcj,hjl,bedR,hyj,hws,hlk,hjx]
         (try simp (disch:=omega) only [zI])
         repeat first | intro _ | refine ⟨by omega,?_⟩ | refine ⟨⟨by omega,by omega⟩,?_⟩
         refine hK _ ?_
         clear hK K
         refine zw (zk [2,3,7,8,10,11,12]) ?_
         simp only [go_sem]
         repeat refine zq ?_
         refine zb (by kernel_rfl) fun K hK=>?_
         simp only [go_sem]
         (try simp (disch:=omega) only [zI])
         repeat first | intro _ | refine ⟨by omega,?_⟩ | refine ⟨⟨by omega,by omega⟩,?_⟩
         refine hK _ ?_
         clear hK K
         refine zw (zk [2,3,7,8,10,11,12,70]) ?_
         simp only [go_sem]
         repeat refine zq ?_
         refine awp_joinV (n:=127) (fun (_ : Unit) vs=>[(2,.r (u8s bs)),(3,.r (.rp [i64 a.at_,bedsR L])),(7,.os 32 (vs 32) 1 0 L.length),(8,.r (i64 x.2)),(10,.r (i64 (k : Int))),(11,.r (i64 (j : Int))),(12,.r (i64 mm))]) (fun _ vs=>[(32,.arr 3 1 (x.1.map fun x=>[i64 x]))]) (fun _=>True) (fun _ h=>h) ?_ ?_
         · repeat refine zq ?_
           refine zc rfl (fun hc=>?_) (fun hc=>?_) <;> (try simp only [go_sem] at hc)
           · have h30 : k < 30:=by omega
             rw [if_pos h30] at hme
             repeat refine zq ?_
             refine zb (by kernel_rfl) fun K hK=>?_
             simp only [go_sem]
             (try simp (disch:=omega) only [zI])
             refine zh (hbk1) rfl (by simp only [go_sem,i64,ints]) (by simp only [go_sem,i64,ints]) (by first | exact .inl rfl | exact .inr rfl) ?_
             (try simp only [go_sem])
             (try simp (disch:=omega) only [zI])
             try simp only [go_sem,hm40]
             try simp (disch:=omega) only [zI]
             repeat first | intro _ | refine ⟨by omega,?_⟩ | refine ⟨⟨by omega,by omega⟩,?_⟩
             refine hK _ ?_
             clear hK K
             refine ⟨(),trivial,zj [] ?_ ?_⟩
             · try simp only [go_sem]
               rw [hme]
             · try simp only [go_sem]
           · have h30 : ¬ k < 30:=by omega
             rw [if_neg h30] at hme
             rw [← hme]
             refine zx ?_
             try simp only [go_sem]
             refine ⟨(),zj [] ?_ ?_⟩
             · try simp only [go_sem]
             · try simp only [go_sem]
         intro _ vs _
         repeat refine zq ?_
         refine zb (by kernel_rfl) fun K hK=>?_
         simp only [go_sem,hyj,hlk,hjx,hjl]
         (try simp (disch:=omega) only [zI])
         repeat first | intro _ | refine ⟨by omega,?_⟩ | refine ⟨⟨by omega,by omega⟩,?_⟩
         refine hK _ ?_
         clear hK K
         refine zw (zk [2,3,7,8,10]) ?_
         simp only [go_sem]
         repeat refine zq ?_
         refine zb (by kernel_rfl) fun K hK=>?_
         simp only [go_sem]
         (try simp (disch:=omega) only [zI])
         repeat first | intro _ | refine ⟨by omega,?_⟩ | refine ⟨⟨by omega,by omega⟩,?_⟩
         refine hK _ ?_
         clear hK K
         refine zw (zk [2,3,7,8,10,93]) ?_
         simp only [go_sem]
         repeat refine zq ?_
         refine zc rfl (fun hc=>?_) (fun hc=>?_) <;> (try simp only [go_sem] at hc)
         · have h30 : ¬ k < 30:=by omega
           have hst2 : itU L bs den (k + 1) = fillU L (x.1.set j (y + mm),x.2 - mm) L.length:=by rw [hst]; unfold stepU; rw [if_neg h30,hgv]
           have hTz : TI L den (x.1.set j (y + mm),x.2 - mm):=by
            have:=hTk.give (idxU_lt (bs:=bs) (k:=k) hl.1) (moreU_le hb hl.1 hTk k)
            rw [hgv] at this; exact this
           have hcells : (x.1.map fun x=>[i64 x]).set j [i64 (y + mm)] = (x.1.set j (y + mm)).map fun x=>[i64 x]:=by rw [List.map_set]
           obtain ⟨z,hz⟩ : ∃ z,z = (x.1.set j (y + mm),x.2 - mm):=⟨_,rfl⟩
           have hz1' : z.1 = x.1.set j (y + mm):=by rw [hz]
           have hz2' : z.2 = x.2 - mm:=by rw [hz]
           rw [← hz] at hst2 hTz
           repeat refine zq ?_
           refine zb (by kernel_rfl) fun K hK=>?_
           simp only [go_sem]
           (try simp (disch:=omega) only [zI])
           repeat first | intro _ | refine ⟨by omega,?_⟩ | refine ⟨⟨by omega,by omega⟩,?_⟩
           refine hK _ ?_
           clear hK K
           refine zw (zk [2,3,7,8,10,13]) ?_
           simp only [go_sem]
           repeat refine zq ?_
           refine zd ?_
           refine awp_uptoV (n:=127) L.length (fun q vs=>[(2,.r (u8s bs)),(3,.r (.rp [i64 a.at_,bedsR L])),(7,.os 32 (vs 32) 1 0 L.length),(8,.r (i64 (fillU L z q).2)),(10,.r (i64 (k : Int))),(13,.r (i64 (q : Int)))])
            (fun q vs=>[(32,.arr 3 1 ((fillU L z q).1.map fun x=>[i64 x]))]) (fun _=>True) 0 (zj [] ?_ ?_) (Nat.zero_le _) trivial ?_
           · try simp only [go_sem]
             exact hz2'.symm
           · try simp only [go_sem]
             show _ = [(32,RowC.arr 3 1 (z.1.map fun x=>[i64 x]))]
             rw [hz1',List.map_set]
           · intro q vs hq _
             have hTq:=hTz.fill q hq
             have hqs : ∀ h : q < L.length,fillU L z (q + 1) = giveU q (takeU L q (fillU L z q)) (fillU L z q):=fun _=>rfl
             generalize hue : fillU L z q = u at hTq hqs ⊢
             have hul:=hTq.len
             have hu0:=hTq.left
             have hu1:=hTq.le fun c hc=>(h1 c hc).1
             repeat refine zq ?_
             refine zb (by kernel_rfl) fun K hK=>?_
             simp only [go_sem]
             (try simp (disch:=omega) only [zI])
             repeat first | intro _ | refine ⟨by omega,?_⟩ | refine ⟨⟨by omega,by omega⟩,?_⟩
             refine hK _ ?_
             clear hK K
             refine zw (zk [2,3,7,8,10,13,97]) ?_
             simp only [go_sem]
             repeat refine zq ?_
             refine zc rfl (fun hc=>?_) (fun hc=>?_) <;> (try simp only [go_sem] at hc)
             · have hcq : q < L.length:=by omega
               obtain ⟨e,hce⟩:=opt_of_lt hcq
               obtain ⟨f0,f1,f2⟩:=h1 e (mem_of_opt hce)
               obtain ⟨v,hv⟩ : ∃ v,v = u.1.getD q 0:=⟨_,rfl⟩
               have hvq : u.1[q]? = some v:=by rw [hv,List.getD_eq_getElem?_getD,List.getElem?_eq_getElem (by omega)]; rfl
               have hbq : bAt L q = e:=by simp [bAt,List.getD,hce]
               have hve:=hTq.each q hcq
               rw [hbq,← hv] at hve
               have hwq : IntKind.i64.wrap (e.hi - v) = e.hi - v:=by rw [zI] <;> omega
               have hqx : q < u.1.length:=by omega
               have hgq : fillU L z (q + 1) = (u.1.set q (v + min u.2 (e.hi - v)),u.2 - min u.2 (e.hi - v)):=by
                rw [hqs hcq]; unfold giveU takeU; rw [hbq,← hv]
               refine zx ?_
               try simp only [go_sem]
               repeat refine zq ?_
               refine zd ?_
               repeat refine zq ?_
               refine awp_dreg2 [(7,some 32),(3,none),(8,none),(13,none)] follows (by decide +kernel) (by kernel_rfl) (by simp only [keysOk,List.mem_cons,List.not_mem_nil,forall_eq_or_imp,Oc.keyOf,go_sem]; simp) fun K hK=>?_
               simp only [go_sem,hce,hcq,bedR,hvq,hwq,hul,hqx]
               (try simp (disch:=omega) only [zI])
               repeat first | intro _ | refine ⟨by omega,?_⟩ | refine ⟨⟨by omega,by omega⟩,?_⟩
               refine hK _ ?_
               clear hK K
               refine zw (zk [2,3,7,8,10,12,13]) ?_
               simp only [go_sem]
               repeat refine zq ?_
               refine zb (by kernel_rfl) fun K hK=>?_
               simp only [go_sem,hvq,hul,hqx,hcq]
               (try simp (disch:=omega) only [zI])
               repeat first | intro _ | refine ⟨by omega,?_⟩ | refine ⟨⟨by omega,by omega⟩,?_⟩
               refine hK _ ?_
               clear hK K
               refine zw (zk [2,3,7,8,10,13]) ?_
               simp only [go_sem]
               repeat refine zq ?_
               refine zb (by kernel_rfl) fun K hK=>?_
               simp only [go_sem]
               (try simp (disch:=omega) only [zI])
               repeat first | intro _ | refine ⟨by omega,?_⟩ | refine ⟨⟨by omega,by omega⟩,?_⟩
               refine hK _ ?_
               clear hK K
               try simp only [go_sem]
               refine ⟨by omega,zj [] ?_ ?_⟩
               · try simp only [go_sem]
                 rw [hgq]
               · try simp only [go_sem]
                 rw [hgq,List.map_set]
             · have hqe : q = L.length:=by omega
               refine zf ?_
               simp only [go_sem]
               refine zw (zk [2,3,7,8,10]) ?_
               simp only [go_sem]
               repeat refine zq ?_
               refine zb (by kernel_rfl) fun K hK=>?_
               simp only [go_sem]
               (try simp (disch:=omega) only [zI])
               repeat first | intro _ | refine ⟨by omega,?_⟩ | refine ⟨⟨by omega,by omega⟩,?_⟩
               refine hK _ ?_
               clear hK K
               try simp only [go_sem]
               refine ⟨by omega,zj [] ?_ ?_⟩
               · try simp only [go_sem]
                 rw [hst2,← hqe,hue]
               · try simp only [go_sem]
                 rw [hst2,← hqe,hue]
         · have h30 : k < 30:=by omega
           have hst2 : itU L bs den (k + 1) = (x.1.set j (y + mm),x.2 - mm):=by rw [hst]; unfold stepU; rw [if_pos h30,hgv]
           refine zx ?_
           try simp only [go_sem]
           repeat refine zq ?_
           refine zb (by kernel_rfl) fun K hK=>?_
           simp only [go_sem]
           (try simp (disch:=omega) only [zI])
           repeat first | intro _ | refine ⟨by omega,?_⟩ | refine ⟨⟨by omega,by omega⟩,?_⟩
           refine hK _ ?_
           clear hK K
           try simp only [go_sem]
           refine ⟨by omega,zj [] ?_ ?_⟩
           · try simp only [go_sem]
             rw [hst2]
           · try simp only [go_sem]
             rw [hst2,List.map_set]
       · have hz : (itU L bs den k).2 = 0:=by omega
         have e0 : decide (0 < (itU L bs den k).2) = false:=decide_eq_false (by omega)
         have hst2 : truthU L den bs = (itU L bs den k).1:=by
          unfold truthU
          have:=itU_stay (bs:=bs) hb hl.1 h (fun c hc=>(h1 c hc).2.1) hz (31 - k)
          rw [show k + (31 - k) = 31 by omega] at this
          rw [this]
         repeat refine zq ?_
         refine zb (by kernel_rfl) fun K hK=>?_
         simp only [go_sem,e0]
         (try simp (disch:=omega) only [zI])
         repeat first | intro _ | refine ⟨by omega,?_⟩ | refine ⟨⟨by omega,by omega⟩,?_⟩
         refine hK _ ?_
         clear hK K
         refine zw (zk [7,43]) ?_
         simp only [go_sem]
         repeat refine zq ?_
         refine zc rfl (fun hc=>?_) (fun hc=>?_) <;> (try simp only [go_sem] at hc)
         refine zf ?_
         simp only [go_sem]
         refine zw (sub_frz 7 32 (ty:=3) (sz:=1) (off:=0) (m:=L.length) (es:=(itU L bs den k).1.map fun x=>[i64 x]) (by omega) rfl (by rfl) (by simp [hlk])) ?_
         have e1 : (((itU L bs den k).1.map fun x=>[i64 x]).drop 0).take L.length = (truthU L den bs).map fun x=>[i64 x]:=by
          rw [List.drop_zero,List.take_of_length_le (by simp [hlk]),hst2]
         rw [e1]
         refine zw (zk [7]) ?_
         simp only [go_sem]
         repeat refine zq ?_
         refine zb (by kernel_rfl) fun K hK=>?_
         simp only [go_sem]
         (try simp (disch:=omega) only [zI])
         repeat first | intro _ | refine ⟨by omega,?_⟩ | refine ⟨⟨by omega,by omega⟩,?_⟩
         refine hK _ ?_
         clear hK K
         refine zw (zk [6]) ?_
         simp only [go_sem]
         refine ze ?_
         simp only [go_sem]
end Go.Proofs.Ytgkejinoaommeaa

namespace Go.Proofs.Ytgkejinoaommeaa
open Go Go.Oc
set_option linter.unusedSimpArgs false
set_option linter.unusedVariables false
set_option maxRecDepth 8000
set_option maxHeartbeats 1000000
theorem truthU_own (a : Am) (den : Int) (bs : List Int) (hb : ∀ n ∈ bs,0 ≤ n ∧ n ≤ 255) (h : loS a.beds ≤ den) (hd : den ≤ 3000) (hl : 1 ≤ a.beds.length ∧ a.beds.length ≤ 19) (h1 : ∀ c ∈ a.beds,0 ≤ c.lo ∧ c.lo ≤ c.hi ∧ c.hi ≤ 3000) (hh : den ≤ hiS a.beds) :
 OCalls Try.prog 32 [.ag [i64 a.at_,bedsR a.beds],i64 den,u8s bs] 3 1 ((truthU a.beds den bs).map fun x=>[i64 x]) (truthU a.beds den bs).length:=by
 have hT:=TI.it (bs:=bs) hb hl.1 h (fun c hc=>(h1 c hc).2.1)
 have hdone:=itU_done (bs:=bs) hb hl.1 h (fun c hc=>(h1 c hc).2.1) hh
 obtain ⟨L,hL⟩ : ∃ L,L = a.beds:=⟨_,rfl⟩
 rw [← hL] at h hl h1 hT hdone hh ⊢
 have hlo : ∀ i,i ≤ L.length → (0 ≤ loS (L.take i) ∧ loS (L.take i) ≤ den):=fun i hi=>by
  have h2:=loS_le (B:=3000) (l:=L.take i) fun c hc=>by have:=h1 c (List.mem_of_mem_take hc); omega
  have h3:=loS_le (B:=3000) (l:=L.drop i) fun c hc=>by have:=h1 c (List.mem_of_mem_drop hc); omega
  have h4 : loS L = loS (L.take i) + loS (L.drop i):=by
   have:=congrArg loS (List.take_append_drop i L).symm
   rw [this]
   simp only [loS,List.map_append,List.sum_append]
  omega
 refine ocalls_st (n:=127) (.tmp 6) Try.func32 rfl (by kernel_rfl) Try.ntmps32 rfl (by simp) (fun e he=>by obtain ⟨x,_,rfl⟩:=List.mem_map.1 he; rfl) fun C vs=>?_
 repeat refine zq ?_
 refine zb (by kernel_rfl) fun K hK=>?_
 simp only [go_sem]
 (try simp (disch:=omega) only [zI])
 repeat first | intro _ | refine ⟨by omega,?_⟩ | refine ⟨⟨by omega,by omega⟩,?_⟩
 refine hK _ ?_
 clear hK K
 refine zw (sub_frzP 3 3 [i64 a.at_,bedsR L] (by omega) rfl rfl) ?_
 refine zw (zk [1,2,3]) ?_
 simp only [go_sem]
 repeat refine zq ?_
 refine zb (by kernel_rfl) fun K hK=>?_
 simp only [go_sem]
 (try simp (disch:=omega) only [zI])
 repeat first | intro _ | refine ⟨by omega,?_⟩ | refine ⟨⟨by omega,by omega⟩,?_⟩
 refine hK _ ?_
 clear hK K
 refine zw (zk [2,3,7,8]) ?_
 simp only [go_sem]
 refine zw (sub_own 7 32 3 1 (by omega) rfl) ?_
 try simp only [go_sem]
 repeat refine zq ?_
 refine zb (by kernel_rfl) fun K hK=>?_
 simp only [go_sem]
 (try simp (disch:=omega) only [zI])
 repeat first | intro _ | refine ⟨by omega,?_⟩ | refine ⟨⟨by omega,by omega⟩,?_⟩
 refine hK _ ?_
 clear hK K
 refine zw (zk [2,3,7,8,9]) ?_
 simp only [go_sem]
 repeat refine zq ?_
 refine zd ?_
 refine awp_uptoV (n:=127) L.length (fun i vs=>[(2,.r (u8s bs)),(3,.r (.rp [i64 a.at_,bedsR L])),(7,.os 32 (vs 32) 1 0 i),(8,.r (i64 (den - loS (L.take i)))),(9,.r (i64 (i : Int)))])
  (fun i vs=>[(32,.arr 3 1 (((L.map (·.lo)).take i).map fun x=>[i64 x]))]) (fun _=>True) 0 (zj [] ?_ ?_) (Nat.zero_le _) trivial ?_
 · try simp only [go_sem]
   simp [loS]
 · try simp only [go_sem]
 · intro i vs hi _
   repeat refine zq ?_
   refine zb (by kernel_rfl) fun K hK=>?_
   simp only [go_sem]
   (try simp (disch:=omega) only [zI])
   repeat first | intro _ | refine ⟨by omega,?_⟩ | refine ⟨⟨by omega,by omega⟩,?_⟩
   refine hK _ ?_
   clear hK K
   refine zw (zk [2,3,7,8,9,20]) ?_
   simp only [go_sem]
   repeat refine zq ?_
   refine zc rfl (fun hc=>?_) (fun hc=>?_) <;> (try simp only [go_sem] at hc)
   · have hci : i < L.length:=by omega
     obtain ⟨c,hc1⟩:=opt_of_lt hci
     obtain ⟨g0,g1,g2⟩:=h1 c (mem_of_opt hc1)
     have hs0:=hlo i (by omega)
     have hs1:=hlo (i + 1) (by omega)
     have hlS : loS (L.take (i + 1)) = loS (L.take i) + c.lo:=by rw [take_of_opt hc1]; simp [loS]
     have hli : ((L.map (·.lo)).take i).length = i:=by rw [List.length_take]; simp; omega
     have hMt : (L.map (·.lo)).take (i + 1) = (L.map (·.lo)).take i ++ [c.lo]:=take_of_opt (by simp [hc1])
     refine zx ?_
     try simp only [go_sem]
     repeat refine zq ?_
     refine zd ?_
     repeat refine zq ?_
     refine zb (by kernel_rfl) fun K hK=>?_
     simp only [go_sem,hc1,hci,bedR,hli]
     (try simp (disch:=omega) only [zI])
     repeat first | intro _ | refine ⟨by omega,?_⟩ | refine ⟨⟨by omega,by omega⟩,?_⟩
     refine hK _ ?_
     clear hK K
     refine zw (zk [2,3,7,8,9]) ?_
     simp only [go_sem]
     repeat refine zq ?_
     refine zb (by kernel_rfl) fun K hK=>?_
     simp only [go_sem,hc1,hci,bedR]
     (try simp (disch:=omega) only [zI])
     repeat first | intro _ | refine ⟨by omega,?_⟩ | refine ⟨⟨by omega,by omega⟩,?_⟩
     refine hK _ ?_
     clear hK K
     refine zw (zk [2,3,7,8,9]) ?_
     simp only [go_sem]
     repeat refine zq ?_
     refine zb (by kernel_rfl) fun K hK=>?_
     simp only [go_sem]
     (try simp (disch:=omega) only [zI])
     repeat first | intro _ | refine ⟨by omega,?_⟩ | refine ⟨⟨by omega,by omega⟩,?_⟩
     refine hK _ ?_
     clear hK K
     try simp only [go_sem]
     refine ⟨by omega,zj [] ?_ ?_⟩
     · try simp only [go_sem]
       rw [hlS]
       omega
     · try simp only [go_sem]
       rw [hMt]
       simp
   · have hil : i = L.length:=by omega
     subst hil
     rw [List.take_length,List.take_of_length_le (by simp)]
     refine zf ?_
     simp only [go_sem]
     refine zw (zk [2,3,7,8]) ?_
     simp only [go_sem]
     repeat refine zq ?_
     refine zb (by kernel_rfl) fun K hK=>?_
     simp only [go_sem]
     (try simp (disch:=omega) only [zI])
     repeat first | intro _ | refine ⟨by omega,?_⟩ | refine ⟨⟨by omega,by omega⟩,?_⟩
     refine hK _ ?_
     clear hK K
     refine zw (zk [2,3,7,8,10]) ?_
     simp only [go_sem]
     repeat refine zq ?_
     refine zd ?_
     refine awp_uptoV (n:=127) 31 (fun k vs=>[(2,.r (u8s bs)),(3,.r (.rp [i64 a.at_,bedsR L])),(7,.os 32 (vs 32) 1 0 L.length),(8,.r (i64 (itU L bs den k).2)),(10,.r (i64 (k : Int)))])
      (fun k vs=>[(32,.arr 3 1 ((itU L bs den k).1.map fun x=>[i64 x]))]) (fun _=>True) 0 (zj [] ?_ ?_) (Nat.zero_le _) trivial ?_
     · try simp only [go_sem]
       rfl
     · try simp only [go_sem]
       rfl
     · intro k vs hk _
       have hTk:=hT k
       have hTn:=hT (k + 1)
       have hst : itU L bs den (k + 1) = stepU L bs k (itU L bs den k):=rfl
       have hx2:=hTk.le fun c hc=>(h1 c hc).1
       have hlk:=hTk.len
       have h00:=hTk.left
       have hse:=hTk.each
       by_cases hc0 : 0 < (itU L bs den k).2
       · have hk31 : k < 31:=by
          by_cases e : k = 31
          · rw [e,hdone] at hc0; omega
          · omega
         generalize hxe : itU L bs den k = x at *
         have e0 : decide (0 < x.2) = true:=by simpa using hc0
         have hbk:=mbyteOf_ok bs k
         have hbk1:=mbyteOf_ok bs (k + 1)
         have hbl:=byteL_le hb k
         have hbl1:=byteL_le hb (k + 1)
         have hz0 : ((L.length : Int) == 0) = false:=beq_eq_false_iff_ne.2 (by omega)
         have hz1 : (L.length : Int) ≠ 0:=by omega
         have hix : (byteL bs k + (k : Int)).tmod (L.length : Int) = ((idxU L bs k : Nat) : Int):=by
          rw [Int.tmod_eq_emod_of_nonneg (by omega)]; unfold idxU
          rw [Int.natCast_emod]; congr 1; omega
         have hm40 : (byteL bs (k + 1)).tmod 40 = byteL bs (k + 1) % 40:=Int.tmod_eq_emod_of_nonneg hbl1.1
         have hil:=idxU_lt (l:=L) (bs:=bs) (k:=k) hl.1
         have hmu:=moreU_le hb hl.1 hTk k
         repeat refine zq ?_
         refine zb (by kernel_rfl) fun K hK=>?_
         simp only [go_sem,e0]
         (try simp (disch:=omega) only [zI])
         repeat first | intro _ | refine ⟨by omega,?_⟩ | refine ⟨⟨by omega,by omega⟩,?_⟩
         refine hK _ ?_
         clear hK K
         refine zw (zk [2,3,7,8,10,43]) ?_
         simp only [go_sem]
         repeat refine zq ?_
         refine zc rfl (fun hc=>?_) (fun hc=>?_) <;> (try simp only [go_sem] at hc)
         refine zx ?_
         try simp only [go_sem]
         repeat refine zq ?_
         refine zd ?_
         repeat refine zq ?_
         refine zb (by kernel_rfl) fun K hK=>?_
         simp only [go_sem]
         (try simp (disch:=omega) only [zI])
         refine zh (hbk) rfl (by simp only [go_sem,i64,ints]) (by simp only [go_sem,i64,ints]) (by first | exact .inl rfl | exact .inr rfl) ?_
         (try simp only [go_sem])
         (try simp (disch:=omega) only [zI])
         try simp only [go_sem,hix,hz0,hz1]
         try simp (disch:=omega) only [zI]
         try simp only [go_sem,hix,hz0,hz1]
         intro _
         refine ⟨hz1,?_⟩
         repeat first | intro _ | refine ⟨by omega,?_⟩ | refine ⟨⟨by omega,by omega⟩,?_⟩
         refine hK _ ?_
         clear hK K
         refine zw (zk [2,3,7,8,10,11]) ?_
         simp only [go_sem]
         obtain ⟨j,hj⟩ : ∃ j,j = idxU L bs k:=⟨_,rfl⟩
         obtain ⟨mm,hmm⟩ : ∃ mm,mm = moreU L bs k x:=⟨_,rfl⟩
         obtain ⟨c,hcj⟩:=opt_of_lt (show j < L.length by omega)
         obtain ⟨g0,g1,g2⟩:=h1 c (mem_of_opt hcj)
         obtain ⟨y,hy⟩ : ∃ y,y = x.1.getD j 0:=⟨_,rfl⟩
         have hyj : x.1[j]? = some y:=by rw [hy,List.getD_eq_getElem?_getD,List.getElem?_eq_getElem (by omega)]; rfl
         have hbj : bAt L j = c:=by simp [bAt,List.getD,hcj]
         have hye:=hse j (by omega)
         rw [hbj,← hy] at hye
         have htk : takeU L j x = min x.2 (c.hi - y):=by unfold takeU; rw [hbj,hy]
         have hme : mm = if k < 30 then min (min x.2 (c.hi - y)) (1 + byteL bs (k + 1) % 40) else min x.2 (c.hi - y):=by
          rw [hmm]; unfold moreU; rw [← hj,htk]
         have hjl : j < L.length:=by omega
         have hjx : j < x.1.length:=by omega
         have hws : IntKind.i64.wrap (c.hi - y) = c.hi - y:=by rw [zI] <;> omega
         have hgv : giveU (idxU L bs k) (moreU L bs k x) x = (x.1.set j (y + mm),x.2 - mm):=by rw [← hj,← hmm]; unfold giveU; rw [← hy]
         rw [← hj,htk,← hmm] at hmu
         rw [← hj]
         repeat refine zq ?_
         refine awp_dreg2 [(7,some 32),(3,none),(8,none),(11,none)] follows (by decide +kernel) (by kernel_rfl) (by simp only [keysOk,List.mem_cons,List.not_mem_nil,forall_eq_or_imp,Oc.keyOf,go_sem]; simp) fun K hK=>?_
         simp only [go_sem,hcj,hjl,bedR,hyj,hws,hlk,hjx]
         (try simp (disch:=omega) only [zI])
         repeat first | intro _ | refine ⟨by omega,?_⟩ | refine ⟨⟨by omega,by omega⟩,?_⟩
         refine hK _ ?_
         clear hK K
         refine zw (zk [2,3,7,8,10,11,12]) ?_
         simp only [go_sem]
         repeat refine zq ?_
         refine zb (by kernel_rfl) fun K hK=>?_
         simp only [go_sem]
         (try simp (disch:=omega) only [zI])
         repeat first | intro _ | refine ⟨by omega,?_⟩ | refine ⟨⟨by omega,by omega⟩,?_⟩
         refine hK _ ?_
         clear hK K
         refine zw (zk [2,3,7,8,10,11,12,70]) ?_
         simp only [go_sem]
         repeat refine zq ?_
         refine awp_joinV (n:=127) (fun (_ : Unit) vs=>[(2,.r (u8s bs)),(3,.r (.rp [i64 a.at_,bedsR L])),(7,.os 32 (vs 32) 1 0 L.length),(8,.r (i64 x.2)),(10,.r (i64 (k : Int))),(11,.r (i64 (j : Int))),(12,.r (i64 mm))]) (fun _ vs=>[(32,.arr 3 1 (x.1.map fun x=>[i64 x]))]) (fun _=>True) (fun _ h=>h) ?_ ?_
         · repeat refine zq ?_
           refine zc rfl (fun hc=>?_) (fun hc=>?_) <;> (try simp only [go_sem] at hc)
           · have h30 : k < 30:=by omega
             rw [if_pos h30] at hme
             repeat refine zq ?_
             refine zb (by kernel_rfl) fun K hK=>?_
             simp only [go_sem]
             (try simp (disch:=omega) only [zI])
             refine zh (hbk1) rfl (by simp only [go_sem,i64,ints]) (by simp only [go_sem,i64,ints]) (by first | exact .inl rfl | exact .inr rfl) ?_
             (try simp only [go_sem])
             (try simp (disch:=omega) only [zI])
             try simp only [go_sem,hm40]
             try simp (disch:=omega) only [zI]
             repeat first | intro _ | refine ⟨by omega,?_⟩ | refine ⟨⟨by omega,by omega⟩,?_⟩
             refine hK _ ?_
             clear hK K
             refine ⟨(),trivial,zj [] ?_ ?_⟩
             · try simp only [go_sem]
               rw [hme]
             · try simp only [go_sem]
           · have h30 : ¬ k < 30:=by omega
             rw [if_neg h30] at hme
             rw [← hme]
             refine zx ?_
             try simp only [go_sem]
             refine ⟨(),zj [] ?_ ?_⟩
             · try simp only [go_sem]
             · try simp only [go_sem]
         intro _ vs _
         repeat refine zq ?_
         refine zb (by kernel_rfl) fun K hK=>?_
         simp only [go_sem,hyj,hlk,hjx,hjl]
         (try simp (disch:=omega) only [zI])
         repeat first | intro _ | refine ⟨by omega,?_⟩ | refine ⟨⟨by omega,by omega⟩,?_⟩
         refine hK _ ?_
         clear hK K
         refine zw (zk [2,3,7,8,10]) ?_
         simp only [go_sem]
         repeat refine zq ?_
         refine zb (by kernel_rfl) fun K hK=>?_
         simp only [go_sem]
         (try simp (disch:=omega) only [zI])
         repeat first | intro _ | refine ⟨by omega,?_⟩ | refine ⟨⟨by omega,by omega⟩,?_⟩
         refine hK _ ?_
         clear hK K
         refine zw (zk [2,3,7,8,10,93]) ?_
         simp only [go_sem]
         repeat refine zq ?_
         refine zc rfl (fun hc=>?_) (fun hc=>?_) <;> (try simp only [go_sem] at hc)
         · have h30 : ¬ k < 30:=by omega
           have hst2 : itU L bs den (k + 1) = fillU L (x.1.set j (y + mm),x.2 - mm) L.length:=by rw [hst]; unfold stepU; rw [if_neg h30,hgv]
           have hTz : TI L den (x.1.set j (y + mm),x.2 - mm):=by
            have:=hTk.give (idxU_lt (bs:=bs) (k:=k) hl.1) (moreU_le hb hl.1 hTk k)
            rw [hgv] at this; exact this
           have hcells : (x.1.map fun x=>[i64 x]).set j [i64 (y + mm)] = (x.1.set j (y + mm)).map fun x=>[i64 x]:=by rw [List.map_set]
           obtain ⟨z,hz⟩ : ∃ z,z = (x.1.set j (y + mm),x.2 - mm):=⟨_,rfl⟩
           have hz1' : z.1 = x.1.set j (y + mm):=by rw [hz]
           have hz2' : z.2 = x.2 - mm:=by rw [hz]
           rw [← hz] at hst2 hTz
           repeat refine zq ?_
           refine zb (by kernel_rfl) fun K hK=>?_
           simp only [go_sem]
           (try simp (disch:=omega) only [zI])
           repeat first | intro _ | refine ⟨by omega,?_⟩ | refine ⟨⟨by omega,by omega⟩,?_⟩
           refine hK _ ?_
           clear hK K
           refine zw (zk [2,3,7,8,10,13]) ?_
           simp only [go_sem]
           repeat refine zq ?_
           refine zd ?_
           refine awp_uptoV (n:=127) L.length (fun q vs=>[(2,.r (u8s bs)),(3,.r (.rp [i64 a.at_,bedsR L])),(7,.os 32 (vs 32) 1 0 L.length),(8,.r (i64 (fillU L z q).2)),(10,.r (i64 (k : Int))),(13,.r (i64 (q : Int)))])
            (fun q vs=>[(32,.arr 3 1 ((fillU L z q).1.map fun x=>[i64 x]))]) (fun _=>True) 0 (zj [] ?_ ?_) (Nat.zero_le _) trivial ?_
           · try simp only [go_sem]
             exact hz2'.symm
           · try simp only [go_sem]
             show _ = [(32,RowC.arr 3 1 (z.1.map fun x=>[i64 x]))]
             rw [hz1',List.map_set]
           · intro q vs hq _
             have hTq:=hTz.fill q hq
             have hqs : ∀ h : q < L.length,fillU L z (q + 1) = giveU q (takeU L q (fillU L z q)) (fillU L z q):=fun _=>rfl
             generalize hue : fillU L z q = u at hTq hqs ⊢
             have hul:=hTq.len
             have hu0:=hTq.left
             have hu1:=hTq.le fun c hc=>(h1 c hc).1
             repeat refine zq ?_
             refine zb (by kernel_rfl) fun K hK=>?_
             simp only [go_sem]
             (try simp (disch:=omega) only [zI])
             repeat first | intro _ | refine ⟨by omega,?_⟩ | refine ⟨⟨by omega,by omega⟩,?_⟩
             refine hK _ ?_
             clear hK K
             refine zw (zk [2,3,7,8,10,13,97]) ?_
             simp only [go_sem]
             repeat refine zq ?_
             refine zc rfl (fun hc=>?_) (fun hc=>?_) <;> (try simp only [go_sem] at hc)
             · have hcq : q < L.length:=by omega
               obtain ⟨e,hce⟩:=opt_of_lt hcq
               obtain ⟨f0,f1,f2⟩:=h1 e (mem_of_opt hce)
               obtain ⟨v,hv⟩ : ∃ v,v = u.1.getD q 0:=⟨_,rfl⟩
               have hvq : u.1[q]? = some v:=by rw [hv,List.getD_eq_getElem?_getD,List.getElem?_eq_getElem (by omega)]; rfl
               have hbq : bAt L q = e:=by simp [bAt,List.getD,hce]
               have hve:=hTq.each q hcq
               rw [hbq,← hv] at hve
               have hwq : IntKind.i64.wrap (e.hi - v) = e.hi - v:=by rw [zI] <;> omega
               have hqx : q < u.1.length:=by omega
               have hgq : fillU L z (q + 1) = (u.1.set q (v + min u.2 (e.hi - v)),u.2 - min u.2 (e.hi - v)):=by
                rw [hqs hcq]; unfold giveU takeU; rw [hbq,← hv]
               refine zx ?_
               try simp only [go_sem]
               repeat refine zq ?_
               refine zd ?_
               repeat refine zq ?_
               refine awp_dreg2 [(7,some 32),(3,none),(8,none),(13,none)] follows (by decide +kernel) (by kernel_rfl) (by simp only [keysOk,List.mem_cons,List.not_mem_nil,forall_eq_or_imp,Oc.keyOf,go_sem]; simp) fun K hK=>?_
               simp only [go_sem,hce,hcq,bedR,hvq,hwq,hul,hqx]
               (try simp (disch:=omega) only [zI])
               repeat first | intro _ | refine ⟨by omega,?_⟩ | refine ⟨⟨by omega,by omega⟩,?_⟩
               refine hK _ ?_
               clear hK K
               refine zw (zk [2,3,7,8,10,12,13]) ?_
               simp only [go_sem]
               repeat refine zq ?_
               refine zb (by kernel_rfl) fun K hK=>?_
               simp only [go_sem,hvq,hul,hqx,hcq]
               (try simp (disch:=omega) only [zI])
               repeat first | intro _ | refine ⟨by omega,?_⟩ | refine ⟨⟨by omega,by omega⟩,?_⟩
               refine hK _ ?_
               clear hK K
               refine zw (zk [2,3,7,8,10,13]) ?_
               simp only [go_sem]
               repeat refine zq ?_
               refine zb (by kernel_rfl) fun K hK=>?_
               simp only [go_sem]
               (try simp (disch:=omega) only [zI])
               repeat first | intro _ | refine ⟨by omega,?_⟩ | refine ⟨⟨by omega,by omega⟩,?_⟩
               refine hK _ ?_
               clear hK K
               try simp only [go_sem]
               refine ⟨by omega,zj [] ?_ ?_⟩
               · try simp only [go_sem]
                 rw [hgq]
               · try simp only [go_sem]
                 rw [hgq,List.map_set]
             · have hqe : q = L.length:=by omega
               refine zf ?_
               simp only [go_sem]
               refine zw (zk [2,3,7,8,10]) ?_
               simp only [go_sem]
               repeat refine zq ?_
               refine zb (by kernel_rfl) fun K hK=>?_
               simp only [go_sem]
               (try simp (disch:=omega) only [zI])
               repeat first | intro _ | refine ⟨by omega,?_⟩ | refine ⟨⟨by omega,by omega⟩,?_⟩
               refine hK _ ?_
               clear hK K
               try simp only [go_sem]
               refine ⟨by omega,zj [] ?_ ?_⟩
               · try simp only [go_sem]
                 rw [hst2,← hqe,hue]
               · try simp only [go_sem]
                 rw [hst2,← hqe,hue]
         · have h30 : k < 30:=by omega
           have hst2 : itU L bs den (k + 1) = (x.1.set j (y + mm),x.2 - mm):=by rw [hst]; unfold stepU; rw [if_pos h30,hgv]
           refine zx ?_
           try simp only [go_sem]
           repeat refine zq ?_
           refine zb (by kernel_rfl) fun K hK=>?_
           simp only [go_sem]
           (try simp (disch:=omega) only [zI])
           repeat first | intro _ | refine ⟨by omega,?_⟩ | refine ⟨⟨by omega,by omega⟩,?_⟩
           refine hK _ ?_
           clear hK K
           try simp only [go_sem]
           refine ⟨by omega,zj [] ?_ ?_⟩
           · try simp only [go_sem]
             rw [hst2]
           · try simp only [go_sem]
             rw [hst2,List.map_set]
       · have hz : (itU L bs den k).2 = 0:=by omega
         have e0 : decide (0 < (itU L bs den k).2) = false:=decide_eq_false (by omega)
         have hst2 : truthU L den bs = (itU L bs den k).1:=by
          unfold truthU
          have:=itU_stay (bs:=bs) hb hl.1 h (fun c hc=>(h1 c hc).2.1) hz (31 - k)
          rw [show k + (31 - k) = 31 by omega] at this
          rw [this]
         repeat refine zq ?_
         refine zb (by kernel_rfl) fun K hK=>?_
         simp only [go_sem,e0]
         (try simp (disch:=omega) only [zI])
         repeat first | intro _ | refine ⟨by omega,?_⟩ | refine ⟨⟨by omega,by omega⟩,?_⟩
         refine hK _ ?_
         clear hK K
         refine zw (zk [7,43]) ?_
         simp only [go_sem]
         repeat refine zq ?_
         refine zc rfl (fun hc=>?_) (fun hc=>?_) <;> (try simp only [go_sem] at hc)
         refine zf ?_
         simp only [go_sem]
         have hlT : (truthU L den bs).length = L.length:=by rw [hst2]; exact hlk
         rw [hlT,hst2]
         refine zw (zk [7]) ?_
         simp only [go_sem]
         repeat refine zq ?_
         refine zb (by kernel_rfl) fun K hK=>?_
         simp only [go_sem]
         (try simp (disch:=omega) only [zI])
         repeat first | intro _ | refine ⟨by omega,?_⟩ | refine ⟨⟨by omega,by omega⟩,?_⟩
         refine hK _ ?_
         clear hK K
         refine zw (zk [6]) ?_
         simp only [go_sem]
         refine ze ?_
         simp only [go_sem]
         exact ⟨32,_,rfl,rfl⟩
end Go.Proofs.Ytgkejinoaommeaa

namespace Go.Proofs.Ytgkejinoaommeaa
open Go Go.Oc
set_option linter.unusedSimpArgs false
set_option linter.unusedVariables false
set_option maxRecDepth 8000
set_option maxHeartbeats 2000000
def third : Option Code → Option Code
 | some (.seq _ (.seq _ (.seq _ r)))=>some r
 | _=>none
def tlR (A F : Nat → Am) (N κ : Nat) (d : Int) (vs : Nat → Nat) : List (Nat × RowC) :=
 (4,.box [.r (i64 0),.r .ns]) :: (5,.box [.r (i64 d),.os κ (vs κ) 2 0 N]) :: (κ,.ara 36 2 (araG A vs N)) :: fam (famG F) N
def fixA (x : Lw) (D : Int) (A : Nat → Am) (i j : Nat) : Am:=if j < i then ⟨(A j).at_,fixM x D (A j).beds⟩ else A j
theorem fixA_zero (x : Lw) (D : Int) (A : Nat → Am) : fixA x D A 0 = A:=by funext j; simp [fixA]
theorem tail_ex (x : Lw) (hx : WfLw x) (most : Int) (hm : 0 ≤ most ∧ most ≤ 100) : ∃ c,third Try.f31.body = some c ∧ ∀ (C : Ctx) (vs : Nat → Nat),awp Try.prog C c (fpostL Try.prog [.cell 4 24] [lawV (denM x most) (aimsM x most)]) (st 268 [(2,.r (.rp (lwC x))),(4,.pt 4 (vs 4) 0),(5,.pt 5 (vs 5) 0)] vs (mkR x most (cntM x) vs)):=by
 refine ⟨_,rfl,fun C vs=>?_⟩
 refine zq ?_
 refine awp_joinV (n:=268) (fun (κ : Nat) vs=>[(2,.r (.rp (lwC x))),(4,.pt 4 (vs 4) 0),(5,.pt 5 (vs 5) 0)]) (fun κ vs=>tlR (rawA x most) (rawA x most) (rawN x most) κ 0 vs) (fun κ=>κ = 110 ∨ κ = 126) (fun _ h=>h) ?_ ?_
 · by_cases h0 : cntM x = 0
   · have hN : rawN x most = 1:=by unfold rawN rawM; rw [if_pos h0]; rfl
     have hA : rawA x most 0 = ⟨320,[⟨320,x.rest,x.rest⟩]⟩:=by unfold rawA rawM; rw [if_pos h0]; rfl
     have hrw : IntKind.i64.wrap x.rest = x.rest:=by have:=hx.rest; rw [zI] <;> omega
     have hto:=mto_ok x.rest x.rest
     simp only [mkR,mkX,mkA,if_pos h0,List.nil_append,h0,fam]
     repeat refine zq ?_
     refine zb (by kernel_rfl) fun K hK=>?_
     simp only [go_sem]
     (try simp (disch:=omega) only [zI])
     repeat first | intro _ | refine ⟨by omega,?_⟩ | refine ⟨⟨by omega,by omega⟩,?_⟩
     refine hK _ ?_
     clear hK K
     refine zw (zk [2,4,5,115]) ?_
     simp only [go_sem]
     repeat refine zq ?_
     refine zc rfl (fun hc=>?_) (fun hc=>?_) <;> (try simp only [go_sem] at hc)
     repeat refine zq ?_
     refine awp_long ?_
     refine sops_take 7 (by kernel_rfl) fun K hK=>?_
     simp only [go_sem,List.take_succ_cons,List.take_zero,List.drop_succ_cons,List.drop_zero,List.append_eq,List.cons_append,List.nil_append,hrw]
     (try simp (disch:=omega) only [zI])
     refine zh (hto) rfl (by simp only [go_sem,i64,ints]) (by simp only [go_sem,i64,ints]) (by first | exact .inl rfl | exact .inr rfl) ?_
     (try simp only [go_sem])
     (try simp (disch:=omega) only [zI])
     repeat first | intro _ | refine ⟨by omega,?_⟩ | refine ⟨⟨by omega,by omega⟩,?_⟩
     refine hK _ rfl ?_
     clear hK K
     refine sops_sub (zk [2,4,5,122]) ?_
     simp only [go_sem]
     refine sops_take 1 (by kernel_rfl) fun K hK=>?_
     simp only [go_sem,List.take_succ_cons,List.take_zero,List.drop_succ_cons,List.drop_zero,List.append_eq,List.cons_append,List.nil_append]
     (try simp (disch:=omega) only [zI])
     repeat first | intro _ | refine ⟨by omega,?_⟩ | refine ⟨⟨by omega,by omega⟩,?_⟩
     refine hK _ rfl ?_
     clear hK K
     refine sops_sub (zk [2,4,5,123]) ?_
     simp only [go_sem]
     refine sops_own (by simp [go_sem]) ?_
     simp only [go_sem,sBuildOwn]
     repeat first | refine ⟨by omega,?_⟩ | refine ⟨⟨by omega,by omega⟩,?_⟩
     refine sops_sub (sub_move (sz:=3) (off:=0) (m:=1) (ty:=67) (sz':=3) (es:=[[i64 320,i64 x.rest,i64 x.rest]]) 124 124 600 (by omega) (by omega) (by omega) (by try simp only [go_sem]) (by rfl) (by rfl)) ?_
     refine sops_sub (zk [2,4,5,124]) ?_
     simp only [go_sem]
     refine sops_take 1 (by kernel_rfl) fun K hK=>?_
     simp only [go_sem,List.take_succ_cons,List.take_zero,List.drop_succ_cons,List.drop_zero,List.append_eq,List.cons_append,List.nil_append]
     (try simp (disch:=omega) only [zI])
     repeat first | intro _ | refine ⟨by omega,?_⟩ | refine ⟨⟨by omega,by omega⟩,?_⟩
     refine hK _ rfl ?_
     clear hK K
     refine sops_sub (zk [2,4,5,125]) ?_
     simp only [go_sem]
     refine sops_litB (by simp [go_sem]) ?_
     simp only [go_sem,sLitBox,lay,List.replicate_succ,List.replicate_zero,List.flatten_cons,List.flatten_nil,List.map_cons,List.map_nil,List.cons_append,List.nil_append]
     repeat first | refine ⟨by omega,?_⟩ | refine ⟨⟨by omega,by omega⟩,?_⟩
     refine sops_end (by kernel_rfl) fun K hK=>?_
     simp only [go_sem,List.drop_succ_cons,List.drop_zero,List.append_eq,List.cons_append,List.nil_append]
     (try simp (disch:=omega) only [zI])
     repeat first | intro _ | refine ⟨by omega,?_⟩ | refine ⟨⟨by omega,by omega⟩,?_⟩
     refine hK _ ?_
     clear hK K
     refine ⟨126,.inr rfl,zj [] ?_ ?_⟩
     · try simp only [go_sem]
     · simp only [tlR,hN,araG,fam,famG,hA,List.nil_append]
       try simp only [go_sem]
       rfl
   · have hN : rawN x most = cntM x:=by unfold rawN rawM; rw [if_neg h0]; simp
     have hA : ∀ j,j < cntM x → rawA x most j = ⟨atM j,bedsM x most j⟩:=fun j hj=>by
      unfold rawA rawM
      rw [if_neg h0,List.getD_eq_getElem?_getD,List.getElem?_map,List.getElem?_range hj]; rfl
     simp only [mkR,mkX,mkA,if_neg h0,List.cons_append,List.nil_append]
     have e1 : ((cntM x : Int) == 0) = false:=by simp; omega
     repeat refine zq ?_
     refine zb (by kernel_rfl) fun K hK=>?_
     simp only [go_sem,e1]
     (try simp (disch:=omega) only [zI])
     repeat first | intro _ | refine ⟨by omega,?_⟩ | refine ⟨⟨by omega,by omega⟩,?_⟩
     refine hK _ ?_
     clear hK K
     refine zw (zk [2,4,5,115]) ?_
     simp only [go_sem]
     repeat refine zq ?_
     refine zc rfl (fun hc=>?_) (fun hc=>?_) <;> (try simp only [go_sem] at hc)
     refine zx ?_
     try simp only [go_sem]
     refine ⟨110,.inl rfl,zj [] ?_ ?_⟩
     · try simp only [go_sem]
     · simp only [tlR,hN]
       have e2 : fam (famG (rawA x most)) (cntM x) = fam (mkG x most) (cntM x):=fam_congr fun j hj=>by unfold famG mkG; rw [hA j hj]
       rw [e2,araC_eq]
       rw [araG_congr (A:=fun j=>⟨atM j,bedsM x most j⟩) (B:=rawA x most) (v:=vs) (v':=vs) fun j hj=>by rw [hA j hj]; exact ⟨rfl,rfl,rfl⟩]
       try rfl
 intro κ vs hκ
 obtain ⟨⟨hN1,hN6⟩,hraw⟩:=raw_ok hx hm
 obtain ⟨N,hN⟩ : ∃ N,N = rawN x most:=⟨_,rfl⟩
 obtain ⟨A,hA⟩ : ∃ A,A = rawA x most:=⟨_,rfl⟩
 rw [← hN,← hA]
 rw [← hN] at hN1 hN6 hraw
 rw [← hA] at hraw
 have k4 : (κ = 4) = False:=by simp only [eq_iff_iff,iff_false]; omega
 have k5 : (κ = 5) = False:=by simp only [eq_iff_iff,iff_false]; omega
 have k4' : (4 = κ) = False:=by simp only [eq_iff_iff,iff_false]; omega
 have k5' : (5 = κ) = False:=by simp only [eq_iff_iff,iff_false]; omega
 have kl4 : (κ < 4) = False:=by simp only [eq_iff_iff,iff_false]; omega
 have kl5 : (κ < 5) = False:=by simp only [eq_iff_iff,iff_false]; omega
 have hki : ∀ i,(i + 600 = κ) = False:=fun i=>by simp only [eq_iff_iff,iff_false]; omega
 have hki' : ∀ i,(κ = i + 600) = False:=fun i=>by simp only [eq_iff_iff,iff_false]; omega
 have hkl : ∀ i,(i + 600 < κ) = False:=fun i=>by simp only [eq_iff_iff,iff_false]; omega
 have hnl : ∀ i a,a ≤ 600 → (i + 600 < a) = False:=fun i a h=>by simp only [eq_iff_iff,iff_false]; omega
 have hal : (araG A vs N).length = N * 2:=araG_len
 simp only [tlR]
 repeat refine zq ?_
 refine zb (by kernel_rfl) fun K hK=>?_
 simp only [go_sem]
 (try simp (disch:=omega) only [zI])
 repeat first | intro _ | refine ⟨by omega,?_⟩ | refine ⟨⟨by omega,by omega⟩,?_⟩
 refine hK _ ?_
 clear hK K
 refine zw (zk [2,4,5,12]) ?_
 simp only [go_sem]
 repeat refine zq ?_
 refine zd ?_
 refine awp_uptoV (n:=268) N (fun i vs=>[(2,.r (.rp (lwC x))),(4,.pt 4 (vs 4) 0),(5,.pt 5 (vs 5) 0),(12,.r (i64 (i : Int)))])
  (fun i vs=>tlR A A N κ (sumsM ((rawM x most).take i)) vs) (fun _=>True) 0 (zj [] ?_ ?_) (Nat.zero_le _) trivial ?_
 · try simp only [go_sem]
 · try simp only [go_sem]
   rfl
 · intro i vs hi _
   simp only [tlR]
   repeat refine zq ?_
   refine zb (by kernel_rfl) fun K hK=>?_
   simp only [go_sem,k4,k5]
   (try simp (disch:=omega) only [zI])
   repeat first | intro _ | refine ⟨by omega,?_⟩ | refine ⟨⟨by omega,by omega⟩,?_⟩
   refine hK _ ?_
   clear hK K
   refine zw (zk [2,4,5,12,132]) ?_
   simp only [go_sem]
   repeat refine zq ?_
   refine zc rfl (fun hc=>?_) (fun hc=>?_) <;> (try simp only [go_sem] at hc)
   · have hci : i < N:=by omega
     obtain ⟨r1,r2,r3,r4⟩:=hraw i hci
     have hsu:=sumsA_ok (A i) (fun c hc=>by obtain ⟨_,q⟩:=r3 c hc; omega) (by omega)
     have htk:=araG_take (A:=A) (v:=vs) hci
     have hal' : (araG A vs N).length = N * 2:=araG_len
     have hlf : lookc (fam (famG A) N) (i + 600) = .arr 67 3 ((A i).beds.map bedR):=lookc_fam hci
     refine zx ?_
     try simp only [go_sem]
     repeat refine zq ?_
     refine zd ?_
     have hrA : (rawM x most)[i]? = some (A i):=by
      have hl : i < (rawM x most).length:=by rw [hN] at hci; exact hci
      rw [hA]; unfold rawA; rw [List.getD_eq_getElem?_getD,List.getElem?_eq_getElem hl]; rfl
     have hsn : sumsM ((rawM x most).take (i + 1)) = max (sumsM ((rawM x most).take i)) (loS (A i).beds):=by rw [take_of_opt hrA,sumsM_snoc]
     repeat refine zq ?_
     refine zb (by kernel_rfl) fun K hK=>?_
     simp only [go_sem,k4,k5,htk,hci,hal',hlf,hki]
     (try simp (disch:=omega) only [zI])
     refine ⟨by omega,?_⟩
     refine zh (hsu) rfl (by simp only [go_sem,i64,ints,hlf,hki,hkl]) (by simp only [go_sem,i64,ints,hlf,hki,hkl]) (by first | exact .inl rfl | exact .inr rfl) ?_
     (try simp only [go_sem,hlf,hki,hkl])
     (try simp (disch:=omega) only [zI])
     repeat first | intro _ | refine ⟨by omega,?_⟩ | refine ⟨⟨by omega,by omega⟩,?_⟩
     refine hK _ ?_
     clear hK K
     refine zw (zk [2,4,5,12,13]) ?_
     simp only [go_sem]
     repeat refine zq ?_
     refine zb (by kernel_rfl) fun K hK=>?_
     simp only [go_sem]
     (try simp (disch:=omega) only [zI])
     repeat first | intro _ | refine ⟨by omega,?_⟩ | refine ⟨⟨by omega,by omega⟩,?_⟩
     refine hK _ ?_
     clear hK K
     refine zw (zk [2,4,5,12]) ?_
     simp only [go_sem]
     repeat refine zq ?_
     refine zb (by kernel_rfl) fun K hK=>?_
     simp only [go_sem]
     (try simp (disch:=omega) only [zI])
     repeat first | intro _ | refine ⟨by omega,?_⟩ | refine ⟨⟨by omega,by omega⟩,?_⟩
     refine hK _ ?_
     clear hK K
     try simp only [go_sem]
     refine ⟨by omega,zj [] ?_ ?_⟩
     · try simp only [go_sem]
     · simp only [go_sem,tlR,hsn]
       try rfl
   · have hie : i = N:=by omega
     have htN : (rawM x most).take i = rawM x most:=List.take_of_length_le (by rw [hie,hN]; exact Nat.le_refl _)
     rw [htN]
     have hsb : 0 ≤ sumsM (rawM x most) ∧ sumsM (rawM x most) ≤ 2550:=sumsM_le (by omega) (by omega) fun a ha=>by
      obtain ⟨j,hj⟩:=List.getElem?_of_mem ha
      have hjl:=(List.getElem?_eq_some_iff.1 hj).1
      have e : A j = a:=by rw [hA]; unfold rawA; rw [List.getD_eq_getElem?_getD,hj]; rfl
      rw [← e]
      exact (hraw j (by rw [hN]; exact hjl)).lo
     have hxr:=hx.rest
     have hrw : IntKind.i64.wrap x.rest = x.rest:=by rw [zI] <;> omega
     have hr20 : x.rest.tmod 20 = x.rest % 20:=Int.tmod_eq_emod_of_nonneg hxr.1
     obtain ⟨D,hD⟩ : ∃ D,D = denM x most:=⟨_,rfl⟩
     have hDe : D = max 1 (sumsM (rawM x most) + x.rest % 20):=hD
     have hDb : 1 ≤ D ∧ D ≤ 3000:=by rw [hDe]; omega
     refine zf ?_
     simp only [go_sem]
     refine zw (zk [2,4,5]) ?_
     simp only [go_sem]
     repeat refine zq ?_
     refine zb (by kernel_rfl) fun K hK=>?_
     simp only [go_sem,hrw,hr20]
     (try simp (disch:=omega) only [zI])
     try simp (disch:=omega) only [zI]
     try simp only [go_sem,hrw,hr20]
     try simp (disch:=omega) only [zI]
     repeat first | intro _ | refine ⟨by omega,?_⟩ | refine ⟨⟨by omega,by omega⟩,?_⟩
     refine hK _ ?_
     clear hK K
     rw [← hDe]
     refine zw (zk [2,4,5]) ?_
     simp only [go_sem]
     repeat refine zq ?_
     refine zb (by kernel_rfl) fun K hK=>?_
     simp only [go_sem]
     (try simp (disch:=omega) only [zI])
     repeat first | intro _ | refine ⟨by omega,?_⟩ | refine ⟨⟨by omega,by omega⟩,?_⟩
     refine hK _ ?_
     clear hK K
     refine zw (zk [2,4,5,15]) ?_
     simp only [go_sem]
     clear hi hie htN hc
     repeat refine zq ?_
     refine zd ?_
     refine awp_uptoV (n:=268) N (fun i vs=>[(2,.r (.rp (lwC x))),(4,.pt 4 (vs 4) 0),(5,.pt 5 (vs 5) 0),(15,.r (i64 (i : Int)))])
      (fun i vs=>tlR A (fixA x D A i) N κ D vs) (fun _=>True) 0 (zj [] ?_ ?_) (Nat.zero_le _) trivial ?_
     · try simp only [go_sem]
     · simp only [tlR,fixA_zero]
       try rfl
     · clear i
       intro i vs hi _
       simp only [tlR]
       repeat refine zq ?_
       refine zb (by kernel_rfl) fun K hK=>?_
       simp only [go_sem,k4,k5]
       (try simp (disch:=omega) only [zI])
       repeat first | intro _ | refine ⟨by omega,?_⟩ | refine ⟨⟨by omega,by omega⟩,?_⟩
       refine hK _ ?_
       clear hK K
       refine zw (zk [2,4,5,15,162]) ?_
       simp only [go_sem]
       repeat refine zq ?_
       refine zc rfl (fun hc=>?_) (fun hc=>?_) <;> (try simp only [go_sem] at hc)
       · have hci : i < N:=by omega
         have ra:=hraw i hci
         have hlen:=ra.len
         have hat:=araG_at (A:=A) (v:=vs) hci
         have hal' : (araG A vs N).length = N * 2:=araG_len
         obtain ⟨F,hF⟩ : ∃ F,F = famG (fixA x D A i):=⟨_,rfl⟩
         have hFi : F i = .arr 67 3 ((A i).beds.map bedR):=by rw [hF]; unfold famG fixA; rw [if_neg (by omega)]
         have hF0 : fam F N = fam (upd F i (.arr 67 3 ((A i).beds.map bedR))) N:=by rw [← hFi,upd_self]
         have hlk : ∀ c,lookc (fam (upd F i c) N) (i + 600) = c:=fun c=>by rw [lookc_fam hci,upd_same]
         have his : ∀ c d,insc (fam (upd F i c) N) (i + 600) d = fam (upd F i d) N:=fun c d=>by rw [insc_fam hci,upd_upd]
         rw [← hF,hF0]
         refine zx ?_
         try simp only [go_sem]
         repeat refine zq ?_
         refine zd ?_
         have hhd : (List.drop (i * 2 + 1) (araG A vs N)).headD (AV.r RV.un) = .os (i + 600) (vs (i + 600)) 3 0 (A i).beds.length:=by
          rw [List.headD_eq_head?_getD,List.head?_drop,hat]; rfl
         repeat refine zq ?_
         refine zb (by kernel_rfl) fun K hK=>?_
         simp only [go_sem,k4,k5,hat,hci,hal',hki,hhd]
         (try simp (disch:=omega) only [zI])
         repeat first | intro _ | refine ⟨by omega,?_⟩ | refine ⟨⟨by omega,by omega⟩,?_⟩
         refine hK _ ?_
         clear hK K
         refine zw (zk [2,4,5,15,16]) ?_
         simp only [go_sem]
         repeat refine zq ?_
         refine zb (by kernel_rfl) fun K hK=>?_
         simp only [go_sem]
         (try simp (disch:=omega) only [zI])
         repeat first | intro _ | refine ⟨by omega,?_⟩ | refine ⟨⟨by omega,by omega⟩,?_⟩
         refine hK _ ?_
         clear hK K
         refine zw (zk [2,4,5,15,16,17]) ?_
         simp only [go_sem]
         repeat refine zq ?_
         refine zd ?_
         refine awp_uptoV (n:=268) (A i).beds.length (fun k vs=>[(2,.r (.rp (lwC x))),(4,.pt 4 (vs 4) 0),(5,.pt 5 (vs 5) 0),(15,.r (i64 (i : Int))),(16,.os (i + 600) (vs (i + 600)) 3 0 (A i).beds.length),(17,.r (i64 (k : Int)))])
          (fun k vs=>(4,.box [.r (i64 0),.r .ns]) :: (5,.box [.r (i64 D),.os κ (vs κ) 2 0 N]) :: (κ,.ara 36 2 (araG A vs N)) :: fam (upd F i (.arr 67 3 ((mixC D (A i).beds k).map bedR))) N) (fun _=>True) 0 (zj [] ?_ ?_) (Nat.zero_le _) trivial ?_
         · try simp only [go_sem]
         · simp only [mixC_zero]
           try rfl
         · intro k vs hk _
           repeat refine zq ?_
           refine zb (by kernel_rfl) fun K hK=>?_
           simp only [go_sem]
           (try simp (disch:=omega) only [zI])
           repeat first | intro _ | refine ⟨by omega,?_⟩ | refine ⟨⟨by omega,by omega⟩,?_⟩
           refine hK _ ?_
           clear hK K
           refine zw (zk [2,4,5,15,16,17,174]) ?_
           simp only [go_sem]
           repeat refine zq ?_
           refine zc rfl (fun hc=>?_) (fun hc=>?_) <;> (try simp only [go_sem] at hc)
           · have hck : k < (A i).beds.length:=by omega
             obtain ⟨c,hc1⟩:=opt_of_lt hck
             have hmg:=mixC_get (D:=D) hc1
             have hms:=mixC_set (D:=D) hc1
             have hml:=mixC_len (D:=D) (l:=(A i).beds) (k:=k)
             have hce:=ra.each c (mem_of_opt hc1)
             generalize mixC D (A i).beds k = X at hmg hms hml ⊢
             have hkX : k < X.length:=by omega
             refine zx ?_
             try simp only [go_sem]
             repeat refine zq ?_
             refine zd ?_
             repeat refine zq ?_
             refine zg follows (by decide +kernel) (by kernel_rfl) fun K hK=>?_
             simp only [go_sem,k4,k5,hki,hkl,hlk,his,hmg,hkX,hml,bedR,List.length_map]
             (try simp (disch:=omega) only [zI])
             try simp only [go_sem,his,hki,hkl,hnl]
             repeat first | intro _ | refine ⟨by omega,?_⟩ | refine ⟨⟨by omega,by omega⟩,?_⟩
             refine hK _ ?_
             clear hK K
             refine zw (zk [2,4,5,15,16,17]) ?_
             simp only [go_sem]
             repeat refine zq ?_
             refine zb (by kernel_rfl) fun K hK=>?_
             simp only [go_sem]
             (try simp (disch:=omega) only [zI])
             repeat first | intro _ | refine ⟨by omega,?_⟩ | refine ⟨⟨by omega,by omega⟩,?_⟩
             refine hK _ ?_
             clear hK K
             try simp only [go_sem]
             refine ⟨by omega,zj [] ?_ ?_⟩
             · try simp only [go_sem]
             · simp only [go_sem]
               rw [← hms,List.map_set]
               rfl
           · have hke : k = (A i).beds.length:=by omega
             subst hke
             rw [mixC_full]
             have hX:=CapI.cap ra hDb
             have hfx0 : fixM x D (A i).beds = raiseN D (raiseB D (capB D (A i).beds) (restK x (capB D (A i).beds))) (A i).beds.length:=by
              have hrk : restK x (capB D (A i).beds) = restK x (A i).beds:=by unfold restK; simp [capB]
              unfold fixM; rw [hrk]
             generalize capB D (A i).beds = X at hX hfx0 ⊢
             have hXl:=hX.len
             have hXh:=hX.hi hlen.2
             have hsu:=sumsA_ok ⟨(A i).at_,X⟩ (fun c hc=>by have:=hX.each c hc; omega) (by show X.length ≤ 1000; omega)
             simp only at hsu
             have htk:=araG_take (A:=A) (v:=vs) hci
             have hal2 : (araG A vs N).length = N * 2:=araG_len
             have hsn : List.take (A i).beds.length (List.map bedR X) = List.map bedR X:=List.take_of_length_le (by simp; omega)
             refine zf ?_
             simp only [go_sem]
             refine zw (zk [2,4,5,15,16]) ?_
             simp only [go_sem]
             repeat refine zq ?_
             refine zb (by kernel_rfl) fun K hK=>?_
             simp only [go_sem,k4,k5,htk,hci,hal2,hlk,hki]
             (try simp (disch:=omega) only [zI])
             refine ⟨by omega,?_⟩
             have hle : (A i).beds.length ≤ X.length:=by omega
             refine zh (hsu) rfl (by simp only [go_sem,i64,ints,hlk,hki,hkl,hsn,List.drop_zero,List.length_map,hle]) (by simp only [go_sem,i64,ints,hlk,hki,hkl,hsn,List.drop_zero,List.length_map,hle]) (by first | exact .inl rfl | exact .inr rfl) ?_
             (try simp only [go_sem,hlk,hki,hkl,hsn,List.drop_zero,List.length_map,hle])
             (try simp (disch:=omega) only [zI])
             repeat first | intro _ | refine ⟨by omega,?_⟩ | refine ⟨⟨by omega,by omega⟩,?_⟩
             refine hK _ ?_
             clear hK K
             refine zw (zk [2,4,5,15,16,19]) ?_
             simp only [go_sem]
             repeat refine zq ?_
             refine zb (by kernel_rfl) fun K hK=>?_
             simp only [go_sem]
             (try simp (disch:=omega) only [zI])
             repeat first | intro _ | refine ⟨by omega,?_⟩ | refine ⟨⟨by omega,by omega⟩,?_⟩
             refine hK _ ?_
             clear hK K
             refine zw (zk [2,4,5,15,16,19,203]) ?_
             simp only [go_sem]
             have hxk : restK x X < X.length:=Nat.mod_lt _ (by omega)
             refine awp_joinV (n:=268) (fun (_ : Unit) vs=>[(2,.r (.rp (lwC x))),(4,.pt 4 (vs 4) 0),(5,.pt 5 (vs 5) 0),(15,.r (i64 (i : Int))),(16,.os (i + 600) (vs (i + 600)) 3 0 (A i).beds.length)]) (fun _ vs=>(4,.box [.r (i64 0),.r .ns]) :: (5,.box [.r (i64 D),.os κ (vs κ) 2 0 N]) :: (κ,.ara 36 2 (araG A vs N)) :: fam (upd F i (.arr 67 3 ((raiseB D X (restK x X)).map bedR))) N) (fun _=>True) (fun _ h=>h) ?_ ?_
             · repeat refine zq ?_
               refine zc rfl (fun hc=>?_) (fun hc=>?_) <;> (try simp only [go_sem] at hc)
               · have hlt : hiS X < D:=by simpa using hc
                 have hrm : x.rest.tmod ((A i).beds.length : Int) = ((restK x X : Nat) : Int):=by
                  rw [Int.tmod_eq_emod_of_nonneg hxr.1,← hXl]; unfold restK
                  rw [Int.natCast_emod,Int.toNat_of_nonneg hxr.1]
                 have hz0 : (((A i).beds.length : Int) == 0) = false:=beq_eq_false_iff_ne.2 (by omega)
                 have hz1 : ((A i).beds.length : Int) ≠ 0:=by omega
                 repeat refine zq ?_
                 refine zb (by kernel_rfl) fun K hK=>?_
                 simp only [go_sem,hrw,hrm,hz0,hz1]
                 (try simp (disch:=omega) only [zI])
                 try simp only [go_sem,hrw,hrm,hz0,hz1]
                 repeat first | intro _ | refine ⟨by omega,?_⟩ | refine ⟨⟨by omega,by omega⟩,?_⟩
                 refine hK _ ?_
                 clear hK K
                 refine zw (zk [2,4,5,15,16,19,20]) ?_
                 simp only [go_sem]
                 generalize restK x X = k0 at hxk ⊢
                 have hXl:=hX.len
                 obtain ⟨c,hc1⟩:=opt_of_lt (show k0 < X.length by omega)
                 have hcX:=hX.each c (mem_of_opt hc1)
                 have hcd : X.getD (k0) ⟨0,0,0⟩ = c:=by simp [List.getD_eq_getElem?_getD,hc1]
                 have hrz : raiseB D X (k0) = X.set (k0) ⟨c.b,c.lo,min D (c.hi + D - hiS X)⟩:=by unfold raiseB; rw [if_pos hlt,hcd]
                 have hkX : k0 < X.length:=by omega
                 have hw1 : IntKind.i64.wrap (c.hi + D) = c.hi + D:=by rw [zI] <;> omega
                 have hw2 : IntKind.i64.wrap (c.hi + D - hiS X) = c.hi + D - hiS X:=by rw [zI] <;> omega
                 repeat refine zq ?_
                 refine zg follows (by decide +kernel) (by kernel_rfl) fun K hK=>?_
                 simp only [go_sem,k4,k5,hki,hkl,hlk,his,hc1,hkX,hXl,bedR,List.length_map]
                 (try simp (disch:=omega) only [zI])
                 try simp only [go_sem,hw1,hw2,his,hki,hkl,hnl]
                 repeat first | intro _ | refine ⟨by omega,?_⟩ | refine ⟨⟨by omega,by omega⟩,?_⟩
                 refine hK _ ?_
                 clear hK K
                 refine ⟨(),zj [] ?_ ?_⟩
                 · try simp only [go_sem]
                 · simp only [go_sem,hrz,List.map_set]
                   rfl
               · have hnl2 : ¬ hiS X < D:=by simpa using hc
                 have hrz : raiseB D X (restK x X) = X:=by unfold raiseB; rw [if_neg hnl2]
                 rw [hrz]
                 refine zx ?_
                 try simp only [go_sem]
                 refine ⟨(),zj [] ?_ ?_⟩
                 · try simp only [go_sem]
                 · try simp only [go_sem]
             clear htk hal2 hsn hsu hle
             intro _ vs _
             have hX2:=hX.raise hDb (restK x X) (by omega)
             generalize raiseB D X (restK x X) = Y at hX2 hfx0 ⊢
             repeat refine zq ?_
             refine zb (by kernel_rfl) fun K hK=>?_
             simp only [go_sem]
             (try simp (disch:=omega) only [zI])
             repeat first | intro _ | refine ⟨by omega,?_⟩ | refine ⟨⟨by omega,by omega⟩,?_⟩
             refine hK _ ?_
             clear hK K
             refine zw (zk [2,4,5,15,16,21]) ?_
             simp only [go_sem]
             repeat refine zq ?_
             refine zd ?_
             refine awp_uptoV (n:=268) (A i).beds.length (fun k vs=>[(2,.r (.rp (lwC x))),(4,.pt 4 (vs 4) 0),(5,.pt 5 (vs 5) 0),(15,.r (i64 (i : Int))),(16,.os (i + 600) (vs (i + 600)) 3 0 (A i).beds.length),(21,.r (i64 (k : Int)))])
              (fun k vs=>(4,.box [.r (i64 0),.r .ns]) :: (5,.box [.r (i64 D),.os κ (vs κ) 2 0 N]) :: (κ,.ara 36 2 (araG A vs N)) :: fam (upd F i (.arr 67 3 ((raiseN D Y k).map bedR))) N) (fun _=>True) 0 (zj [] ?_ ?_) (Nat.zero_le _) trivial ?_
             · try simp only [go_sem]
             · try simp only [go_sem]
               rfl
             · clear hXl hXh hX hxk
               intro k vs hk _
               have hX:=hX2.raiseN hDb k hk
               have hrs : raiseN D Y (k + 1) = raiseB D (raiseN D Y k) k:=rfl
               generalize hXe : raiseN D Y k = X at hX hrs ⊢
               have hXl:=hX.len
               have hXh:=hX.hi hlen.2
               have hsu:=sumsA_ok ⟨(A i).at_,X⟩ (fun c hc=>by have:=hX.each c hc; omega) (by show X.length ≤ 1000; omega)
               simp only at hsu
               have htk:=araG_take (A:=A) (v:=vs) hci
               have hal2 : (araG A vs N).length = N * 2:=araG_len
               have hsn : List.take (A i).beds.length (List.map bedR X) = List.map bedR X:=List.take_of_length_le (by simp; omega)
               have hle : (A i).beds.length ≤ X.length:=by omega
               repeat refine zq ?_
               refine zb (by kernel_rfl) fun K hK=>?_
               simp only [go_sem]
               (try simp (disch:=omega) only [zI])
               repeat first | intro _ | refine ⟨by omega,?_⟩ | refine ⟨⟨by omega,by omega⟩,?_⟩
               refine hK _ ?_
               clear hK K
               refine zw (zk [2,4,5,15,16,21,232]) ?_
               simp only [go_sem]
               repeat refine zq ?_
               refine zc rfl (fun hc=>?_) (fun hc=>?_) <;> (try simp only [go_sem] at hc)
               · have hck : k < (A i).beds.length:=by omega
                 refine zx ?_
                 try simp only [go_sem]
                 repeat refine zq ?_
                 refine zd ?_
                 repeat refine zq ?_
                 refine zb (by kernel_rfl) fun K hK=>?_
                 simp only [go_sem,k4,k5,htk,hci,hal2,hlk,hki]
                 (try simp (disch:=omega) only [zI])
                 refine ⟨by omega,?_⟩
                 refine zh (hsu) rfl (by simp only [go_sem,i64,ints,hlk,hki,hkl,hsn,List.drop_zero,List.length_map,hle]) (by simp only [go_sem,i64,ints,hlk,hki,hkl,hsn,List.drop_zero,List.length_map,hle]) (by first | exact .inl rfl | exact .inr rfl) ?_
                 (try simp only [go_sem,hlk,hki,hkl,hsn,List.drop_zero,List.length_map,hle])
                 (try simp (disch:=omega) only [zI])
                 repeat first | intro _ | refine ⟨by omega,?_⟩ | refine ⟨⟨by omega,by omega⟩,?_⟩
                 refine hK _ ?_
                 clear hK K
                 refine zw (zk [2,4,5,15,16,21,23]) ?_
                 simp only [go_sem]
                 repeat refine zq ?_
                 refine zb (by kernel_rfl) fun K hK=>?_
                 simp only [go_sem]
                 (try simp (disch:=omega) only [zI])
                 repeat first | intro _ | refine ⟨by omega,?_⟩ | refine ⟨⟨by omega,by omega⟩,?_⟩
                 refine hK _ ?_
                 clear hK K
                 refine zw (zk [2,4,5,15,16,21,23,247]) ?_
                 simp only [go_sem]
                 repeat refine zq ?_
                 refine zc rfl (fun hc=>?_) (fun hc=>?_) <;> (try simp only [go_sem] at hc)
                 · have hlt : hiS X < D:=by simpa using hc
                   have hXl:=hX.len
                   obtain ⟨c,hc1⟩:=opt_of_lt (show k < X.length by omega)
                   have hcX:=hX.each c (mem_of_opt hc1)
                   have hcd : X.getD (k) ⟨0,0,0⟩ = c:=by simp [List.getD_eq_getElem?_getD,hc1]
                   have hrz : raiseB D X (k) = X.set (k) ⟨c.b,c.lo,min D (c.hi + D - hiS X)⟩:=by unfold raiseB; rw [if_pos hlt,hcd]
                   have hkX : k < X.length:=by omega
                   have hw1 : IntKind.i64.wrap (c.hi + D) = c.hi + D:=by rw [zI] <;> omega
                   have hw2 : IntKind.i64.wrap (c.hi + D - hiS X) = c.hi + D - hiS X:=by rw [zI] <;> omega
                   repeat refine zq ?_
                   refine zg follows (by decide +kernel) (by kernel_rfl) fun K hK=>?_
                   simp only [go_sem,k4,k5,hki,hkl,hlk,his,hc1,hkX,hXl,bedR,List.length_map]
                   (try simp (disch:=omega) only [zI])
                   try simp only [go_sem,hw1,hw2,his,hki,hkl,hnl]
                   repeat first | intro _ | refine ⟨by omega,?_⟩ | refine ⟨⟨by omega,by omega⟩,?_⟩
                   refine hK _ ?_
                   clear hK K
                   refine zw (zk [2,4,5,15,16,21]) ?_
                   simp only [go_sem]
                   repeat refine zq ?_
                   refine zb (by kernel_rfl) fun K hK=>?_
                   simp only [go_sem]
                   (try simp (disch:=omega) only [zI])
                   repeat first | intro _ | refine ⟨by omega,?_⟩ | refine ⟨⟨by omega,by omega⟩,?_⟩
                   refine hK _ ?_
                   clear hK K
                   try simp only [go_sem]
                   refine ⟨by omega,zj [] ?_ ?_⟩
                   · try simp only [go_sem]
                   · simp only [go_sem,hrs,hrz,List.map_set]
                     rfl
                 · have hnl2 : ¬ hiS X < D:=by simpa using hc
                   have hrz : raiseB D X k = X:=by unfold raiseB; rw [if_neg hnl2]
                   refine zx ?_
                   try simp only [go_sem]
                   repeat refine zq ?_
                   refine zb (by kernel_rfl) fun K hK=>?_
                   simp only [go_sem]
                   (try simp (disch:=omega) only [zI])
                   repeat first | intro _ | refine ⟨by omega,?_⟩ | refine ⟨⟨by omega,by omega⟩,?_⟩
                   refine hK _ ?_
                   clear hK K
                   try simp only [go_sem]
                   refine ⟨by omega,zj [] ?_ ?_⟩
                   · try simp only [go_sem]
                   · simp only [go_sem,hrs,hrz]
               · have hke : k = (A i).beds.length:=by omega
                 refine zf ?_
                 simp only [go_sem]
                 refine zw (zk [2,4,5,15]) ?_
                 simp only [go_sem]
                 repeat refine zq ?_
                 refine zb (by kernel_rfl) fun K hK=>?_
                 simp only [go_sem]
                 (try simp (disch:=omega) only [zI])
                 repeat first | intro _ | refine ⟨by omega,?_⟩ | refine ⟨⟨by omega,by omega⟩,?_⟩
                 refine hK _ ?_
                 clear hK K
                 try simp only [go_sem]
                 refine ⟨by omega,zj [] ?_ ?_⟩
                 · try simp only [go_sem]
                 · simp only [go_sem,tlR]
                   have hXf : X = fixM x D (A i).beds:=by rw [← hXe,hke,hfx0]
                   have hff : fam (upd F i (.arr 67 3 (X.map bedR))) N = fam (famG (fixA x D A (i + 1))) N:=fam_congr fun j hj=>by
                    unfold upd
                    split
                    · rename_i e; subst e
                      unfold famG fixA
                      rw [if_pos (by omega),hXf]
                    · rename_i e
                      rw [hF]
                      unfold famG fixA
                      by_cases h : j < i
                      · rw [if_pos h,if_pos (by omega)]
                      · rw [if_neg h,if_neg (by omega)]
                   rw [hff]
       · have hie : i = N:=by omega
         subst hie
         have hfl : ∀ j,(fixM x D (A j).beds).length = (A j).beds.length:=fun j=>by
          have hrl : ∀ (X : List Bd) k,(raiseB D X k).length = X.length:=fun X k=>by unfold raiseB; split <;> simp
          have hrn : ∀ (X : List Bd) k,(raiseN D X k).length = X.length:=fun X k=>by
           induction k with
           | zero=>rfl
           | succ k ih=>simp only [raiseN,hrl,ih]
          unfold fixM
          rw [hrn,hrl]; simp [capB]
         refine zf ?_
         simp only [go_sem]
         refine zw (zk [4,5]) ?_
         simp only [go_sem]
         obtain ⟨vs',hv,hs⟩:=frz_fam (n:=268) (l:=[(4,AV.pt 4 (vs 4) 0),(5,AV.pt 5 (vs 5) 0)]) (κ:=κ) (A:=A) (F:=fixA x D A i) (c4:=.box [.r (i64 0),.r .ns]) (c5:=.box [.r (i64 D),.os κ (vs κ) 2 0 i]) (by omega) (by omega) i (by omega) (fun j hj=>by unfold fixA; rw [if_pos hj]; exact hfl j) vs []
         rw [List.append_nil,List.append_nil] at hs
         refine zw hs ?_
         have hv4:=hv 4 (by omega)
         have hv5:=hv 5 (by omega)
         have hvκ:=hv κ (by omega)
         rw [← hv4,← hv5,← hvκ]
         have hrr : rawM x most = (List.range i).map A:=by
          refine List.ext_getElem (by rw [List.length_map,List.length_range,hN]; rfl) fun j h1 h2=>?_
          rw [List.getElem_map,List.getElem_range,hA]
          unfold rawA
          rw [List.getD_eq_getElem?_getD,List.getElem?_eq_getElem h1]; rfl
         have hes : plF A (fixA x D A i) i = (((aimsM x most).map aimR).flatten).map .r:=by
          rw [plF_flat]
          unfold aimsM
          rw [← hD,hrr,List.map_map,List.map_map]
          congr 2
          refine List.map_congr_left fun j hj=>?_
          have hji:=List.mem_range.1 hj
          unfold fixA
          rw [if_pos hji]
          rfl
         have hel : (aimsM x most).length = i:=by unfold aimsM; rw [List.length_map,hN]; rfl
         refine zw (sub_arr κ (ty:=36) (sz:=2) ((aimsM x most).map aimR) (by simp only [lookc_cons,k4,k5,if_false,if_true]) hes (fun e he=>by obtain ⟨a,_,rfl⟩:=List.mem_map.1 he; rfl) (by omega)) ?_
         simp only [insc,k4,k5,kl4,kl5,if_false,if_true]
         refine zw (sub_frzB 5 1 κ (ty:=36) (sz:=2) (off:=0) (m:=i) (es:=(aimsM x most).map aimR) (cells:=[.r (i64 D),.os κ (vs' κ) 2 0 i]) (by omega) (by omega) rfl rfl (by simp only [lookc_cons,k4,k5,if_false,if_true]) (by simp [hel])) ?_
         have e3 : (((aimsM x most).map aimR).drop 0).take i = (aimsM x most).map aimR:=by
          rw [List.drop_zero,List.take_of_length_le (by simp [hel])]
         rw [e3]
         simp only [insc,delc,k4,k5,kl4,kl5,k4',k5',if_false,if_true,List.set_cons_succ,List.set_cons_zero]
         repeat refine zq ?_
         refine zb (by kernel_rfl) fun K hK=>?_
         simp only [go_sem,k4',k5']
         (try simp (disch:=omega) only [zI])
         repeat first | intro _ | refine ⟨by omega,?_⟩ | refine ⟨⟨by omega,by omega⟩,?_⟩
         refine hK _ ?_
         clear hK K
         refine zw (zk [4]) ?_
         simp only [go_sem]
         rw [← hD]
         refine ze ?_
         simp only [go_sem]
theorem make1_tail (x : Lw) (hx : WfLw x) (most : Int) (hm : 0 ≤ most ∧ most ≤ 100) (c : Code) (hc : third Try.f31.body = some c) (C : Ctx) (vs : Nat → Nat) : awp Try.prog C c (fpostL Try.prog [.cell 4 24] [lawV (denM x most) (aimsM x most)]) (st 268 [(2,.r (.rp (lwC x))),(4,.pt 4 (vs 4) 0),(5,.pt 5 (vs 5) 0)] vs (mkR x most (cntM x) vs)):=by
 obtain ⟨c0,h0,hw⟩:=tail_ex x hx most hm
 have e : c = c0:=Option.some.inj (hc.symm.trans h0)
 rw [e]
 exact hw C vs
end Go.Proofs.Ytgkejinoaommeaa

namespace Go.Proofs.Ytgkejinoaommeaa
open Go Go.Oc
set_option linter.unusedSimpArgs false
set_option linter.unusedVariables false
set_option maxRecDepth 8000
set_option maxHeartbeats 2000000
theorem make1_ok (x : Lw) (hx : WfLw x) (most : Int) (hm : 0 ≤ most ∧ most ≤ 100) : ACalls Try.prog 31 [.ag (lwC x),i64 most] (lawV (denM x most) (aimsM x most)):=by
 refine acalls_st (rs:=[lawV (denM x most) (aimsM x most)]) [.cell 4 24] Try.func31 rfl (by kernel_rfl) Try.ntmps31 rfl (by simp) rfl fun C vs=>?_
 repeat refine zq ?_
 refine zb (by kernel_rfl) fun K hK=>?_
 simp only [go_sem]
 (try simp (disch:=omega) only [zI])
 repeat first | intro _ | refine ⟨by omega,?_⟩ | refine ⟨⟨by omega,by omega⟩,?_⟩
 refine hK _ ?_
 clear hK K
 refine zw (sub_frzP 2 2 (lwC x) (by omega) rfl rfl) ?_
 refine zw (zk [1,2,4]) ?_
 simp only [go_sem]
 repeat refine zq ?_
 refine zb (by kernel_rfl) fun K hK=>?_
 simp only [go_sem]
 (try simp (disch:=omega) only [zI])
 refine zh (mbeds_ok) rfl (by simp only [go_sem,i64,ints]) (by simp only [go_sem,i64,ints]) (by first | exact .inl rfl | exact .inr rfl) ?_
 (try simp only [go_sem])
 (try simp (disch:=omega) only [zI])
 repeat first | intro _ | refine ⟨by omega,?_⟩ | refine ⟨⟨by omega,by omega⟩,?_⟩
 refine hK _ ?_
 clear hK K
 refine zw (zk [1,2,4,5,6,7]) ?_
 simp only [go_sem]
 repeat refine zq ?_
 refine zb (by kernel_rfl) fun K hK=>?_
 simp only [go_sem]
 (try simp (disch:=omega) only [zI])
 repeat first | intro _ | refine ⟨by omega,?_⟩ | refine ⟨⟨by omega,by omega⟩,?_⟩
 refine hK _ ?_
 clear hK K
 refine zw (zk [1,2,4,5,6,7,8]) ?_
 simp only [go_sem]
 repeat refine zq ?_
 refine zd ?_
 refine awp_uptoV (n:=268) (cntM x) (fun i vs=>[(1,.r (i64 most)),(2,.r (.rp (lwC x))),(4,.pt 4 (vs 4) 0),(5,.pt 5 (vs 5) 0),(6,.r (ints beds13)),(7,.r (i64 (nM x most i))),(8,.r (i64 (i : Int)))])
  (mkR x most) (fun _=>True) 0 (zj [] ?_ ?_) (Nat.zero_le _) trivial ?_
 · try simp only [go_sem]
   rfl
 · simp only [mkR,mkX,mkA,if_true,fam,List.nil_append]
   try simp only [go_sem]
 · intro i vs hi _
   have hi6 : i ≤ 6:=by unfold cntM at hi; omega
   have hF : ∀ a c cs,lookc ((a,c) :: cs) (i + 600) = if i + 600 = a then c else lookc cs (i + 600):=fun _ _ _=>rfl
   by_cases hcw : i < cntM x
   · have hci : i < x.which.length:=by unfold cntM at hcw; omega
     have hci6 : i < 6:=by unfold cntM at hcw; omega
     have e1 : decide ((i : Int) < (x.which.length : Int)) = true:=by simpa using hci
     have e1' : decide (i < x.which.length) = true:=by simpa using hci
     have e2 : decide ((i : Int) < 6) = true:=by simp; omega
     repeat refine zq ?_
     refine zb (by kernel_rfl) fun K hK=>?_
     simp only [go_sem,e1,e1',e2]
     (try simp (disch:=omega) only [zI])
     repeat first | intro _ | refine ⟨by omega,?_⟩ | refine ⟨⟨by omega,by omega⟩,?_⟩
     refine hK _ ?_
     clear hK K
     refine zw (zk [1,2,4,5,6,7,8,34]) ?_
     simp only [go_sem]
     repeat refine zq ?_
     refine zc rfl (fun hc=>?_) (fun hc=>?_) <;> (try simp only [go_sem] at hc)
     refine zx ?_
     try simp only [go_sem]
     repeat refine zq ?_
     refine zd ?_
     have hmod : (i : Int).tmod 12 = ((i % 12 : Nat) : Int):=by rw [Int.tmod_eq_emod_of_nonneg (by omega)]; rfl
     have hbt : beds13[1 + i % 12]? = some (atM i):=by
      have hl : 1 + i % 12 < beds13.length:=by have:=Nat.mod_lt i (show 0 < 12 by omega); show _ < 13; omega
      unfold atM bedT
      rw [List.getD_eq_getElem?_getD,List.getElem?_eq_getElem hl]; rfl
     have hnl : ∀ a,a ≤ 600 → (i + 600 < a) = False:=fun a h=>by simp only [eq_iff_iff,iff_false]; omega
     have htn : (1 + ((i % 12 : Nat) : Int)).toNat = 1 + i % 12:=by omega
     have hb13 : beds13.length = 13:=rfl
     have hm12:=Nat.mod_lt i (show 0 < 12 by omega)
     have t1 : ∀ c,insc (mkA x most i vs ++ fam (mkG x most) i) 9 c = (9,c) :: (mkA x most i vs ++ fam (mkG x most) i):=fun c=>tl_ins (by omega)
     have t2 : ∀ c,insc (mkA x most i vs ++ fam (mkG x most) i) (i + 600) c = mkA x most i vs ++ fam (upd (mkG x most) i c) (i + 1):=fun c=>tl_insN
     simp only [mkR]
     repeat refine zq ?_
     refine zb (by kernel_rfl) fun K hK=>?_
     simp only [go_sem,hmod,htn,hbt,hb13,t1]
     (try simp (disch:=omega) only [zI])
     simp only [go_sem,htn,hbt,t1,List.headD_cons,List.length_cons,List.length_nil]
     repeat first | intro _ | refine ⟨by omega,?_⟩ | refine ⟨⟨by omega,by omega⟩,?_⟩
     refine hK _ ?_
     clear hK K
     refine zw (zk [1,2,4,5,6,7,8,9]) ?_
     simp only [go_sem]
     repeat refine zq ?_
     refine zb (by kernel_rfl) fun K hK=>?_
     simp only [go_sem]
     (try simp (disch:=omega) only [zI])
     repeat first | intro _ | refine ⟨by omega,?_⟩ | refine ⟨⟨by omega,by omega⟩,?_⟩
     refine hK _ ?_
     clear hK K
     refine zw (zk [1,2,4,5,6,7,8,9,10]) ?_
     simp only [go_sem]
     refine zw (sub_ownB 9 1 (i + 600) 67 3 (cells:=[.r (i64 (atM i)),.r .ns]) (by omega) (by omega) rfl rfl) ?_
     simp only [go_sem,t2,hnl,Nat.reduceLeDiff]
     obtain ⟨w,hw⟩ : ∃ w,w = x.which.getD i 0:=⟨_,rfl⟩
     have hwi : x.which[i]? = some w:=by rw [hw,List.getD_eq_getElem?_getD,List.getElem?_eq_getElem hci]; rfl
     have hwb:=hx.which w (mem_of_opt hwi)
     have m1 : ∀ v a,mkA x most i (upd v 9 a) = mkA x most i v:=fun v a=>mkA_upd (.inl (by omega))
     have m2 : ∀ v a,mkA x most i (upd v (i + 600) a) = mkA x most i v:=fun v a=>mkA_upd (.inr (by omega))
     have m3 : ∀ v a,mkX i (upd v 9 a) = mkX i v:=fun v a=>mkX_upd (by omega)
     have m4 : ∀ v a,mkX i (upd v (i + 600) a) = mkX i v:=fun v a=>mkX_upd (by omega)
     have hit : ∀ k,(iterM x most w (nM x most i) k).1.length ≤ 10 ∨ 13 < k:=fun k=>by
      by_cases h : k ≤ 13
      · exact .inl (iterM_ok hx hm.1 w _ k h).len
      · exact .inr (by omega)
     repeat refine zq ?_
     refine zd ?_
     refine awp_uptoV (n:=268) 13 (fun k vs=>[(1,.r (i64 most)),(2,.r (.rp (lwC x))),(4,.pt 4 (vs 4) 0),(5,.pt 5 (vs 5) 0),(6,.r (ints beds13)),(7,.r (i64 ((iterM x most w (nM x most i) k).2 : Int))),(8,.r (i64 (i : Int))),(9,.pt 9 (vs 9) 0),(10,.r (i64 (k : Int)))])
      (fun k vs=>(4,.box [.r (i64 0),.r .ns]) :: (5,.box [.r (i64 0),mkX i vs]) :: (9,.box [.r (i64 (atM i)),.os (i + 600) (vs (i + 600)) 3 0 (iterM x most w (nM x most i) k).1.length]) :: (mkA x most i vs ++ fam (upd (mkG x most) i (.arr 67 3 ((iterM x most w (nM x most i) k).1.map bedR))) (i + 1))) (fun _=>True) 0 (zj [] ?_ ?_) (Nat.zero_le _) trivial ?_
     · try simp only [go_sem]
       rfl
     · simp only [go_sem,m1,m2,m3,m4,upd_same]
       rfl
     · intro k vs hk _
       obtain ⟨l,hl⟩ : ∃ l,l = (iterM x most w (nM x most i) k).1:=⟨_,rfl⟩
       obtain ⟨n,hn⟩ : ∃ n,n = (iterM x most w (nM x most i) k).2:=⟨_,rfl⟩
       have hI:=iterM_ok hx hm.1 w (nM x most i) k hk
       rw [← hl] at hI
       have hlen:=hI.len
       have hnb:=iterM_n x most w (nM x most i) k
       have hnb2:=nM_le x most i
       rw [← hn] at hnb
       have hstep : iterM x most w (nM x most i) (k + 1) = addM x most w k (l,n):=by rw [hl,hn]; rfl
       rw [← hl,← hn]
       have tl1 : ∀ v c,lookc (mkA x most i v ++ fam (upd (mkG x most) i c) (i + 1)) (i + 600) = c:=fun v c=>by rw [tl_look (by omega),upd_same]
       have ti1 : ∀ v c d,insc (mkA x most i v ++ fam (upd (mkG x most) i c) (i + 1)) (i + 600) d = mkA x most i v ++ fam (upd (mkG x most) i d) (i + 1):=fun v c d=>by rw [tl_insI (by omega),upd_upd]
       by_cases hcond : k < 13 ∧ l.length < 10
       · have e3 : decide ((k : Int) < 13) = true:=by simp; omega
         have e4 : decide ((l.length : Int) < 10) = true:=by simp; omega
         repeat refine zq ?_
         refine zb (by kernel_rfl) fun K hK=>?_
         simp only [go_sem,e3,e4]
         (try simp (disch:=omega) only [zI])
         repeat first | intro _ | refine ⟨by omega,?_⟩ | refine ⟨⟨by omega,by omega⟩,?_⟩
         refine hK _ ?_
         clear hK K
         refine zw (zk [1,2,4,5,6,7,8,9,10,51]) ?_
         simp only [go_sem]
         repeat refine zq ?_
         refine zc rfl (fun hc=>?_) (fun hc=>?_) <;> (try simp only [go_sem] at hc)
         refine zx ?_
         try simp only [go_sem]
         repeat refine zq ?_
         refine zd ?_
         repeat refine zq ?_
         refine awp_joinV (n:=268) (fun (_ : Unit) vs=>[(1,.r (i64 most)),(2,.r (.rp (lwC x))),(4,.pt 4 (vs 4) 0),(5,.pt 5 (vs 5) 0),(6,.r (ints beds13)),(7,.r (i64 (n : Int))),(8,.r (i64 (i : Int))),(9,.pt 9 (vs 9) 0),(10,.r (i64 (k : Int))),(73,.r (.bo (decide (hasB w k = true ∨ (k = 12 ∧ l.length = 0)))))]) (fun _ vs=>(4,.box [.r (i64 0),.r .ns]) :: (5,.box [.r (i64 0),mkX i vs]) :: (9,.box [.r (i64 (atM i)),.os (i + 600) (vs (i + 600)) 3 0 l.length]) :: (mkA x most i vs ++ fam (upd (mkG x most) i (.arr 67 3 (l.map bedR))) (i + 1))) (fun _=>True) (fun _ h=>h) ?_ ?_
         · cases hB : hasB w k with
           | true =>
             have hB' : (bitAnd IntKind.u16 (shrI IntKind.u16 w (IntKind.u64.wrap (k : Int))) 1 == 1) = true:=hB
             repeat refine zq ?_
             refine zb (by kernel_rfl) fun K hK=>?_
             simp only [go_sem,hwi,hci,hB']
             (try simp (disch:=omega) only [zI])
             repeat first | intro _ | refine ⟨by omega,?_⟩ | refine ⟨⟨by omega,by omega⟩,?_⟩
             refine hK _ ?_
             clear hK K
             refine ⟨(),trivial,zj [] ?_ ?_⟩
             · try simp only [go_sem]
               try simp
             · try simp only [go_sem]
           | false =>
             have hB' : (bitAnd IntKind.u16 (shrI IntKind.u16 w (IntKind.u64.wrap (k : Int))) 1 == 1) = false:=hB
             by_cases hk12 : k = 12
             · have e5 : ((k : Int) == 12) = true:=by simp; omega
               repeat refine zq ?_
               refine zb (by kernel_rfl) fun K hK=>?_
               simp only [go_sem,hwi,hci,hB',e5]
               (try simp (disch:=omega) only [zI])
               repeat first | intro _ | refine ⟨by omega,?_⟩ | refine ⟨⟨by omega,by omega⟩,?_⟩
               refine hK _ ?_
               clear hK K
               refine ⟨(),trivial,zj [] ?_ ?_⟩
               · try simp only [go_sem]
                 simp [hk12,Bool.beq_eq_decide_eq]
               · try simp only [go_sem]
             · have e5 : ((k : Int) == 12) = false:=by simp; omega
               repeat refine zq ?_
               refine zb (by kernel_rfl) fun K hK=>?_
               simp only [go_sem,hwi,hci,hB',e5]
               (try simp (disch:=omega) only [zI])
               repeat first | intro _ | refine ⟨by omega,?_⟩ | refine ⟨⟨by omega,by omega⟩,?_⟩
               refine hK _ ?_
               clear hK K
               refine ⟨(),trivial,zj [] ?_ ?_⟩
               · try simp only [go_sem]
                 simp [hk12]
               · try simp only [go_sem]
         intro _ vs _
         repeat refine zq ?_
         refine zc rfl (fun hc=>?_) (fun hc=>?_) <;> (try simp only [go_sem] at hc)
         · have hadd : iterM x most w (nM x most i) (k + 1) = (l ++ [⟨bedT k,byteL x.low n % (most + 1),byteL x.low n % (most + 1) + byteL x.more n % (most + 1)⟩],n + 1):=by
            rw [hstep]; unfold addM; rw [if_pos ⟨hcond.2,by simpa using hc⟩]
           have bl:=byteL_le hx.low n
           have bm:=byteL_le hx.more n
           have hbo1:=mbyteOf_ok x.low n
           have hbo2:=mbyteOf_ok x.more n
           have hm1 : (most + 1 == 0) = false:=by simp; omega
           have hm2 : most + 1 ≠ 0:=by omega
           have l1:=Int.emod_nonneg (byteL x.low n) hm2
           have l2:=Int.emod_lt_of_pos (byteL x.low n) (show 0 < most + 1 by omega)
           have n1:=Int.emod_nonneg (byteL x.more n) hm2
           have n2:=Int.emod_lt_of_pos (byteL x.more n) (show 0 < most + 1 by omega)
           have ht1 : (byteL x.low n).tmod (most + 1) = byteL x.low n % (most + 1):=Int.tmod_eq_emod_of_nonneg bl.1
           have ht2 : (byteL x.more n).tmod (most + 1) = byteL x.more n % (most + 1):=Int.tmod_eq_emod_of_nonneg bm.1
           obtain ⟨lo,hlo⟩ : ∃ lo,lo = byteL x.low n % (most + 1):=⟨_,rfl⟩
           obtain ⟨mo,hmo⟩ : ∃ mo,mo = byteL x.more n % (most + 1):=⟨_,rfl⟩
           rw [← hlo] at l1 l2 ht1 hadd
           rw [← hmo] at n1 n2 ht2 hadd
           have hto:=mto_ok lo (lo + mo)
           have hk13:=hcond.1
           have hkb : beds13[k]? = some (bedT k):=by
            have hl : k < beds13.length:=by show k < 13; omega
            unfold bedT
            rw [List.getD_eq_getElem?_getD,List.getElem?_eq_getElem hl]; rfl
           repeat refine zq ?_
           refine zb (by kernel_rfl) fun K hK=>?_
           simp only [go_sem]
           (try simp (disch:=omega) only [zI])
           refine zh (hbo1) rfl (by simp only [go_sem,i64,ints]) (by simp only [go_sem,i64,ints]) (by first | exact .inl rfl | exact .inr rfl) ?_
           (try simp only [go_sem])
           (try simp (disch:=omega) only [zI])
           try simp only [go_sem,ht1,hm1]
           repeat first | intro _ | refine ⟨by omega,?_⟩ | refine ⟨⟨by omega,by omega⟩,?_⟩
           refine hK _ ?_
           clear hK K
           refine zw (zk [1,2,4,5,6,7,8,9,10,11]) ?_
           simp only [go_sem]
           repeat refine zq ?_
           refine awp_dreg3 [(9,some 9),(6,none),(10,none),(11,none),(2,none),(7,none),(1,none)] [9] follows (by decide +kernel) (by kernel_rfl) (by simp only [keysOk,List.mem_cons,List.not_mem_nil,forall_eq_or_imp,Oc.keyOf,go_sem]; simp) (by intro k hk; simp only [List.mem_cons,List.not_mem_nil,or_false] at hk; first | (subst hk; exact ⟨_,rfl⟩) | (rcases hk with rfl | rfl <;> exact ⟨_,rfl⟩) | (rcases hk with rfl | rfl | rfl <;> exact ⟨_,rfl⟩)) fun K hK=>?_
           simp only [go_sem,hkb,hb13,hk13]
           (try simp (disch:=omega) only [zI])
           refine ⟨by omega,?_⟩
           refine zh (hbo2) rfl (by simp only [go_sem,i64,ints]) (by simp only [go_sem,i64,ints]) (by first | exact .inl rfl | exact .inr rfl) ?_
           (try simp only [go_sem])
           (try simp (disch:=omega) only [zI])
           try simp only [go_sem,ht2,hm1]
           try simp (disch:=omega) only [zI]
           refine ⟨hm2,?_⟩
           refine zh (hto) rfl (by simp only [go_sem,i64,ints]) (by simp only [go_sem,i64,ints]) (by first | exact .inl rfl | exact .inr rfl) ?_
           (try simp only [go_sem])
           (try simp (disch:=omega) only [zI])
           try simp only [go_sem,tl1,ti1,hnl,Nat.reduceLeDiff,List.length_map]
           repeat first | intro _ | refine ⟨by omega,?_⟩ | refine ⟨⟨by omega,by omega⟩,?_⟩
           refine hK _ ?_
           clear hK K
           refine zw (zk [1,2,4,5,6,7,8,9,10]) ?_
           simp only [go_sem]
           repeat refine zq ?_
           refine zb (by kernel_rfl) fun K hK=>?_
           simp only [go_sem]
           (try simp (disch:=omega) only [zI])
           repeat first | intro _ | refine ⟨by omega,?_⟩ | refine ⟨⟨by omega,by omega⟩,?_⟩
           refine hK _ ?_
           clear hK K
           refine zw (zk [1,2,4,5,6,7,8,9,10]) ?_
           simp only [go_sem]
           repeat refine zq ?_
           refine zb (by kernel_rfl) fun K hK=>?_
           simp only [go_sem]
           (try simp (disch:=omega) only [zI])
           repeat first | intro _ | refine ⟨by omega,?_⟩ | refine ⟨⟨by omega,by omega⟩,?_⟩
           refine hK _ ?_
           clear hK K
           try simp only [go_sem]
           refine ⟨by omega,zj [] ?_ ?_⟩
           · try simp only [go_sem]
             rw [hadd]
             simp only
             omega
           · simp only [go_sem,m1,m2,m3,m4,upd_same,hadd,List.length_append,List.length_cons,List.length_nil,List.map_append,List.map_cons,List.map_nil]
             rfl
         · have hadd : iterM x most w (nM x most i) (k + 1) = (l,n):=by
            have hnc : ¬ (hasB w k = true ∨ (k = 12 ∧ l.length = 0)):=by simpa using hc
            rw [hstep]; unfold addM; rw [if_neg fun h=>hnc h.2]
           refine zx ?_
           try simp only [go_sem]
           repeat refine zq ?_
           refine zb (by kernel_rfl) fun K hK=>?_
           simp only [go_sem]
           (try simp (disch:=omega) only [zI])
           repeat first | intro _ | refine ⟨by omega,?_⟩ | refine ⟨⟨by omega,by omega⟩,?_⟩
           refine hK _ ?_
           clear hK K
           try simp only [go_sem]
           refine ⟨by omega,zj [] ?_ ?_⟩
           · try simp only [go_sem]
             rw [hadd]
           · try simp only [go_sem]
             rw [hadd]
       · have hend : bedsM x most i = l ∧ nM x most (i + 1) = n:=by
          have e : iterM x most w (nM x most i) 13 = iterM x most w (nM x most i) k:=by
           by_cases h13 : k < 13
           · have:=iterM_full (x:=x) (most:=most) (w:=w) (n:=nM x most i) (k:=k) (by rw [← hl]; omega) (13 - k)
             rw [show k + (13 - k) = 13 by omega] at this
             exact this
           · rw [show k = 13 by omega]
          rw [hl,hn,← e]
          unfold bedsM
          simp only [nM,← hw,and_self]
         have hxc : (51,AV.r (.bo false)) = (51,AV.r (.bo false)):=rfl
         repeat refine zq ?_
         refine awp_joinV (n:=268) (fun (_ : Unit) vs=>[(1,.r (i64 most)),(2,.r (.rp (lwC x))),(4,.pt 4 (vs 4) 0),(5,.pt 5 (vs 5) 0),(6,.r (ints beds13)),(7,.r (i64 (n : Int))),(8,.r (i64 (i : Int))),(9,.pt 9 (vs 9) 0),(10,.r (i64 (k : Int))),(51,.r (.bo false))]) (fun _ vs=>(4,.box [.r (i64 0),.r .ns]) :: (5,.box [.r (i64 0),mkX i vs]) :: (9,.box [.r (i64 (atM i)),.os (i + 600) (vs (i + 600)) 3 0 l.length]) :: (mkA x most i vs ++ fam (upd (mkG x most) i (.arr 67 3 (l.map bedR))) (i + 1))) (fun _=>True) (fun _ h=>h) ?_ ?_
         · by_cases h13 : k < 13
           · have e3 : decide ((k : Int) < 13) = true:=by simp; omega
             have e4 : decide ((l.length : Int) < 10) = false:=by simp; omega
             repeat refine zq ?_
             refine zb (by kernel_rfl) fun K hK=>?_
             simp only [go_sem,e3,e4]
             (try simp (disch:=omega) only [zI])
             repeat first | intro _ | refine ⟨by omega,?_⟩ | refine ⟨⟨by omega,by omega⟩,?_⟩
             refine hK _ ?_
             clear hK K
             refine ⟨(),trivial,zj [] ?_ ?_⟩
             · try simp only [go_sem]
             · try simp only [go_sem]
           · have e3 : decide ((k : Int) < 13) = false:=by simp; omega
             repeat refine zq ?_
             refine zb (by kernel_rfl) fun K hK=>?_
             simp only [go_sem,e3]
             (try simp (disch:=omega) only [zI])
             repeat first | intro _ | refine ⟨by omega,?_⟩ | refine ⟨⟨by omega,by omega⟩,?_⟩
             refine hK _ ?_
             clear hK K
             refine ⟨(),trivial,zj [] ?_ ?_⟩
             · try simp only [go_sem]
             · try simp only [go_sem]
         clear hk hxc
         intro _ vs _
         repeat refine zq ?_
         refine zc rfl (fun hc=>?_) (fun hc=>?_) <;> (try simp only [go_sem] at hc)
         refine zf ?_
         simp only [go_sem]
         have hlen1:=bedsM_ne x most i
         have hG : RowC.arr 67 3 (l.map bedR) = mkG x most i:=by unfold mkG; rw [hend.1]
         rw [hend.1] at hlen1
         rcases Nat.eq_zero_or_pos i with h0 | h0
         · simp only [mkA,mkX,if_pos h0,List.nil_append]
           have dl : ∀ (F : Nat → RowC) n k,k < 600 → delc (fam F n) k = fam F n:=fun F n k h=>delc_fam_lt h
           have q1 : ∀ c,insc (fam (upd (mkG x most) i (.arr 67 3 (l.map bedR))) (i + 1)) 109 c = (109,c) :: fam (upd (mkG x most) i (.arr 67 3 (l.map bedR))) (i + 1):=fun c=>insc_fam_lt (by omega)
           have q2 : ∀ c,insc (fam (upd (mkG x most) i (.arr 67 3 (l.map bedR))) (i + 1)) 110 c = (110,c) :: fam (upd (mkG x most) i (.arr 67 3 (l.map bedR))) (i + 1):=fun c=>insc_fam_lt (by omega)
           repeat refine zq ?_
           refine awp_long ?_
           refine sops_take 3 (by kernel_rfl) fun K hK=>?_
           simp only [go_sem,List.take_succ_cons,List.take_zero,List.drop_succ_cons,List.drop_zero,List.append_eq,List.cons_append,List.nil_append]
           (try simp (disch:=omega) only [zI])
           repeat first | intro _ | refine ⟨by omega,?_⟩ | refine ⟨⟨by omega,by omega⟩,?_⟩
           refine hK _ rfl ?_
           clear hK K
           refine sops_sub (zk [1,2,4,5,6,7,8,107,108]) ?_
           simp only [go_sem]
           refine sops_litB (by simp [go_sem]) ?_
           simp only [go_sem,sLitBox,lay,List.replicate_succ,List.replicate_zero,List.flatten_cons,List.flatten_nil,List.map_cons,List.map_nil,List.cons_append,List.nil_append]
           repeat first | refine ⟨by omega,?_⟩ | refine ⟨⟨by omega,by omega⟩,?_⟩
           simp only [go_sem,hnl,q1]
           refine sops_appB (by simp [go_sem]) ?_
           simp only [go_sem,sAppB,List.length_cons,List.length_nil,decide_true,hnl,q1,q2]
           refine sops_end (by kernel_rfl) fun K hK=>?_
           simp only [go_sem,List.drop_succ_cons,List.drop_zero,List.append_eq,List.cons_append,List.nil_append]
           (try simp (disch:=omega) only [zI])
           try simp only [go_sem,hnl,q1,q2]
           repeat first | intro _ | refine ⟨by omega,?_⟩ | refine ⟨⟨by omega,by omega⟩,?_⟩
           refine hK _ ?_
           clear hK K
           refine zw (zk [1,2,4,5,6,7,8]) ?_
           simp only [go_sem]
           repeat refine zq ?_
           refine zb (by kernel_rfl) fun K hK=>?_
           simp only [go_sem]
           (try simp (disch:=omega) only [zI])
           repeat first | intro _ | refine ⟨by omega,?_⟩ | refine ⟨⟨by omega,by omega⟩,?_⟩
           refine hK _ ?_
           clear hK K
           try simp only [go_sem]
           refine ⟨by omega,zj [9,109] ?_ ?_⟩
           · try simp only [go_sem]
             rw [hend.2]
           · simp only [go_sem,dl,mkR,mkX,mkA,if_neg (show ¬ i + 1 = 0 by omega),List.cons_append,List.nil_append]
             rw [hG,upd_self,araC_upd (by omega),araC_upd (by omega),araC_upd (by omega),araC_upd (by omega),araC_upd (by omega)]
             simp only [araC,hend.1]
             subst h0
             rfl
         · have hi0 : ¬ i = 0:=by omega
           simp only [mkA,mkX,if_neg hi0,List.cons_append,List.nil_append]
           have dl : ∀ (F : Nat → RowC) n k,k < 600 → delc (fam F n) k = fam F n:=fun F n k h=>delc_fam_lt h
           have acl : (araC x most vs i).length = i * 2:=araC_len
           repeat refine zq ?_
           refine awp_long ?_
           refine sops_take 3 (by kernel_rfl) fun K hK=>?_
           simp only [go_sem,List.take_succ_cons,List.take_zero,List.drop_succ_cons,List.drop_zero,List.append_eq,List.cons_append,List.nil_append]
           (try simp (disch:=omega) only [zI])
           repeat first | intro _ | refine ⟨by omega,?_⟩ | refine ⟨⟨by omega,by omega⟩,?_⟩
           refine hK _ rfl ?_
           clear hK K
           refine sops_sub (zk [1,2,4,5,6,7,8,107,108]) ?_
           simp only [go_sem]
           refine sops_litB (by simp [go_sem]) ?_
           simp only [go_sem,sLitBox,lay,List.replicate_succ,List.replicate_zero,List.flatten_cons,List.flatten_nil,List.map_cons,List.map_nil,List.cons_append,List.nil_append]
           repeat first | refine ⟨by omega,?_⟩ | refine ⟨⟨by omega,by omega⟩,?_⟩
           try simp only [go_sem,hnl]
           refine sops_appB (by simp [go_sem]) ?_
           simp only [go_sem,sAppB,List.length_cons,List.length_nil,decide_true,hnl,acl]
           refine ⟨⟨by omega,by omega,by omega⟩,?_⟩
           refine sops_end (by kernel_rfl) fun K hK=>?_
           simp only [go_sem,List.drop_succ_cons,List.drop_zero,List.append_eq,List.cons_append,List.nil_append]
           (try simp (disch:=omega) only [zI])
           try simp only [go_sem,hnl]
           repeat first | intro _ | refine ⟨by omega,?_⟩ | refine ⟨⟨by omega,by omega⟩,?_⟩
           refine hK _ ?_
           clear hK K
           refine zw (zk [1,2,4,5,6,7,8]) ?_
           simp only [go_sem]
           repeat refine zq ?_
           refine zb (by kernel_rfl) fun K hK=>?_
           simp only [go_sem]
           (try simp (disch:=omega) only [zI])
           repeat first | intro _ | refine ⟨by omega,?_⟩ | refine ⟨⟨by omega,by omega⟩,?_⟩
           refine hK _ ?_
           clear hK K
           try simp only [go_sem]
           refine ⟨by omega,zj [9,109] ?_ ?_⟩
           · try simp only [go_sem]
             rw [hend.2]
           · simp only [go_sem,dl,mkR,mkX,mkA,if_neg (show ¬ i + 1 = 0 by omega),List.cons_append,List.nil_append]
             rw [hG,upd_self,araC_upd (by omega),araC_upd (by omega),araC_upd (by omega),araC_upd (by omega),araC_upd (by omega)]
             simp only [araC,hend.1]
   · have hie : i = cntM x:=by omega
     repeat refine zq ?_
     refine awp_joinV (n:=268) (fun (_ : Unit) vs=>[(2,.r (.rp (lwC x))),(4,.pt 4 (vs 4) 0),(5,.pt 5 (vs 5) 0),(34,.r (.bo false))]) (fun _ vs=>mkR x most i vs) (fun _=>True) (fun _ h=>h) ?_ ?_
     · simp only [mkR]
       by_cases h : i < x.which.length
       · have n1 : decide ((i : Int) < (x.which.length : Int)) = true:=by simpa using h
         have n1' : decide (i < x.which.length) = true:=by simpa using h
         have n2 : decide ((i : Int) < 6) = false:=by simp only [decide_eq_false_iff_not]; unfold cntM at hie; omega
         repeat refine zq ?_
         refine zb (by kernel_rfl) fun K hK=>?_
         simp only [go_sem,n1,n1',n2]
         (try simp (disch:=omega) only [zI])
         repeat first | intro _ | refine ⟨by omega,?_⟩ | refine ⟨⟨by omega,by omega⟩,?_⟩
         refine hK _ ?_
         clear hK K
         refine ⟨(),trivial,zj [] ?_ ?_⟩
         · try simp only [go_sem]
         · try simp only [go_sem]
       · have n1 : decide ((i : Int) < (x.which.length : Int)) = false:=by simp only [decide_eq_false_iff_not]; omega
         have n1' : decide (i < x.which.length) = false:=by simpa using h
         repeat refine zq ?_
         refine zb (by kernel_rfl) fun K hK=>?_
         simp only [go_sem,n1,n1']
         (try simp (disch:=omega) only [zI])
         repeat first | intro _ | refine ⟨by omega,?_⟩ | refine ⟨⟨by omega,by omega⟩,?_⟩
         refine hK _ ?_
         clear hK K
         refine ⟨(),trivial,zj [] ?_ ?_⟩
         · try simp only [go_sem]
         · try simp only [go_sem]
     intro _ vs _
     repeat refine zq ?_
     refine zc rfl (fun hc=>?_) (fun hc=>?_) <;> (try simp only [go_sem] at hc)
     refine zf ?_
     simp only [go_sem]
     refine zw (zk [2,4,5]) ?_
     simp only [go_sem]
     rw [hie]
     exact make1_tail x hx most hm _ rfl C vs
end Go.Proofs.Ytgkejinoaommeaa

namespace Go.Proofs.Ytgkejinoaommeaa
open Go Go.Oc
set_option linter.unusedSimpArgs false
set_option linter.unusedVariables false
set_option maxRecDepth 8000
theorem aim_ok (a : Am) (hl : a.beds.length ≤ 1000) : ACalls Try.prog 26 [aimV a] (aimV a):=by
 refine acalls_st (rs:=[aimV a]) [.cell 2 36] Try.func26 rfl (by kernel_rfl) Try.ntmps26 rfl (by simp) rfl fun C vs=>?_
 repeat refine zq ?_
 refine zb (by kernel_rfl) fun K hK=>?_
 simp only [go_sem]
 (try simp (disch:=omega) only [zI])
 repeat first | intro _ | refine ⟨by omega,?_⟩ | refine ⟨⟨by omega,by omega⟩,?_⟩
 refine hK _ ?_
 clear hK K
 refine zw (sub_frzP 1 1 [i64 a.at_,bedsR a.beds] (by omega) rfl rfl) ?_
 refine zw (zk [1,2]) ?_
 simp only [go_sem]
 repeat refine zq ?_
 refine awp_dreg2 [(1,none),(2,some 2)] follows (by decide +kernel) (by kernel_rfl) (by simp only [keysOk,List.mem_cons,List.not_mem_nil,forall_eq_or_imp,Oc.keyOf,go_sem]; simp) fun K hK=>?_
 simp only [go_sem]
 (try simp (disch:=omega) only [zI])
 repeat first | intro _ | refine ⟨by omega,?_⟩ | refine ⟨⟨by omega,by omega⟩,?_⟩
 refine hK _ ?_
 clear hK K
 refine zw (zk [2]) ?_
 simp only [go_sem]
 refine ze ?_
 simp only [go_sem]
theorem own_ok (d : Int) (l : List Am) (hl : l.length ≤ 1000) (hb : ∀ a ∈ l,a.beds.length ≤ 1000) : ACalls Try.prog 15 [lawV d l] (lawV d l):=by
 refine acalls_st (rs:=[lawV d l]) [.cell 2 24] Try.func15 rfl (by kernel_rfl) Try.ntmps15 rfl (by simp) rfl fun C vs=>?_
 repeat refine zq ?_
 refine zb (by kernel_rfl) fun K hK=>?_
 simp only [go_sem]
 (try simp (disch:=omega) only [zI])
 repeat first | intro _ | refine ⟨by omega,?_⟩ | refine ⟨⟨by omega,by omega⟩,?_⟩
 refine hK _ ?_
 clear hK K
 refine zw (sub_frzP 1 1 [i64 d,aimsR l] (by omega) rfl rfl) ?_
 refine zw (zk [1,2]) ?_
 simp only [go_sem]
 repeat refine zq ?_
 refine zb (by kernel_rfl) fun K hK=>?_
 simp only [go_sem]
 (try simp (disch:=omega) only [zI])
 repeat first | intro _ | refine ⟨by omega,?_⟩ | refine ⟨⟨by omega,by omega⟩,?_⟩
 refine hK _ ?_
 clear hK K
 refine zw (zk [1,2,3]) ?_
 simp only [go_sem]
 repeat refine zq ?_
 refine zb (by kernel_rfl) fun K hK=>?_
 simp only [go_sem]
 (try simp (disch:=omega) only [zI])
 repeat first | intro _ | refine ⟨by omega,?_⟩ | refine ⟨⟨by omega,by omega⟩,?_⟩
 refine hK _ ?_
 clear hK K
 refine zw (zk [1,2,3,4]) ?_
 simp only [go_sem]
 repeat refine zq ?_
 refine zd ?_
 refine zw (sub_ownB 3 1 30 36 2 (by omega) (by omega) rfl rfl) ?_
 try simp only [go_sem]
 refine awp_uptoV (n:=27) l.length (fun i vs=>[(1,.r (.rp [i64 d,aimsR l])),(2,.pt 2 (vs 2) 0),(3,.pt 3 (vs 3) 0),(4,.r (i64 i))])
  (fun i vs=>[(2,.box [.r (i64 0),.r .ns]),(3,.box [.r (i64 d),.os 30 (vs 30) 2 0 i]),(30,.arr 36 2 ((l.take i).map aimR))]) (fun _=>True) 0 (zj [] ?_ ?_) (Nat.zero_le _) trivial ?_
 · try simp only [go_sem]
 · try simp only [go_sem]
 · intro i vs hi _
   repeat refine zq ?_
   refine zb (by kernel_rfl) fun K hK=>?_
   simp only [go_sem]
   (try simp (disch:=omega) only [zI])
   repeat first | intro _ | refine ⟨by omega,?_⟩ | refine ⟨⟨by omega,by omega⟩,?_⟩
   refine hK _ ?_
   clear hK K
   refine zw (zk [1,2,3,4,12]) ?_
   simp only [go_sem]
   repeat refine zq ?_
   refine zc rfl (fun hc=>?_) (fun hc=>?_) <;> (try simp only [go_sem] at hc)
   · skip
     have hci:=hc
     obtain ⟨x,hx⟩:=opt_of_lt hc
     have hlt : (l.take i).length = i:=by rw [List.length_take]; omega
     refine zx ?_
     try simp only [go_sem]
     repeat refine zq ?_
     refine zd ?_
     repeat refine zq ?_
     refine awp_dreg3 [(1,none),(2,some 2),(3,some 3),(4,none)] [3] follows (by decide +kernel) (by kernel_rfl) (by simp only [keysOk,List.mem_cons,List.not_mem_nil,forall_eq_or_imp,Oc.keyOf,go_sem]; simp) (by intro k hk; simp only [List.mem_cons,List.not_mem_nil,or_false] at hk; first | (subst hk; exact ⟨_,rfl⟩) | (rcases hk with rfl | rfl <;> exact ⟨_,rfl⟩) | (rcases hk with rfl | rfl | rfl <;> exact ⟨_,rfl⟩)) fun K hK=>?_
     simp only [go_sem,hx,hci,aimR,hlt]
     (try simp (disch:=omega) only [zI])
     refine zh (aim_ok x (hb x (mem_of_opt hx))) rfl (by simp only [go_sem,i64,ints,hlt,aimR]) (by simp only [go_sem,i64,ints,hlt,aimR]) (by first | exact .inl rfl | exact .inr rfl) ?_
     (try simp only [go_sem,hlt,aimR])
     (try simp (disch:=omega) only [zI])
     repeat first | intro _ | refine ⟨by omega,?_⟩ | refine ⟨⟨by omega,by omega⟩,?_⟩
     refine hK _ ?_
     clear hK K
     refine zw (zk [1,2,3,4]) ?_
     simp only [go_sem]
     repeat refine zq ?_
     refine zb (by kernel_rfl) fun K hK=>?_
     simp only [go_sem]
     (try simp (disch:=omega) only [zI])
     repeat first | intro _ | refine ⟨by omega,?_⟩ | refine ⟨⟨by omega,by omega⟩,?_⟩
     refine hK _ ?_
     clear hK K
     try simp only [go_sem]
     refine ⟨hci,zj [] ?_ ?_⟩
     · try simp only [go_sem]
     · try simp only [go_sem]
       rw [take_of_opt hx]
       simp [aimR]
   · skip
     refine zf ?_
     simp only [go_sem]
     repeat refine zq ?_
     refine zb (by kernel_rfl) fun K hK=>?_
     simp only [go_sem]
     (try simp (disch:=omega) only [zI])
     repeat first | intro _ | refine ⟨by omega,?_⟩ | refine ⟨⟨by omega,by omega⟩,?_⟩
     refine hK _ ?_
     clear hK K
     refine zw (zk [2]) ?_
     simp only [go_sem]
     refine ze ?_
     simp only [go_sem]
     have : i = l.length:=by omega
     subst this
     simp [List.take_of_length_le]
end Go.Proofs.Ytgkejinoaommeaa

namespace Go.Proofs.Ytgkejinoaommeaa
open Go Go.Oc
set_option linter.unusedSimpArgs false
set_option linter.unusedVariables false
set_option maxRecDepth 8000
set_option maxHeartbeats 4000000
def mixQ (z n : List Int) (k : Nat) : List Int:=z.take k ++ n.drop k
theorem mixQ_get {z n : List Int} {k : Nat} {v : Int} (h : z.length = n.length) (hk : n[k]? = some v) : (mixQ z n k)[k]? = some v:=by
 have hkl:=(List.getElem?_eq_some_iff.1 hk).1
 unfold mixQ
 rw [List.getElem?_append_right (by simp; omega)]
 simp only [List.length_take,List.getElem?_drop]
 rw [show k + (k - min k z.length) = k by omega]; exact hk
theorem mixQ_set {z n : List Int} {k : Nat} {v : Int} (h : z.length = n.length) (hk : z[k]? = some v) : (mixQ z n k).set k v = mixQ z n (k + 1):=by
 have hkl:=(List.getElem?_eq_some_iff.1 hk).1
 unfold mixQ
 rw [take_of_opt hk,List.set_append_right _ _ (by rw [List.length_take]; omega),List.length_take,show k - min k z.length = 0 by omega]
 have : n.drop k = n[k]'(by omega) :: n.drop (k + 1):=List.drop_eq_getElem_cons (by omega)
 rw [this,List.set_cons_zero,List.append_assoc]
 rfl
theorem mixQ_len {z n : List Int} {k : Nat} (h : z.length = n.length) : (mixQ z n k).length = n.length:=by unfold mixQ; simp; omega
theorem span_small {d : Int} (hd : d ≤ 3000) {a : Am} (h : MadeI d a) : (0 ≤ (spanOf d a).1 ∧ (spanOf d a).1 ≤ 100000000) ∧ 0 ≤ (spanOf d a).2 ∧ (spanOf d a).2 ≤ 100000000:=by
 have hok:=h.ok
 have hlen:=h.len
 simp only [aimOk,chOk,Bool.and_eq_true,decide_eq_true_eq,List.all_eq_true] at hok
 obtain ⟨⟨⟨⟨_,o3⟩,o4⟩,o5⟩,o6⟩:=hok
 have key : ∀ cm : Int → Int → Int,0 ≤ dotV (filledV cm d a.beds (scoresOf a.beds)) (scoresOf a.beds) ∧ dotV (filledV cm d a.beds (scoresOf a.beds)) (scoresOf a.beds) ≤ 100000000:=fun cm=>by
  have hT:=filled_truth (cm:=cm) (vals:=scoresOf a.beds) (fun c hc=>(o4 c hc).1.2) o5 o6
  have hyl:=hT.len
  have hz:=dotV_le (B:=1000) (by omega) (n:=filledV cm d a.beds (scoresOf a.beds)) (v:=scoresOf a.beds) (fun v hv=>by
   obtain ⟨k,hk⟩:=List.getElem?_of_mem hv
   have hkl:=(List.getElem?_eq_some_iff.1 hk).1
   have e:=hT.each k (by omega)
   have g:=o4 _ (bAt_mem (show k < a.beds.length by omega))
   rw [List.getD_eq_getElem?_getD,hk] at e
   simp only [Option.getD_some] at e
   omega) (fun v hv=>by
   obtain ⟨c,hc,rfl⟩:=List.mem_map.1 hv
   have:=score_le (seqOk_le o3 c hc).1 (seqOk_le o3 c hc).2
   omega)
  rw [hyl] at hz
  omega
 exact ⟨key cmpI,key fun x y=>cmpI y x⟩
theorem pooled_law (x : Lw) (hx : WfLw x) (bs y0 y1 : List Int) (hb : ∀ n ∈ bs,0 ≤ n ∧ n ≤ 255) (h0 : ∀ n ∈ y0,0 ≤ n ∧ n ≤ 255) (h1 : ∀ n ∈ y1,0 ≤ n ∧ n ≤ 255) (hbl : bs.length ≤ 140737488351232) : ACalls Try.prog 12 [.ag (lwC x),u8s bs,.ag [u8s y0,u8s y1]] (.bo true):=by
 have hkn:=known14_ok
 have hx2 : WfLw ⟨x.which,y0,y1,x.rest⟩:=⟨hx.which,h0,h1,hx.rest⟩
 have hmk:=make1_ok x hx 40 (by omega)
 have hmk2:=make1_ok ⟨x.which,y0,y1,x.rest⟩ hx2 40 (by omega)
 obtain ⟨hD,hL,hmade,hcv,hwf⟩:=made_ok hx (most:=40) (by omega)
 obtain ⟨hE,hM,hmade2,hcv2,hwf2⟩:=made_ok hx2 (most:=40) (by omega)
 have hD4:=den_le hx (most:=40) (by omega)
 have hE4:=den_le hx2 (most:=40) (by omega)
 have hsm:=aims_same (x:=x) (x':=⟨x.which,y0,y1,x.rest⟩) rfl rfl 40
 generalize denM x 40 = D at *
 generalize aimsM x 40 = l at *
 generalize denM ⟨x.which,y0,y1,x.rest⟩ 40 = E at *
 generalize aimsM ⟨x.which,y0,y1,x.rest⟩ 40 = m at *
 have hlm : l.length = m.length:=eqF_len hsm
 have hsm2:=eqF_sym hsm
 have hown:=own_ok D l (by omega) fun a ha=>by have:=(hmade a ha).len; omega
 have hown2:=own_ok E m (by omega) fun a ha=>by have:=(hmade2 a ha).len; omega
 have hpool:=pool_ok D l E m hwf hwf2
 have hpool2:=pool_ok E m D l hwf2 hwf
 have hpe : poolE D l E m = 0:=by unfold poolE; rw [if_neg (by simp [hcv]),if_neg (by simp [hcv2]),if_neg (by simp [hsm]),if_neg (by omega)]
 have hpe2 : poolE E m D l = 0:=by unfold poolE; rw [if_neg (by simp [hcv2]),if_neg (by simp [hcv]),if_neg (by simp [hsm2]),if_neg (by omega)]
 have hcm : poolL m l = poolL l m:=(poolL_comm hsm).symm
 simp only [poolV,hpe,hpe2,if_true,hcm,Int.add_comm E D] at hpool hpool2
 have hpmade : ∀ b ∈ poolL l m,MadeI (D + E) b:=fun b hb=>by
  obtain ⟨i,hi⟩:=List.getElem?_of_mem hb
  have hil:=(List.getElem?_eq_some_iff.1 hi).1
  have hpl : (poolL l m).length = min l.length m.length:=by unfold poolL; rw [List.length_zipWith]
  obtain ⟨a1,e1⟩:=opt_of_lt (show i < l.length by omega)
  obtain ⟨a2,e2⟩:=opt_of_lt (show i < m.length by omega)
  rw [poolL_get e1 e2,Option.some.injEq] at hi
  subst hi
  exact pool_made (by omega) (hmade _ (mem_of_opt e1)) (hmade2 _ (mem_of_opt e2)) (eqF_get hsm e1 e2)
 have hpl : (poolL l m).length = l.length:=by unfold poolL; rw [List.length_zipWith]; omega
 obtain ⟨hcv3,hwf3⟩:=check_made (d:=D + E) (l:=poolL l m) (by omega) (by omega) hpmade
 have hown3:=own_ok (D + E) (poolL l m) (by omega) fun a ha=>by have:=(hpmade a ha).len; omega
 have hs1:=Score_ok D l hwf
 have hs2:=Score_ok E m hwf2
 have hs3:=Score_ok (D + E) (poolL l m) hwf3
 simp only [spansV,hcv,hcv2,hcv3,if_true] at hs1 hs2 hs3
 have heq:=equal_ok (D + E) (D + E) (poolL l m) (poolL l m)
 rw [decide_eq_true (show D + E = D + E ∧ poolL l m = poolL l m from ⟨rfl,rfl⟩)] at heq
 have hat : ∀ i a,l[i]? = some a → ∃ b n q,m[i]? = some b ∧ (poolL l m)[i]? = some (poolA a b) ∧
  n.length = a.beds.length ∧ q.length = a.beds.length ∧ (∀ v ∈ n,0 ≤ v ∧ v ≤ 3000) ∧ (∀ v ∈ q,0 ≤ v ∧ v ≤ 3000) ∧
  OCalls Try.prog 32 [.ag [i64 a.at_,bedsR a.beds],i64 D,u8s bs] 3 1 (n.map fun x=>[i64 x]) n.length ∧
  ACalls Try.prog 32 [.ag [i64 b.at_,bedsR b.beds],i64 E,u8s (7 :: bs)] (ints q) ∧
  ACalls Try.prog 44 [.ag [i64 (poolA a b).at_,bedsR (poolA a b).beds],i64 (D + E),ints (List.zipWith (· + ·) n q)] (.bo true) ∧
  (spanOf (D + E) (poolA a b)).1 ≤ (spanOf D a).1 + (spanOf E b).1 ∧ (spanOf D a).2 + (spanOf E b).2 ≤ (spanOf (D + E) (poolA a b)).2 ∧ ((0 ≤ (spanOf D a).1 ∧ (spanOf D a).1 ≤ 100000000) ∧ 0 ≤ (spanOf D a).2 ∧ (spanOf D a).2 ≤ 100000000) ∧ ((0 ≤ (spanOf E b).1 ∧ (spanOf E b).1 ≤ 100000000) ∧ 0 ≤ (spanOf E b).2 ∧ (spanOf E b).2 ≤ 100000000):=fun i a ha=>by
  have hil:=(List.getElem?_eq_some_iff.1 ha).1
  obtain ⟨b,hb2⟩:=opt_of_lt (show i < m.length by omega)
  have hma:=hmade a (mem_of_opt ha)
  have hmb:=hmade2 b (mem_of_opt hb2)
  have hsab:=eqF_get hsm ha hb2
  obtain ⟨_,s2⟩:=sameA_iff hsab
  have hll : a.beds.length = b.beds.length:=by have:=congrArg List.length s2; simpa using this
  have hb7 : ∀ n ∈ 7 :: bs,0 ≤ n ∧ n ≤ 255:=fun n hn=>by
   rcases List.mem_cons.1 hn with rfl | hn
   · omega
   · exact hb n hn
  have gen : ∀ (d : Int) (c : Am) (zs : List Int),MadeI d c → 1 ≤ d ∧ d ≤ 2600 → (∀ n ∈ zs,0 ≤ n ∧ n ≤ 255) → loS c.beds ≤ d ∧ d ≤ hiS c.beds ∧ (∀ e ∈ c.beds,0 ≤ e.lo ∧ e.lo ≤ e.hi ∧ e.hi ≤ 3000) ∧ TruthN d c.beds (truthU c.beds d zs) ∧ ∀ v ∈ truthU c.beds d zs,0 ≤ v ∧ v ≤ 3000:=fun d c zs hc hd hz=>by
   have hok:=hc.ok
   have hlen:=hc.len
   simp only [aimOk,chOk,Bool.and_eq_true,decide_eq_true_eq,List.all_eq_true] at hok
   obtain ⟨⟨⟨_,o4⟩,o5⟩,o6⟩:=hok
   have h3 : ∀ e ∈ c.beds,0 ≤ e.lo ∧ e.lo ≤ e.hi ∧ e.hi ≤ 3000:=fun e he=>by have:=o4 e he; omega
   have hI:=TI.it (bs:=zs) hz hlen.1 o5 (fun c hc'=>(h3 c hc').2.1) 31
   have hz':=itU_done (bs:=zs) hz hlen.1 o5 (fun c hc'=>(h3 c hc').2.1) o6
   have hT : TruthN d c.beds (truthU c.beds d zs):=⟨hI.len,hI.each,by have:=hI.sum; unfold truthU; omega⟩
   refine ⟨o5,o6,h3,hT,fun v hv=>?_⟩
   obtain ⟨k,hk⟩:=List.getElem?_of_mem hv
   have hkl:=(List.getElem?_eq_some_iff.1 hk).1
   have hyl:=hT.len
   have e:=hT.each k (by omega)
   have g:=h3 _ (bAt_mem (show k < c.beds.length by omega))
   rw [List.getD_eq_getElem?_getD,hk] at e
   simp only [Option.getD_some] at e
   omega
  obtain ⟨a1,a2,a3,a4,a5⟩:=gen D a bs hma hD hb
  obtain ⟨b1,b2,b3,b4,b5⟩:=gen E b (7 :: bs) hmb hE hb7
  have hpm:=hpmade _ (mem_of_opt (poolL_get ha hb2))
  have hpo:=hpm.ok
  simp only [aimOk,chOk,Bool.and_eq_true,decide_eq_true_eq,List.all_eq_true] at hpo
  obtain ⟨⟨⟨_,p4⟩,_⟩,_⟩:=hpo
  have hml:=hma.len
  obtain ⟨k1,k2⟩:=span_pool hma hmb hsab
  refine ⟨b,truthU a.beds D bs,truthU b.beds E (7 :: bs),hb2,poolL_get ha hb2,a4.len,by rw [b4.len,hll],a5,b5,truthU_own a D bs hb a1 (by omega) (by omega) a3 a2,truthU_ok b E (7 :: bs) hb7 b1 (by omega) (by omega) b3 b2,?_,k1,k2,span_small (by omega) hma,span_small (by omega) hmb⟩
  exact isTruth_ok (poolA a b) (D + E) _ (truth_sum2 hll a4 b4) (fun c hc=>by have:=p4 c hc; omega) (by have:=hpm.len; omega) (by omega)
 have hsl1 : (l.map (spanOf D)).length = l.length:=by simp
 have hsl2 : (m.map (spanOf E)).length = l.length:=by simp [hlm]
 have hsl3 : ((poolL l m).map (spanOf (D + E))).length = l.length:=by simp [hpl]
 have hwDE : IntKind.i64.wrap (D + E) = D + E:=by rw [zI] <;> omega
 refine acalls_st (rs:=[.bo true]) [.tmp 6] Try.func12 rfl (by kernel_rfl) Try.ntmps12 rfl (by simp) rfl fun C vs=>?_
 repeat refine zq ?_
 refine zb (by kernel_rfl) fun K hK=>?_
 simp only [go_sem]
 (try simp (disch:=omega) only [zI])
 repeat first | intro _ | refine ⟨by omega,?_⟩ | refine ⟨⟨by omega,by omega⟩,?_⟩
 refine hK _ ?_
 clear hK K
 refine zw (sub_frzP 5 5 [u8s y0,u8s y1] (by omega) rfl rfl) ?_
 refine zw (sub_frzP 3 3 (lwC x) (by omega) rfl rfl) ?_
 refine zw (zk [1,3,5]) ?_
 simp only [go_sem]
 repeat refine zq ?_
 refine zb (by kernel_rfl) fun K hK=>?_
 simp only [go_sem]
 (try simp (disch:=omega) only [zI])
 refine zh (hmk) rfl (by simp only [go_sem,i64,ints]) (by simp only [go_sem,i64,ints]) (by first | exact .inl rfl | exact .inr rfl) ?_
 (try simp only [go_sem])
 (try simp (disch:=omega) only [zI])
 repeat first | intro _ | refine ⟨by omega,?_⟩ | refine ⟨⟨by omega,by omega⟩,?_⟩
 refine hK _ ?_
 clear hK K
 refine zw (sub_frzP 7 7 [i64 D,aimsR l] (by omega) rfl rfl) ?_
 refine zw (zk [1,3,5,7]) ?_
 simp only [go_sem]
 repeat refine zq ?_
 refine zb (by kernel_rfl) fun K hK=>?_
 simp only [go_sem]
 (try simp (disch:=omega) only [zI])
 repeat first | intro _ | refine ⟨by omega,?_⟩ | refine ⟨⟨by omega,by omega⟩,?_⟩
 refine hK _ ?_
 clear hK K
 refine zw (zk [1,5,7,8]) ?_
 simp only [go_sem]
 repeat refine zq ?_
 refine awp_dreg2 [(5,none),(8,some 8)] follows (by decide +kernel) (by kernel_rfl) (by simp only [keysOk,List.mem_cons,List.not_mem_nil,forall_eq_or_imp,Oc.keyOf,go_sem]; simp) fun K hK=>?_
 simp only [go_sem]
 (try simp (disch:=omega) only [zI])
 repeat first | intro _ | refine ⟨by omega,?_⟩ | refine ⟨⟨by omega,by omega⟩,?_⟩
 refine hK _ ?_
 clear hK K
 refine zw (zk [1,7,8]) ?_
 simp only [go_sem]
 refine zw (sub_frzP 8 8 (lwC ⟨x.which,y0,y1,x.rest⟩) (by omega) rfl rfl) ?_
 refine zw (zk [1,7,8]) ?_
 simp only [go_sem]
 repeat refine zq ?_
 refine zb (by kernel_rfl) fun K hK=>?_
 simp only [go_sem]
 (try simp (disch:=omega) only [zI])
 refine zh (hmk2) rfl (by simp only [go_sem,i64,ints]) (by simp only [go_sem,i64,ints]) (by first | exact .inl rfl | exact .inr rfl) ?_
 (try simp only [go_sem])
 (try simp (disch:=omega) only [zI])
 repeat first | intro _ | refine ⟨by omega,?_⟩ | refine ⟨⟨by omega,by omega⟩,?_⟩
 refine hK _ ?_
 clear hK K
 refine zw (sub_frzP 9 9 [i64 E,aimsR m] (by omega) rfl rfl) ?_
 refine zw (zk [1,7,9]) ?_
 simp only [go_sem]
 repeat refine zq ?_
 refine awp_dreg2 [(7,none),(9,none)] follows (by decide +kernel) (by kernel_rfl) (by simp only [keysOk,List.mem_cons,List.not_mem_nil,forall_eq_or_imp,Oc.keyOf,go_sem]; simp) fun K hK=>?_
 simp only [go_sem]
 (try simp (disch:=omega) only [zI])
 refine zh (hown) rfl (by simp only [go_sem,i64,ints]) (by simp only [go_sem,i64,ints]) (by first | exact .inl rfl | exact .inr rfl) ?_
 (try simp only [go_sem])
 (try simp (disch:=omega) only [zI])
 try simp only [go_sem]
 refine zh (hown2) rfl (by simp only [go_sem,i64,ints]) (by simp only [go_sem,i64,ints]) (by first | exact .inl rfl | exact .inr rfl) ?_
 (try simp only [go_sem])
 (try simp (disch:=omega) only [zI])
 try simp only [go_sem]
 refine zh (hpool) rfl (by simp only [go_sem,i64,ints]) (by simp only [go_sem,i64,ints]) (by first | exact .inl rfl | exact .inr rfl) ?_
 (try simp only [go_sem])
 (try simp (disch:=omega) only [zI])
 repeat first | intro _ | refine ⟨by omega,?_⟩ | refine ⟨⟨by omega,by omega⟩,?_⟩
 refine hK _ ?_
 clear hK K
 refine zw (sub_frzP 10 10 [i64 (D + E),aimsR (poolL l m)] (by omega) rfl rfl) ?_
 refine zw (zk [1,7,9,10,11]) ?_
 simp only [go_sem]
 repeat refine zq ?_
 refine awp_dreg2 [(7,none),(9,none)] follows (by decide +kernel) (by kernel_rfl) (by simp only [keysOk,List.mem_cons,List.not_mem_nil,forall_eq_or_imp,Oc.keyOf,go_sem]; simp) fun K hK=>?_
 simp only [go_sem]
 (try simp (disch:=omega) only [zI])
 refine zh (hown2) rfl (by simp only [go_sem,i64,ints]) (by simp only [go_sem,i64,ints]) (by first | exact .inl rfl | exact .inr rfl) ?_
 (try simp only [go_sem])
 (try simp (disch:=omega) only [zI])
 try simp only [go_sem]
 refine zh (hown) rfl (by simp only [go_sem,i64,ints]) (by simp only [go_sem,i64,ints]) (by first | exact .inl rfl | exact .inr rfl) ?_
 (try simp only [go_sem])
 (try simp (disch:=omega) only [zI])
 try simp only [go_sem]
 refine zh (hpool2) rfl (by simp only [go_sem,i64,ints]) (by simp only [go_sem,i64,ints]) (by first | exact .inl rfl | exact .inr rfl) ?_
 (try simp only [go_sem])
 (try simp (disch:=omega) only [zI])
 repeat first | intro _ | refine ⟨by omega,?_⟩ | refine ⟨⟨by omega,by omega⟩,?_⟩
 refine hK _ ?_
 clear hK K
 refine zw (sub_frzP 12 12 [i64 (D + E),aimsR (poolL l m)] (by omega) rfl rfl) ?_
 refine zw (zk [1,7,9,10,11,12,13]) ?_
 simp only [go_sem]
 repeat refine zq ?_
 refine zb (by kernel_rfl) fun K hK=>?_
 simp only [go_sem]
 (try simp (disch:=omega) only [zI])
 refine zh (hown) rfl (by simp only [go_sem,i64,ints]) (by simp only [go_sem,i64,ints]) (by first | exact .inl rfl | exact .inr rfl) ?_
 (try simp only [go_sem])
 (try simp (disch:=omega) only [zI])
 refine zh (hs1) rfl (by simp only [go_sem,i64,ints]) (by simp only [go_sem,i64,ints]) (by first | exact .inl rfl | exact .inr rfl) ?_
 (try simp only [go_sem])
 (try simp (disch:=omega) only [zI])
 repeat first | intro _ | refine ⟨by omega,?_⟩ | refine ⟨⟨by omega,by omega⟩,?_⟩
 refine hK _ ?_
 clear hK K
 refine zw (zk [1,7,9,10,11,12,13,14,15]) ?_
 simp only [go_sem]
 repeat refine zq ?_
 refine zb (by kernel_rfl) fun K hK=>?_
 simp only [go_sem]
 (try simp (disch:=omega) only [zI])
 refine zh (hown2) rfl (by simp only [go_sem,i64,ints]) (by simp only [go_sem,i64,ints]) (by first | exact .inl rfl | exact .inr rfl) ?_
 (try simp only [go_sem])
 (try simp (disch:=omega) only [zI])
 refine zh (hs2) rfl (by simp only [go_sem,i64,ints]) (by simp only [go_sem,i64,ints]) (by first | exact .inl rfl | exact .inr rfl) ?_
 (try simp only [go_sem])
 (try simp (disch:=omega) only [zI])
 repeat first | intro _ | refine ⟨by omega,?_⟩ | refine ⟨⟨by omega,by omega⟩,?_⟩
 refine hK _ ?_
 clear hK K
 refine zw (zk [1,7,9,10,11,12,13,14,15,16,17]) ?_
 simp only [go_sem]
 repeat refine zq ?_
 refine zb (by kernel_rfl) fun K hK=>?_
 simp only [go_sem,bne_self_eq_false,hsl1,hsl2,hpl,hwDE]
 (try simp (disch:=omega) only [zI])
 refine zh (heq) rfl (by simp only [go_sem,i64,ints,bne_self_eq_false,hsl1,hsl2,hpl,hwDE]) (by simp only [go_sem,i64,ints,bne_self_eq_false,hsl1,hsl2,hpl,hwDE]) (by first | exact .inl rfl | exact .inr rfl) ?_
 (try simp only [go_sem,bne_self_eq_false,hsl1,hsl2,hpl,hwDE])
 (try simp (disch:=omega) only [zI])
 repeat first | intro _ | refine ⟨by omega,?_⟩ | refine ⟨⟨by omega,by omega⟩,?_⟩
 refine hK _ ?_
 clear hK K
 refine zw (zk [1,7,9,10,14,16,116]) ?_
 simp only [go_sem]
 repeat refine zq ?_
 refine zc rfl (fun hc=>?_) (fun hc=>?_) <;> (try simp only [go_sem] at hc)
 refine zx ?_
 try simp only [go_sem]
 repeat refine zq ?_
 refine zb (by kernel_rfl) fun K hK=>?_
 simp only [go_sem]
 (try simp (disch:=omega) only [zI])
 refine zh (hown3) rfl (by simp only [go_sem,i64,ints]) (by simp only [go_sem,i64,ints]) (by first | exact .inl rfl | exact .inr rfl) ?_
 (try simp only [go_sem])
 (try simp (disch:=omega) only [zI])
 refine zh (hs3) rfl (by simp only [go_sem,i64,ints]) (by simp only [go_sem,i64,ints]) (by first | exact .inl rfl | exact .inr rfl) ?_
 (try simp only [go_sem])
 (try simp (disch:=omega) only [zI])
 repeat first | intro _ | refine ⟨by omega,?_⟩ | refine ⟨⟨by omega,by omega⟩,?_⟩
 refine hK _ ?_
 clear hK K
 refine zw (zk [1,7,9,10,11,14,16,18]) ?_
 simp only [go_sem]
 repeat refine zq ?_
 refine zb (by kernel_rfl) fun K hK=>?_
 simp only [go_sem,bne_self_eq_false,hsl1,hsl3]
 (try simp (disch:=omega) only [zI])
 repeat first | intro _ | refine ⟨by omega,?_⟩ | refine ⟨⟨by omega,by omega⟩,?_⟩
 refine hK _ ?_
 clear hK K
 refine zw (zk [1,7,9,10,14,16,18,131]) ?_
 simp only [go_sem]
 repeat refine zq ?_
 refine zc rfl (fun hc=>?_) (fun hc=>?_) <;> (try simp only [go_sem] at hc)
 refine zx ?_
 try simp only [go_sem]
 repeat refine zq ?_
 refine zb (by kernel_rfl) fun K hK=>?_
 simp only [go_sem]
 (try simp (disch:=omega) only [zI])
 repeat first | intro _ | refine ⟨by omega,?_⟩ | refine ⟨⟨by omega,by omega⟩,?_⟩
 refine hK _ ?_
 clear hK K
 refine zw (zk [1,7,9,10,14,16,18,19]) ?_
 simp only [go_sem]
 repeat refine zq ?_
 refine zd ?_
 refine awp_uptoV (n:=224) l.length (fun i vs=>[(1,.r (u8s bs)),(7,.r (.rp [i64 D,aimsR l])),(9,.r (.rp [i64 E,aimsR m])),(10,.r (.rp [i64 (D + E),aimsR (poolL l m)])),(14,.r (spansR (l.map (spanOf D)))),(16,.r (spansR (m.map (spanOf E)))),(18,.r (spansR ((poolL l m).map (spanOf (D + E))))),(19,.r (i64 (i : Int)))])
  (fun i vs=>[]) (fun _=>True) 0 (zj [] ?_ ?_) (Nat.zero_le _) trivial ?_
 · try simp only [go_sem]
 · try simp only [go_sem]
 · intro i vs hi _
   repeat refine zq ?_
   refine zb (by kernel_rfl) fun K hK=>?_
   simp only [go_sem]
   (try simp (disch:=omega) only [zI])
   repeat first | intro _ | refine ⟨by omega,?_⟩ | refine ⟨⟨by omega,by omega⟩,?_⟩
   refine hK _ ?_
   clear hK K
   refine zw (zk [1,7,9,10,14,16,18,19,136]) ?_
   simp only [go_sem]
   repeat refine zq ?_
   refine zc rfl (fun hc=>?_) (fun hc=>?_) <;> (try simp only [go_sem] at hc)
   · have hci : i < l.length:=by omega
     have hcm2 : i < m.length:=by omega
     have hcp : i < (poolL l m).length:=by omega
     obtain ⟨a,ha⟩:=opt_of_lt hci
     obtain ⟨b,n,q,hb2,hp,hnl,hql,hn3,hq3,ht1,ht2,hit,hk1,hk2,⟨⟨g1,g2⟩,g3,g4⟩,⟨g5,g6⟩,g7,g8⟩:=hat i a ha
     refine zx ?_
     try simp only [go_sem]
     repeat refine zq ?_
     refine zd ?_
     repeat refine zq ?_
     refine awp_dregC [155,157] [(7,none),(9,none),(1,none),(19,none)] follows (by decide +kernel) (by kernel_rfl) (by simp only [keysOk,List.mem_cons,List.not_mem_nil,forall_eq_or_imp,Oc.keyOf,go_sem]; simp) fun K hK=>?_
     simp only [go_sem,ha,hci,hb2,hcm2,aimR]
     (try simp (disch:=omega) only [zI])
     refine xcall_own (ht1) rfl (by simp only [go_sem,i64,ints]) (by simp only [go_sem,i64,ints]) (by decide) (by intro h; first | (cases h; done) | rfl) ?_
     (try simp only [go_sem])
     (try simp (disch:=omega) only [zI])
     simp only [go_sem,ha,hci,hb2,hcm2,aimR,Res.when,List.length_map,ne_eq,List.cons_ne_nil,not_false_eq_true,true_and,List.length_cons,List.length_nil,Nat.min_self,Nat.le_refl,List.cons_append,List.nil_append]
     repeat first | intro _ | refine ⟨by omega,?_⟩ | refine ⟨⟨by omega,by omega⟩,?_⟩
     have ht2' : ACalls Try.prog 32 [.ag [i64 b.at_,bedsR b.beds],i64 E,.sl 1 ([.it .u8 7] :: bs.map fun x=>[.it .u8 x])] (ints q):=ht2
     refine zh (ht2') rfl (by simp only [go_sem,i64,ints]) (by simp only [go_sem,i64,ints]) (by first | exact .inl rfl | exact .inr rfl) ?_
     (try simp only [go_sem])
     (try simp (disch:=omega) only [zI])
     repeat first | intro _ | refine ⟨by omega,?_⟩ | refine ⟨⟨by omega,by omega⟩,?_⟩
     refine hK _ ?_
     clear hK K
     refine zw (zk [1,7,9,10,14,16,18,19,20,21]) ?_
     simp only [go_sem]
     have hzl : (List.zipWith (· + ·) n q).length = n.length:=by rw [List.length_zipWith]; omega
     generalize hz : List.zipWith (· + ·) n q = z at *
     repeat refine zq ?_
     refine zb (by kernel_rfl) fun K hK=>?_
     simp only [go_sem]
     (try simp (disch:=omega) only [zI])
     repeat first | intro _ | refine ⟨by omega,?_⟩ | refine ⟨⟨by omega,by omega⟩,?_⟩
     refine hK _ ?_
     clear hK K
     refine zw (zk [1,7,9,10,14,16,18,19,20,21,22]) ?_
     simp only [go_sem]
     repeat refine zq ?_
     refine zd ?_
     refine awp_uptoV (n:=224) n.length (fun k vs=>[(1,.r (u8s bs)),(7,.r (.rp [i64 D,aimsR l])),(9,.r (.rp [i64 E,aimsR m])),(10,.r (.rp [i64 (D + E),aimsR (poolL l m)])),(14,.r (spansR (l.map (spanOf D)))),(16,.r (spansR (m.map (spanOf E)))),(18,.r (spansR ((poolL l m).map (spanOf (D + E))))),(19,.r (i64 (i : Int))),(20,.os 147 (vs 147) 1 0 n.length),(21,.r (ints q)),(22,.r (i64 (k : Int)))])
      (fun k vs=>[(147,.arr 3 1 ((mixQ z n k).map fun x=>[i64 x]))]) (fun _=>True) 0 (zj [] ?_ ?_) (Nat.zero_le _) trivial ?_
     · try simp only [go_sem]
     · try simp only [go_sem]
       simp [mixQ]
     · intro k vs' hk _
       repeat refine zq ?_
       refine zb (by kernel_rfl) fun K hK=>?_
       simp only [go_sem]
       (try simp (disch:=omega) only [zI])
       repeat first | intro _ | refine ⟨by omega,?_⟩ | refine ⟨⟨by omega,by omega⟩,?_⟩
       refine hK _ ?_
       clear hK K
       refine zw (zk [1,7,9,10,14,16,18,19,20,21,22,162]) ?_
       simp only [go_sem]
       repeat refine zq ?_
       refine zc rfl (fun hc=>?_) (fun hc=>?_) <;> (try simp only [go_sem] at hc)
       · have hck : k < n.length:=by omega
         have hckq : k < q.length:=by omega
         have hckm : k < (mixQ z n k).length:=by rw [mixQ_len hzl]; exact hck
         obtain ⟨v,hv⟩:=opt_of_lt hck
         obtain ⟨w,hw⟩:=opt_of_lt hckq
         have hvb:=hn3 v (mem_of_opt hv)
         have hwb:=hq3 w (mem_of_opt hw)
         have hmg:=mixQ_get hzl hv
         have hzv : z[k]? = some (v + w):=by rw [← hz,List.getElem?_zipWith,hv,hw]
         have hms:=mixQ_set hzl hzv
         have hwv : IntKind.i64.wrap (v + w) = v + w:=by rw [zI] <;> omega
         refine zx ?_
         try simp only [go_sem]
         repeat refine zq ?_
         refine zd ?_
         repeat refine zq ?_
         refine awp_dreg2 [(20,some 147),(21,none),(22,none)] follows (by decide +kernel) (by kernel_rfl) (by simp only [keysOk,List.mem_cons,List.not_mem_nil,forall_eq_or_imp,Oc.keyOf,go_sem]; simp) fun K hK=>?_
         simp only [go_sem,hmg,hw,hckq,hckm,hwv,hck,mixQ_len]
         (try simp (disch:=omega) only [zI])
         repeat first | intro _ | refine ⟨by omega,?_⟩ | refine ⟨⟨by omega,by omega⟩,?_⟩
         refine hK _ ?_
         clear hK K
         refine zw (zk [1,7,9,10,14,16,18,19,20,21,22]) ?_
         simp only [go_sem]
         repeat refine zq ?_
         refine zb (by kernel_rfl) fun K hK=>?_
         simp only [go_sem]
         (try simp (disch:=omega) only [zI])
         repeat first | intro _ | refine ⟨by omega,?_⟩ | refine ⟨⟨by omega,by omega⟩,?_⟩
         refine hK _ ?_
         clear hK K
         try simp only [go_sem]
         refine ⟨by omega,zj [] ?_ ?_⟩
         · try simp only [go_sem]
         · try simp only [go_sem]
           rw [← hms,List.map_set]
       · have hke : k = n.length:=by omega
         subst hke
         have hmz : mixQ z n n.length = z:=by unfold mixQ; rw [List.drop_length,List.append_nil,List.take_of_length_le (by omega)]
         rw [hmz]
         refine zf ?_
         simp only [go_sem]
         refine zw (sub_frz 20 147 (ty:=3) (sz:=1) (off:=0) (m:=n.length) (es:=z.map fun x=>[i64 x]) (by omega) rfl (by rfl) (by simp [hzl])) ?_
         have e0 : ((z.map fun x=>[i64 x]).drop 0).take n.length = z.map fun x=>[i64 x]:=by
          rw [List.drop_zero,List.take_of_length_le (by simp [hzl])]
         rw [e0]
         refine zw (zk [1,7,9,10,14,16,18,19,20]) ?_
         simp only [go_sem]
         have hS1 : (l.map (spanOf D))[i]? = some (spanOf D a):=by simp [ha]
         have hS2 : (m.map (spanOf E))[i]? = some (spanOf E b):=by simp [hb2]
         have hS3 : ((poolL l m).map (spanOf (D + E)))[i]? = some (spanOf (D + E) (poolA a b)):=by simp [hp]
         have l1 : i < (l.map (spanOf D)).length:=by omega
         have l2 : i < (m.map (spanOf E)).length:=by omega
         have l3 : i < ((poolL l m).map (spanOf (D + E))).length:=by omega
         generalize poolA a b = pab at *
         generalize spanOf D a = sa at *
         generalize spanOf E b = sb at *
         generalize spanOf (D + E) pab = sp at *
         have w1 : IntKind.i64.wrap (sa.1 + sb.1) = sa.1 + sb.1:=by rw [zI] <;> omega
         have w2 : IntKind.i64.wrap (sa.2 + sb.2) = sa.2 + sb.2:=by rw [zI] <;> omega
         have d1 : decide (sa.1 + sb.1 < sp.1) = false:=decide_eq_false (by omega)
         have d1' : ¬ sa.1 + sb.1 < sp.1:=by omega
         have d2 : decide (sp.2 < sa.2 + sb.2) = false:=decide_eq_false (by omega)
         have d2' : ¬ sp.2 < sa.2 + sb.2:=by omega
         repeat refine zq ?_
         refine zg follows (by decide +kernel) (by kernel_rfl) fun K hK=>?_
         simp only [go_sem,hp,hcp,aimR,hS1,hS2,hS3,l1,l2,l3,w1,w2,d1,d1',d2,d2']
         (try simp (disch:=omega) only [zI])
         refine zh (hit) rfl (by simp only [go_sem,i64,ints,hp,hcp,aimR,hS1,hS2,hS3,l1,l2,l3,w1,w2,d1,d1',d2,d2']) (by simp only [go_sem,i64,ints,hp,hcp,aimR,hS1,hS2,hS3,l1,l2,l3,w1,w2,d1,d1',d2,d2']) (by first | exact .inl rfl | exact .inr rfl) ?_
         (try simp only [go_sem,hp,hcp,aimR,hS1,hS2,hS3,l1,l2,l3,w1,w2,d1,d1',d2,d2'])
         (try simp (disch:=omega) only [zI])
         repeat first | intro _ | refine ⟨by omega,?_⟩ | refine ⟨⟨by omega,by omega⟩,?_⟩
         refine hK _ ?_
         clear hK K
         refine zw (zk [1,7,9,10,14,16,18,19,222]) ?_
         simp only [go_sem]
         repeat refine zq ?_
         refine zc rfl (fun hc=>?_) (fun hc=>?_) <;> (try simp only [go_sem] at hc)
         refine zx ?_
         try simp only [go_sem]
         repeat refine zq ?_
         refine zb (by kernel_rfl) fun K hK=>?_
         simp only [go_sem]
         (try simp (disch:=omega) only [zI])
         repeat first | intro _ | refine ⟨by omega,?_⟩ | refine ⟨⟨by omega,by omega⟩,?_⟩
         refine hK _ ?_
         clear hK K
         try simp only [go_sem]
         refine ⟨by omega,zj [] ?_ ?_⟩
         · try simp only [go_sem]
         · try simp only [go_sem]
   · have hie : i = l.length:=by omega
     refine zf ?_
     simp only [go_sem]
     repeat refine zq ?_
     refine zb (by kernel_rfl) fun K hK=>?_
     simp only [go_sem]
     (try simp (disch:=omega) only [zI])
     refine zh (hkn) rfl (by simp only [go_sem,i64,ints]) (by simp only [go_sem,i64,ints]) (by first | exact .inl rfl | exact .inr rfl) ?_
     (try simp only [go_sem])
     (try simp (disch:=omega) only [zI])
     repeat first | intro _ | refine ⟨by omega,?_⟩ | refine ⟨⟨by omega,by omega⟩,?_⟩
     refine hK _ ?_
     clear hK K
     refine zw (zk [6]) ?_
     simp only [go_sem]
     refine ze ?_
     simp only [go_sem]
end Go.Proofs.Ytgkejinoaommeaa

namespace Go.Oc
open Go Go.RowKit Go.ChangeShapes Go.WideShapes
inductive Sh where
 | int (k : IntKind)
 | bool
 | sl (es : List Sh)
def fieldsSh (P : Program) (sh : TypeId → Option (List Sh)) : List Field → Nat → Option (List Sh)
 | [],_=>some []
 | f :: fs, o =>
   match sh f.type with
   | some ss=>if f.offset == o && ss.length == P.cellsOf f.type then match fieldsSh P sh fs (o + ss.length) with | some q=>some (ss ++ q) | none=>none else none
   | none=>none
def shape (P : Program) : Nat → TypeId → Option (List Sh)
 | 0,_=>none
 | n + 1, t =>
   match P.underlying t with
   | some (.int k)=>some [.int k]
   | some .bool=>some [.bool]
   | some (.slice e) =>
     match shape P n e with
     | some ss=>if ss.length == P.cellsOf e && decide (0 < ss.length) then some [.sl ss] else none
     | none=>none
   | some (.array m e) =>
     match shape P n e with
     | some ss=>if ss.length == P.cellsOf e && P.cellsOf t == m * ss.length then some (List.replicate m ss).flatten else none
     | none=>none
   | some (.struct fs) =>
     match fieldsSh P (shape P n) fs.toList 0 with
     | some ss=>if ss.length == P.cellsOf t then some ss else none
     | none=>none
   | _=>none
mutual
def Fits : Sh → RV → Prop
 | .int k,x=>∃ n,x = .it k n ∧ (Lit.int k n).wf = true
 | .bool,x=>∃ b,x = .bo b
 | .sl ss,x=>∃ es,x = .sl ss.length es ∧ FitsE ss es
def FitsL : List Sh → List RV → Prop
 | [],xs=>xs = []
 | s :: ss,xs=>∃ y ys,xs = y :: ys ∧ Fits s y ∧ FitsL ss ys
def FitsE (ss : List Sh) : List (List RV) → Prop
 | []=>True
 | e :: es=>FitsL ss e ∧ FitsE ss es
end
theorem fitsL_append : ∀ {s1 s2 : List Sh} {x1 x2 : List RV},FitsL s1 x1 → FitsL s2 x2 → FitsL (s1 ++ s2) (x1 ++ x2)
 | [],_,_,_,h1,h2=>by simp only [FitsL] at h1; subst h1; simpa using h2
 | s :: ss, s2, x1, x2, h1, h2 => by
   simp only [FitsL] at h1
   obtain ⟨y,ys,rfl,h3,h4⟩:=h1
   simp only [List.cons_append,FitsL]
   exact ⟨y,_,rfl,h3,fitsL_append h4 h2⟩
theorem fitsL_length : ∀ {ss : List Sh} {xs : List RV},FitsL ss xs → xs.length = ss.length
 | [],_,h=>by simp only [FitsL] at h; subst h; rfl
 | s :: ss, _, h => by
   simp only [FitsL] at h
   obtain ⟨y,ys,rfl,_,h⟩:=h
   simp [fitsL_length h]
theorem fitsE_of : ∀ {ss : List Sh} {es : List (List RV)},(∀ e ∈ es,FitsL ss e) → FitsE ss es
 | _,[],_=>by simp only [FitsE]
 | ss,e :: es,h=>by simp only [FitsE]; exact ⟨h e (by simp),fitsE_of fun x hx=>h x (by simp [hx])⟩
theorem choice {α : Type} {Q : Nat → α → Prop} : ∀ (n : Nat),(∀ i,i < n → ∃ x,Q i x) → ∃ xs : List α,xs.length = n ∧ ∀ i x,xs[i]? = some x → Q i x
 | 0,_=>⟨[],rfl,by simp⟩
 | n + 1, h => by
   obtain ⟨xs,hl,hx⟩:=choice n fun i hi=>h i (by omega)
   obtain ⟨y,hy⟩:=h n (by omega)
   refine ⟨xs ++ [y],by simp [hl],fun i x hi=>?_⟩
   by_cases h1 : i < n
   · rw [List.getElem?_append_left (by omega)] at hi; exact hx i x hi
   · rw [List.getElem?_append_right (by omega)] at hi
     have : i = n:=by have:=(List.getElem?_eq_some_iff.1 hi).1; simp at this; omega
     subst this
     simp [hl] at hi
     exact hi ▸ hy
section
variable {w : World} {P : Program}
theorem cells?_get {base n : Nat} {a : Addr} {cs : List Value} (h : w.cells? base a n = some cs) : cs.length = n ∧ ∀ i,i < n → w.cell? (a.add i) = cs[i]?:=by
 unfold World.cells? at h
 split at h
 · exact ⟨by simpa using mapM_some_length h,fun i hi=>mapM_some_get h i i (by simp [hi])⟩
 · cases h
theorem cell_lt {a : Addr} {v : Value} (h : w.cell? a = some v) : a.block < w.heap.size:=by
 refine Decidable.byContradiction fun hn=>?_
 have : w.heap[a.block]? = none:=by simp; omega
 simp [World.cell?,this] at h
def old (w : World) : Nat → Prop:=fun b=>b < w.heap.size
theorem relC_of_cells {xs : List RV} {cs : List Value} {ad : Addr} (hV : RV.relV w (old w) xs cs) (hone : ∀ u ∈ cs,u.oneCell' = true) (hc : ∀ i,i < cs.length → w.cell? (ad.add i) = cs[i]?) : RV.relC w (old w) xs ad 0:=by
 refine RV.relC_of_get fun i x hx=>?_
 obtain ⟨u,hu,hr⟩:=RV.relV_get hV hx
 have hi:=(List.getElem?_eq_some_iff.1 hu).1
 refine ⟨u,?_,hone u (List.mem_of_getElem? hu),hr⟩
 rw [Nat.zero_add,hc i hi,hu]
variable {H : Type} {enc : TypeId × Value → H} {base : Nat} {spare : Nat → Bool} {held : Bool}
def Good3 (w : World) (ss : List Sh) (cs : List Value) : Prop:=∃ xs,FitsL ss xs ∧ RV.relV w (old w) xs cs ∧ ∀ u ∈ cs,u.oneCell' = true
theorem good3_append {s1 s2 : List Sh} {c1 c2 : List Value} (h1 : Good3 w s1 c1) (h2 : Good3 w s2 c2) : Good3 w (s1 ++ s2) (c1 ++ c2):=by
 obtain ⟨x1,f1,r1,o1⟩:=h1
 obtain ⟨x2,f2,r2,o2⟩:=h2
 refine ⟨x1 ++ x2,fitsL_append f1 f2,RV.relV_append r1 r2,fun u hu=>?_⟩
 rcases List.mem_append.1 hu with hu | hu
 · exact o1 u hu
 · exact o2 u hu
theorem good3_length {ss : List Sh} {cs : List Value} (h : Good3 w ss cs) : cs.length = ss.length:=by
 obtain ⟨xs,f,r,_⟩:=h
 rw [RV.relV_length r,fitsL_length f]
theorem trod_fits : ∀ (fuel n : Nat) (t : TypeId) (cs : List Value) (x : DataW H × List MemPlace) (ss : List Sh),DataW.trod enc P w base spare held fuel t cs = some x → shape P n t = some ss → Good3 w ss cs:=by
 intro fuel
 induction fuel with
 | zero=>intro n t cs x ss h; simp [DataW.trod] at h
 | succ fuel ih =>
   intro n t cs x ss h hs
   cases n with
   | zero=>simp [shape] at hs
   | succ n =>
     unfold shape at hs
     split at hs
     · rename_i k ht
       injection hs with hs; subst hs
       obtain ⟨m,rfl,_,hw⟩:=DataW.trod_int ht h
       exact ⟨[.it k m],by simp only [FitsL,Fits]; exact ⟨_,[],rfl,⟨m,rfl,hw⟩,rfl⟩,by simp only [RV.relV,RV.rel]; exact ⟨_,[],rfl,rfl,rfl⟩,by simp [Value.oneCell']⟩
     · rename_i ht
       injection hs with hs; subst hs
       obtain ⟨b,rfl,_⟩:=DataW.trod_bool ht h
       exact ⟨[.bo b],by simp only [FitsL,Fits]; exact ⟨_,[],rfl,⟨b,rfl⟩,rfl⟩,by simp only [RV.relV,RV.rel]; exact ⟨_,[],rfl,rfl,rfl⟩,by simp [Value.oneCell']⟩
     · rename_i e ht
       split at hs
       · rename_i es hes
         split at hs
         · rename_i hc
           simp only [Bool.and_eq_true,beq_iff_eq,decide_eq_true_eq] at hc
           injection hs with hs; subst hs
           rcases DataW.trod_slice ht h with ⟨rfl,_⟩ | ⟨a,len,cap,elems,rest,m,hm,rfl,_,_,hlc,hcm,hel,hget,_⟩
           · refine ⟨[.sl es.length []],?_,?_,by simp [Value.oneCell']⟩
             · simp only [FitsL,Fits]
               exact ⟨_,[],rfl,⟨[],rfl,by simp only [FitsE]⟩,rfl⟩
             · simp only [RV.relV,RV.rel]
               exact ⟨_,[],rfl,⟨none,0,rfl,Nat.le_refl _,Nat.zero_le _,fun h=>absurd rfl h⟩,rfl⟩
           · injection hm with hm; subst hm
             have hall : ∀ i,i < len → ∃ e',FitsL es e' ∧ e'.length = es.length ∧ RV.relC w (old w) e' (a.add (i * es.length)) 0 ∧ a.block < w.heap.size:=fun i hi=>by
              have h1:=hget i hi
              have h2 : i < elems.length:=by omega
              rw [List.getElem?_eq_getElem h2] at h1
              obtain ⟨ci,hci,htr⟩:=Option.bind_eq_some_iff.1 h1
              rw [← hc.1] at hci
              obtain ⟨hl,hcell⟩:=cells?_get hci
              obtain ⟨xs,f,r,o⟩:=ih n e ci _ es htr hes
              refine ⟨xs,f,fitsL_length f,relC_of_cells r o (fun j hj=>hcell j (by omega)),?_⟩
              have h3:=hcell 0 hc.2
              have h4 : 0 < ci.length:=by omega
              rw [List.getElem?_eq_getElem h4] at h3
              have:=cell_lt h3
              rwa [block_add,block_add] at this
             obtain ⟨els,hlen,hels⟩:=choice len hall
             refine ⟨[.sl es.length els],?_,?_,by simp [Value.oneCell']⟩
             · simp only [FitsL,Fits]
               refine ⟨_,[],rfl,⟨els,rfl,fitsE_of fun e' he'=>?_⟩,rfl⟩
               obtain ⟨i,hi⟩:=List.getElem?_of_mem he'
               exact (hels i e' hi).1
             · simp only [RV.relV,RV.rel]
               refine ⟨_,[],rfl,⟨some a,cap,by rw [hlen],by omega,hcm,fun hne=>?_⟩,rfl⟩
               obtain ⟨e0,he0⟩ : ∃ e0,els[0]? = some e0:=by
                cases els with
                | nil=>exact absurd rfl hne
                | cons a l=>exact ⟨a,rfl⟩
               refine ⟨a,rfl,(hels 0 e0 he0).2.2.2,RV.relE_of_get fun i e' he'=>?_⟩
               obtain ⟨_,q1,q2,_⟩:=hels i e' he'
               exact ⟨q1,RV.relC_unbase _ q2⟩
         · cases hs
       · cases hs
     · rename_i m e ht
       split at hs
       · rename_i es hes
         split at hs
         · rename_i hc
           simp only [Bool.and_eq_true,beq_iff_eq] at hc
           injection hs with hs; subst hs
           obtain ⟨xs,fm,hm,_,hcl,hxl,hget⟩:=DataW.trod_array ht h
           injection hm with hm; subst hm
           have key : ∀ j,j ≤ m → Good3 w (List.replicate j es).flatten (cs.take (j * es.length)):=by
            intro j
            induction j with
            | zero=>intro _; exact ⟨[],by simp [FitsL],by simp [RV.relV],by simp⟩
            | succ j ihj =>
              intro hj
              have h1:=hget j (by omega)
              have h2 : j < xs.length:=by omega
              rw [List.getElem?_eq_getElem h2,← hc.1] at h1
              have h3:=ih n e _ _ es h1 hes
              have:=good3_append (ihj (by omega)) h3
              rw [← List.take_add] at this
              rw [List.replicate_succ',List.flatten_append,Nat.add_mul]
              simpa using this
           have:=key m (Nat.le_refl _)
           rwa [← hc.2,← hcl,List.take_length] at this
         · cases hs
       · cases hs
     · rename_i fs ht
       split at hs
       · rename_i q hq
         split at hs
         · rename_i hc
           simp only [beq_iff_eq] at hc
           injection hs with hs; subst hs
           obtain ⟨xs,fm,hm,_,hcl,hxl,hget⟩:=DataW.trod_struct ht h
           injection hm with hm; subst hm
           have key : ∀ (l : List Field) (o : Nat) (q : List Sh),(∀ f ∈ l,∃ y,DataW.trod enc P w base spare held fuel f.type ((cs.drop f.offset).take (P.cellsOf f.type)) = some y) → fieldsSh P (shape P n) l o = some q → Good3 w q ((cs.drop o).take q.length):=by
            intro l
            induction l with
            | nil =>
              intro o q _ hq
              simp only [fieldsSh,Option.some.injEq] at hq
              subst hq
              exact ⟨[],by simp [FitsL],by simp [RV.relV],by simp⟩
            | cons f l ihl =>
              intro o q hall hq
              simp only [fieldsSh] at hq
              split at hq
              · rename_i s1 hs1
                split at hq
                · rename_i hc1
                  simp only [Bool.and_eq_true,beq_iff_eq] at hc1
                  split at hq
                  · rename_i q2 hq2
                    injection hq with hq; subst hq
                    obtain ⟨y,hy⟩:=hall f (by simp)
                    have g1:=ih n f.type _ _ s1 hy hs1
                    have g2:=ihl (o + s1.length) q2 (fun f' hf'=>hall f' (by simp [hf'])) hq2
                    rw [hc1.1,← hc1.2] at g1
                    have:=good3_append g1 g2
                    rw [← List.drop_drop,← List.take_add] at this
                    simpa using this
                  · cases hq
                · cases hq
              · cases hq
           have:=key fs.toList 0 q (fun f hf=>by
            obtain ⟨i,hi⟩:=List.getElem?_of_mem hf
            have hi' : fs[i]? = some f:=by simpa using hi
            have h1:=hget i f hi'
            have h2 : i < xs.length:=by have:=(Array.getElem?_eq_some_iff.1 hi').1; omega
            exact ⟨xs[i],by rw [h1]; exact List.getElem?_eq_getElem h2⟩) hq
           rwa [List.drop_zero,hc,← hcl,List.take_length] at this
         · cases hs
       · cases hs
     · cases hs
def FitsT (P : Program) (n : Nat) (t : TypeId) (x : RV) : Prop:=∃ ss,shape P n t = some ss ∧ if aggOf P t then ∃ xs,x = .ag xs ∧ FitsL ss xs else FitsL ss [x]
theorem arg_fits {n : Nat} {t : TypeId} {v : Value} {d : DataW H} {ps : List MemPlace} {r : Reach} {b0 : Nat} (hs : (shape P n t).isSome = true) (hval : Value.okWide P w r b0 t v) (h : DataW.Trod enc P w base spare held t v d ps) :
 ∃ x,FitsT P n t x ∧ x.rel w (old w) v:=by
 obtain ⟨ss,hss⟩:=Option.isSome_iff_exists.1 hs
 obtain ⟨fuel,hf⟩:=h
 obtain ⟨xs,f,r,o⟩:=trod_fits fuel n t _ _ ss hf hss
 have one : aggOf P t = false → v.cells.toList = [v] → ∃ x,FitsT P n t x ∧ x.rel w (old w) v:=fun ha hc=>by
  rw [hc] at r
  match xs,r with
  | [x], r =>
    simp only [RV.relV] at r
    obtain ⟨u,us,e,hr,_⟩:=r
    injection e with e1 e2
    subst e1
    exact ⟨x,⟨ss,hss,by rw [ha]; exact f⟩,hr⟩
  | [],r=>simp [RV.relV] at r
  | _ :: _ :: _, r =>
    simp only [RV.relV] at r
    obtain ⟨u,us,e,_,u2,us2,e2,_⟩:=r
    injection e with _ e
    rw [e2] at e; cases e
 cases n with
 | zero=>simp [shape] at hss
 | succ n =>
   have hss':=hss
   unfold shape at hss'
   split at hss'
   · rename_i k ht
     obtain ⟨m,rfl⟩:=okWide_int ht hval
     exact one (by simp [aggOf,ht]) rfl
   · rename_i ht
     obtain ⟨b,rfl⟩:=okWide_bool ht hval
     exact one (by simp [aggOf,ht]) rfl
   · rename_i e ht
     obtain ⟨a,l,c,rfl⟩:=okWide_slice ht hval
     exact one (by simp [aggOf,ht]) rfl
   · rename_i m e ht
     obtain ⟨cs,rfl⟩ : ∃ cs,v = .agg cs:=by
      simp only [Value.okWide,ht] at hval
      obtain ⟨cs,h1,_⟩:=hval
      exact ⟨cs,h1⟩
     exact ⟨.ag xs,⟨ss,hss,by simp only [aggOf,ht,if_true]; exact ⟨xs,rfl,f⟩⟩,by simp only [RV.rel]; exact ⟨cs,rfl,o,r⟩⟩
   · rename_i fs ht
     obtain ⟨cs,rfl,_⟩:=okWide_struct ht hval
     exact ⟨.ag xs,⟨ss,hss,by simp only [aggOf,ht,if_true]; exact ⟨xs,rfl,f⟩⟩,by simp only [RV.rel]; exact ⟨cs,rfl,o,r⟩⟩
   · cases hss'
theorem wf_i64 {n : Int} (h : (Lit.int .i64 n).wf = true) : -9223372036854775808 ≤ n ∧ n ≤ 9223372036854775807:=by
 simp only [Lit.wf,Bool.and_eq_true,decide_eq_true_eq] at h
 have h1 : IntKind.min .i64 = -9223372036854775808:=by decide
 have h2 : IntKind.max .i64 = 9223372036854775807:=by decide
 rw [h1,h2] at h
 exact h
theorem fitsE_ints : ∀ {es : List (List RV)},FitsE [.int .i64] es → ∃ l : List Int,es = l.map (fun x=>[.it .i64 x]) ∧ ∀ x ∈ l,-9223372036854775808 ≤ x ∧ x ≤ 9223372036854775807
 | [],_=>⟨[],rfl,by simp⟩
 | e :: es, h => by
   simp only [FitsE,FitsL,Fits] at h
   obtain ⟨⟨y,ys,rfl,⟨n,rfl,hn⟩,rfl⟩,h⟩:=h
   obtain ⟨l,rfl,hl⟩:=fitsE_ints h
   refine ⟨n :: l,rfl,fun x hx=>?_⟩
   rcases List.mem_cons.1 hx with rfl | hx
   · exact wf_i64 hn
   · exact hl x hx
theorem fitsT_ag {n : Nat} {t : TypeId} {x : RV} {ss : List Sh} (h : FitsT P n t x) (hs : shape P n t = some ss) (ha : aggOf P t = true) : ∃ xs,x = .ag xs ∧ FitsL ss xs:=by
 obtain ⟨s',h1,h2⟩:=h
 rw [hs] at h1; injection h1 with h1; subst h1
 rw [ha] at h2
 exact h2
theorem fitsT_one {n : Nat} {t : TypeId} {x : RV} {s : Sh} (h : FitsT P n t x) (hs : shape P n t = some [s]) (ha : aggOf P t = false) : Fits s x:=by
 obtain ⟨s',h1,h2⟩:=h
 rw [hs] at h1; injection h1 with h1; subst h1
 rw [ha] at h2
 simp only [Bool.false_eq_true,if_false,FitsL] at h2
 obtain ⟨y,ys,e,h3,_⟩:=h2
 injection e with e1 e2
 subst e1
 exact h3
theorem fitsT_int {n : Nat} {t : TypeId} {x : RV} (h : FitsT P n t x) (hs : shape P n t = some [.int .i64]) (ha : aggOf P t = false) : ∃ m,x = .it .i64 m ∧ -9223372036854775808 ≤ m ∧ m ≤ 9223372036854775807:=by
 have:=fitsT_one h hs ha
 simp only [Fits] at this
 obtain ⟨m,h1,h2⟩:=this
 exact ⟨m,h1,wf_i64 h2⟩
theorem fitsT_ints {n : Nat} {t : TypeId} {x : RV} (h : FitsT P n t x) (hs : shape P n t = some [.sl [.int .i64]]) (ha : aggOf P t = false) : ∃ l : List Int,x = .sl 1 (l.map (fun x=>[.it .i64 x])) ∧ ∀ x ∈ l,-9223372036854775808 ≤ x ∧ x ≤ 9223372036854775807:=by
 have:=fitsT_one h hs ha
 simp only [Fits] at this
 obtain ⟨es,h1,h2⟩:=this
 obtain ⟨l,rfl,hl⟩:=fitsE_ints h2
 exact ⟨l,h1,hl⟩
end
end Go.Oc

namespace Go.Oc
open Go Go.RowKit
theorem wf_u8 {n : Int} (h : (Lit.int .u8 n).wf = true) : 0 ≤ n ∧ n ≤ 255:=by
 simp only [Lit.wf,Bool.and_eq_true,decide_eq_true_eq] at h
 have h1 : IntKind.min .u8 = 0:=by decide
 have h2 : IntKind.max .u8 = 255:=by decide
 rw [h1,h2] at h
 exact h
theorem wf_u16 {n : Int} (h : (Lit.int .u16 n).wf = true) : 0 ≤ n ∧ n ≤ 65535:=by
 simp only [Lit.wf,Bool.and_eq_true,decide_eq_true_eq] at h
 have h1 : IntKind.min .u16 = 0:=by decide
 have h2 : IntKind.max .u16 = 65535:=by decide
 rw [h1,h2] at h
 exact h
theorem wf_u32 {n : Int} (h : (Lit.int .u32 n).wf = true) : 0 ≤ n ∧ n ≤ 4294967295:=by
 simp only [Lit.wf,Bool.and_eq_true,decide_eq_true_eq] at h
 have h1 : IntKind.min .u32 = 0:=by decide
 have h2 : IntKind.max .u32 = 4294967295:=by decide
 rw [h1,h2] at h
 exact h
theorem fitsE_u8 : ∀ {es : List (List RV)},FitsE [.int .u8] es → ∃ l : List Int,es = l.map (fun x=>[.it .u8 x]) ∧ ∀ x ∈ l,0 ≤ x ∧ x ≤ 255
 | [],_=>⟨[],rfl,by simp⟩
 | e :: es, h => by
   simp only [FitsE,FitsL,Fits] at h
   obtain ⟨⟨y,ys,rfl,⟨n,rfl,hn⟩,rfl⟩,h⟩:=h
   obtain ⟨l,rfl,hl⟩:=fitsE_u8 h
   refine ⟨n :: l,rfl,fun x hx=>?_⟩
   rcases List.mem_cons.1 hx with rfl | hx
   · exact wf_u8 hn
   · exact hl x hx
theorem fitsE_u16 : ∀ {es : List (List RV)},FitsE [.int .u16] es → ∃ l : List Int,es = l.map (fun x=>[.it .u16 x]) ∧ ∀ x ∈ l,0 ≤ x ∧ x ≤ 65535
 | [],_=>⟨[],rfl,by simp⟩
 | e :: es, h => by
   simp only [FitsE,FitsL,Fits] at h
   obtain ⟨⟨y,ys,rfl,⟨n,rfl,hn⟩,rfl⟩,h⟩:=h
   obtain ⟨l,rfl,hl⟩:=fitsE_u16 h
   refine ⟨n :: l,rfl,fun x hx=>?_⟩
   rcases List.mem_cons.1 hx with rfl | hx
   · exact wf_u16 hn
   · exact hl x hx
end Go.Oc

namespace Go.Proofs.Ytgkejinoaommeaa
open Go Go.Oc Go.ChangeShapes Go.RowKit
theorem fits60 {x : RV} (h : FitsT Try.prog 9 60 x) : ∃ l : List Int,x = u8s l ∧ ∀ y ∈ l,0 ≤ y ∧ y ≤ 255:=by
 have h1:=fitsT_one (s:=.sl [.int .u8]) h (by kernel_rfl) (by kernel_rfl)
 simp only [Oc.Fits] at h1
 obtain ⟨es,rfl,hx⟩:=h1
 obtain ⟨l,rfl,hl⟩:=fitsE_u8 hx
 exact ⟨l,rfl,hl⟩
theorem fitsE_u16 : ∀ {es : List (List RV)},FitsE [.int .u16] es → ∃ l : List Int,es = l.map (fun x=>[.it .u16 x]) ∧ ∀ x ∈ l,0 ≤ x ∧ x ≤ 65535
 | [],_=>⟨[],rfl,by simp⟩
 | e :: es, h => by
   simp only [FitsE,FitsL,Oc.Fits] at h
   obtain ⟨⟨y,ys,rfl,⟨n,rfl,hn⟩,rfl⟩,h⟩:=h
   obtain ⟨l,rfl,hl⟩:=fitsE_u16 h
   refine ⟨n :: l,rfl,fun x hx=>?_⟩
   rcases List.mem_cons.1 hx with rfl | hx
   · exact wf_u16 hn
   · exact hl x hx
theorem fits62 {x : RV} (h : FitsT Try.prog 9 62 x) : ∃ y,x = .ag (lwC y) ∧ WfLw y:=by
 obtain ⟨xs,rfl,hx⟩:=fitsT_ag (ss:=[.sl [.int .u16],.sl [.int .u8],.sl [.int .u8],.int .u8]) h (by kernel_rfl) (by kernel_rfl)
 simp only [Oc.FitsL,Oc.Fits] at hx
 obtain ⟨_,_,rfl,⟨es,rfl,hes⟩,_,_,rfl,⟨es1,rfl,hes1⟩,_,_,rfl,⟨es2,rfl,hes2⟩,_,_,rfl,⟨r,rfl,hr⟩,rfl⟩:=hx
 obtain ⟨l,rfl,hl⟩:=fitsE_u16 hes
 obtain ⟨l1,rfl,hl1⟩:=fitsE_u8 hes1
 obtain ⟨l2,rfl,hl2⟩:=fitsE_u8 hes2
 exact ⟨⟨l,l1,l2,r⟩,rfl,⟨hl,hl1,hl2,wf_u8 hr⟩⟩
theorem reach_sl {H : Type} {enc : TypeId × Value → H} {P : Program} {w : World} {R : Nat → Prop} {base : Nat} {spare : Nat → Bool} {held : Bool} {t e : TypeId} {n : Nat} {es : List (List RV)} {v : Value} {d : DataW H} {ps : List MemPlace}
 (ht : P.underlying t = some (.slice e)) (h : DataW.Trod enc P w base spare held t v d ps) (hr : RV.rel w R (.sl n es) v) (hw : (d.weights P t).all (fun x=>x ≤ reachBytes) = true) (hb : 1 ≤ P.bytesOf e) : es.length ≤ 140737488351232:=by
 simp only [RV.rel] at hr
 obtain ⟨A,c,rfl,h1,h2,h3⟩:=hr
 obtain ⟨fuel,hf⟩:=h
 have hc : (Value.slice A es.length c).cells.toList = [.slice A es.length c]:=rfl
 rw [hc] at hf
 rcases DataW.trod_slice ht hf with ⟨e1,_⟩ | ⟨a,len,cap,elems,rest,m,_,e1,e2,_,_,_,e3,_⟩
 · injection e1 with e1 _
   injection e1 with _ e1 _
   omega
 · injection e1 with e1 _
   injection e1 with _ e1 _
   injection e2 with e2 _
   subst e2
   simp only [DataW.weights,ht,List.all_cons,Bool.and_eq_true,decide_eq_true_eq,List.length_map] at hw
   have h4:=hw.1
   have h5 : elems.length + rest.length ≤ (elems.length + rest.length) * P.bytesOf e:=Nat.le_mul_of_pos_right _ hb
   have h6 : reachBytes = 140737488351232 - 0:=by unfold reachBytes; rfl
   omega
end Go.Proofs.Ytgkejinoaommeaa

namespace Go.Proofs.Ytgkejinoaommeaa
open Go Go.Oc
theorem law12' {x0 x1 x2 : RV} (h0 : FitsT Try.prog 9 62 x0) (h1 : FitsT Try.prog 9 60 x1) (h2 : FitsT Try.prog 9 90 x2) (hl : ∀ n es,x1 = .sl n es → es.length ≤ 140737488351232) : ACalls Try.prog 12 [x0,x1,x2] (.bo true):=by
 obtain ⟨x,rfl,hx⟩:=fits62 h0
 obtain ⟨bs,rfl,hb⟩:=fits60 h1
 obtain ⟨xs,rfl,hz⟩:=fitsT_ag (ss:=[.sl [.int .u8],.sl [.int .u8]]) h2 (by kernel_rfl) (by kernel_rfl)
 simp only [Oc.FitsL,Oc.Fits] at hz
 obtain ⟨_,_,rfl,⟨es,rfl,hes⟩,_,_,rfl,⟨es1,rfl,hes1⟩,rfl⟩:=hz
 obtain ⟨l,rfl,hl0⟩:=fitsE_u8 hes
 obtain ⟨l1,rfl,hl1⟩:=fitsE_u8 hes1
 exact pooled_law x hx bs l l1 hb hl0 hl1 (by have:=hl _ _ rfl; simpa using this)
end Go.Proofs.Ytgkejinoaommeaa


namespace Go.Proofs.Ytgkejinoaommeaa
open Go Go.Oc Go.ChangeShapes Go.WideShapes Go.RowKit
set_option linter.unusedVariables false
theorem own : ownKnob Try.prog.godebug = none := by kernel_rfl
theorem laidOut : laidOutB Try.prog = true := by kernel_rfl
set_option maxRecDepth 100000 in
theorem lifted (os : Os) (started : os.Started) (H : Type) (enc : TypeId × Value → H) :
    ReturnsInHanded {} Try.checked os 12 .any (Rows.throwPooledSpec.pre6 enc Try.prog Try.f12 Rows.throwPooledRow.domain false) (Rows.throwPooledSpec.post enc Try.prog Try.f12 false true false false) := by
  refine returnsInHanded_of_change_sized (C := Try.checked) own started (by kernel_rfl) Try.func12
    (ChangeSpec.witness6 (enc := enc) (C := Try.checked) false ⟨#[], #[.agg #[.slice none 0 0, .slice none 0 0, .slice none 0 0, .int .u8 0], .slice none 0 0, .agg #[.slice none 0 0, .slice none 0 0]], []⟩ 8 (by kernel_rfl) (by kernel_rfl) (by kernel_rfl) (by kernel_rfl)) ?_
  intro W base args ds gs before hval0 hW hcnd hsz0 _
  have hsz : (DataW.weightsEach Try.prog (Try.f12.params.toList ++ []) (ds ++ gs)).all (fun x => x ≤ reachBytes) = true := hsz0
  have hval : ∀ (j : Nat) t v, Try.f12.params[j]? = some t → args[j]? = some v → Value.okWide Try.prog W .any base t v := hval0
  have hW' := hW
  obtain ⟨p, q, hA0, hV, rfl, hfz, hnd⟩ := hW
  have hA : DataW.TrodAll enc Try.prog W 0 (fun _ => true) true Try.f12.params.toList args.toList ds p := hA0
  rw [Try.params12] at hA hval hsz
  obtain ⟨v0, vs0, d0, ds0, p0, q0, hargs, rfl, rfl, h0, r0⟩ := trodAll_cons hA
  obtain ⟨v1, vs1, d1, ds1, p1, q1, rfl, rfl, rfl, h1, r1⟩ := trodAll_cons r0
  obtain ⟨v2, vs2, d2, ds2, p2, q2, rfl, rfl, rfl, h2, r2⟩ := trodAll_cons r1
  obtain ⟨rfl, rfl, rfl⟩ := trodAll_nil r2
  obtain rfl : args = #[v0, v1, v2] := by cases args; simp_all
  obtain ⟨rfl, rfl⟩ := trodVars_none hV
  have lt0 : ∀ x ∈ p0, x.block < W.heap.size := by obtain ⟨m, hm⟩ := h0; exact DataW.trod_lt m _ _ _ hm
  have lt1 : ∀ x ∈ p1, x.block < W.heap.size := by obtain ⟨m, hm⟩ := h1; exact DataW.trod_lt m _ _ _ hm
  have lt2 : ∀ x ∈ p2, x.block < W.heap.size := by obtain ⟨m, hm⟩ := h2; exact DataW.trod_lt m _ _ _ hm
  obtain ⟨x0, g0, e0⟩ := arg_fits (n := 9) (by kernel_rfl) (hval 0 62 v0 rfl rfl) h0
  obtain ⟨x1, g1, e1⟩ := arg_fits (n := 9) (by kernel_rfl) (hval 1 60 v1 rfl rfl) h1
  obtain ⟨x2, g2, e2⟩ := arg_fits (n := 9) (by kernel_rfl) (hval 2 90 v2 rfl rfl) h2
  simp only [List.append_nil, DataW.weightsEach, List.all_append, Bool.and_eq_true] at hsz
  have z1 : ∀ n es, x1 = .sl n es → es.length ≤ 140737488351232 := fun n es he => by subst he; exact reach_sl Try.underlying60 h1 e1 hsz.2.1 (of_decide_eq_true (by kernel_rfl))
  clear hA0 hval0
  refine ((law12' g0 g1 g2 z1).2 W (old W) #[v0, v1, v2] (fun _ h => h) (by simp only [RV.relV]; exact ⟨_, _, rfl, e0, _, _, rfl, e1, _, _, rfl, e2, rfl⟩)).mono fun e W' he => ?_
  obtain ⟨v, R', rfl, bel, _, _, _, hr⟩ := he
  simp only [RV.rel] at hr
  subst hr
  exact ⟨_, rfl, _, _, _, [], _, [], hW', trodAll_mk1 (shut_bool Try.underlying4 _), (trodAll_cons_mk (Below.trod laidOut (by kernel_rfl) (of_decide_eq_true (by kernel_rfl)) h0 bel lt0) (trodAll_cons_mk (Below.trod laidOut (by kernel_rfl) (of_decide_eq_true (by kernel_rfl)) h1 bel lt1) (trodAll_cons_mk (Below.trod laidOut (by kernel_rfl) (of_decide_eq_true (by kernel_rfl)) h2 bel lt2) trodAll_mk0))), rfl, bel.frame _, fun h => by cases h⟩
theorem over : Rows.throwPooledRow.holds Try.pinned (OpenSpec.ofChange Rows.throwPooledSpec) :=
  OpenClaim.holds_of_wide 12 Try.f12 rfl rfl rfl rfl rfl rfl rfl ⟨rfl, rfl, rfl, rfl, rfl⟩ rfl rfl rfl rfl rfl (by kernel_rfl) Try.func12 (by kernel_rfl)
    (of_decide_eq_true (by kernel_rfl)) (by unfold Func.isWrapper; first | (rw [if_pos (by decide +kernel)]; kernel_rfl) | (rw [if_neg (by decide +kernel)]; exact ⟨rfl, rfl⟩))
    (fun os started H enc _ => lifted os started H enc)
theorem throwPooled_holds : Rows.ThrowPooledSaid := over
#print axioms throwPooled_holds
end Go.Proofs.Ytgkejinoaommeaa
