/- Part 10 of the texts of this claim. -/
import Derived.Test.YtlbfkhikmigpbaaV39
import Derived.Test.YtlbfkhikmigpbaaV38
namespace Go.Proofs.Ytlbfkhikmigpbaa
open Go Go.Oc
set_option linter.unusedSimpArgs false
set_option linter.unusedVariables false
set_option maxRecDepth 8000
theorem truthL_own (a : Am) (den : Int) (bs : List Int) (hb : ∀ n ∈ bs,0 ≤ n ∧ n ≤ 255) (h : loS a.beds ≤ den) (hd : den ≤ 3000) (hl : a.beds.length ≤ 19) (h1 : ∀ c ∈ a.beds,0 ≤ c.lo ∧ c.lo ≤ c.hi ∧ c.hi ≤ 3000) :
 OCalls Try.prog 33 [.ag (aimR a),i64 den,u8L bs] 3 1 ((truthL a.beds den bs).map fun x=>[i64 x]) (truthL a.beds den bs).length:=by
 have hT:=TI.at (bs:=bs) hb h (fun c hc=>(h1 c hc).2.1)
 obtain ⟨L,hL⟩ : ∃ L,L = a.beds:=⟨_,rfl⟩
 rw [← hL] at h hl h1 hT
 have hlo : ∀ i,i ≤ L.length → (0 ≤ loS (L.take i) ∧ loS (L.take i) ≤ den):=fun i hi=>by
  have hnn : ∀ M : List Bd,(∀ c ∈ M,0 ≤ c.lo) → 0 ≤ loS M:=loS_nonneg
  have h2:=hnn (L.take i) fun c hc=>(h1 c (List.mem_of_mem_take hc)).1
  have h3:=hnn (L.drop i) fun c hc=>(h1 c (List.mem_of_mem_drop hc)).1
  have h4 : loS L = loS (L.take i) + loS (L.drop i):=by
   have:=congrArg loS (List.take_append_drop i L).symm
   rw [this]
   simp only [loS,List.map_append,List.sum_append]
  omega
 refine ocalls_st (n:=96) (.tmp 6) Try.func33 rfl (by kernel_rfl) Try.ntmps33 rfl (by simp) (fun e he=>by obtain ⟨x,_,rfl⟩:=List.mem_map.1 he; rfl) fun C vs=>?_
 repeat refine zq ?_
 refine zb fun K hK=>?_;simp only [go_sem];(try simp (disch:=omega) only [zI]);repeat first | intro _ | refine ⟨by omega,?_⟩
 refine hK _ ?_;clear hK K;refine zw (sub_frzP 3 3 (aimR a) (by omega) rfl rfl) ?_;simp only [go_sem,aimR];refine zw (zk [1,2,3]) ?_;simp only [go_sem]
 repeat refine zq ?_
 refine zb fun K hK=>?_;simp only [go_sem];(try simp (disch:=omega) only [zI]);repeat first | intro _ | refine ⟨by omega,?_⟩
 refine hK _ ?_;clear hK K;refine zw (zk [2,3,7,8]) ?_;simp only [go_sem];refine zw (sub_own 7 31 3 1 (by omega) rfl) ?_
 try simp only [go_sem]
 repeat refine zq ?_
 refine zb fun K hK=>?_;simp only [go_sem];(try simp (disch:=omega) only [zI]);repeat first | intro _ | refine ⟨by omega,?_⟩
 refine hK _ ?_;clear hK K;refine zw (zk [2,3,7,8,9]) ?_;simp only [go_sem];rw [← hL]
 repeat refine zq ?_
 refine zd ?_
 refine awp_uptoV (n:=96) L.length (fun i vs=>[(2,.r (u8L bs)),(3,.r (.rp [i64 a.at_,bedsR L])),(7,.os 31 (vs 31) 1 0 i),(8,.r (i64 (den - loS (L.take i)))),(9,.r (i64 (i : Int)))])
  (fun i vs=>[(31,.arr 3 1 (((L.map (·.lo)).take i).map fun x=>[i64 x]))]) (fun _=>True) 0 (zj [] ?_ ?_) (Nat.zero_le _) trivial ?_
 · try simp only [go_sem]
   simp [loS]
 · try simp only [go_sem]
 · intro i vs hi _
   repeat refine zq ?_
   refine zb fun K hK=>?_;simp only [go_sem];(try simp (disch:=omega) only [zI]);repeat first | intro _ | refine ⟨by omega,?_⟩
   refine hK _ ?_;clear hK K;refine zw (zk [2,3,7,8,9,19]) ?_;simp only [go_sem]
   repeat refine zq ?_
   refine zc rfl (fun hc=>?_) (fun hc=>?_) <;> (try simp only [go_sem] at hc)
   · have hci : i < L.length:=by omega
     obtain ⟨c,hc1⟩:=opt_of_lt hci
     obtain ⟨g0,g1,g2⟩:=h1 c (mem_of_opt hc1)
     have hs0:=hlo i (by omega)
     have hs1:=hlo (i + 1) (by omega)
     have hlS : loS (L.take (i + 1)) = loS (L.take i) + c.lo:=by rw [take_of_opt hc1,loS_snoc]
     have hli : ((L.map (·.lo)).take i).length = i:=by rw [List.length_take]; simp; omega
     have hMt : (L.map (·.lo)).take (i + 1) = (L.map (·.lo)).take i ++ [c.lo]:=take_of_opt (by simp [hc1])
     refine zx ?_
     try simp only [go_sem]
     repeat refine zq ?_
     refine zd ?_
     repeat refine zq ?_
     refine awp_dreg2 [(7,some 31),(3,none),(8,none),(9,none)] follows (by decide +kernel) (by kernel_rfl) (by simp only [keysOk,List.mem_cons,List.not_mem_nil,forall_eq_or_imp,Oc.keyOf,go_sem]; simp) fun K hK=>?_
     simp only [go_sem,hc1,hci,bedR,hli];(try simp (disch:=omega) only [zI]);repeat first | intro _ | refine ⟨by omega,?_⟩
     refine hK _ ?_;clear hK K;refine zw (zk [2,3,7,8,9]) ?_;simp only [go_sem]
     repeat refine zq ?_
     refine zb fun K hK=>?_;simp only [go_sem];(try simp (disch:=omega) only [zI]);repeat first | intro _ | refine ⟨by omega,?_⟩
     refine hK _ ?_;clear hK K
     try simp only [go_sem]
     refine ⟨by omega,zj [] ?_ ?_⟩
     · try simp only [go_sem]
       rw [hlS]
       omega
     · try simp only [go_sem]
       rw [hMt]
       simp
   · have hil : i = L.length:=by omega
     subst hil
     rw [List.take_length,List.take_of_length_le (by simp)]
     refine zf ?_;simp only [go_sem];refine zw (zk [2,3,7,8]) ?_;simp only [go_sem]
     repeat refine zq ?_
     refine zb fun K hK=>?_;simp only [go_sem];(try simp (disch:=omega) only [zI]);repeat first | intro _ | refine ⟨by omega,?_⟩
     refine hK _ ?_;clear hK K;refine zw (zk [2,3,7,8,10]) ?_;simp only [go_sem]
     repeat refine zq ?_
     refine zd ?_
     refine awp_uptoV (n:=96) 2 (fun k vs=>[(2,.r (u8L bs)),(3,.r (.rp [i64 a.at_,bedsR L])),(7,.os 31 (vs 31) 1 0 L.length),(8,.r (i64 (atT L den bs k).2)),(10,.r (i64 (k : Int)))])
      (fun k vs=>[(31,.arr 3 1 ((atT L den bs k).1.map fun x=>[i64 x]))]) (fun _=>True) 0 (zj [] ?_ ?_) (Nat.zero_le _) trivial ?_
     · try simp only [go_sem]
       rfl
     · try simp only [go_sem]
       rfl
     · intro k vs hk _
       repeat refine zq ?_
       refine zb fun K hK=>?_;simp only [go_sem];(try simp (disch:=omega) only [zI]);repeat first | intro _ | refine ⟨by omega,?_⟩
       refine hK _ ?_;clear hK K;refine zw (zk [2,3,7,8,10,42]) ?_;simp only [go_sem]
       repeat refine zq ?_
       refine zc rfl (fun hc=>?_) (fun hc=>?_) <;> (try simp only [go_sem] at hc)
       · have hck : k < 2:=by omega
         have hTk:=hT k
         refine zx ?_
         try simp only [go_sem]
         repeat refine zq ?_
         refine zd ?_
         repeat refine zq ?_
         refine zb fun K hK=>?_;simp only [go_sem];(try simp (disch:=omega) only [zI]);repeat first | intro _ | refine ⟨by omega,?_⟩
         refine hK _ ?_;clear hK K;refine zw (zk [2,3,7,8,10,11]) ?_;simp only [go_sem]
         repeat refine zq ?_
         refine zd ?_
         refine awp_uptoV (n:=96) L.length (fun i vs=>[(2,.r (u8L bs)),(3,.r (.rp [i64 a.at_,bedsR L])),(7,.os 31 (vs 31) 1 0 L.length),(8,.r (i64 (passT L bs k (atT L den bs k) i).2)),(10,.r (i64 (k : Int))),(11,.r (i64 (i : Int)))])
          (fun i vs=>[(31,.arr 3 1 ((passT L bs k (atT L den bs k) i).1.map fun x=>[i64 x]))]) (fun _=>True) 0 (zj [] ?_ ?_) (Nat.zero_le _) trivial ?_
         · try simp only [go_sem]
           rfl
         · try simp only [go_sem]
           rfl
         · intro i vs hi _
           have hTi:=TI.pass (bs:=bs) hb hTk k i (by omega)
           have hms:=fun (hi : i < L.length)=>more_le (bs:=bs) hb hTi k hi
           have hpl:=hTi.len
           have hp0:=hTi.left
           have hpe:=hTi.each i
           have hsx : ∀ hi : i < L.length,passT L bs k (atT L den bs k) (i + 1) = ((passT L bs k (atT L den bs k) i).1.set i ((passT L bs k (atT L den bs k) i).1.getD i 0 + moreT L bs k i (passT L bs k (atT L den bs k) i)),(passT L bs k (atT L den bs k) i).2 - moreT L bs k i (passT L bs k (atT L den bs k) i)):=fun _=>rfl
           obtain ⟨x,hx⟩ : ∃ x,x = passT L bs k (atT L den bs k) i:=⟨_,rfl⟩
           rw [← hx] at hms hpl hp0 hpe hsx ⊢
           repeat refine zq ?_
           refine zb fun K hK=>?_;simp only [go_sem];(try simp (disch:=omega) only [zI]);repeat first | intro _ | refine ⟨by omega,?_⟩
           refine hK _ ?_;clear hK K;refine zw (zk [2,3,7,8,10,11,48]) ?_;simp only [go_sem]
           repeat refine zq ?_
           refine zc rfl (fun hc=>?_) (fun hc=>?_) <;> (try simp only [go_sem] at hc)
           · have hci : i < L.length:=by omega
             obtain ⟨c,hc1⟩:=opt_of_lt hci
             obtain ⟨g0,g1,g2⟩:=h1 c (mem_of_opt hc1)
             have hbc : bAt L i = c:=by simp [bAt,List.getD,hc1]
             have hxi : x.1[i]? = some (x.1.getD i 0):=by rw [List.getD_eq_getElem?_getD,List.getElem?_eq_getElem (by omega)]; rfl
             obtain ⟨m,hm⟩ : ∃ m,m = moreT L bs k i x:=⟨_,rfl⟩
             have hmo:=hms hci
             have hpi:=hpe hci
             rw [hbc] at hmo hpi
             have hsx':=hsx hci
             rw [← hm] at hmo hsx'
             obtain ⟨y,hy⟩ : ∃ y,y = x.1.getD i 0:=⟨_,rfl⟩
             rw [← hy] at hxi hmo hpi hsx'
             have hdw : IntKind.i64.wrap (c.hi - y) = c.hi - y:=by rw [zI] <;> omega
             have hmd : m = if k = 0 ∧ 0 < bs.length then min x.2 (c.hi - y) * bs.getD (i % bs.length) 0 / 255 else min x.2 (c.hi - y):=by rw [hm,hy]; unfold moreT; rw [hbc]
             have hsum : 0 ≤ x.2 ∧ x.2 ≤ 3000:=by
              have:=hTi.le fun c hc=>(h1 c hc).1
              rw [← hx] at this
              omega
             refine zx ?_
             try simp only [go_sem]
             repeat refine zq ?_
             refine zd ?_
             repeat refine zq ?_
             refine awp_dreg2 [(7,some 31),(3,none),(8,none),(11,none)] follows (by decide +kernel) (by kernel_rfl) (by simp only [keysOk,List.mem_cons,List.not_mem_nil,forall_eq_or_imp,Oc.keyOf,go_sem]; simp) fun K hK=>?_
             simp only [go_sem,hc1,hci,bedR,hxi,hdw,hpl];(try simp (disch:=omega) only [zI]);repeat first | intro _ | refine ⟨by omega,?_⟩
             refine hK _ ?_;clear hK K;refine zw (zk [2,3,7,8,10,11,12]) ?_;simp only [go_sem]
             repeat refine zq ?_
             refine awp_joinV (n:=96) (fun (_ : Unit) vs=>[(2,.r (u8L bs)),(3,.r (.rp [i64 a.at_,bedsR L])),(7,.os 31 (vs 31) 1 0 L.length),(8,.r (i64 x.2)),(10,.r (i64 (k : Int))),(11,.r (i64 (i : Int))),(12,.r (i64 (min x.2 (c.hi - y)))),(71,.r (.bo (decide (k = 0 ∧ 0 < bs.length))))]) (fun _ vs=>[(31,.arr 3 1 (x.1.map fun x=>[i64 x]))]) (fun _=>True) (fun _ h=>h) ?_ ?_
             · by_cases k0 : k = 0
               · have d1 : ((k : Int) == 0) = true:=by simp [k0]
                 repeat refine zq ?_
                 refine zb fun K hK=>?_;simp only [go_sem,d1];(try simp (disch:=omega) only [zI]);repeat first | intro _ | refine ⟨by omega,?_⟩
                 refine hK _ ?_;clear hK K
                 refine ⟨(),trivial,zj [] ?_ ?_⟩
                 · try simp only [go_sem]
                   simp [k0]
                 · try simp only [go_sem]
               · have d1 : ((k : Int) == 0) = false:=by simp [k0]
                 repeat refine zq ?_
                 refine zb fun K hK=>?_;simp only [go_sem,d1];(try simp (disch:=omega) only [zI]);repeat first | intro _ | refine ⟨by omega,?_⟩
                 refine hK _ ?_;clear hK K
                 refine ⟨(),trivial,zj [] ?_ ?_⟩
                 · try simp only [go_sem]
                   simp [k0]
                 · try simp only [go_sem]
             intro _ vs _
             repeat refine zq ?_
             refine awp_joinV (n:=96) (fun (_ : Unit) vs=>[(2,.r (u8L bs)),(3,.r (.rp [i64 a.at_,bedsR L])),(7,.os 31 (vs 31) 1 0 L.length),(8,.r (i64 x.2)),(10,.r (i64 (k : Int))),(11,.r (i64 (i : Int))),(12,.r (i64 m))]) (fun _ vs=>[(31,.arr 3 1 (x.1.map fun x=>[i64 x]))]) (fun _=>True) (fun _ h=>h) ?_ ?_
             · repeat refine zq ?_
               refine zc rfl (fun hc=>?_) (fun hc=>?_) <;> (try simp only [go_sem] at hc)
               · have hck0 : k = 0 ∧ 0 < bs.length:=by simpa using hc
                 rw [if_pos hck0] at hmd
                 have hlt : i % bs.length < bs.length:=Nat.mod_lt _ hck0.2
                 obtain ⟨q,hq⟩:=opt_of_lt hlt
                 have hqq:=hb q (mem_of_opt hq)
                 have hqd : bs.getD (i % bs.length) 0 = q:=by simp [List.getD_eq_getElem?_getD,hq]
                 rw [hqd] at hmd
                 have hmod : (i : Int).tmod (bs.length : Int) = ((i % bs.length : Nat) : Int):=by
                  rw [Int.tmod_eq_emod_of_nonneg (by omega)]; rfl
                 obtain ⟨mm,hmm⟩ : ∃ mm,mm = min x.2 (c.hi - y):=⟨_,rfl⟩
                 rw [← hmm] at hmd ⊢
                 have hm0 : 0 ≤ mm ∧ mm ≤ 3000:=by omega
                 have p0:=Int.mul_nonneg hm0.1 hqq.1
                 have p1 : mm * q ≤ 3000 * 255:=Int.mul_le_mul hm0.2 hqq.2 hqq.1 (by omega)
                 have hpw : IntKind.i64.wrap (mm * q) = mm * q:=by rw [zI] <;> omega
                 have hdv : (mm * q).tdiv 255 = mm * q / 255:=Int.tdiv_eq_ediv_of_nonneg p0
                 repeat refine zq ?_
                 refine zb fun K hK=>?_;simp only [go_sem,hmod,hq,hlt,hpw,hdv];(try simp (disch:=omega) only [zI]);repeat first | intro _ | refine ⟨by omega,?_⟩
                 refine hK _ ?_;clear hK K
                 refine ⟨(),trivial,zj [] ?_ ?_⟩
                 · try simp only [go_sem]
                   rw [hmd,hdv]
                 · try simp only [go_sem]
               · have hck0 : ¬ (k = 0 ∧ 0 < bs.length):=by simpa using hc
                 rw [if_neg hck0] at hmd
                 rw [← hmd]
                 refine zx ?_
                 try simp only [go_sem]
                 refine ⟨(),zj [] ?_ ?_⟩
                 · try simp only [go_sem]
                 · try simp only [go_sem]
             intro _ vs _
             repeat refine zq ?_
             refine zb fun K hK=>?_;simp only [go_sem,hxi,hpl,hci];(try simp (disch:=omega) only [zI]);repeat first | intro _ | refine ⟨by omega,?_⟩
             refine hK _ ?_;clear hK K;refine zw (zk [2,3,7,8,10,11]) ?_;simp only [go_sem]
             repeat refine zq ?_
             refine zb fun K hK=>?_;simp only [go_sem];(try simp (disch:=omega) only [zI]);repeat first | intro _ | refine ⟨by omega,?_⟩
             refine hK _ ?_;clear hK K
             try simp only [go_sem]
             refine ⟨by omega,zj [] ?_ ?_⟩
             · try simp only [go_sem]
               rw [hsx']
             · try simp only [go_sem]
               rw [hsx',List.map_set]
           · have hil : i = L.length:=by omega
             refine zf ?_;simp only [go_sem]
             repeat refine zq ?_
             refine zb fun K hK=>?_;simp only [go_sem];(try simp (disch:=omega) only [zI]);repeat first | intro _ | refine ⟨by omega,?_⟩
             refine hK _ ?_;clear hK K
             try simp only [go_sem]
             refine ⟨by omega,zj [] ?_ ?_⟩
             · try simp only [go_sem]
               rw [hx,hil]; rfl
             · try simp only [go_sem]
               rw [hx,hil]; rfl
       · have hke : k = 2:=by omega
         subst hke
         have hTk:=hT 2
         have hlk:=hTk.len
         refine zf ?_;simp only [go_sem];refine zw (zk [7]) ?_;simp only [go_sem]
         repeat refine zq ?_
         refine zb fun K hK=>?_;simp only [go_sem];(try simp (disch:=omega) only [zI]);repeat first | intro _ | refine ⟨by omega,?_⟩
         refine hK _ ?_;clear hK K;refine zw (zk [6]) ?_;simp only [go_sem]
         have hlT : (truthL L den bs).length = L.length:=hlk
         rw [hlT]
         refine ze ?_;simp only [go_sem];exact ⟨31,_,rfl,rfl⟩
theorem lowest_eq {r1 r2 : Ru} (h : r1.out = r2.out) : lowestR r1 = lowestR r2:=by unfold lowestR; rw [h]
structure LeR (r1 r2 : Ru) (m : Bool) : Prop where
 start : r1.start = r2.start
 out : r1.out = r2.out
 n : r1.ends.length = r2.ends.length
 aims : ∀ a1 ∈ r1.aims,∃ a2 ∈ r2.aims,∀ f g : Int → Int,(∀ b,0 ≤ b → b ≤ 499 → 0 ≤ f b ∧ f b ≤ 1000000) → (∀ b,0 ≤ b → b ≤ 499 → 0 ≤ g b ∧ g b ≤ 1000000) → (∀ b,0 ≤ b → b ≤ 499 → f b ≤ g b) → meanD m r1.d (chW f a1.beds) ≤ meanD m r2.d (chW g a2.beds)
 ends : ∀ k,k < r1.ends.length → endsD m (r2.ends.getD k (0,0)) ≤ endsD m (r1.ends.getD k (0,0))
theorem LeR.means {r1 r2 : Ru} {m : Bool} (h : LeR r1 r2 m) (hne : r1.aims ≠ []) {f g : Int → Int} (hf : ∀ b,0 ≤ b → b ≤ 499 → 0 ≤ f b ∧ f b ≤ 1000000) (hg : ∀ b,0 ≤ b → b ≤ 499 → 0 ≤ g b ∧ g b ≤ 1000000) (hfg : ∀ b,0 ≤ b → b ≤ 499 → f b ≤ g b) :
 maxL (meansV r1 m f) ≤ maxL (meansV r2 m g):=by
 obtain ⟨a,ha,e⟩:=List.mem_map.1 (maxL_mem (l:=meansV r1 m f) (by simpa [meansV] using hne))
 obtain ⟨a2,h2,h3⟩:=h.aims a ha
 rw [← e]
 exact Int.le_trans (h3 f g hf hg hfg) (le_maxL (List.mem_map.2 ⟨a2,h2,rfl⟩))
theorem LeR.after {r1 r2 : Ru} {m : Bool} (h : LeR r1 r2 m) (he : ∀ x ∈ r1.ends,endOk x = true) {T T' : List (List Int)} {k y : Nat} (hk : k < r1.ends.length)
 (hT : k + 1 < r1.ends.length → 0 ≤ (T.getD (k + 1) []).getD y 0 ∧ (T.getD (k + 1) []).getD y 0 ≤ (T'.getD (k + 1) []).getD y 0) : afterD r1 m T k y ≤ afterD r2 m T' k y:=by
 unfold afterD
 rw [← h.n]
 split
 · omega
 · rename_i hn
   obtain ⟨h0,h1⟩:=hT (by omega)
   have hm : r1.ends.getD k (0,0) ∈ r1.ends:=by
    rw [List.getD_eq_getElem?_getD,List.getElem?_eq_getElem hk]; exact List.getElem_mem _
   obtain ⟨g1,g2,g3⟩:=endOk_le (he _ hm)
   have hd:=h.ends k hk
   refine overD_mono (fun h=>h) (by omega) ?_
   have h3 : 0 ≤ 1000000 - endsD m (r1.ends.getD k (0,0)):=by unfold endsD; split <;> omega
   exact Int.mul_le_mul h1 (by omega) h3 (by omega)
theorem next_le2 {r1 r2 : Ru} {m : Bool} {T T' : List (List Int)} {k st left : Nat} {val val' : Nat → Int} {last : Bool} {b : Int} (ho : r1.out = r2.out) (b0 : 0 ≤ b) (b1 : b ≤ 499) (hst : (st : Int) ≤ r1.start) (hl : (left : Int) ≤ r1.start)
 (hA : ∀ y : Nat,(y : Int) ≤ r1.start → afterD r1 m T k y ≤ afterD r2 m T' k y) (hv : last = false → ∀ y : Nat,(y : Int) ≤ r1.start → val y ≤ val' y) :
 nextV r1 m T k st val last left b ≤ nextV r2 m T' k st val' last left b:=by
 obtain ⟨s0,s1⟩:=score_le b0 b1
 unfold nextV
 rw [lowest_eq ho,ho]
 split
 · omega
 · split
   · exact hA st hst
   · split
     · exact hA _ (by omega)
     · rename_i hn
       exact hv (by simpa using hn) _ (by omega)
theorem LeR.val {r1 r2 : Ru} {m : Bool} (hL : LeR r1 r2 m) (hA : AimsG r1) (hA2 : AimsG r2) {T T' : List (List Int)} {k st : Nat} (h : VisG r1 T k st) (h' : VisG r2 T' k st) (hT : RowLe r1 T T' k) :
 ∀ n left : Nat,(left : Int) ≤ r1.start → valV r1 m T k st n left ≤ valV r2 m T' k st n left
 | 0,_,_=>by simp only [valV]; omega
 | n + 1, left, hl => by
   simp only [valV]
   have hl2 : (left : Int) ≤ r2.start:=by rw [← hL.start]; exact hl
   exact hL.means hA.ne (fun b b0 b1=>nextV_le h hl b0 b1 fun _ x hx=>valV_le h hA n x hx) (fun b b0 b1=>nextV_le h' hl2 b0 b1 fun _ x hx=>valV_le h' hA2 n x hx)
    fun b b0 b1=>next_le2 hL.out b0 b1 h.st40 hl (fun y hy=>hL.after h.ends h.kk fun hk=>⟨h.row0 hy hk,hT hk y hy⟩) fun _ y hy=>hL.val hA hA2 h h' hT n y hy
theorem LeR.tab {r1 r2 : Ru} {m : Bool} (hL : LeR r1 r2 m) (h1 : RuG r1) (h2 : RuG r2) : ∀ i,i ≤ r1.ends.length → ∀ j y : Nat,(y : Int) ≤ r1.start → ((tabI r1 m i).getD j []).getD y 0 ≤ ((tabI r2 m i).getD j []).getD y 0
 | 0,_,j,y,_=>by simp only [tabI,hL.n]; omega
 | i + 1, hi, j, y, hy => by
   have ih:=hL.tab h1 h2 i (by omega)
   have hy2 : (y : Int) ≤ r2.start:=by rw [← hL.start]; exact hy
   have hn:=hL.n
   simp only [tabI];rw [← hn]
   by_cases e : j = r1.ends.length - 1 - i
   · subst e
     have g0 : ((tabI r1 m i).set (r1.ends.length - 1 - i) (rowV r1 m (tabI r1 m i) (r1.ends.length - 1 - i))).getD (r1.ends.length - 1 - i) [] = rowV r1 m (tabI r1 m i) (r1.ends.length - 1 - i):=by
      rw [List.getD_eq_getElem?_getD,List.getElem?_set_self (by rw [tabI_len]; omega)]; rfl
     have g1 : ((tabI r2 m i).set (r1.ends.length - 1 - i) (rowV r2 m (tabI r2 m i) (r1.ends.length - 1 - i))).getD (r1.ends.length - 1 - i) [] = rowV r2 m (tabI r2 m i) (r1.ends.length - 1 - i):=by
      rw [List.getD_eq_getElem?_getD,List.getElem?_set_self (by rw [tabI_len]; omega)]; rfl
     rw [g0,g1,rowV_getD _ _ _ _ _ hy,rowV_getD _ _ _ _ _ hy2,lowest_eq hL.out]
     split
     · omega
     · have v2:=vis_at h2 m i (by omega) y hy2
       rw [← hn] at v2
       exact hL.val h1.aims h2.aims (vis_at h1 m i (by omega) y hy) v2 (fun _ z hz=>ih _ z hz) 3 y hy
   · have g0 : ∀ (A : List (List Int)) (x : List Int),(A.set (r1.ends.length - 1 - i) x).getD j [] = A.getD j []:=fun A x=>by
      rw [List.getD_eq_getElem?_getD,List.getD_eq_getElem?_getD,List.getElem?_set_ne (fun h=>e h.symm)]
     rw [g0,g0]
     exact ih j y hy
theorem LeR.tabF {r1 r2 : Ru} {m : Bool} (hL : LeR r1 r2 m) (h1 : RuG r1) (h2 : RuG r2) {j y : Nat} (hy : (y : Int) ≤ r1.start) : ((Go.Proofs.Ytlbfkhikmigpbaa.tabF r1 m).getD j []).getD y 0 ≤ ((Go.Proofs.Ytlbfkhikmigpbaa.tabF r2 m).getD j []).getD y 0:=by
 unfold Go.Proofs.Ytlbfkhikmigpbaa.tabF
 rw [← hL.n]
 exact hL.tab h1 h2 _ (Nat.le_refl _) j y hy
theorem same_means {r : Ru} {m : Bool} (hA : AimsG r) (hH : RefH r) {a : Am} (ha : a ∈ r.aims) {f g : Int → Int} (hf : ∀ b,0 ≤ b → b ≤ 499 → 0 ≤ f b ∧ f b ≤ 1000000) (hg : ∀ b,0 ≤ b → b ≤ 499 → 0 ≤ g b ∧ g b ≤ 1000000) (hfg : ∀ b,0 ≤ b → b ≤ 499 → f b ≤ g b) :
 meanD m r.d (chW f a.beds) ≤ meanD m r.d (chW g a.beds):=means_mono (fun h=>h) hA hH hf hg hfg a ha
theorem fewer_le {r : Ru} (hA : AimsG r) (hH : RefH r) (m : Bool) (n : Nat) : LeR ⟨r.d,r.aims.take n,r.start,r.out,r.ends⟩ r m :=
 ⟨rfl,rfl,rfl,fun a ha=>⟨a,List.mem_of_mem_take ha,fun f g hf hg hfg=>same_means hA hH (List.mem_of_mem_take ha) hf hg hfg⟩,fun _ _=>Int.le_refl _⟩
theorem ends_le {r : Ru} (hA : AimsG r) (hH : RefH r) (m : Bool) {en : List (Int × Int)} (hn : en.length = r.ends.length) (he : ∀ k,k < r.ends.length → endsD m (r.ends.getD k (0,0)) ≤ endsD m (en.getD k (0,0))) : LeR ⟨r.d,r.aims,r.start,r.out,en⟩ r m :=
 ⟨rfl,rfl,hn,fun a ha=>⟨a,ha,fun f g hf hg hfg=>same_means hA hH ha hf hg hfg⟩,fun k hk=>he k (by simpa [hn] using hk)⟩
structure NarB (l l' : List Bd) : Prop where
 len : l'.length = l.length
 each : ∀ i,i < l.length → (bAt l' i).b = (bAt l i).b ∧ (bAt l i).lo ≤ (bAt l' i).lo ∧ (bAt l' i).hi ≤ (bAt l i).hi
theorem TruthN.wide {den : Int} {l l' : List Bd} {x : Nat → Int} {f g : Int → Int} (hN : NarB l l') (h : TruthN den (Go.Proofs.Ytlbfkhikmigpbaa.chW f l') x) : TruthN den (Go.Proofs.Ytlbfkhikmigpbaa.chW g l) x:=by
 refine ⟨fun i hi=>?_,?_⟩
 · rw [chW_len] at hi
   have h1:=h.each i (by rw [chW_len,hN.len]; exact hi)
   rw [bAt_chW f l' (by rw [hN.len]; exact hi)] at h1
   rw [bAt_chW g l hi]
   have h2:=hN.each i hi
   simp only at h1 ⊢
   omega
 · have:=h.sum
   rw [chW_len,hN.len] at this
   rw [chW_len]; exact this
theorem dot_nar {l l' : List Bd} {x : Nat → Int} {f : Int → Int} (hN : NarB l l') : dotF (Go.Proofs.Ytlbfkhikmigpbaa.chW f l') x = dotF (Go.Proofs.Ytlbfkhikmigpbaa.chW f l) x:=by
 rw [dotF_chW,dotF_chW,hN.len]
 congr 1
 exact List.map_congr_left fun i hi=>by rw [(hN.each i (List.mem_range.1 hi)).1]
theorem dot_le {den : Int} {l : List Bd} {x : Nat → Int} {f g : Int → Int} (h : TruthN den (Go.Proofs.Ytlbfkhikmigpbaa.chW f l) x) (h0 : ∀ c ∈ l,0 ≤ c.lo ∧ f c.b ≤ g c.b) : dotF (Go.Proofs.Ytlbfkhikmigpbaa.chW f l) x ≤ dotF (Go.Proofs.Ytlbfkhikmigpbaa.chW g l) x:=by
 rw [dotF_chW,dotF_chW]
 refine sum_le_map fun i hi=>?_
 have hil:=List.mem_range.1 hi
 have h1:=h.each i (by rw [chW_len]; exact hil)
 rw [bAt_chW f l hil] at h1
 have h2:=h0 _ (bAt_mem hil)
 simp only at h1
 exact Int.mul_le_mul_of_nonneg_left h2.2 (by omega)
theorem nar_mean {den : Int} {l l' : List Bd} (hN : NarB l l') {f g : Int → Int} (hf : ChG den (Go.Proofs.Ytlbfkhikmigpbaa.chW f l)) (hg : ChG den (Go.Proofs.Ytlbfkhikmigpbaa.chW g l)) (hf' : ChG den (Go.Proofs.Ytlbfkhikmigpbaa.chW f l')) (hg' : ChG den (Go.Proofs.Ytlbfkhikmigpbaa.chW g l')) (hh : den ≤ hiS l) (hh' : den ≤ hiS l')
 (hfg : ∀ c ∈ l,0 ≤ c.lo ∧ f c.b ≤ g c.b) : meanD true den (Go.Proofs.Ytlbfkhikmigpbaa.chW f l') ≤ meanD true den (Go.Proofs.Ytlbfkhikmigpbaa.chW g l) ∧ meanD false den (Go.Proofs.Ytlbfkhikmigpbaa.chW f l) ≤ meanD false den (Go.Proofs.Ytlbfkhikmigpbaa.chW g l'):=by
 constructor
 · obtain ⟨x,x1,x2,x3⟩:=mean_opt (most:=true) hf' (by rw [hiS_chW]; exact hh')
   obtain ⟨y,y1,y2,y3⟩:=mean_opt (most:=true) hg (by rw [hiS_chW]; exact hh)
   have h1:=y3 x (x1.wide hN)
   have h2:=dot_le (x1.wide (g:=f) hN) hfg
   simp only [leD,if_true] at h1
   rw [x2,y2,dot_nar hN]
   exact overD_mono (fun h=>h) hf.den0 (by omega)
 · obtain ⟨x,x1,x2,x3⟩:=mean_opt (most:=false) hf (by rw [hiS_chW]; exact hh)
   obtain ⟨y,y1,y2,y3⟩:=mean_opt (most:=false) hg' (by rw [hiS_chW]; exact hh')
   have h1:=x3 y (y1.wide hN)
   have h2:=dot_le (y1.wide (g:=f) hN) hfg
   simp only [leD,Bool.false_eq_true,if_false] at h1
   rw [x2,y2,dot_nar hN]
   exact overD_mono (fun h=>h) hf.den0 (by omega)
theorem endOk_mk {x : Int × Int} (h : 0 ≤ x.1 ∧ x.1 ≤ x.2 ∧ x.2 ≤ 1000000) : endOk x = true:=by
 simp only [endOk,withinL,List.all_cons,List.all_nil,Bool.and_true,Bool.and_eq_true,decide_eq_true_eq]
 omega
theorem checkV_of {d : Int} {l l' : List Am} (h : checkV d l = 0) (hlen : l'.length ≤ l.length) (hne : l' ≠ []) (hb : ∀ a' ∈ l',∃ a ∈ l,a'.beds.length = a.beds.length) (ha : ∀ a' ∈ l',aimOk d a' = true) : checkV d l' = 0:=by
 unfold checkV at h ⊢
 split at h
 · cases h
 · rename_i h1
   split at h
   · cases h
   · rename_i h2
     rw [Bool.not_eq_true,Bool.or_eq_false_iff,decide_eq_false_iff_not,List.any_eq_false] at h1
     rw [if_neg,if_neg,if_pos]
     · exact List.all_eq_true.2 ha
     · rw [Bool.not_eq_true,Bool.or_eq_false_iff] at h2 ⊢
       refine ⟨?_,h2.2⟩
       cases l' with
       | nil=>exact absurd rfl hne
       | cons=>rfl
     · rw [Bool.not_eq_true,Bool.or_eq_false_iff,decide_eq_false_iff_not,List.any_eq_false]
       refine ⟨by omega,fun a' ha'=>?_⟩
       obtain ⟨a,g1,g2⟩:=hb a' ha'
       rw [g2]
       exact h1.2 a g1
theorem ruE_parts {r : Ru} (h : ruE r = 0) : checkV r.d r.aims = 0 ∧ (2 ≤ r.start ∧ r.start ≤ 40) ∧ (0 ≤ r.out ∧ r.out ≤ 2) ∧ (1 ≤ r.ends.length ∧ r.ends.length ≤ 10) ∧ (∀ x ∈ r.ends,endOk x = true) ∧ lastE r = 1000000:=by
 unfold ruE at h
 split at h
 · rename_i h1; exact absurd h h1
 · rename_i h1
   split at h
   · rename_i h2
     simp only [Bool.and_eq_true,decide_eq_true_eq] at h2
     obtain ⟨⟨⟨⟨⟨⟨⟨a1,a2⟩,a3⟩,a4⟩,a5⟩,a6⟩,a7⟩,a8⟩:=h2
     exact ⟨by simpa using h1,⟨a1,a2⟩,⟨a3,a4⟩,⟨a5,a6⟩,List.all_eq_true.1 a7,a8⟩
   · cases h
theorem ruE_of {r : Ru} (hc : checkV r.d r.aims = 0) (hs : 2 ≤ r.start ∧ r.start ≤ 40) (ho : 0 ≤ r.out ∧ r.out ≤ 2) (hn : 1 ≤ r.ends.length ∧ r.ends.length ≤ 10) (he : ∀ x ∈ r.ends,endOk x = true) (hl : lastE r = 1000000) : ruE r = 0:=by
 have he':=List.all_eq_true.2 he
 simp [ruE,hc,he',hl,hs,ho,hn]
theorem aims_all {r : Ru} (h : checkV r.d r.aims = 0) : ∀ a ∈ r.aims,aimOk r.d a = true:=by
 unfold checkV at h
 split at h
 · cases h
 · split at h
   · cases h
   · split at h
     · rename_i h3; exact List.all_eq_true.1 h3
     · cases h
theorem seqOk_map : ∀ {l l' : List Bd} {p : Option Int},l'.map (·.b) = l.map (·.b) → seqOk p l' = seqOk p l
 | [],[],_,_=>rfl
 | [],c :: l',_,h=>by simp at h
 | c :: l,[],_,h=>by simp at h
 | c :: l, c' :: l', p, h => by
   simp only [List.map_cons,List.cons.injEq] at h
   unfold seqOk
   rw [h.1,seqOk_map h.2]
def narB (l : List Bd) (den : Int) (b : List Int) : List Bd:=(List.range l.length).map fun i=>⟨(bAt l i).b,((bAt l i).lo + (truthL l den b).getD i 0) / 2,(truthL l den b).getD i 0 + ((bAt l i).hi - (truthL l den b).getD i 0) / 2⟩
theorem narB_len (l : List Bd) (den : Int) (b : List Int) : (narB l den b).length = l.length:=by simp [narB]
theorem narB_at {l : List Bd} {den : Int} {b : List Int} {i : Nat} (hi : i < l.length) : bAt (narB l den b) i = ⟨(bAt l i).b,((bAt l i).lo + (truthL l den b).getD i 0) / 2,(truthL l den b).getD i 0 + ((bAt l i).hi - (truthL l den b).getD i 0) / 2⟩:=by
 unfold bAt narB
 rw [List.getD_eq_getElem?_getD,List.getElem?_map,List.getElem?_range hi]
 rfl
structure NarG (den : Int) (l : List Bd) (b : List Int) : Prop where
 nar : NarB l (narB l den b)
 lo : loS (narB l den b) ≤ den
 hi : den ≤ hiS (narB l den b)
 each : ∀ i,i < l.length → (bAt l i).lo ≤ (truthL l den b).getD i 0 ∧ (truthL l den b).getD i 0 ≤ (bAt l i).hi
theorem narG_of {l : List Bd} {den : Int} {b : List Int} (hb : ∀ n ∈ b,0 ≤ n ∧ n ≤ 255) (h : loS l ≤ den) (h1 : ∀ c ∈ l,c.lo ≤ c.hi) (hh : den ≤ hiS l) : NarG den l b:=by
 obtain ⟨ht,hl⟩:=truth_ok hb h h1 hh
 have he:=ht.each
 have hs:=ht.sum
 refine ⟨⟨narB_len _ _ _,fun i hi=>?_⟩,?_,?_,he⟩
 · rw [narB_at hi]
   have:=he i hi
   refine ⟨rfl,?_,?_⟩
   · show (bAt l i).lo ≤ ((bAt l i).lo + (truthL l den b).getD i 0) / 2
     omega
   · show (truthL l den b).getD i 0 + ((bAt l i).hi - (truthL l den b).getD i 0) / 2 ≤ (bAt l i).hi
     omega
 · rw [loS,← sum_bAt (narB l den b) (·.lo),narB_len]
   refine Int.le_trans (sum_le_map fun i hi=>?_) (Int.le_of_eq hs)
   rw [narB_at (List.mem_range.1 hi)]
   have:=he i (List.mem_range.1 hi)
   show ((bAt l i).lo + (truthL l den b).getD i 0) / 2 ≤ (truthL l den b).getD i 0
   omega
 · rw [hiS,← sum_bAt (narB l den b) (·.hi),narB_len]
   refine Int.le_trans (Int.le_of_eq hs.symm) (sum_le_map fun i hi=>?_)
   rw [narB_at (List.mem_range.1 hi)]
   have:=he i (List.mem_range.1 hi)
   simp only
   omega
theorem narB_each {l : List Bd} {den : Int} {b : List Int} (hG : NarG den l b) (h0 : ∀ c ∈ l,0 ≤ c.lo ∧ c.hi ≤ den) : ∀ c ∈ narB l den b,0 ≤ c.lo ∧ c.lo ≤ c.hi ∧ c.hi ≤ den:=fun c hc=>by
 obtain ⟨i,hi,rfl⟩:=List.mem_map.1 hc
 have hil:=List.mem_range.1 hi
 have h1:=hG.each i hil
 have h2:=h0 _ (bAt_mem hil)
 simp only
 omega
def narA (d : Int) (b : List Int) (a : Am) : Am:=⟨a.at_,narB a.beds d b⟩
def narE (e : Int × Int) : Int × Int:=(e.1 + (e.2 - e.1) / 3,e.2)
def narR (r : Ru) (b : List Int) : Ru:=⟨r.d,r.aims.map (narA r.d b),r.start,r.out,r.ends.map narE⟩
theorem aimOk_parts {d : Int} {a : Am} (h : aimOk d a = true) : bedOk a.at_ = true ∧ a.beds ≠ [] ∧ seqOk none a.beds = true ∧ (∀ x ∈ a.beds,0 ≤ x.lo ∧ x.lo ≤ x.hi ∧ x.hi ≤ d) ∧ loS a.beds ≤ d ∧ d ≤ hiS a.beds:=by
 simp only [aimOk,Bool.and_eq_true,decide_eq_true_eq] at h
 obtain ⟨⟨⟨⟨⟨h1,h2⟩,h3⟩,h4⟩,h5⟩,h6⟩:=h
 refine ⟨h1,fun e=>by rw [e] at h2; simp at h2,h3,fun x hx=>?_,h5,h6⟩
 simp only [chOk,List.all_eq_true,Bool.and_eq_true,decide_eq_true_eq] at h4
 have:=h4 x hx
 omega
theorem narA_nar {d : Int} {b : List Int} (hb : ∀ n ∈ b,0 ≤ n ∧ n ≤ 255) {a : Am} (h : aimOk d a = true) : NarG d a.beds b:=by
 obtain ⟨h1,h2,h3,h4,h5,h6⟩:=aimOk_parts h
 exact narG_of hb h5 (fun c hc=>(h4 c hc).2.1) h6
theorem narA_ok {d : Int} {b : List Int} (hb : ∀ n ∈ b,0 ≤ n ∧ n ≤ 255) {a : Am} (h : aimOk d a = true) : aimOk d (narA d b a) = true:=by
 have hG:=narA_nar hb h
 obtain ⟨h1,h2,h3,h4,h5,h6⟩:=aimOk_parts h
 have g3 : seqOk none (narB a.beds d b) = true:=by
  rw [seqOk_map (l:=a.beds),h3]
  conv=>rhs; rw [← range_bAt a.beds,List.map_map]
  simp only [narB,List.map_map]
  rfl
 have g4 : chOk d (narB a.beds d b) = true:=by
  simp only [chOk,List.all_eq_true,Bool.and_eq_true,decide_eq_true_eq]
  intro c hc
  have:=narB_each hG (fun x hx=>⟨(h4 x hx).1,(h4 x hx).2.2⟩) c hc
  omega
 have hlo:=hG.lo
 have hhi:=hG.hi
 have hne : (narB a.beds d b).isEmpty = false:=by
  have : (narB a.beds d b).length ≠ 0:=by rw [narB_len]; intro e; exact h2 (List.eq_nil_of_length_eq_zero e)
  cases h : narB a.beds d b with
  | nil=>rw [h] at this; simp at this
  | cons=>rfl
 simp [aimOk,narA,h1,g3,g4,hlo,hhi,hne]
theorem getD_map_end {f : Int × Int → Int × Int} (l : List (Int × Int)) {k : Nat} (hk : k < l.length) : (l.map f).getD k (0,0) = f (l.getD k (0,0)):=by
 rw [List.getD_eq_getElem?_getD,List.getElem?_map,List.getD_eq_getElem?_getD,List.getElem?_eq_getElem hk]; rfl
theorem narE_ok {x : Int × Int} (h : endOk x = true) : endOk (narE x) = true:=by
 obtain ⟨h1,h2,h3⟩:=endOk_le h
 refine endOk_mk ?_
 simp only [narE]; omega
theorem narR_ok {r : Ru} (h : ruE r = 0) {b : List Int} (hb : ∀ n ∈ b,0 ≤ n ∧ n ≤ 255) : ruE (narR r b) = 0:=by
 obtain ⟨hc,hs,ho,hn,he,hl⟩:=ruE_parts h
 have hall:=aims_all hc
 have hne : r.aims ≠ []:=(ruG_of h).1.aims.ne
 refine ruE_of (checkV_of hc (by simp [narR]) (by simpa [narR] using hne) (fun a' ha'=>?_) (fun a' ha'=>?_)) hs ho (by simpa [narR] using hn) (fun x hx=>?_) ?_
 · obtain ⟨a,g1,rfl⟩:=List.mem_map.1 ha'
   exact ⟨a,g1,narB_len _ _ _⟩
 · obtain ⟨a,g1,rfl⟩:=List.mem_map.1 ha'
   exact narA_ok hb (hall a g1)
 · obtain ⟨e,g1,rfl⟩:=List.mem_map.1 hx
   exact narE_ok (he e g1)
 · unfold lastE at hl ⊢
   have hlen : (narR r b).ends.length = r.ends.length:=by simp [narR]
   rw [hlen]
   show ((r.ends.map narE).getD _ _).1 = _
   rw [getD_map_end _ (by omega)]
   have hm:=he _ (show r.ends.getD (r.ends.length - 1) (0,0) ∈ r.ends by
    rw [List.getD_eq_getElem?_getD,List.getElem?_eq_getElem (by omega)]; exact List.getElem_mem _)
   obtain ⟨g1,g2,g3⟩:=endOk_le hm
   simp only [narE]; omega
theorem i64_small {x : Int} (h : 0 ≤ x ∧ x ≤ 1000000) : I64 x:=by unfold I64; omega
theorem narR_wf {r : Ru} (hw : WfR r) (h : ruE r = 0) {b : List Int} (hb : ∀ n ∈ b,0 ≤ n ∧ n ≤ 255) : WfR (narR r b):=by
 obtain ⟨hc,hs,ho,hn,he,hl⟩:=ruE_parts h
 have hall:=aims_all hc
 have hG:=(ruG_of h).1.aims
 refine ⟨hw.law.1,fun a' ha'=>?_⟩
 obtain ⟨a,g1,rfl⟩:=List.mem_map.1 ha'
 obtain ⟨w1,w2⟩:=hw.law.2 a g1
 refine ⟨w1,fun c hc=>?_⟩
 have h4:=(aimOk_parts (hall a g1)).2.2.2.1
 have g2:=narB_each (narA_nar hb (hall a g1)) (fun x hx=>⟨(h4 x hx).1,(h4 x hx).2.2⟩) c hc
 obtain ⟨i,hi,rfl⟩:=List.mem_map.1 hc
 have hil:=List.mem_range.1 hi
 have hd:=hG.den1
 simp only at g2
 exact ⟨(w2 _ (bAt_mem hil)).1,i64_small (by simp only; omega),i64_small (by simp only; omega)⟩
theorem narR_le {r : Ru} (h : ruE r = 0) {b : List Int} (hb : ∀ n ∈ b,0 ≤ n ∧ n ≤ 255) : LeR (narR r b) r true ∧ LeR r (narR r b) false:=by
 obtain ⟨hc,hs,ho,hn,he,hl⟩:=ruE_parts h
 have hall:=aims_all hc
 obtain ⟨hG,_⟩:=ruG_of h
 obtain ⟨hG',_⟩:=ruG_of (narR_ok h hb)
 have hH:=refH_of h
 have hH':=refH_of (narR_ok h hb)
 have key : ∀ a ∈ r.aims,∀ f g : Int → Int,(∀ b,0 ≤ b → b ≤ 499 → 0 ≤ f b ∧ f b ≤ 1000000) → (∀ b,0 ≤ b → b ≤ 499 → 0 ≤ g b ∧ g b ≤ 1000000) → (∀ b,0 ≤ b → b ≤ 499 → f b ≤ g b) →
  meanD true r.d (chW f (narB a.beds r.d b)) ≤ meanD true r.d (chW g a.beds) ∧ meanD false r.d (chW f a.beds) ≤ meanD false r.d (chW g (narB a.beds r.d b)):=fun a ha f g hf hg hfg=>by
  have hm : narA r.d b a ∈ (narR r b).aims:=List.mem_map.2 ⟨a,ha,rfl⟩
  refine nar_mean (narA_nar hb (hall a ha)).nar (hG.aims.ch hf a ha) (hG.aims.ch hg a ha) (hG'.aims.ch hf _ hm) (hG'.aims.ch hg _ hm) (hH.hi a ha) (hH'.hi _ hm) fun c hc=>?_
  obtain ⟨q1,q2⟩:=(hG.aims.beds a ha).2.2 c hc
  exact ⟨q2.1,hfg _ q1.1 q1.2⟩
 have hend : ∀ k,k < r.ends.length → (r.ends.getD k (0,0)).1 ≤ ((narR r b).ends.getD k (0,0)).1 ∧ ((narR r b).ends.getD k (0,0)).2 = (r.ends.getD k (0,0)).2:=fun k hk=>by
  have e : (narR r b).ends.getD k (0,0) = narE (r.ends.getD k (0,0)):=getD_map_end _ hk
  rw [e]
  have hm:=he _ (show r.ends.getD k (0,0) ∈ r.ends by
   rw [List.getD_eq_getElem?_getD,List.getElem?_eq_getElem hk]; exact List.getElem_mem _)
  obtain ⟨g1,g2,g3⟩:=endOk_le hm
  generalize r.ends.getD k (0,0) = q at *
  simp only [narE];exact ⟨by omega,trivial⟩
 refine ⟨⟨rfl,rfl,by simp [narR],fun a' ha'=>?_,fun k hk=>?_⟩,⟨rfl,rfl,by simp [narR],fun a ha=>?_,fun k hk=>?_⟩⟩
 · obtain ⟨a,g1,rfl⟩:=List.mem_map.1 ha'
   exact ⟨a,g1,fun f g hf hg hfg=>(key a g1 f g hf hg hfg).1⟩
 · exact (hend k (by simpa [narR] using hk)).1
 · exact ⟨narA r.d b a,List.mem_map.2 ⟨a,ha,rfl⟩,fun f g hf hg hfg=>(key a ha f g hf hg hfg).2⟩
 · exact Int.le_of_eq (hend k hk).2
def lessR (r : Ru) : Ru:=⟨r.d,r.aims.take (max 1 (r.aims.length - 1)),r.start,r.out,r.ends⟩
theorem lessR_ok {r : Ru} (h : ruE r = 0) : ruE (lessR r) = 0:=by
 obtain ⟨hc,hs,ho,hn,he,hl⟩:=ruE_parts h
 have hne : r.aims ≠ []:=(ruG_of h).1.aims.ne
 have hpos : 0 < r.aims.length:=List.length_pos_iff.2 hne
 refine ruE_of (checkV_of hc (by simp only [lessR,List.length_take]; omega) ?_ (fun a' ha'=>⟨a',List.mem_of_mem_take ha',rfl⟩) fun a' ha'=>aims_all hc a' (List.mem_of_mem_take ha')) hs ho hn he hl
 refine List.length_pos_iff.1 ?_
 simp only [lessR,List.length_take]; omega
def moreE (w : Int) (e : Int × Int) : Int × Int:=(min 1000000 (e.1 + 999 * w),min 1000000 (e.2 + 1000 * w))
def moreR (r : Ru) (w : Int) : Ru:=⟨r.d,r.aims,r.start,r.out,r.ends.map (moreE w)⟩
theorem moreR_ok {r : Ru} (h : ruE r = 0) {w : Int} (h0 : 0 ≤ w) : ruE (moreR r w) = 0:=by
 obtain ⟨hc,hs,ho,hn,he,hl⟩:=ruE_parts h
 refine ruE_of (r:=moreR r w) hc hs ho (by simpa [moreR] using hn) (fun x hx=>?_) ?_
 · obtain ⟨e,g1,rfl⟩:=List.mem_map.1 hx
   obtain ⟨q1,q2,q3⟩:=endOk_le (he e g1)
   refine endOk_mk ?_
   simp only [moreE]; omega
 · unfold lastE at hl ⊢
   have hlen : (moreR r w).ends.length = r.ends.length:=by simp [moreR]
   rw [hlen]
   show ((r.ends.map (moreE w)).getD _ _).1 = _
   rw [getD_map_end _ (by omega)]
   simp only [moreE]; omega
theorem moreR_le {r : Ru} (h : ruE r = 0) {w : Int} (h0 : 0 ≤ w) (m : Bool) : LeR (moreR r w) r m:=by
 obtain ⟨hc,hs,ho,hn,he,hl⟩:=ruE_parts h
 refine ends_le (ruG_of h).1.aims (refH_of h) m (by simp) fun k hk=>?_
 rw [getD_map_end _ hk]
 have hm:=he _ (show r.ends.getD k (0,0) ∈ r.ends by
  rw [List.getD_eq_getElem?_getD,List.getElem?_eq_getElem hk]; exact List.getElem_mem _)
 obtain ⟨q1,q2,q3⟩:=endOk_le hm
 unfold endsD
 split <;> simp only [moreE] <;> omega
def narV (nv : Bool) (d : Int) (b : List Int) (a : Am) : Am:=if nv then narA d b a else a
def narRv (nv : Bool) (r : Ru) (b : List Int) : Ru:=⟨r.d,r.aims.map (narV nv r.d b),r.start,r.out,r.ends.map narE⟩
def endR (r : Ru) : Ru:=⟨r.d,r.aims,r.start,r.out,r.ends.map narE⟩
theorem narRv_eq (nv : Bool) (r : Ru) (b : List Int) : narRv nv r b = if nv then narR r b else endR r:=by
 cases nv with
 | true=>rfl
 | false =>
   have : r.aims.map (narV false r.d b) = r.aims:=List.map_id'' (fun a=>rfl) _
   simp only [narRv,endR,this,Bool.false_eq_true,if_false]
theorem endR_ok {r : Ru} (h : ruE r = 0) : ruE (endR r) = 0:=by
 obtain ⟨hc,hs,ho,hn,he,hl⟩:=ruE_parts h
 refine ruE_of (r:=endR r) hc hs ho (by simpa [endR] using hn) (fun x hx=>?_) ?_
 · obtain ⟨e,g1,rfl⟩:=List.mem_map.1 hx
   exact narE_ok (he e g1)
 · unfold lastE at hl ⊢
   have hlen : (endR r).ends.length = r.ends.length:=by simp [endR]
   rw [hlen]
   show ((r.ends.map narE).getD _ _).1 = _
   rw [getD_map_end _ (by omega)]
   have hm:=he _ (show r.ends.getD (r.ends.length - 1) (0,0) ∈ r.ends by
    rw [List.getD_eq_getElem?_getD,List.getElem?_eq_getElem (by omega)]; exact List.getElem_mem _)
   obtain ⟨g1,g2,g3⟩:=endOk_le hm
   simp only [narE]; omega
theorem endR_le {r : Ru} (h : ruE r = 0) : LeR (endR r) r true ∧ LeR r (endR r) false:=by
 obtain ⟨hc,hs,ho,hn,he,hl⟩:=ruE_parts h
 obtain ⟨hG,_⟩:=ruG_of h
 have hH:=refH_of h
 have hend : ∀ k,k < r.ends.length → (r.ends.getD k (0,0)).1 ≤ ((endR r).ends.getD k (0,0)).1 ∧ ((endR r).ends.getD k (0,0)).2 = (r.ends.getD k (0,0)).2:=fun k hk=>by
  have e : (endR r).ends.getD k (0,0) = narE (r.ends.getD k (0,0)):=getD_map_end _ hk
  rw [e]
  have hm:=he _ (show r.ends.getD k (0,0) ∈ r.ends by
   rw [List.getD_eq_getElem?_getD,List.getElem?_eq_getElem hk]; exact List.getElem_mem _)
  obtain ⟨g1,g2,g3⟩:=endOk_le hm
  generalize r.ends.getD k (0,0) = q at *
  simp only [narE];exact ⟨by omega,trivial⟩
 refine ⟨⟨rfl,rfl,by simp [endR],fun a ha=>⟨a,ha,fun f g hf hg hfg=>same_means hG.aims hH ha hf hg hfg⟩,fun k hk=>?_⟩,⟨rfl,rfl,by simp [endR],fun a ha=>⟨a,ha,fun f g hf hg hfg=>same_means hG.aims hH ha hf hg hfg⟩,fun k hk=>?_⟩⟩
 · exact (hend k (by simpa [endR] using hk)).1
 · exact Int.le_of_eq (hend k hk).2
theorem narRv_ok {nv : Bool} {r : Ru} (hw : WfR r) (h : ruE r = 0) {b : List Int} (hb : ∀ n ∈ b,0 ≤ n ∧ n ≤ 255) : ruE (narRv nv r b) = 0 ∧ WfR (narRv nv r b) ∧ LeR (narRv nv r b) r true ∧ LeR r (narRv nv r b) false:=by
 rw [narRv_eq]
 cases nv with
 | true =>
   obtain ⟨g1,g2⟩:=narR_le h hb
   exact ⟨narR_ok h hb,narR_wf hw h hb,g1,g2⟩
 | false =>
   obtain ⟨g1,g2⟩:=endR_le h
   exact ⟨endR_ok h,⟨hw.law⟩,g1,g2⟩
def mixB (nv : Bool) (l : List Bd) (d : Int) (b : List Int) (k : Nat) : List Bd:=if nv then (narB l d b).take k ++ l.drop k else l
def narAt (l : List Bd) (d : Int) (b : List Int) (k : Nat) : Bd:=⟨(bAt l k).b,((bAt l k).lo + (truthL l d b).getD k 0) / 2,(truthL l d b).getD k 0 + ((bAt l k).hi - (truthL l d b).getD k 0) / 2⟩
theorem mixB_zero (nv : Bool) (l : List Bd) (d : Int) (b : List Int) : mixB nv l d b 0 = l:=by unfold mixB; split <;> simp
theorem mixB_len (nv : Bool) (l : List Bd) (d : Int) (b : List Int) (k : Nat) : (mixB nv l d b k).length = l.length:=by
 unfold mixB; split
 · simp [narB_len]; omega
 · rfl
theorem mixB_get {nv : Bool} {l : List Bd} {d : Int} {b : List Int} {k : Nat} (hk : k < l.length) : (mixB nv l d b k)[k]? = l[k]?:=by
 unfold mixB; split
 · rw [List.getElem?_append_right (by simp [narB_len]; omega)]
   simp only [List.length_take,narB_len,List.getElem?_drop]
   congr 1; omega
 · rfl
theorem mixB_set {l : List Bd} {d : Int} {b : List Int} {k : Nat} (hk : k < l.length) : (mixB true l d b k).set k (narAt l d b k) = mixB true l d b (k + 1):=by
 have h1 : (narB l d b)[k]? = some (narAt l d b k):=by
  unfold narB; rw [List.getElem?_map,List.getElem?_range hk]; rfl
 have h2 : l.drop k = bAt l k :: l.drop (k + 1):=by
  rw [List.drop_eq_getElem_cons hk]; congr 1; simp [bAt,List.getD,List.getElem?_eq_getElem hk]
 unfold mixB
 simp only [if_true]
 rw [List.set_append_right _ _ (by simp [narB_len]; omega),take_of_opt h1,h2]
 simp only [List.length_take,narB_len,show k - min k l.length = 0 by omega,List.set_cons_zero,List.append_assoc,List.singleton_append]
theorem mixB_full (nv : Bool) (a : Am) (d : Int) (b : List Int) : mixB nv a.beds d b a.beds.length = (narV nv d b a).beds:=by
 unfold mixB narV
 split
 · rw [List.take_of_length_le (by rw [narB_len]; exact Nat.le_refl _),List.drop_length,List.append_nil]; rfl
 · rfl
theorem narV_at (nv : Bool) (d : Int) (b : List Int) (a : Am) : (narV nv d b a).at_ = a.at_:=by unfold narV; split <;> rfl
theorem map_mix {f : Int × Int → Int × Int} {l : List (Int × Int)} {k : Nat} {e : Int × Int} (h : l[k]? = some e) : ((l.take k).map f ++ l.drop k).set k (f e) = (l.take (k + 1)).map f ++ l.drop (k + 1):=by
 have hk:=(List.getElem?_eq_some_iff.1 h).1
 have h2 : l.drop k = e :: l.drop (k + 1):=by
  rw [List.drop_eq_getElem_cons hk]; congr 1; exact (List.getElem?_eq_some_iff.1 h).2
 rw [List.set_append_right _ _ (by simp; omega),take_of_opt h,h2]
 simp only [List.length_map,List.length_take,show k - min k l.length = 0 by omega,List.set_cons_zero,List.map_append,List.map_cons,List.map_nil,List.append_assoc,List.singleton_append]
theorem map_mix_get {f : Int × Int → Int × Int} {l : List (Int × Int)} {k : Nat} {e : Int × Int} (h : l[k]? = some e) : ((l.take k).map f ++ l.drop k)[k]? = some e:=by
 have hk:=(List.getElem?_eq_some_iff.1 h).1
 rw [List.getElem?_append_right (by simp; omega)]
 simp only [List.length_map,List.length_take,List.getElem?_drop]
 rw [show k + (k - min k l.length) = k by omega]; exact h
theorem map_mix_len {f : Int × Int → Int × Int} {l : List (Int × Int)} {k : Nat} : ((l.take k).map f ++ l.drop k).length = l.length:=by simp; omega
def topF (f : Sp → Int) (l : List Sp) : Int:=l.foldl (fun a x=>max a (f x)) (-1)
def setT (T : List (List Int)) (k p : Nat) (n : Int) : List (List Int):=T.set k ((T.getD k []).set p n)
theorem tabF_rowlen {r : Ru} (most : Bool) {k : Nat} (hk : k < r.ends.length) : ((tabF r most).getD k []).length = r.start.toNat + 1:=by rw [tabF_row most hk,rowV_len]
section
variable {r : Ru} {most : Bool} {k0 p : Nat} {n : Int}
end
end Go.Proofs.Ytlbfkhikmigpbaa

namespace Go.Proofs.Ytlbfkhikmigpbaa
open Go Go.Oc
set_option linter.unusedSimpArgs false
set_option linter.unusedVariables false
set_option maxRecDepth 8000
set_option maxHeartbeats 4000000
abbrev aimsN (m : Mt) (i : Nat) : List Am:=(List.range i).map (aimM m)
theorem aimsN_succ (m : Mt) (i : Nat) : aimsN m (i + 1) = aimsN m i ++ [aimM m i]:=by simp only [aimsN,List.range_succ,List.map_append,List.map_cons,List.map_nil]
theorem aimN_lt (m : Mt) (i : Nat) : i < aimN m ↔ i = 0 ∨ (i < m.aims.length ∧ i < 3):=by unfold aimN; omega
def vI (b : Nat → Bool) (j : Nat) (v : AV) : AV:=if b j then v else .r .un
def ibF (A : List RV) (i k j : Nat) (left : Int) (c : Bd) (l : List Bd) (b : Nat → Bool) (vs : Nat → Nat) : List (Nat × AV) :=
 [(1,.r (.rp A)),(2,.pt 2 (vs 2) 0),(3,.pt 3 (vs 3) 0),(4,.r (i64 (i : Int))),(5,.pt 5 (vs 5) 0),(6,.r (i64 left)),(7,.r (i64 (k : Int))),(10,.r (i64 (j : Int))),(13,.r (.rp (bedR c))),
  (123,vI b 0 (.r .ns)),
  (124,vI b 1 (.pt 5 (vs 5) 1)),
  (125,vI b 2 (.r (.sl 3 (l.map bedR)))),
  (126,vI b 3 (.r (i64 (j : Int)))),
  (127,vI b 4 (.r (.sl 3 ((l.map bedR).take j)))),
  (128,vI b 5 (.os 128 (vs 128 - (bif b 13 then 2 else bif b 8 then 1 else 0)) 3 0 j)),
  (129,vI b 6 (.r (.ag (bedR c)))),
  (130,vI b 7 (.r (.sl 3 [bedR c]))),
  (131,vI b 8 (.os 128 (vs 128 - (bif b 13 then 1 else 0)) 3 0 (j + 1))),
  (132,vI b 9 (.pt 5 (vs 5) 1)),
  (133,vI b 10 (.r (.sl 3 (l.map bedR)))),
  (134,vI b 11 (.r (i64 (j : Int)))),
  (135,vI b 12 (.r (.sl 3 ((l.map bedR).drop j)))),
  (136,vI b 13 (.os 128 (vs 128) 3 0 (l.length + 1))),
  (137,vI b 14 (.pt 5 (vs 5) 1))]
def ibR (d s o : Int) (i j : Nat) (aa : List (List RV)) (c : Bd) (l : List Bd) (b : Nat → Bool) (vs : Nat → Nat) : List (Nat × RowC) :=
 bif b 15 then [(2,.box [.r (i64 0),.r .ns,.r (i64 0),.r (i64 0),.r .ns]),(3,.box [.r (i64 d),.os 158 (vs 158) 2 0 i,.r (i64 s),.r (i64 o),.r .ns]),(5,.box [.r (i64 201),.os 128 (vs 128) 3 0 (l.length + 1)]),(128,.arr 90 3 ((l.map bedR).take j ++ bedR c :: (l.map bedR).drop j)),(158,.arr 78 2 aa)]
 else bif b 13 then [(2,.box [.r (i64 0),.r .ns,.r (i64 0),.r (i64 0),.r .ns]),(3,.box [.r (i64 d),.os 158 (vs 158) 2 0 i,.r (i64 s),.r (i64 o),.r .ns]),(5,.box [.r (i64 201),.r (.sl 3 (l.map bedR))]),(128,.arr 90 3 ((l.map bedR).take j ++ bedR c :: (l.map bedR).drop j)),(158,.arr 78 2 aa)]
 else bif b 8 then [(2,.box [.r (i64 0),.r .ns,.r (i64 0),.r (i64 0),.r .ns]),(3,.box [.r (i64 d),.os 158 (vs 158) 2 0 i,.r (i64 s),.r (i64 o),.r .ns]),(5,.box [.r (i64 201),.r (.sl 3 (l.map bedR))]),(128,.arr 90 3 ((l.map bedR).take j ++ [bedR c])),(158,.arr 78 2 aa)]
 else bif b 5 then [(2,.box [.r (i64 0),.r .ns,.r (i64 0),.r (i64 0),.r .ns]),(3,.box [.r (i64 d),.os 158 (vs 158) 2 0 i,.r (i64 s),.r (i64 o),.r .ns]),(5,.box [.r (i64 201),.r (.sl 3 (l.map bedR))]),(128,.arr 90 3 ((l.map bedR).take j)),(158,.arr 78 2 aa)]
 else [(2,.box [.r (i64 0),.r .ns,.r (i64 0),.r (i64 0),.r .ns]),(3,.box [.r (i64 d),.os 158 (vs 158) 2 0 i,.r (i64 s),.r (i64 o),.r .ns]),(5,.box [.r (i64 201),.r (.sl 3 (l.map bedR))]),(158,.arr 78 2 aa)]
theorem awp_fitV {P : Program} {C : Ctx} {c : Code} {Q : Exit → AS → Prop} {n : Nat} {F : (Nat → Nat) → List (Nat × AV)} {R : (Nat → Nat) → List (Nat × RowC)} {s : AS} (h : FitV n F R s) (hQ : ∀ vs,awp P C c Q (st n (F vs) vs (R vs))) : awp P C c Q s:=by
 obtain ⟨vs,hs⟩:=h
 exact zw hs (hQ vs)
theorem mrules_walk (m : Mt) (hw : WfM m) : ∃ c,Try.f32.body = some c ∧ ∀ (C : Ctx) (vs0 : Nat → Nat) (Q : Exit → AS → Prop),
 (∀ vs,awp Try.prog C .ret Q (st 205 [(2,.pt 2 (vs 2) 0)] vs [(2,.box [.r (i64 (ruM m).d),.r (aimsR (ruM m).aims),.r (i64 (ruM m).start),.r (i64 (ruM m).out),.os 196 (vs 196) 2 0 (ruM m).ends.length]),(196,.arr 52 2 ((ruM m).ends.map spanR))])) →
 awp Try.prog C c Q (st 205 (argL 0 [.ag (mtC m)]) vs0 []):=by
 have hone:=one_ok 1000000
 obtain ⟨d0,d1⟩:=hw.den
 obtain ⟨s0,s1⟩:=hw.start
 obtain ⟨o0,o1⟩:=hw.out
 have q1 : IntKind.i64.wrap m.den = m.den:=by rw [zI] <;> omega
 have q2 : IntKind.i64.wrap m.start = m.start:=by rw [zI] <;> omega
 have q3 : IntKind.i64.wrap m.out = m.out:=by rw [zI] <;> omega
 have q4 : m.start.tmod 7 = m.start % 7:=Int.tmod_eq_emod_of_nonneg s0
 have q5 : m.out.tmod 3 = m.out % 3:=Int.tmod_eq_emod_of_nonneg o0
 refine ⟨_,rfl,fun C vs0 Q hQ=>?_⟩
 repeat refine zq ?_
 refine zb fun K hK=>?_;simp only [go_sem];(try simp (disch:=omega) only [zI]);repeat first | intro _ | refine ⟨by omega,?_⟩
 refine hK _ ?_;clear hK K;refine zw (sub_frzP 1 1 (mtC m) (by omega) rfl rfl) ?_;refine zw (zk [1,2]) ?_;simp only [go_sem]
 repeat refine zq ?_
 refine zb fun K hK=>?_;simp only [go_sem,q1,q2,q3,q4,q5];(try simp (disch:=omega) only [zI]);repeat first | intro _ | refine ⟨by omega,?_⟩
 refine hK _ ?_;clear hK K;refine zw (zk [1,2,3]) ?_;simp only [go_sem]
 repeat refine zq ?_
 refine zb fun K hK=>?_;simp only [go_sem];(try simp (disch:=omega) only [zI]);repeat first | intro _ | refine ⟨by omega,?_⟩
 refine hK _ ?_;clear hK K;refine zw (zk [1,2,3,4]) ?_;simp only [go_sem]
 repeat refine zq ?_
 refine zd ?_;refine zw (sub_ownB 3 1 158 78 2 (by omega) (by omega) rfl rfl) ?_
 try simp only [go_sem]
 refine awp_whileV (n:=205) (fun (i : Nat) vs=>[(1,.r (.rp (mtC m))),(2,.pt 2 (vs 2) 0),(3,.pt 3 (vs 3) 0),(4,.r (i64 i))])
  (fun i vs=>[(2,.box [.r (i64 0),.r .ns,.r (i64 0),.r (i64 0),.r .ns]),(3,.box [.r (i64 (4 + m.den)),.os 158 (vs 158) 2 0 i,.r (i64 (2 + m.start % 7)),.r (i64 (m.out % 3)),.r .ns]),(158,.arr 78 2 ((aimsN m i).map aimR))])
  (fun i=>i ≤ aimN m) (fun i=>aimN m - i) 0 (zj [] ?_ ?_) (Nat.zero_le _) ?_
 · try simp only [go_sem]
 · try simp only [go_sem]
   rfl
 · intro i vs hi
   have hml:=aimN_lt m i
   repeat refine zq ?_
   refine awp_joinV (n:=205) (fun (_ : Unit) vs=>[(1,.r (.rp (mtC m))),(2,.pt 2 (vs 2) 0),(3,.pt 3 (vs 3) 0),(4,.r (i64 i)),(43,.r (.bo (decide (i < aimN m))))])
    (fun _ vs=>[(2,.box [.r (i64 0),.r .ns,.r (i64 0),.r (i64 0),.r .ns]),(3,.box [.r (i64 (4 + m.den)),.os 158 (vs 158) 2 0 i,.r (i64 (2 + m.start % 7)),.r (i64 (m.out % 3)),.r .ns]),(158,.arr 78 2 ((aimsN m i).map aimR))]) (fun _=>True) (fun _ h=>h) ?_ ?_
   · repeat refine zq ?_
     refine zb fun K hK=>?_;simp only [go_sem];(try simp (disch:=omega) only [zI])
     repeat' first | intro _ | refine And.intro ?_ ?_
     all_goals first | omega | skip
     all_goals (refine hK _ ?_; clear hK K)
     all_goals (try simp only [go_sem])
     all_goals (refine ⟨(),zj [] ?_ ?_⟩ <;> try simp only [go_sem])
     all_goals (rw [Bool.eq_iff_iff]; simp; omega)
   · intro _ vs _
     repeat refine zq ?_
     refine zc rfl (fun hc=>?_) (fun hc=>?_) <;> (try simp only [go_sem] at hc)
     · have hil : i < aimN m:=by simpa using hc
       refine zx ?_
       try simp only [go_sem]
       repeat refine zq ?_
       refine zd ?_
       repeat refine zq ?_
       refine zb fun K hK=>?_;simp only [go_sem];(try simp (disch:=omega) only [zI]);repeat first | intro _ | refine ⟨by omega,?_⟩
       refine hK _ ?_;clear hK K;refine zw (zk [1,2,3,4,5]) ?_;simp only [go_sem]
       repeat refine zq ?_
       refine zb fun K hK=>?_;simp only [go_sem];(try simp (disch:=omega) only [zI]);repeat first | intro _ | refine ⟨by omega,?_⟩
       refine hK _ ?_;clear hK K;refine zw (zk [1,2,3,4,5,6]) ?_;simp only [go_sem]
       repeat refine zq ?_
       refine zb fun K hK=>?_;simp only [go_sem];(try simp (disch:=omega) only [zI]);repeat first | intro _ | refine ⟨by omega,?_⟩
       refine hK _ ?_;clear hK K;refine zw (sub_ownB 5 1 128 90 3 (by omega) (by omega) rfl rfl) ?_;refine zw (zk [1,2,3,4,5,6,7]) ?_;simp only [go_sem]
       repeat refine zq ?_
       refine zd ?_
       generalize hee : m.aims.getD i [] = e
       have heL : i < m.aims.length → m.aims[i]? = some e ∧ e.length = 12 ∧ ∀ x ∈ e,0 ≤ x ∧ x ≤ 255:=fun h=>by
        obtain ⟨e',he'⟩:=opt_of_lt h
        have : e' = e:=by rw [← hee]; simp [List.getD,he']
        subst this
        exact ⟨he',hw.aims e' (mem_of_opt he')⟩
       obtain ⟨N,hN⟩ : ∃ N : Nat,N = if i < m.aims.length then 4 else 0:=⟨_,rfl⟩
       refine awp_uptoV (n:=205) N (fun k vs=>[(1,.r (.rp (mtC m))),(2,.pt 2 (vs 2) 0),(3,.pt 3 (vs 3) 0),(4,.r (i64 i)),(5,.pt 5 (vs 5) 0),(6,.r (i64 (stB (4 + m.den) e k).2)),(7,.r (i64 (k : Int)))])
        (fun k vs=>[(2,.box [.r (i64 0),.r .ns,.r (i64 0),.r (i64 0),.r .ns]),(3,.box [.r (i64 (4 + m.den)),.os 158 (vs 158) 2 0 i,.r (i64 (2 + m.start % 7)),.r (i64 (m.out % 3)),.r .ns]),(5,.box [.r (i64 201),.os 128 (vs 128) 3 0 (stB (4 + m.den) e k).1.length]),(128,.arr 90 3 ((stB (4 + m.den) e k).1.map bedR)),(158,.arr 78 2 ((aimsN m i).map aimR))]) (fun _=>True) 0 (zj [] ?_ ?_) (Nat.zero_le _) trivial ?_
       · try simp only [go_sem]
         simp [stB]
       · try simp only [go_sem]
         simp [stB]
       · intro k vs hk _
         repeat refine zq ?_
         refine awp_joinV (n:=205) (fun (_ : Unit) vs=>[(1,.r (.rp (mtC m))),(2,.pt 2 (vs 2) 0),(3,.pt 3 (vs 3) 0),(4,.r (i64 i)),(5,.pt 5 (vs 5) 0),(6,.r (i64 (stB (4 + m.den) e k).2)),(7,.r (i64 (k : Int))),(58,.r (.bo (decide (k < N))))])
          (fun _ vs=>[(2,.box [.r (i64 0),.r .ns,.r (i64 0),.r (i64 0),.r .ns]),(3,.box [.r (i64 (4 + m.den)),.os 158 (vs 158) 2 0 i,.r (i64 (2 + m.start % 7)),.r (i64 (m.out % 3)),.r .ns]),(5,.box [.r (i64 201),.os 128 (vs 128) 3 0 (stB (4 + m.den) e k).1.length]),(128,.arr 90 3 ((stB (4 + m.den) e k).1.map bedR)),(158,.arr 78 2 ((aimsN m i).map aimR))]) (fun _=>True) (fun _ h=>h) ?_ ?_
         · repeat refine zq ?_
           refine zb fun K hK=>?_;simp only [go_sem];(try simp (disch:=omega) only [zI])
           repeat' first | intro _ | refine And.intro ?_ ?_
           all_goals first | omega | skip
           all_goals (refine hK _ ?_; clear hK K)
           all_goals (try simp only [go_sem])
           all_goals (refine ⟨(),zj [] ?_ ?_⟩ <;> try simp only [go_sem])
           all_goals (rw [Bool.eq_iff_iff]; simp; first | omega | (split at hN <;> omega))
         · intro _ vs _
           repeat refine zq ?_
           refine zc rfl (fun hc=>?_) (fun hc=>?_) <;> (try simp only [go_sem] at hc)
           · have hkN : k < N:=by simpa using hc
             have hiL : i < m.aims.length:=by
              by_cases h : i < m.aims.length
              · exact h
              · rw [if_neg h] at hN; omega
             have hk4 : k < 4:=by rw [if_pos hiL] at hN; omega
             obtain ⟨he1,he2,he3⟩:=heL hiL
             obtain ⟨hv1,hv2⟩:=v_drop he2 hk4
             obtain ⟨⟨vx0,vx1⟩,⟨vy0,vy1⟩,vz0,vz1⟩:=v_le he3 k
             have hst:=(stB_ok (den:=4 + m.den) (by omega) he3 k).1
             have hsl:=(stB_ok (den:=4 + m.den) (by omega) he3 k).2
             have hnx : stB (4 + m.den) e (k + 1) = addB (4 + m.den) (stB (4 + m.den) e k) (vAt e k):=rfl
             generalize hS : stB (4 + m.den) e k = S at hst hsl hnx ⊢
             obtain ⟨l,left⟩:=S
             simp only at hsl
             generalize hv : vAt e k = v at *
             obtain ⟨x,y,z⟩:=v
             simp only at hv1 vx0 vx1 vy0 vy1 vz0 vz1
             refine zx ?_
             try simp only [go_sem]
             repeat refine zq ?_
             refine zd ?_
             repeat refine zq ?_
             refine zb fun K hK=>?_;simp only [go_sem,he1,hiL,hv1,hv2];(try simp (disch:=omega) only [zI]);repeat first | intro _ | refine ⟨by omega,?_⟩
             refine hK _ ?_;clear hK K;refine zw (sub_frzP 8 8 [it8 x,it8 y,it8 z] (by omega) rfl rfl) ?_;refine zw (zk [1,2,3,4,5,6,7,8]) ?_;simp only [go_sem]
             have hbed:=bed_ok x vx0 vx1
             repeat refine zq ?_
             refine zb fun K hK=>?_;simp only [go_sem];(try simp (disch:=omega) only [zI])
             refine zh (hbed) rfl (by simp only [go_sem,i64,ints]) (by simp only [go_sem,i64,ints]) (by first | exact .inl rfl | exact .inr rfl) ?_
             (try simp only [go_sem]);(try simp (disch:=omega) only [zI]);repeat first | intro _ | refine ⟨by omega,?_⟩
             refine hK _ ?_;clear hK K;refine zw (zk [1,2,3,4,5,6,7,8,9,10]) ?_;simp only [go_sem]
             repeat refine zq ?_
             refine zb fun K hK=>?_;simp only [go_sem];(try simp (disch:=omega) only [zI]);repeat first | intro _ | refine ⟨by omega,?_⟩
             refine hK _ ?_;clear hK K;refine zw (zk [1,2,3,4,5,6,7,8,9,10,11]) ?_;simp only [go_sem]
             repeat refine zq ?_
             refine zd ?_
             refine awp_uptoV (n:=205) (frontB (bedN x) l).length (fun j vs=>[(1,.r (.rp (mtC m))),(2,.pt 2 (vs 2) 0),(3,.pt 3 (vs 3) 0),(4,.r (i64 i)),(5,.pt 5 (vs 5) 0),(6,.r (i64 left)),(7,.r (i64 (k : Int))),(8,.r (.rp [it8 x,it8 y,it8 z])),(9,.r (i64 (bedN x))),(10,.r (i64 (j : Int))),(11,.r (.bo (((frontB (bedN x) l).take j).any fun c=>decide (c.b = bedN x))))])
              (fun j vs=>[(2,.box [.r (i64 0),.r .ns,.r (i64 0),.r (i64 0),.r .ns]),(3,.box [.r (i64 (4 + m.den)),.os 158 (vs 158) 2 0 i,.r (i64 (2 + m.start % 7)),.r (i64 (m.out % 3)),.r .ns]),(5,.box [.r (i64 201),.os 128 (vs 128) 3 0 l.length]),(128,.arr 90 3 (l.map bedR)),(158,.arr 78 2 ((aimsN m i).map aimR))]) (fun _=>True) 0 (zj [] ?_ ?_) (Nat.zero_le _) trivial ?_
             · try simp only [go_sem]
               rfl
             · try simp only [go_sem]
             · intro j vs hj _
               have hfl:=front_le (bedN x) l
               by_cases hjN : j < (frontB (bedN x) l).length
               · obtain ⟨c,hc1,hc2,hc3⟩:=front_get hjN
                 have hjl : j < l.length:=by omega
                 repeat refine zq ?_
                 refine zb fun K hK=>?_;simp only [go_sem,hc1,hc3,hjl,bedR,List.headD_cons];(try simp (disch:=omega) only [zI]);repeat first | intro _ | refine ⟨by omega,?_⟩
                 refine hK _ ?_;clear hK K;refine zw (zk [1,2,3,4,5,6,7,8,9,10,11,85]) ?_;simp only [go_sem]
                 repeat refine zq ?_
                 refine zc rfl (fun hc=>?_) (fun hc=>?_) <;> (try simp only [go_sem] at hc)
                 refine zx ?_
                 try simp only [go_sem]
                 repeat refine zq ?_
                 refine zd ?_
                 have hts : ((frontB (bedN x) l).take (j + 1)).any (fun c=>decide (c.b = bedN x)) = (((frontB (bedN x) l).take j).any (fun c=>decide (c.b = bedN x)) || decide (c.b = bedN x)):=by
                  rw [List.take_add_one,hc2]; simp
                 have hj1 : IntKind.i64.wrap ((j : Int) + 1) = ((j + 1 : Nat) : Int):=by rw [zI] <;> omega
                 cases hA : ((frontB (bedN x) l).take j).any (fun c=>decide (c.b = bedN x)) with
                 | true =>
                   rw [hA,Bool.true_or] at hts
                   repeat refine zq ?_
                   refine zb fun K hK=>?_;simp only [go_sem];(try simp (disch:=omega) only [zI]);repeat first | intro _ | refine ⟨by omega,?_⟩
                   refine hK _ ?_;clear hK K;refine zw (zk [1,2,3,4,5,6,7,8,9,10,11]) ?_;simp only [go_sem]
                   repeat refine zq ?_
                   refine zb fun K hK=>?_;simp only [go_sem];(try simp (disch:=omega) only [zI]);repeat first | intro _ | refine ⟨by omega,?_⟩
                   refine hK _ ?_;clear hK K
                   try simp only [go_sem]
                   refine ⟨hjN,zj [] ?_ ?_⟩
                   · try simp only [go_sem]
                     simpa using hts
                   · try simp only [go_sem]
                 | false =>
                   rw [hA,Bool.false_or] at hts
                   repeat refine zq ?_
                   refine zb fun K hK=>?_;simp only [go_sem,hc1,hjl,bedR,List.headD_cons];(try simp (disch:=omega) only [zI]);repeat first | intro _ | refine ⟨by omega,?_⟩
                   refine hK _ ?_;clear hK K;refine zw (zk [1,2,3,4,5,6,7,8,9,10,11]) ?_;simp only [go_sem]
                   repeat refine zq ?_
                   refine zb fun K hK=>?_;simp only [go_sem];(try simp (disch:=omega) only [zI]);repeat first | intro _ | refine ⟨by omega,?_⟩
                   refine hK _ ?_;clear hK K
                   try simp only [go_sem]
                   refine ⟨hjN,zj [] ?_ ?_⟩
                   · try simp only [go_sem]
                     rw [hts]; rfl
                   · try simp only [go_sem]
               · have hjN : j = (frontB (bedN x) l).length:=by omega
                 have hft : (frontB (bedN x) l).take j = frontB (bedN x) l:=by rw [hjN]; exact List.take_length
                 rw [hft]
                 generalize hany : (frontB (bedN x) l).any (fun c=>decide (c.b = bedN x)) = an at *
                 repeat refine zq ?_
                 refine awp_joinV (n:=205) (fun (_ : Unit) vs=>[(1,.r (.rp (mtC m))),(2,.pt 2 (vs 2) 0),(3,.pt 3 (vs 3) 0),(4,.r (i64 i)),(5,.pt 5 (vs 5) 0),(6,.r (i64 left)),(7,.r (i64 (k : Int))),(8,.r (.rp [it8 x,it8 y,it8 z])),(9,.r (i64 (bedN x))),(10,.r (i64 (j : Int))),(11,.r (.bo an)),(85,.r (.bo false))])
                  (fun _ vs=>[(2,.box [.r (i64 0),.r .ns,.r (i64 0),.r (i64 0),.r .ns]),(3,.box [.r (i64 (4 + m.den)),.os 158 (vs 158) 2 0 i,.r (i64 (2 + m.start % 7)),.r (i64 (m.out % 3)),.r .ns]),(5,.box [.r (i64 201),.os 128 (vs 128) 3 0 l.length]),(128,.arr 90 3 (l.map bedR)),(158,.arr 78 2 ((aimsN m i).map aimR))]) (fun _=>True) (fun _ h=>h) ?_ ?_
                 · by_cases hjl : j < l.length
                   · obtain ⟨c,hc1⟩:=opt_of_lt hjl
                     have hgt : bedN x < c.b:=front_end (by rw [← hjN]; exact hc1)
                     have hcle : (decide (c.b ≤ bedN x)) = false:=by simp; omega
                     repeat refine zq ?_
                     refine zb fun K hK=>?_;simp only [go_sem,hc1,hjl,hcle,bedR,List.headD_cons];(try simp (disch:=omega) only [zI]);repeat first | intro _ | refine ⟨by omega,?_⟩
                     refine hK _ ?_;clear hK K
                     try simp only [go_sem]
                     exact ⟨(),zj [] (by try simp only [go_sem]) (by try simp only [go_sem])⟩
                   · repeat refine zq ?_
                     refine zb fun K hK=>?_;simp only [go_sem,hjl];(try simp (disch:=omega) only [zI]);repeat first | intro _ | refine ⟨by omega,?_⟩
                     refine hK _ ?_;clear hK K
                     try simp only [go_sem]
                     exact ⟨(),zj [] (by try simp only [go_sem]) (by try simp only [go_sem])⟩
                 intro _ vs _
                 repeat refine zq ?_
                 refine zc rfl (fun hc=>?_) (fun hc=>?_) <;> (try simp only [go_sem] at hc)
                 refine zf ?_;simp only [go_sem]
                 repeat refine zq ?_
                 refine zb fun K hK=>?_;simp only [go_sem];(try simp (disch:=omega) only [zI]);repeat first | intro _ | refine ⟨by omega,?_⟩
                 refine hK _ ?_;clear hK K;refine zw (zk [1,2,3,4,5,6,7,8,9,10,99]) ?_;simp only [go_sem]
                 repeat refine zq ?_
                 refine zc rfl (fun hc=>?_) (fun hc=>?_) <;> (try simp only [go_sem] at hc)
                 · have hnx2 : stB (4 + m.den) e (k + 1) = (l,left):=by
                    rw [hnx]
                    simp [addB,hany,hc]
                   refine zf ?_;simp only [go_sem]
                   repeat refine zq ?_
                   refine zb fun K hK=>?_;simp only [go_sem];(try simp (disch:=omega) only [zI]);repeat first | intro _ | refine ⟨by omega,?_⟩
                   refine hK _ ?_;clear hK K
                   try simp only [go_sem]
                   refine ⟨hkN,zj [] ?_ ?_⟩
                   · try simp only [go_sem]
                     simp [hnx2]
                   · try simp only [go_sem]
                     simp [hnx2]
                 · have hll:=beds_left hst
                   simp only at hll
                   have hlf0 : 0 ≤ left:=hst.left0
                   have hly0 : 0 ≤ left * y:=Int.mul_nonneg hlf0 vy0
                   have hly : left * y ≤ 259 * 255:=Int.mul_le_mul (by omega) vy1 vy0 (by omega)
                   have hnx2 : stB (4 + m.den) e (k + 1) = (l.take (frontB (bedN x) l).length ++ (⟨bedN x,left * y / 512,min (4 + m.den) (left * y / 512 + z % 50)⟩ :: l.drop (frontB (bedN x) l).length),left - left * y / 512):=by
                    rw [hnx]
                    simp [addB,hany,hc]
                   have w1 : IntKind.i64.wrap (left * y) = left * y:=by rw [zI] <;> omega
                   have w2 : IntKind.i64.wrap ((left * y).tdiv 512) = left * y / 512:=by rw [Int.tdiv_eq_ediv_of_nonneg hly0,zI] <;> omega
                   have w3 : z.tmod 50 = z % 50:=Int.tmod_eq_emod_of_nonneg vz0
                   have w4 : IntKind.i64.wrap y = y:=by rw [zI] <;> omega
                   have w5 : IntKind.i64.wrap z = z:=by rw [zI] <;> omega
                   have hlo0 : 0 ≤ left * y / 512 ∧ left * y / 512 ≤ 200:=by omega
                   refine zx ?_
                   try simp only [go_sem]
                   repeat refine zq ?_
                   refine zb fun K hK=>?_;simp only [go_sem,w1,w2,w4];(try simp (disch:=omega) only [zI]);repeat first | intro _ | refine ⟨by omega,?_⟩
                   refine hK _ ?_;clear hK K
                   generalize hlow : left * y / 512 = low at *
                   refine zw (zk [1,2,3,4,5,6,7,8,9,10,12]) ?_;simp only [go_sem]
                   repeat refine zq ?_
                   refine zb fun K hK=>?_;simp only [go_sem,w3,w5];(try simp (disch:=omega) only [zI]);repeat first | intro _ | refine ⟨by omega,?_⟩
                   refine hK _ ?_;clear hK K;refine zw (sub_frzP 13 13 [i64 (bedN x),i64 low,i64 (min (4 + m.den) (low + z % 50))] (by omega) rfl rfl) ?_;refine zw (zk [1,2,3,4,5,6,7,10,12,13]) ?_;simp only [go_sem]
                   repeat refine zq ?_
                   refine zb fun K hK=>?_;simp only [go_sem];(try simp (disch:=omega) only [zI]);repeat first | intro _ | refine ⟨by omega,?_⟩
                   refine hK _ ?_;clear hK K;refine zw (zk [1,2,3,4,5,6,7,10,13]) ?_;simp only [go_sem];refine zw (sub_frzB 5 1 128 (by omega) (by omega) rfl rfl rfl (by simp)) ?_
                   try simp only [go_sem]
                   have hfl2:=front_le (bedN x) l
                   have hjl : j ≤ l.length:=by omega
                   have hmin : min j l.length = j:=by omega
                   have hj1 : j + 1 + (l.length - j) = l.length + 1:=by omega
                   have ha1 : ∀ n : Nat,n + 1 - 1 = n:=fun n=>by omega
                   have ha2 : ∀ n : Nat,n + 1 - 2 = n - 1:=fun n=>by omega
                   have hcb : (⟨bedN x,low,min (4 + m.den) (low + z % 50)⟩ : Bd) = (⟨bedN x,low,min (4 + m.den) (low + z % 50)⟩ : Bd):=rfl
                   generalize hcd : (⟨bedN x,low,min (4 + m.den) (low + z % 50)⟩ : Bd) = c at hcb
                   have hcR : [i64 (bedN x),i64 low,i64 (min (4 + m.den) (low + z % 50))] = bedR c:=by rw [← hcd]; rfl
                   rw [hcR]
                   repeat refine zq ?_
                   refine awp_inv (n:=205) (ibF (mtC m) i k j (left - low) c l) (ibR (4 + m.den) (2 + m.start % 7) (m.out % 3) i j ((aimsN m i).map aimR) c l) follows (by kernel_rfl) (by kernel_rfl) (by decide +kernel) (zj [] ?_ ?_) ?_ ?_
                   · simp only [go_sem,ibF,vI,if_true,if_false,Bool.false_eq_true]
                   · simp only [go_sem,ibR]
                   · refine ⟨fun b vs hdn hbk hde=>?_,fun b vs hdn hbk hde=>?_,fun b vs hdn hbk hde=>?_,fun b vs hdn hbk hde=>?_,fun b vs hdn hbk hde=>?_,fun b vs hdn hbk hde=>?_,fun b vs hdn hbk hde=>?_,fun b vs hdn hbk hde=>?_,fun b vs hdn hbk hde=>?_,fun b vs hdn hbk hde=>?_,fun b vs hdn hbk hde=>?_,fun b vs hdn hbk hde=>?_,fun b vs hdn hbk hde=>?_,fun b vs hdn hbk hde=>?_,fun b vs hdn hbk hde=>?_,fun b vs hdn hbk hde=>?_,trivial⟩
                     · skip
                       have G:=dnT hdn hbk [5,14,15,8,13] (by decide +kernel)
                       simp only [allB,and_true] at G
                       (simp only [go_sem,ibF,ibR,upd,vI,cond_true,cond_false,if_true,Bool.false_eq_true,if_false,hbk,G,hmin,Nat.sub_zero,hj1,bedR,List.length_map,List.length_take,List.length_drop,List.length_append,List.length_cons,List.length_nil,Nat.zero_add])
                       all_goals (refine zj [] ?_ ?_ <;> (simp only [go_sem,ibF,ibR,upd,vI,cond_true,cond_false,if_true,Bool.false_eq_true,if_false,hbk,G,hj1,ha1,ha2,Nat.sub_zero,List.append_assoc,List.cons_append,List.nil_append,bedR]))
                     · skip
                       have G:=dnT hdn hbk [2,14,15,4,5,8,13] (by decide +kernel)
                       simp only [allB,and_true] at G
                       (simp only [go_sem,ibF,ibR,upd,vI,cond_true,cond_false,if_true,Bool.false_eq_true,if_false,hbk,G,hmin,Nat.sub_zero,hj1,bedR,List.length_map,List.length_take,List.length_drop,List.length_append,List.length_cons,List.length_nil,Nat.zero_add])
                       all_goals (refine zj [] ?_ ?_ <;> (simp only [go_sem,ibF,ibR,upd,vI,cond_true,cond_false,if_true,Bool.false_eq_true,if_false,hbk,G,hj1,ha1,ha2,Nat.sub_zero,List.append_assoc,List.cons_append,List.nil_append,bedR]))
                     · skip
                       have H:=upT hdn hde [1] (by decide +kernel)
                       have G:=dnT hdn hbk [4,14,15,5,8,13] (by decide +kernel)
                       simp only [allB,and_true] at H G
                       (simp only [go_sem,ibF,ibR,upd,vI,cond_true,cond_false,if_true,Bool.false_eq_true,if_false,hbk,H,G,hmin,Nat.sub_zero,hj1,bedR,List.length_map,List.length_take,List.length_drop,List.length_append,List.length_cons,List.length_nil,Nat.zero_add])
                       all_goals (refine zj [] ?_ ?_ <;> (simp only [go_sem,ibF,ibR,upd,vI,cond_true,cond_false,if_true,Bool.false_eq_true,if_false,hbk,H,G,hj1,ha1,ha2,Nat.sub_zero,List.append_assoc,List.cons_append,List.nil_append,bedR]))
                     · skip
                       have G:=dnT hdn hbk [4,14,15,5,8,13] (by decide +kernel)
                       simp only [allB,and_true] at G
                       (simp only [go_sem,ibF,ibR,upd,vI,cond_true,cond_false,if_true,Bool.false_eq_true,if_false,hbk,G,hmin,Nat.sub_zero,hj1,bedR,List.length_map,List.length_take,List.length_drop,List.length_append,List.length_cons,List.length_nil,Nat.zero_add])
                       all_goals (refine zj [] ?_ ?_ <;> (simp only [go_sem,ibF,ibR,upd,vI,cond_true,cond_false,if_true,Bool.false_eq_true,if_false,hbk,G,hj1,ha1,ha2,Nat.sub_zero,List.append_assoc,List.cons_append,List.nil_append,bedR]))
                     · skip
                       have H:=upT hdn hde [2,3,1] (by decide +kernel)
                       have G:=dnT hdn hbk [5,14,15,8,13] (by decide +kernel)
                       simp only [allB,and_true] at H G
                       (simp only [go_sem,ibF,ibR,upd,vI,cond_true,cond_false,if_true,Bool.false_eq_true,if_false,hbk,H,G,hmin,Nat.sub_zero,hj1,bedR,List.length_map,List.length_take,List.length_drop,List.length_append,List.length_cons,List.length_nil,Nat.zero_add])
                       all_goals refine ⟨by omega,?_⟩
                       all_goals (refine zj [] ?_ ?_ <;> (simp only [go_sem,ibF,ibR,upd,vI,cond_true,cond_false,if_true,Bool.false_eq_true,if_false,hbk,H,G,hj1,ha1,ha2,Nat.sub_zero,List.append_assoc,List.cons_append,List.nil_append,bedR]))
                     · skip
                       have H:=upT hdn hde [0,4,2,3,1] (by decide +kernel)
                       have G:=dnT hdn hbk [8,14,15,13] (by decide +kernel)
                       simp only [allB,and_true] at H G
                       (simp only [go_sem,ibF,ibR,upd,vI,cond_true,cond_false,if_true,Bool.false_eq_true,if_false,hbk,H,G,hmin,Nat.sub_zero,hj1,bedR,List.length_map,List.length_take,List.length_drop,List.length_append,List.length_cons,List.length_nil,Nat.zero_add])
                       all_goals refine ⟨by omega,?_⟩
                       all_goals (refine zj [] ?_ ?_ <;> (simp only [go_sem,ibF,ibR,upd,vI,cond_true,cond_false,if_true,Bool.false_eq_true,if_false,hbk,H,G,hj1,ha1,ha2,Nat.sub_zero,List.append_assoc,List.cons_append,List.nil_append,bedR]))
                     · skip
                       have G:=dnT hdn hbk [7,14,15,8,13] (by decide +kernel)
                       simp only [allB,and_true] at G
                       cases g5 : b 5
                       all_goals (simp only [go_sem,ibF,ibR,upd,vI,cond_true,cond_false,if_true,Bool.false_eq_true,if_false,hbk,G,g5,hmin,Nat.sub_zero,hj1,bedR,List.length_map,List.length_take,List.length_drop,List.length_append,List.length_cons,List.length_nil,Nat.zero_add])
                       all_goals (refine zj [] ?_ ?_ <;> (simp only [go_sem,ibF,ibR,upd,vI,cond_true,cond_false,if_true,Bool.false_eq_true,if_false,hbk,G,g5,hj1,ha1,ha2,Nat.sub_zero,List.append_assoc,List.cons_append,List.nil_append,bedR]))
                     · skip
                       have H:=upT hdn hde [6] (by decide +kernel)
                       have G:=dnT hdn hbk [8,14,15,13] (by decide +kernel)
                       simp only [allB,and_true] at H G
                       cases g5 : b 5
                       all_goals (simp only [go_sem,ibF,ibR,upd,vI,cond_true,cond_false,if_true,Bool.false_eq_true,if_false,hbk,H,G,g5,hmin,Nat.sub_zero,hj1,bedR,List.length_map,List.length_take,List.length_drop,List.length_append,List.length_cons,List.length_nil,Nat.zero_add])
                       all_goals (refine zj [] ?_ ?_ <;> (simp only [go_sem,ibF,ibR,upd,vI,cond_true,cond_false,if_true,Bool.false_eq_true,if_false,hbk,H,G,g5,hj1,ha1,ha2,Nat.sub_zero,List.append_assoc,List.cons_append,List.nil_append,bedR]))
                     · skip
                       have H:=upT hdn hde [5,7,0,4,6,2,3,1] (by decide +kernel)
                       have G:=dnT hdn hbk [13,14,15] (by decide +kernel)
                       simp only [allB,and_true] at H G
                       (simp only [go_sem,ibF,ibR,upd,vI,cond_true,cond_false,if_true,Bool.false_eq_true,if_false,hbk,H,G,hmin,Nat.sub_zero,hj1,bedR,List.length_map,List.length_take,List.length_drop,List.length_append,List.length_cons,List.length_nil,Nat.zero_add])
                       all_goals refine ⟨by omega,?_⟩
                       all_goals (refine zj [] ?_ ?_ <;> (simp only [go_sem,ibF,ibR,upd,vI,cond_true,cond_false,if_true,Bool.false_eq_true,if_false,hbk,H,G,hj1,ha1,ha2,Nat.sub_zero,List.append_assoc,List.cons_append,List.nil_append,bedR]))
                     · skip
                       have G:=dnT hdn hbk [10,14,15,12,13] (by decide +kernel)
                       simp only [allB,and_true] at G
                       cases g5 : b 5 <;> cases g8 : b 8
                       all_goals (simp only [go_sem,ibF,ibR,upd,vI,cond_true,cond_false,if_true,Bool.false_eq_true,if_false,hbk,G,g5,g8,hmin,Nat.sub_zero,hj1,bedR,List.length_map,List.length_take,List.length_drop,List.length_append,List.length_cons,List.length_nil,Nat.zero_add])
                       all_goals (refine zj [] ?_ ?_ <;> (simp only [go_sem,ibF,ibR,upd,vI,cond_true,cond_false,if_true,Bool.false_eq_true,if_false,hbk,G,g5,g8,hj1,ha1,ha2,Nat.sub_zero,List.append_assoc,List.cons_append,List.nil_append,bedR]))
                     · skip
                       have H:=upT hdn hde [9] (by decide +kernel)
                       have G:=dnT hdn hbk [12,14,15,13] (by decide +kernel)
                       simp only [allB,and_true] at H G
                       cases g5 : b 5 <;> cases g8 : b 8
                       all_goals (simp only [go_sem,ibF,ibR,upd,vI,cond_true,cond_false,if_true,Bool.false_eq_true,if_false,hbk,H,G,g5,g8,hmin,Nat.sub_zero,hj1,bedR,List.length_map,List.length_take,List.length_drop,List.length_append,List.length_cons,List.length_nil,Nat.zero_add])
                       all_goals (refine zj [] ?_ ?_ <;> (simp only [go_sem,ibF,ibR,upd,vI,cond_true,cond_false,if_true,Bool.false_eq_true,if_false,hbk,H,G,g5,g8,hj1,ha1,ha2,Nat.sub_zero,List.append_assoc,List.cons_append,List.nil_append,bedR]))
                     · skip
                       have G:=dnT hdn hbk [12,14,15,13] (by decide +kernel)
                       simp only [allB,and_true] at G
                       cases g5 : b 5 <;> cases g8 : b 8
                       all_goals (simp only [go_sem,ibF,ibR,upd,vI,cond_true,cond_false,if_true,Bool.false_eq_true,if_false,hbk,G,g5,g8,hmin,Nat.sub_zero,hj1,bedR,List.length_map,List.length_take,List.length_drop,List.length_append,List.length_cons,List.length_nil,Nat.zero_add])
                       all_goals (refine zj [] ?_ ?_ <;> (simp only [go_sem,ibF,ibR,upd,vI,cond_true,cond_false,if_true,Bool.false_eq_true,if_false,hbk,G,g5,g8,hj1,ha1,ha2,Nat.sub_zero,List.append_assoc,List.cons_append,List.nil_append,bedR]))
                     · skip
                       have H:=upT hdn hde [10,11,9] (by decide +kernel)
                       have G:=dnT hdn hbk [13,14,15] (by decide +kernel)
                       simp only [allB,and_true] at H G
                       cases g5 : b 5 <;> cases g8 : b 8
                       all_goals (simp only [go_sem,ibF,ibR,upd,vI,cond_true,cond_false,if_true,Bool.false_eq_true,if_false,hbk,H,G,g5,g8,hmin,Nat.sub_zero,hj1,bedR,List.length_map,List.length_take,List.length_drop,List.length_append,List.length_cons,List.length_nil,Nat.zero_add])
                       all_goals refine ⟨by omega,?_⟩
                       all_goals (refine zj [] ?_ ?_ <;> (simp only [go_sem,ibF,ibR,upd,vI,cond_true,cond_false,if_true,Bool.false_eq_true,if_false,hbk,H,G,g5,g8,hj1,ha1,ha2,Nat.sub_zero,List.append_assoc,List.cons_append,List.nil_append,bedR]))
                     · skip
                       have H:=upT hdn hde [8,12,5,7,10,11,0,4,6,9,2,3,1] (by decide +kernel)
                       have G:=dnT hdn hbk [14,15] (by decide +kernel)
                       simp only [allB,and_true] at H G
                       (simp only [go_sem,ibF,ibR,upd,vI,cond_true,cond_false,if_true,Bool.false_eq_true,if_false,hbk,H,G,hmin,Nat.sub_zero,hj1,bedR,List.length_map,List.length_take,List.length_drop,List.length_append,List.length_cons,List.length_nil,Nat.zero_add])
                       all_goals refine ⟨by omega,?_⟩
                       all_goals (refine zj [] ?_ ?_ <;> (simp only [go_sem,ibF,ibR,upd,vI,cond_true,cond_false,if_true,Bool.false_eq_true,if_false,hbk,H,G,hj1,ha1,ha2,Nat.sub_zero,List.append_assoc,List.cons_append,List.nil_append,bedR]))
                     · skip
                       have H:=upT hdn hde [0,1,2,3,4,5,6,7,8,9,10,11,12,13] (by decide +kernel)
                       have G:=dnT hdn hbk [15] (by decide +kernel)
                       simp only [allB,and_true] at H G
                       (simp only [go_sem,ibF,ibR,upd,vI,cond_true,cond_false,if_true,Bool.false_eq_true,if_false,hbk,H,G,hmin,Nat.sub_zero,hj1,bedR,List.length_map,List.length_take,List.length_drop,List.length_append,List.length_cons,List.length_nil,Nat.zero_add])
                       all_goals (refine zj [] ?_ ?_ <;> (simp only [go_sem,ibF,ibR,upd,vI,cond_true,cond_false,if_true,Bool.false_eq_true,if_false,hbk,H,G,hj1,ha1,ha2,Nat.sub_zero,List.append_assoc,List.cons_append,List.nil_append,bedR]))
                     · skip
                       have H:=upT hdn hde [0,1,2,3,4,5,6,7,8,9,10,11,12,13,14] (by decide +kernel)
                       simp only [allB,and_true] at H
                       (simp only [go_sem,ibF,ibR,upd,vI,cond_true,cond_false,if_true,Bool.false_eq_true,if_false,hbk,H,hmin,Nat.sub_zero,hj1,bedR,List.length_map,List.length_take,List.length_drop,List.length_append,List.length_cons,List.length_nil,Nat.zero_add])
                       all_goals (refine zj [] ?_ ?_ <;> (simp only [go_sem,ibF,ibR,upd,vI,cond_true,cond_false,if_true,Bool.false_eq_true,if_false,hbk,H,hj1,ha1,ha2,Nat.sub_zero,List.append_assoc,List.cons_append,List.nil_append,bedR]))
                   · intro b vs hb
                     have fb : ∀ j v,vI b j v = v:=fun j v=>by rw [vI,if_pos (hb j)]
                     have hk1 : IntKind.i64.wrap ((k : Int) + 1) = ((k + 1 : Nat) : Int):=by rw [zI] <;> omega
                     have hlen : (l.take j ++ c :: l.drop j).length = l.length + 1:=by simp; omega
                     rw [hcd,← hjN] at hnx2
                     simp only [go_sem,ibF,ibR,fb,hb 15,cond_true];refine zw (zk [1,2,3,4,5,6,7]) ?_;simp only [go_sem]
                     repeat refine zq ?_
                     refine zb fun K hK=>?_;simp only [go_sem,hk1];(try simp (disch:=omega) only [zI]);repeat first | intro _ | refine ⟨by omega,?_⟩
                     refine hK _ ?_;clear hK K
                     try simp only [go_sem]
                     refine ⟨hkN,zj [] ?_ ?_⟩
                     · try simp only [go_sem]
                       simp [hnx2]
                     · try simp only [go_sem]
                       simp [hnx2,hmin]
                       omega
           · have hkN' : k = N:=by
              have : ¬ k < N:=by simpa using hc
              omega
             have hB : (stB (4 + m.den) e k).1 = bedsM m i ∧ (stB (4 + m.den) e k).1.length ≤ 4:=by
              by_cases hiL : i < m.aims.length
              · obtain ⟨he1,he2,he3⟩:=heL hiL
                rw [if_pos hiL] at hN
                have hst:=(stB_ok (den:=4 + m.den) (by omega) he3 k).2
                refine ⟨?_,by omega⟩
                rw [hkN',hN]
                simp only [bedsM,if_pos hiL,hee]
              · rw [if_neg hiL] at hN
                rw [hkN',hN]
                simp [bedsM,if_neg hiL,stB]
             generalize (stB (4 + m.den) e k).2 = left
             generalize (stB (4 + m.den) e k).1 = bs at hB ⊢
             obtain ⟨hB,hB4⟩:=hB
             have hfin : aimM m i = ⟨201,finB (4 + m.den) bs⟩:=by rw [hB]; rfl
             have hsucc:=aimsN_succ m i
             have hi1 : IntKind.i64.wrap ((i : Int) + 1) = ((i + 1 : Nat) : Int):=by rw [zI] <;> omega
             have hml : i < 3:=by omega
             have hal : (aimsN m i).length = i:=by simp [aimsN]
             refine zf ?_;simp only [go_sem]
             repeat refine zq ?_
             refine zb fun K hK=>?_;simp only [go_sem];(try simp (disch:=omega) only [zI]);repeat first | intro _ | refine ⟨by omega,?_⟩
             refine hK _ ?_;clear hK K;refine zw (zk [1,2,3,4,5,141]) ?_;simp only [go_sem]
             cases bs with
             | nil =>
               repeat refine zq ?_
               refine zc rfl (fun hc=>?_) (fun hc=>?_) <;> (try simp only [go_sem] at hc)
               repeat refine zq ?_
               refine awp_long ?_
               refine sops_take 1 (by kernel_rfl) fun K hK=>?_
               simp only [go_sem,List.take_succ_cons,List.take_zero,List.drop_succ_cons,List.drop_zero,List.append_eq,List.cons_append,List.nil_append];(try simp (disch:=omega) only [zI]);repeat first | intro _ | refine ⟨by omega,?_⟩
               refine hK _ rfl ?_
               clear hK K
               refine sops_litB (by simp [go_sem]) ?_
               simp only [go_sem,sLitBox,lay,List.replicate_succ,List.replicate_zero,List.flatten_cons,List.flatten_nil,List.map_cons,List.map_nil,List.cons_append,List.nil_append]
               repeat first | refine ⟨by omega,?_⟩
               refine sops_end (by kernel_rfl) fun K hK=>?_
               simp only [go_sem,List.drop_succ_cons,List.drop_zero,List.append_eq,List.cons_append,List.nil_append];(try simp (disch:=omega) only [zI]);repeat first | intro _ | refine ⟨by omega,?_⟩
               refine hK _ ?_;clear hK K;refine zw (sub_arr 143 [[i64 201,i64 0,i64 0]] rfl (by rfl) (by simp) (by omega)) ?_;refine zw (zk [1,2,3,4,5]) ?_;simp only [go_sem]
               repeat refine zq ?_
               refine zb fun K hK=>?_;simp only [go_sem];(try simp (disch:=omega) only [zI]);repeat first | intro _ | refine ⟨by omega,?_⟩
               refine hK _ ?_;clear hK K;refine zw (zk [1,2,3,4,5]) ?_;simp only [go_sem];refine zw (sub_frzB 5 1 143 (by omega) (by omega) rfl rfl rfl (by simp)) ?_
               try simp only [go_sem]
               repeat refine zq ?_
               refine zb fun K hK=>?_;simp only [go_sem,hal,List.length_map];(try simp (disch:=omega) only [zI]);repeat first | intro _ | refine ⟨by omega,?_⟩
               refine hK _ ?_;clear hK K;refine zw (zk [1,2,3,4]) ?_;simp only [go_sem]
               repeat refine zq ?_
               refine zb fun K hK=>?_;simp only [go_sem,hi1];(try simp (disch:=omega) only [zI]);repeat first | intro _ | refine ⟨by omega,?_⟩
               refine hK _ ?_;clear hK K
               try simp only [go_sem]
               refine ⟨i + 1,by omega,by omega,zj [5,128] ?_ ?_⟩
               · try simp only [go_sem]
               · rw [hsucc,hfin]
                 try simp only [go_sem]
                 simp [aimR,bedR,finB]
             | cons c rest =>
               repeat refine zq ?_
               refine zc rfl (fun hc=>?_) (fun hc=>?_) <;> (try simp only [go_sem] at hc)
               · exfalso
                 omega
               refine zx ?_
               try simp only [go_sem]
               repeat refine zq ?_
               refine zb fun K hK=>?_;simp only [go_sem,bedR];(try simp (disch:=omega) only [zI]);repeat first | intro _ | refine ⟨by omega,?_⟩
               refine hK _ ?_;clear hK K;refine zw (zk [1,2,3,4,5]) ?_;simp only [go_sem];refine zw (sub_frzB 5 1 128 (by omega) (by omega) rfl rfl rfl (by simp)) ?_
               try simp only [go_sem]
               repeat refine zq ?_
               refine zb fun K hK=>?_;simp only [go_sem,hal,List.length_map];(try simp (disch:=omega) only [zI]);repeat first | intro _ | refine ⟨by omega,?_⟩
               refine hK _ ?_;clear hK K;refine zw (zk [1,2,3,4]) ?_;simp only [go_sem]
               repeat refine zq ?_
               refine zb fun K hK=>?_;simp only [go_sem,hi1];(try simp (disch:=omega) only [zI]);repeat first | intro _ | refine ⟨by omega,?_⟩
               refine hK _ ?_;clear hK K
               try simp only [go_sem]
               refine ⟨i + 1,by omega,by omega,zj [5,128] ?_ ?_⟩
               · try simp only [go_sem]
               · rw [hsucc,hfin]
                 try simp only [go_sem]
                 simp [aimR,bedR,finB]
     · have : i = aimN m:=by
        have : ¬ i < aimN m:=by simpa using hc
        omega
       subst this
       have hal : (aimsN m (aimN m)).length = aimN m:=by simp [aimsN]
       refine zw (sub_frzB 3 1 158 (by omega) (by omega) rfl rfl rfl (by simp [aimsN])) ?_;refine zf ?_;simp only [go_sem]
       try simp only [go_sem]
       refine zw (sub_ownB 3 4 196 52 2 (by omega) (by omega) rfl rfl) ?_
       repeat refine zq ?_
       refine zb fun K hK=>?_;simp only [go_sem];(try simp (disch:=omega) only [zI]);repeat first | intro _ | refine ⟨by omega,?_⟩
       refine hK _ ?_;clear hK K;refine zw (zk [1,2,3,14]) ?_;simp only [go_sem]
       repeat refine zq ?_
       refine zd ?_
       have hE1 : ∀ e ∈ m.ends,0 ≤ e.1 * 15 ∧ e.1 * 15 ≤ 1000000:=fun e he=>by
        have:=(hw.ends e he).1
        omega
       refine awp_uptoV (n:=205) (min 3 m.ends.length) (fun k vs=>[(1,.r (.rp (mtC m))),(2,.pt 2 (vs 2) 0),(3,.pt 3 (vs 3) 0),(14,.r (i64 (k : Int)))])
        (fun k vs=>[(2,.box [.r (i64 0),.r .ns,.r (i64 0),.r (i64 0),.r .ns]),(3,.box [.r (i64 (4 + m.den)),.r (aimsR (ruM m).aims),.r (i64 (2 + m.start % 7)),.r (i64 (m.out % 3)),.os 196 (vs 196) 2 0 k]),(196,.arr 52 2 (((m.ends.take k).map endM).map spanR))]) (fun _=>True) 0 (zj [] ?_ ?_) (Nat.zero_le _) trivial ?_
       · try simp only [go_sem]
       · try simp only [go_sem]
         rw [show List.take (aimN m) (List.map aimR (aimsN m (aimN m))) = List.map aimR (ruM m).aims from List.take_of_length_le (by simp [aimsN])]
       · intro k vs hk _
         repeat refine zq ?_
         refine awp_joinV (n:=205) (fun (_ : Unit) vs=>[(1,.r (.rp (mtC m))),(2,.pt 2 (vs 2) 0),(3,.pt 3 (vs 3) 0),(14,.r (i64 (k : Int))),(169,.r (.bo (decide (k < min 3 m.ends.length))))])
          (fun _ vs=>[(2,.box [.r (i64 0),.r .ns,.r (i64 0),.r (i64 0),.r .ns]),(3,.box [.r (i64 (4 + m.den)),.r (aimsR (ruM m).aims),.r (i64 (2 + m.start % 7)),.r (i64 (m.out % 3)),.os 196 (vs 196) 2 0 k]),(196,.arr 52 2 (((m.ends.take k).map endM).map spanR))]) (fun _=>True) (fun _ h=>h) ?_ ?_
         · repeat refine zq ?_
           refine zb fun K hK=>?_;simp only [go_sem];(try simp (disch:=omega) only [zI])
           repeat' first | intro _ | refine And.intro ?_ ?_
           all_goals first | omega | skip
           all_goals (refine hK _ ?_; clear hK K)
           all_goals (try simp only [go_sem])
           all_goals (refine ⟨(),zj [] ?_ ?_⟩ <;> try simp only [go_sem])
           all_goals (rw [Bool.eq_iff_iff]; simp; omega)
         · intro _ vs _
           repeat refine zq ?_
           refine zc rfl (fun hc=>?_) (fun hc=>?_) <;> (try simp only [go_sem] at hc)
           · have hkl : k < min 3 m.ends.length:=by simpa using hc
             obtain ⟨e,he⟩:=opt_of_lt (show k < m.ends.length by omega)
             obtain ⟨⟨a0,a1⟩,b0,b1⟩:=hw.ends e (mem_of_opt he)
             have hel : (m.ends.take k).length = k:=by simp; omega
             have ht : m.ends.take (k + 1) = m.ends.take k ++ [e]:=by rw [List.take_add_one,he]; rfl
             have v1 : IntKind.i64.wrap e.1 = e.1:=by rw [zI] <;> omega
             have v2 : IntKind.i64.wrap e.2 = e.2:=by rw [zI] <;> omega
             have hk1 : IntKind.i64.wrap ((k : Int) + 1) = ((k + 1 : Nat) : Int):=by rw [zI] <;> omega
             refine zx ?_
             try simp only [go_sem]
             repeat refine zq ?_
             refine zd ?_
             repeat refine zq ?_
             refine zb fun K hK=>?_;simp only [go_sem,he,v1];(try simp (disch:=omega) only [zI]);repeat first | intro _ | refine ⟨by omega,?_⟩
             refine hK _ ?_;clear hK K;refine zw (zk [1,2,3,14,15]) ?_;simp only [go_sem]
             repeat refine zq ?_
             refine awp_dreg3 [(1,none),(3,some 3),(14,none),(15,none)] [3] follows (by decide +kernel) (by kernel_rfl) (by simp only [keysOk,List.mem_cons,List.not_mem_nil,forall_eq_or_imp,Oc.keyOf,go_sem]; simp) (by intro k hk; simp only [List.mem_cons,List.not_mem_nil,or_false] at hk; first | (subst hk; exact ⟨_,rfl⟩) | (rcases hk with rfl | rfl <;> exact ⟨_,rfl⟩) | (rcases hk with rfl | rfl | rfl <;> exact ⟨_,rfl⟩)) fun K hK=>?_
             simp only [go_sem,he,v2,List.length_map,hel];(try simp (disch:=omega) only [zI]);repeat first | intro _ | refine ⟨by omega,?_⟩
             refine hK _ ?_;clear hK K;refine zw (zk [1,2,3,14]) ?_;simp only [go_sem]
             repeat refine zq ?_
             refine zb fun K hK=>?_;simp only [go_sem,hk1];(try simp (disch:=omega) only [zI]);repeat first | intro _ | refine ⟨by omega,?_⟩
             refine hK _ ?_;clear hK K
             try simp only [go_sem]
             refine ⟨hkl,zj [] ?_ ?_⟩
             · try simp only [go_sem]
             · try simp only [go_sem]
               simp [ht,endM,spanR]
           · have hkl : k = min 3 m.ends.length:=by
              have : ¬ k < min 3 m.ends.length:=by simpa using hc
              omega
             have hel : (m.ends.take k).length = k:=by simp; omega
             have htk : m.ends.take k = m.ends.take 3:=by
              rw [List.take_eq_take_iff]
              omega
             refine zf ?_;simp only [go_sem]
             have hkm : min k m.ends.length = k:=by omega
             repeat refine zq ?_
             refine awp_dreg3 [(3,some 3)] [3] follows (by decide +kernel) (by kernel_rfl) (by simp only [keysOk,List.mem_cons,List.not_mem_nil,forall_eq_or_imp,Oc.keyOf,go_sem]; simp) (by intro k hk; simp only [List.mem_cons,List.not_mem_nil,or_false] at hk; first | (subst hk; exact ⟨_,rfl⟩) | (rcases hk with rfl | rfl <;> exact ⟨_,rfl⟩) | (rcases hk with rfl | rfl | rfl <;> exact ⟨_,rfl⟩)) fun K hK=>?_
             simp only [go_sem,List.length_map,hkm];(try simp (disch:=omega) only [zI])
             refine zh (hone) rfl (by simp only [go_sem,i64,ints,List.length_map,hkm]) (by simp only [go_sem,i64,ints,List.length_map,hkm]) (by first | exact .inl rfl | exact .inr rfl) ?_
             (try simp only [go_sem,List.length_map,hkm]);(try simp (disch:=omega) only [zI]);repeat first | intro _ | refine ⟨by omega,?_⟩
             refine hK _ ?_;clear hK K;refine zw (zk [2,3]) ?_;simp only [go_sem]
             have hen : (m.ends.take k).map endM ++ [(1000000,1000000)] = (ruM m).ends:=by rw [htk]; rfl
             have hel2 : (ruM m).ends.length = k + 1:=by rw [← hen]; simp [hkm]
             repeat refine zq ?_
             refine zb fun K hK=>?_;simp only [go_sem];(try simp (disch:=omega) only [zI]);repeat first | intro _ | refine ⟨by omega,?_⟩
             refine hK _ ?_;clear hK K;refine zw (zk [2]) ?_;simp only [go_sem]
             refine awp_fitV (F:=fun vs=>[(2,.pt 2 (vs 2) 0)]) (R:=fun vs=>[(2,.box [.r (i64 (ruM m).d),.r (aimsR (ruM m).aims),.r (i64 (ruM m).start),.r (i64 (ruM m).out),.os 196 (vs 196) 2 0 (ruM m).ends.length]),(196,.arr 52 2 ((ruM m).ends.map spanR))]) (zj [3] ?_ ?_) hQ
             · try simp only [go_sem]
             · try simp only [go_sem]
               rw [hel2,← hen,List.map_append]
               rfl
theorem mrules_ok (m : Mt) (hw : WfM m) : ACalls Try.prog 32 [.ag (mtC m)] (ruV (ruM m)):=by
 obtain ⟨c,hc,hwalk⟩:=mrules_walk m hw
 refine acalls_st (rs:=[ruV (ruM m)]) [.cell 2 28] Try.func32 hc (by kernel_rfl) Try.ntmps32 rfl (by simp) rfl fun C vs=>hwalk C vs _ fun vs=>?_
 refine zw (sub_frzB 2 4 196 (by omega) (by omega) rfl rfl rfl (by simp)) ?_
 try simp only [go_sem]
 refine ze ?_;simp only [go_sem]
theorem seqOk_of : ∀ {l : List Bd} {p : Option Int},l.Pairwise (fun a b=>a.b < b.b) → (∀ c ∈ l,c.b = 0 ∨ bedOk c.b = true) → (∀ q,p = some q → ∀ c ∈ l,q < c.b) → seqOk p l = true
 | [],_,_,_,_=>by simp [seqOk]
 | c :: l, p, hp, hb, hq => by
   obtain ⟨h1,h2⟩:=List.pairwise_cons.1 hp
   have ih:=seqOk_of (p:=some c.b) h2 (fun x hx=>hb x (by simp [hx])) fun q e x hx=>by injection e with e; subst e; exact h1 x hx
   have hc:=hb c (by simp)
   unfold seqOk
   rw [ih,Bool.and_true,Bool.and_eq_true]
   refine ⟨by simpa using hc,?_⟩
   cases p with
   | none=>rfl
   | some q=>simpa using hq q rfl c (by simp)
theorem bedsM_ok (m : Mt) (hw : WfM m) (i : Nat) : BedsI (4 + m.den) ((bedsM m i),4 + m.den - loS (bedsM m i)) ∧ (bedsM m i).length ≤ 4:=by
 obtain ⟨d0,d1⟩:=hw.den
 unfold bedsM
 split
 · rename_i h
   obtain ⟨e,he⟩:=opt_of_lt h
   have e2 : m.aims.getD i [] = e:=by simp [List.getD,he]
   rw [e2]
   obtain ⟨h1,h2⟩:=stB_ok (den:=4 + m.den) (by omega) (hw.aims e (mem_of_opt he)).2 4
   have hs:=h1.sum
   have h0:=h1.left0
   exact ⟨⟨h1.up,h1.ok,by simp only; omega,by simp only; omega⟩,h2⟩
 · exact ⟨⟨by simp,by simp,by simp [loS],by simp only [loS,List.map_nil,List.sum_nil]; omega⟩,by simp⟩
theorem aimM_ok (m : Mt) (hw : WfM m) (i : Nat) : aimOk (4 + m.den) (aimM m i) = true ∧ WfA (aimM m i) ∧ (aimM m i).beds.length ≤ 4:=by
 obtain ⟨d0,d1⟩:=hw.den
 obtain ⟨h,h4⟩:=bedsM_ok m hw i
 unfold aimM
 generalize bedsM m i = l at *
 have key : ∀ k : List Bd,k ≠ [] → k.length ≤ 4 → k.Pairwise (fun a b=>a.b < b.b) → (∀ c ∈ k,(c.b = 0 ∨ bedOk c.b = true) ∧ 0 ≤ c.lo ∧ c.lo ≤ c.hi ∧ c.hi ≤ 4 + m.den) → loS k ≤ 4 + m.den → 4 + m.den ≤ hiS k →
  aimOk (4 + m.den) ⟨201,k⟩ = true ∧ WfA ⟨201,k⟩ ∧ k.length ≤ 4:=fun k hne hl hp hc hlo hhi=>by
  refine ⟨?_,⟨by unfold I64; simp only; omega,fun c hx=>?_⟩,hl⟩
  · have h1 : seqOk none k = true:=seqOk_of hp (fun c hx=>(hc c hx).1) fun q e=>by cases e
    have h2 : chOk (4 + m.den) k = true:=by
     simp only [chOk,List.all_eq_true,Bool.and_eq_true,decide_eq_true_eq];exact fun c hx=>⟨⟨(hc c hx).2.1,(hc c hx).2.2.1⟩,(hc c hx).2.2.2⟩
    simp only [aimOk,h1,h2,Bool.and_true,Bool.and_eq_true,decide_eq_true_eq]
    refine ⟨⟨⟨by decide,?_⟩,hlo⟩,hhi⟩
    cases k with
    | nil=>exact absurd rfl hne
    | cons c k=>rfl
  · obtain ⟨g1,g2,g3,g4⟩:=hc c hx
    have hb : 0 ≤ c.b ∧ c.b ≤ 499:=by
     rcases g1 with g | g
     · omega
     · exact bedOk_le g
    unfold I64
    omega
 cases l with
 | nil =>
   refine key [⟨201,0,4 + m.den⟩] (by simp) (by simp) (by simp) (fun c hc=>?_) (by simp [loS]; omega) (by simp [hiS])
   simp only [List.mem_singleton] at hc
   subst hc
   exact ⟨.inr (show bedOk 201 = true by decide),by simp only; omega,by simp only; omega,by simp only; omega⟩
 | cons c l =>
   have hs:=h.sum
   have hl0:=h.left0
   have hup:=List.pairwise_cons.1 h.up
   have hc:=h.ok c (by simp)
   simp only at hs hl0
   have hlo : loS ((⟨c.b,c.lo,4 + m.den⟩ : Bd) :: l) = loS (c :: l):=by simp [loS]
   have hhi : 4 + m.den ≤ hiS ((⟨c.b,c.lo,4 + m.den⟩ : Bd) :: l):=by
    have : ∀ k : List Bd,(∀ x ∈ k,0 ≤ x.hi) → 0 ≤ hiS k:=by
     intro k
     induction k with
     | nil=>intro _; simp [hiS]
     | cons x k ih=>intro hk; have h1:=hk x (by simp); have h2:=ih fun y hy=>hk y (by simp [hy]); simp only [hiS,List.map_cons,List.sum_cons] at h2 ⊢; omega
    have h3:=this l fun x hx=>by have:=(h.ok x (by simp [hx])).2; omega
    simp only [hiS,List.map_cons,List.sum_cons] at h3 ⊢
    omega
   refine key (⟨c.b,c.lo,4 + m.den⟩ :: l) (by simp) (by simpa using h4) (List.pairwise_cons.2 ⟨hup.1,hup.2⟩) (fun x hx=>?_) (by rw [hlo]; omega) hhi
   rcases List.mem_cons.1 hx with rfl | hx
   · exact ⟨hc.1,hc.2.1,by simp only; omega,by simp only; omega⟩
   · exact h.ok x (by simp [hx])
theorem ruM_wf (m : Mt) (hw : WfM m) : WfR (ruM m):=by
 obtain ⟨d0,d1⟩:=hw.den
 refine ⟨⟨by unfold I64; simp only [ruM]; omega,fun a ha=>?_⟩⟩
 obtain ⟨i,_,rfl⟩:=List.mem_map.1 (show a ∈ (List.range (aimN m)).map (aimM m) from ha)
 exact (aimM_ok m hw i).2.1
theorem ends_ok (m : Mt) (hw : WfM m) : ∀ x ∈ (ruM m).ends,endOk x = true:=fun x hx=>by
 rcases List.mem_append.1 (show x ∈ ((m.ends.take 3).map endM) ++ [(1000000,1000000)] from hx) with hx | hx
 · obtain ⟨e,he,rfl⟩:=List.mem_map.1 hx
   obtain ⟨⟨a0,a1⟩,b0,b1⟩:=hw.ends e (List.mem_of_mem_take he)
   simp only [endOk,endM,withinL,List.all_cons,List.all_nil,Bool.and_true,Bool.and_eq_true,decide_eq_true_eq]
   refine ⟨?_,⟨?_,?_⟩,?_,?_⟩
   · exact decide_eq_true (by omega)
   all_goals omega
 · simp only [List.mem_singleton] at hx
   subst hx
   decide
theorem ruM_ok (m : Mt) (hw : WfM m) : ruE (ruM m) = 0:=by
 obtain ⟨d0,d1⟩:=hw.den
 have hc : checkV (ruM m).d (ruM m).aims = 0:=by
  have hn : 1 ≤ aimN m ∧ aimN m ≤ 3:=by unfold aimN; omega
  have h1 : (decide (20 < (ruM m).aims.length) || (ruM m).aims.any fun a=>decide (10 < a.beds.length)) = false:=by
   simp only [ruM,List.length_map,List.length_range,Bool.or_eq_false_iff,decide_eq_false_iff_not,List.any_eq_false]
   refine ⟨by omega,fun a ha=>?_⟩
   obtain ⟨i,_,rfl⟩:=List.mem_map.1 ha
   have:=(aimM_ok m hw i).2.2
   simp; omega
  have h2 : ((ruM m).aims.isEmpty || !(decide (1 ≤ (ruM m).d) && decide ((ruM m).d ≤ 3000))) = false:=by
   have e1 : (ruM m).aims.isEmpty = false:=by
    cases h : (ruM m).aims with
    | nil=>have:=congrArg List.length h; simp [ruM] at this; omega
    | cons=>rfl
   have e2 : 1 ≤ (ruM m).d ∧ (ruM m).d ≤ 3000:=by simp only [ruM]; omega
   rw [e1]
   simp only [Bool.false_or,Bool.not_eq_false',Bool.and_eq_true,decide_eq_true_eq];exact e2
  have h3 : (ruM m).aims.all (aimOk (ruM m).d) = true:=List.all_eq_true.2 fun a ha=>by
   obtain ⟨i,_,rfl⟩:=List.mem_map.1 (show a ∈ (List.range (aimN m)).map (aimM m) from ha)
   exact (aimM_ok m hw i).1
  simp only [checkV,h1,h2,h3,Bool.false_eq_true,if_false,if_true]
 have he:=List.all_eq_true.2 (ends_ok m hw)
 have hl : lastE (ruM m) = 1000000:=by
  unfold lastE
  simp [ruM]
 have s : 2 ≤ (ruM m).start ∧ (ruM m).start ≤ 40:=by simp only [ruM]; omega
 have o : 0 ≤ (ruM m).out ∧ (ruM m).out ≤ 2:=by simp only [ruM]; omega
 have n : 1 ≤ (ruM m).ends.length ∧ (ruM m).ends.length ≤ 10:=by simp only [ruM,List.length_append,List.length_map,List.length_take,List.length_singleton]; omega
 simp [ruE,hc,he,hl,s,o,n]
end Go.Proofs.Ytlbfkhikmigpbaa
