/- Part 9 of the texts of this claim. -/
import Derived.Test.YtlljkgiomkmjbaaVA8
namespace Go.Proofs.Ytlljkgiomkmjbaa.Tb
open Go Go.Oc
set_option linter.unusedSimpArgs false
set_option linter.unusedVariables false
set_option maxRecDepth 8000
set_option maxHeartbeats 4000000
def leftV (l : List Mt) : List Mt:=l.filter fun m=>!m.p
def ptsL (r : Tr) (l : List Mt) : List Int:=(rowsL r l).map (·.pts)
def startT (r : Tr) (l : List Mt) : Th:=⟨[],ptsL r l ++ List.replicate (10 - nT r) 0,List.replicate 10 0⟩
theorem ptsL_len (r : Tr) (l : List Mt) : (ptsL r l).length = nT r:=by simp [ptsL,rowsL]
theorem left_step {l : List Mt} {k : Nat} {m : Mt} (h : l[k]? = some m) : leftV (l.take (k + 1)) = leftV (l.take k) ++ (if m.p then [] else [m]):=by
 rw [take_of_opt h]
 unfold leftV
 rw [List.filter_append]
 cases hp : m.p <;> simp [hp]
theorem left_len (l : List Mt) : (leftV l).length ≤ l.length:=List.length_filter_le _ _
def ptsK (r : Tr) (l : List Mt) (i : Nat) : List Int:=(ptsL r l).take i ++ List.replicate (20 - i) 0
theorem ptsK_len {r : Tr} {l : List Mt} {i : Nat} (h : i ≤ nT r) (h2 : nT r ≤ 10) : (ptsK r l i).length = 20:=by
 unfold ptsK; rw [List.length_append,List.length_take,ptsL_len,List.length_replicate]; omega
theorem ptsK_set {r : Tr} {l : List Mt} {i : Nat} {v : Int} (h : (ptsL r l)[i]? = some v) (h2 : nT r ≤ 10) : (ptsK r l i).set i v = ptsK r l (i + 1):=by
 have hi:=(List.getElem?_eq_some_iff.1 h).1
 rw [ptsL_len] at hi
 unfold ptsK
 have hl : ((ptsL r l).take i).length = i:=by rw [List.length_take,ptsL_len]; omega
 rw [List.set_append_right _ _ (by omega),hl,Nat.sub_self,show 20 - i = (20 - (i + 1)) + 1 by omega,List.replicate_succ,List.set_cons_zero,take_of_opt h,List.append_assoc]
 rfl
theorem wf_start {r : Tr} (hr : RulesI r) {l : List Mt} (hl : ∀ m ∈ l,MatchI r m) (hll : l.length ≤ 180) : WfT 6000 (startT r l):=by
 obtain ⟨hn,hn2,hn10⟩:=nT_eq hr
 refine ⟨?_,by simp [startT],fun x hx=>?_,fun x hx=>?_,by simp [startT]⟩
 · simp only [startT,List.length_append,ptsL_len,List.length_replicate]; omega
 · simp only [startT] at hx
   rcases List.mem_append.1 hx with hx | hx
   · obtain ⟨y,hy,rfl⟩:=List.mem_map.1 hx
     obtain ⟨t,_,rfl⟩:=List.mem_map.1 hy
     have:=small_row hr hl t l.length (Nat.le_refl _)
     rw [List.take_length] at this
     have:=this.pts
     omega
   · have:=(List.mem_replicate.1 hx).2; omega
 · have:=(List.mem_replicate.1 hx).2; omega
theorem truths_it (r : Tr) (hr : RulesI r) (l : List Mt) (hl : ∀ m ∈ l,MatchI r m) (hll : l.length ≤ 180) :
 IBCalls Try.prog false 153 [dvV r l] ((truthsV r (leftV l) (startT r l)).map fun t=>[thV t]):=by
 obtain ⟨hn,hn2,hn10⟩:=nT_eq hr
 have hro:=rows_ok r l hr hl hll
 have hrl : (rowsL r l).length = nT r:=by simp [rowsL]
 refine ibcalls_st Try.func153 rfl (by kernel_rfl) Try.ntmps153 rfl (by simp) fun C ll=>?_
 obtain ⟨G,hG⟩ : ∃ G : RowC,G = .gh Try.prog ll false (some ((truthsV r (leftV l) (startT r l)).map fun t=>[thV t])):=⟨_,rfl⟩
 rw [← hG]
 repeat refine zq ?_
 refine zb fun K hK=>?_;simp only [go_sem,argL,List.cons_append,List.nil_append];(try simp (disch:=omega) only [zI]);repeat first | intro _ | refine ⟨by omega,?_⟩
 refine hK _ ?_;clear hK K;refine zw (sub_frzP 2 2 (dvC r l) (by omega) rfl rfl) ?_;refine zw (zk [1,2]) ?_;simp only [go_sem]
 repeat refine zq ?_
 refine zb fun K hK=>?_;simp only [go_sem];(try simp (disch:=omega) only [zI]);repeat first | intro _ | refine ⟨by omega,?_⟩
 refine hK _ ?_;clear hK K;refine zw (zk [1,2,4]) ?_;simp only [go_sem]
 repeat refine zq ?_
 refine zb fun K hK=>?_;simp only [go_sem];(try simp (disch:=omega) only [zI])
 refine zh (hro) rfl (by simp only [go_sem,i64,ints,hrl]) (by simp only [go_sem,i64,ints,hrl]) (by first | exact .inl rfl | exact .inr rfl) ?_
 (try simp only [go_sem,hrl]);(try simp (disch:=omega) only [zI])
 intro _
 repeat first | intro _ | refine ⟨by omega,?_⟩
 refine hK _ ?_;clear hK K;refine zw (zk [1,2,4,11,12,13]) ?_;simp only [go_sem]
 repeat refine zq ?_
 refine zd ?_
 refine awp_uptoV (n:=44) (nT r) (fun i vs=>[(1,.r (.yl ll)),(2,.r (.rp (dvC r l))),(4,.pt 4 (vs 4) 0),(11,.r (rwsR (rowsL r l))),(12,.r (i64 (nT r : Int))),(13,.r (i64 (i : Int)))])
  (fun i vs=>[(4,.box (.r .ns :: (ptsK r l i).map aI)),(999,G)]) (fun _=>True) 0 (zj [] ?_ ?_) (Nat.zero_le _) trivial ?_
 · try simp only [go_sem]
 · try simp only [go_sem]
   rfl
 · intro i vs hi _
   repeat refine zq ?_
   refine zb fun K hK=>?_;simp only [go_sem];(try simp (disch:=omega) only [zI]);repeat first | intro _ | refine ⟨by omega,?_⟩
   refine hK _ ?_;clear hK K;refine zw (zk [1,2,4,11,12,13,14]) ?_;simp only [go_sem]
   repeat refine zq ?_
   refine zc rfl (fun hc=>?_) (fun hc=>?_) <;> (try simp only [go_sem] at hc)
   · have hci : i < nT r:=by omega
     obtain ⟨x,hx⟩:=opt_of_lt (show i < (rowsL r l).length by omega)
     have hxp : (ptsL r l)[i]? = some x.pts:=by unfold ptsL; rw [List.getElem?_map,hx]; rfl
     have hset:=ptsK_set hxp hn10
     have hKl:=ptsK_len (r:=r) (l:=l) (i:=i) (by omega) hn10
     have hil : i < (rowsL r l).length:=by omega
     generalize ptsK r l i = L at hset hKl ⊢
     refine zx ?_
     try simp only [go_sem]
     repeat refine zq ?_
     refine zd ?_
     repeat refine zq ?_
     refine zb fun K hK=>?_;simp only [go_sem,hx,hil];(try simp (disch:=omega) only [zI]);repeat first | intro _ | refine ⟨by omega,?_⟩
     refine hK _ ?_;clear hK K;refine zw (sub_frzP 6 6 (rwR x) (by omega) rfl rfl) ?_;refine zw (zk [1,2,4,5,6,11,12,13]) ?_;simp only [go_sem]
     have d1 : ∀ M : List AV,List.drop (1 + i) (AV.r RV.ns :: M) = M.drop i:=fun M=>by rw [Nat.add_comm]; rfl
     have d2 : ∀ M : List AV,List.take (1 + i) (AV.r RV.ns :: M) = AV.r RV.ns :: M.take i:=fun M=>by rw [Nat.add_comm]; rfl
     have d3 : ∀ M : List AV,List.drop (1 + i + 1) (AV.r RV.ns :: M) = M.drop (i + 1):=fun M=>by rw [show 1 + i + 1 = (i + 1) + 1 by omega]; rfl
     have dM : ∀ v,List.take i (L.map aI) ++ (AV.r (i64 v) :: List.drop (i + 1) (L.map aI)) = (L.set i v).map aI:=fun v=>set_cells _ _ _ (by omega)
     repeat refine zq ?_
     refine zb fun K hK=>?_;simp only [go_sem,Nat.mul_one,d1,d2,d3,dM];(try simp (disch:=omega) only [zI]);repeat first | intro _ | refine ⟨by omega,?_⟩
     repeat first | intro _ | refine ⟨by omega,?_⟩
     refine hK _ ?_;clear hK K;refine zw (zk [1,2,4,11,12,13]) ?_;simp only [go_sem]
     repeat refine zq ?_
     refine zb fun K hK=>?_;simp only [go_sem];(try simp (disch:=omega) only [zI]);repeat first | intro _ | refine ⟨by omega,?_⟩
     refine hK _ ?_;clear hK K
     try simp only [go_sem]
     refine ⟨by omega,zj [] ?_ ?_⟩
     · try simp only [go_sem]
     · try simp only [go_sem]
       rw [hset]
   · have hin : i = nT r:=by omega
     subst hin
     refine zf ?_;simp only [go_sem];refine zw (zk [1,2,4]) ?_;simp only [go_sem]
     repeat refine zq ?_
     refine zb fun K hK=>?_;simp only [go_sem];(try simp (disch:=omega) only [zI]);repeat first | intro _ | refine ⟨by omega,?_⟩
     refine hK _ ?_;clear hK K;refine zw (zk [1,2,4,7]) ?_;simp only [go_sem]
     repeat refine zq ?_
     refine zb fun K hK=>?_;simp only [go_sem];(try simp (disch:=omega) only [zI])
     intro _
     repeat first | intro _ | refine ⟨by omega,?_⟩
     refine hK _ ?_;clear hK K;refine zw (sub_own 7 37 120 5 (by omega) rfl) ?_
     try simp only [go_sem]
     refine zw (zk [1,2,4,7,25,26,27]) ?_;simp only [go_sem]
     repeat refine zq ?_
     refine zd ?_
     refine awp_uptoV (n:=44) l.length (fun k vs=>[(1,.r (.yl ll)),(2,.r (.rp (dvC r l))),(4,.pt 4 (vs 4) 0),(7,.os 37 (vs 37) 5 0 (leftV (l.take k)).length),(25,.r (mtsR l)),(26,.r (i64 (l.length : Int))),(27,.r (i64 (k : Int)))])
      (fun k vs=>[(4,.box (.r .ns :: (ptsK r l (nT r)).map aI)),(37,.arr 120 5 ((leftV (l.take k)).map mtR)),(999,G)]) (fun _=>True) 0 (zj [] ?_ ?_) (Nat.zero_le _) trivial ?_
     · try simp only [go_sem]
       rfl
     · try simp only [go_sem]
       rfl
     · intro k vs hk _
       repeat refine zq ?_
       refine zb fun K hK=>?_;simp only [go_sem];(try simp (disch:=omega) only [zI]);repeat first | intro _ | refine ⟨by omega,?_⟩
       refine hK _ ?_;clear hK K;refine zw (zk [1,2,4,7,25,26,27,28]) ?_;simp only [go_sem]
       repeat refine zq ?_
       refine zc rfl (fun hc=>?_) (fun hc=>?_) <;> (try simp only [go_sem] at hc)
       · have hck : k < l.length:=by omega
         obtain ⟨m,hm⟩:=opt_of_lt hck
         have hls:=left_step hm
         have hll2:=left_len (l.take k)
         rw [List.length_take] at hll2
         refine zx ?_
         try simp only [go_sem]
         repeat refine zq ?_
         refine zd ?_
         repeat refine zq ?_
         refine zb fun K hK=>?_;simp only [go_sem,hm,hck];(try simp (disch:=omega) only [zI]);repeat first | intro _ | refine ⟨by omega,?_⟩
         refine hK _ ?_;clear hK K;refine zw (sub_frzP 9 9 (mtR m) (by omega) rfl rfl) ?_;refine zw (zk [1,2,4,7,9,25,26,27]) ?_;simp only [go_sem]
         repeat refine zq ?_
         refine zb fun K hK=>?_;simp only [go_sem];(try simp (disch:=omega) only [zI]);repeat first | intro _ | refine ⟨by omega,?_⟩
         refine hK _ ?_;clear hK K;refine zw (zk [1,2,4,7,9,25,26,27,33]) ?_;simp only [go_sem]
         repeat refine zq ?_
         refine awp_joinV (n:=44) (fun (_ : Unit) vs=>[(1,.r (.yl ll)),(2,.r (.rp (dvC r l))),(4,.pt 4 (vs 4) 0),(7,.os 37 (vs 37) 5 0 (leftV (l.take (k + 1))).length),(25,.r (mtsR l)),(26,.r (i64 (l.length : Int))),(27,.r (i64 (k : Int)))])
          (fun _ vs=>[(4,.box (.r .ns :: (ptsK r l (nT r)).map aI)),(37,.arr 120 5 ((leftV (l.take (k + 1))).map mtR)),(999,G)]) (fun _=>True) (fun _ h=>h) ?_ ?_
         · repeat refine zq ?_
           refine zc rfl (fun hc=>?_) (fun hc=>?_) <;> (try simp only [go_sem] at hc)
           · have hmp : m.p = false:=by simpa using hc
             repeat refine zq ?_
             refine zb fun K hK=>?_;simp only [go_sem];(try simp (disch:=omega) only [zI]);repeat first | intro _ | refine ⟨by omega,?_⟩
             refine hK _ ?_;clear hK K
             refine ⟨(),trivial,zj [] ?_ ?_⟩
             · try simp only [go_sem]
               rw [hls]; simp [hmp]
             · try simp only [go_sem]
               rw [hls]; simp [hmp]
           · have hmp : m.p = true:=by simpa using hc
             refine zx ?_
             try simp only [go_sem]
             refine ⟨(),zj [] ?_ ?_⟩
             · try simp only [go_sem]
               rw [hls]; simp [hmp]
             · try simp only [go_sem]
               rw [hls]; simp [hmp]
         intro _ vs _
         repeat refine zq ?_
         refine zb fun K hK=>?_;simp only [go_sem];(try simp (disch:=omega) only [zI]);repeat first | intro _ | refine ⟨by omega,?_⟩
         refine hK _ ?_;clear hK K
         try simp only [go_sem]
         refine ⟨by omega,zj [] ?_ ?_⟩
         · try simp only [go_sem]
         · try simp only [go_sem]
       · have hkl : k = l.length:=by omega
         subst hkl
         rw [List.take_length]
         refine zf ?_;simp only [go_sem]
         have hls:=left_len l
         refine zw (sub_frz 7 37 (ty:=120) (sz:=5) (off:=0) (m:=(leftV l).length) (es:=(leftV l).map mtR) (by omega) rfl (by rfl) (by simp)) ?_
         have e2 : (((leftV l).map mtR).drop 0).take (leftV l).length = (leftV l).map mtR:=by
          rw [List.drop_zero,List.take_of_length_le (by simp)]
         rw [e2]
         have hcell : AV.r RV.ns :: (ptsK r l (nT r)).map aI = (RV.ns :: (ptsK r l (nT r)).map fun x=>i64 x).map AV.r:=by simp [Function.comp_def]
         rw [hcell]
         refine zw (sub_frzP 4 4 (RV.ns :: (ptsK r l (nT r)).map fun x=>i64 x) (by omega) rfl rfl) ?_;refine zw (zk [1,2,4,7]) ?_;simp only [go_sem]
         have hKl:=ptsK_len (r:=r) (l:=l) (i:=nT r) (by omega) hn10
         have hlen : (RV.ns :: (ptsK r l (nT r)).map fun x=>i64 x).length = 21:=by simp [hKl]
         have htk : List.take 21 (RV.ns :: (ptsK r l (nT r)).map fun x=>i64 x) = RV.ns :: (ptsK r l (nT r)).map fun x=>i64 x:=List.take_of_length_le (by omega)
         have hstart : thC (startT r l) = ints [] :: (ptsK r l (nT r)).map fun x=>i64 x:=by
          unfold thC startT ptsK
          rw [List.take_of_length_le (by rw [ptsL_len]; exact Nat.le_refl _),List.append_assoc,List.replicate_append_replicate,show 10 - nT r + 10 = 20 - nT r by omega]
         have hfo:=follow_ok r hr l (leftV l) 6000 (startT r l) (fun m hm=>hl m (List.mem_filter.1 hm).1) (by omega) (by omega) (by simp [startT]; omega) (wf_start hr hl hll)
         repeat refine zq ?_
         refine awp_long ?_
         refine sops_take 4 (by kernel_rfl) fun K hK=>?_
         simp only [go_sem,List.take_succ_cons,List.take_zero,List.drop_succ_cons,List.drop_zero,List.append_eq,List.cons_append,List.nil_append,hlen,htk];(try simp (disch:=omega) only [zI]);repeat first | intro _ | refine ⟨by omega,?_⟩
         refine hK _ rfl ?_
         clear hK K
         refine sops_sub (zk [39,40,41,42]) ?_
         simp only [go_sem]
         refine sops_gop rfl (by intro t h; injection h with h; subst h; show 43 < 44; decide) (by intro c h; cases h) ?_
         refine gop_ycall rfl (F:=209) (cs:=[]) (ar:=fun ll=>[dvV r l,thV (startT r l),mtsR (leftV l),.yl ll]) (xs:=(truthsV r (leftV l) (startT r l)).map fun t=>[thV t]) (rest:=[]) (ll:=ll) rfl (by rw [List.append_nil,← hG]; simp only [go_sem]) (by rfl) ?_ hfo ?_ ?_
         · simp only [go_sem];rw [hstart]
           simp only [RV.leL,RV.le,List.map_nil,and_true,leL_refl,or_true,true_or]
           done
         · rw [row999_st]
           simp only [go_sem]
           refine sops_end (by kernel_rfl) fun K hK=>?_
           simp only [go_sem,List.drop_succ_cons,List.drop_zero,List.append_eq,List.cons_append,List.nil_append];(try simp (disch:=omega) only [zI]);refine hK _ ?_;exact ⟨ll,false,.inl rfl⟩
         · rw [row999_st]
           simp only [go_sem]
           refine sops_end (by kernel_rfl) fun K hK=>?_
           simp only [go_sem,List.drop_succ_cons,List.drop_zero,List.append_eq,List.cons_append,List.nil_append];(try simp (disch:=omega) only [zI]);refine hK _ ?_;exact ⟨ll,false,.inr rfl⟩
abbrev spR (x : Int × Int) : List RV:=[i64 x.1,i64 x.2]
def plS (t : Th) (x : Nat) (s : Int × Int) (i : Nat) : Int × Int :=
 (s.1 + (if t.pts.getD x 0 < t.pts.getD i 0 then 1 else 0),s.2 + (if i ≠ x ∧ t.pts.getD x 0 ≤ t.pts.getD i 0 then 1 else 0))
def placesV (n : Nat) (t : Th) (x : Nat) : Int × Int:=(List.range n).foldl (plS t x) (1,1)
theorem places_succ (n : Nat) (t : Th) (x : Nat) : placesV (n + 1) t x = plS t x (placesV n t x) n:=by simp [placesV,List.range_succ]
theorem places_le (t : Th) (x : Nat) : ∀ n,(1 ≤ (placesV n t x).1 ∧ (placesV n t x).1 ≤ 1 + n) ∧ 1 ≤ (placesV n t x).2 ∧ (placesV n t x).2 ≤ 1 + n
 | 0=>by simp [placesV]
 | n + 1 => by
   have ih:=places_le t x n
   rw [places_succ]
   unfold plS
   simp only
   split <;> split <;> omega
theorem places_ok (r : Tr) (hr : RulesI r) (l : List Mt) (t : Th) {B : Int} (ht : WfT B t) (x : Nat) (hx : x < nT r) : ACalls Try.prog 154 [dvV r l,thV t,i64 (x : Int)] (.ag (spR (placesV (nT r) t x))):=by
 obtain ⟨hn,hn2,hn10⟩:=nT_eq hr
 have h21:=thC_len ht
 have hpl:=ht.pl
 have hwl:=ht.wl
 have htk : List.take 21 (thC t) = thC t:=List.take_of_length_le (by omega)
 have hdr : List.drop 1 (thC t) = (t.pts ++ t.won).map fun x=>i64 x:=rfl
 refine acalls_st (rs:=[.ag (spR (placesV (nT r) t x))]) [.cell 6 30] Try.func154 rfl (by kernel_rfl) Try.ntmps154 rfl (by simp) rfl fun C vs=>?_
 repeat refine zq ?_
 refine zb fun K hK=>?_;simp only [go_sem,h21];(try simp (disch:=omega) only [zI]);repeat first | intro _ | refine ⟨by omega,?_⟩
 refine hK _ ?_;clear hK K;refine zw (sub_frzP 3 3 (dvC r l) (by omega) rfl rfl) ?_;refine zw (sub_frzP 4 4 (thC t) (by omega) rfl rfl) ?_;refine zw (zk [2,3,4,6]) ?_;simp only [go_sem]
 repeat refine zq ?_
 refine zb fun K hK=>?_;simp only [go_sem];(try simp (disch:=omega) only [zI]);repeat first | intro _ | refine ⟨by omega,?_⟩
 refine hK _ ?_;clear hK K;refine zw (zk [2,3,4,6,7]) ?_;simp only [go_sem]
 repeat refine zq ?_
 refine awp_long ?_
 refine sops_take 4 (by kernel_rfl) fun K hK=>?_
 simp only [go_sem,List.take_succ_cons,List.take_zero,List.drop_succ_cons,List.drop_zero,List.append_eq,List.cons_append,List.nil_append,hdr];(try simp (disch:=omega) only [zI]);repeat first | intro _ | refine ⟨by omega,?_⟩
 refine hK _ rfl ?_
 clear hK K
 refine sops_sub (zk [2,4,6,7,11,14]) ?_
 simp only [go_sem]
 refine sops_gop rfl (by intro t h; injection h with h; subst h; show 15 < 49; decide) (by intro c h; cases h) (gop_sliceTo rfl ty294 (cs:=(t.pts ++ t.won).map fun x=>i64 x) (q:=nT r) rfl (k:=.i64) (by rw [hn]; rfl) (by omega) (by simp [hpl,hwl]) (by simp [maxLen]) ?_)
 have hch : chunk 1 (nT r) ((t.pts ++ t.won).map fun x=>i64 x) = (t.pts.take (nT r)).map fun x=>[i64 x]:=by
  rw [chunk_one _ _ (by simp [hpl,hwl]; omega),← List.map_take,List.map_map,List.take_append_of_le_length (by omega)]
  rfl
 rw [hch]
 have hpt : ((t.pts.take (nT r)).map fun x=>[i64 x]).length = nT r:=by simp [hpl]; omega
 have hptl : (t.pts.take (nT r)).length = nT r:=by simp [hpl]; omega
 try simp only [go_sem]
 refine sops_end (by kernel_rfl) fun K hK=>?_
 simp only [go_sem,List.drop_succ_cons,List.drop_zero,List.append_eq,List.cons_append,List.nil_append];(try simp (disch:=omega) only [zI])
 try simp only [hptl]
 intro _
 repeat first | intro _ | refine ⟨by omega,?_⟩
 refine hK _ ?_;clear hK K;refine zw (zk [2,4,6,7,15,16,17]) ?_;simp only [go_sem]
 try simp only [hptl]
 have hxl : x < t.pts.length:=by omega
 have hlk : ∀ (i : Nat),i < 10 → (List.drop i ((t.pts ++ t.won).map fun x=>i64 x)).headD RV.un = i64 (t.pts.getD i 0):=fun i hi=>by
  rw [List.headD_eq_head?_getD,List.head?_drop,List.getElem?_map,List.getElem?_append_left (by omega),List.getD_eq_getElem?_getD,List.getElem?_eq_getElem (by omega)]; rfl
 have hlx:=hlk x (by omega)
 repeat refine zq ?_
 refine zd ?_
 refine awp_uptoV (n:=49) (nT r) (fun i vs=>[(2,.r (i64 (x : Int))),(4,.r (.rp (thC t))),(6,.pt 6 (vs 6) 0),(7,.pt 7 (vs 7) 0),(15,.r (ints (t.pts.take (nT r)))),(16,.r (i64 (nT r : Int))),(17,.r (i64 (i : Int)))])
  (fun i vs=>[(6,.box [.r (i64 0),.r (i64 0)]),(7,.box [.r (i64 (placesV i t x).1),.r (i64 (placesV i t x).2)])]) (fun _=>True) 0 (zj [] ?_ ?_) (Nat.zero_le _) trivial ?_
 · try simp only [go_sem]
   rw [show min (nT r) t.pts.length = nT r by omega]
 · try simp only [go_sem]
   try rfl
 · intro i vs hi _
   repeat refine zq ?_
   refine zb fun K hK=>?_;simp only [go_sem];(try simp (disch:=omega) only [zI]);repeat first | intro _ | refine ⟨by omega,?_⟩
   refine hK _ ?_;clear hK K;refine zw (zk [2,4,6,7,15,16,17,18]) ?_;simp only [go_sem]
   repeat refine zq ?_
   refine zc rfl (fun hc=>?_) (fun hc=>?_) <;> (try simp only [go_sem] at hc)
   · have hci : i < nT r:=by omega
     obtain ⟨v,hv⟩:=opt_of_lt (show i < t.pts.length by omega)
     have hvD : t.pts.getD i 0 = v:=by rw [List.getD_eq_getElem?_getD,hv]; rfl
     have hvt : (t.pts.take (nT r))[i]? = some v:=by rw [List.getElem?_take,if_pos hci,hv]
     have hil : i < (t.pts.take (nT r)).length:=by omega
     have hpb:=places_le t x i
     have hps:=places_succ i t x
     unfold plS at hps
     rw [hvD] at hps
     refine zx ?_
     try simp only [go_sem]
     repeat refine zq ?_
     refine zd ?_
     repeat refine zq ?_
     refine zb fun K hK=>?_;simp only [go_sem,hvt,hil,hptl,hci];(try simp (disch:=omega) only [zI]);repeat first | intro _ | refine ⟨by omega,?_⟩
     refine hK _ ?_;clear hK K;refine zw (zk [2,4,6,7,8,9,15,16,17]) ?_;simp only [go_sem]
     obtain ⟨u,hu⟩ : ∃ u,u = t.pts.getD x 0:=⟨_,rfl⟩
     rw [← hu] at hps hlx
     have hx10 : (x : Int) < 10:=by omega
     have hx10' : x < 10:=by omega
     have hlen20 : ((t.pts ++ t.won).map fun x=>i64 x).length = 20:=by simp [hpl,hwl]
     repeat refine zq ?_
     refine zb fun K hK=>?_;simp only [go_sem,hdr,hlx,Nat.mul_one,hlen20,List.length_append,hpl,hwl,List.length_drop];(try simp (disch:=omega) only [zI]);repeat first | intro _ | refine ⟨by omega,?_⟩
     repeat first | intro _ | refine ⟨by omega,?_⟩
     refine hK _ ?_;clear hK K;refine zw (zk [2,4,6,7,8,9,15,16,17,27]) ?_;simp only [go_sem]
     repeat refine zq ?_
     refine awp_joinV (n:=49) (fun (_ : Unit) vs=>[(2,.r (i64 (x : Int))),(4,.r (.rp (thC t))),(6,.pt 6 (vs 6) 0),(7,.pt 7 (vs 7) 0),(8,.r (i64 (i : Int))),(9,.r (i64 v)),(15,.r (ints (t.pts.take (nT r)))),(16,.r (i64 (nT r : Int))),(17,.r (i64 (i : Int)))])
      (fun _ vs=>[(6,.box [.r (i64 0),.r (i64 0)]),(7,.box [.r (i64 (placesV (i + 1) t x).1),.r (i64 (placesV i t x).2)])]) (fun _=>True) (fun _ h=>h) ?_ ?_
     · repeat refine zq ?_
       refine zc rfl (fun hc=>?_) (fun hc=>?_) <;> (try simp only [go_sem] at hc)
       · have hc' : u < v:=hc
         repeat refine zq ?_
         refine zb fun K hK=>?_;simp only [go_sem];(try simp (disch:=omega) only [zI]);repeat first | intro _ | refine ⟨by omega,?_⟩
         refine hK _ ?_;clear hK K
         refine ⟨(),trivial,zj [] ?_ ?_⟩
         · try simp only [go_sem]
         · try simp only [go_sem]
           rw [hps,if_pos hc']
       · have hc' : ¬ u < v:=hc
         refine zx ?_
         try simp only [go_sem]
         refine ⟨(),zj [] ?_ ?_⟩
         · try simp only [go_sem]
         · try simp only [go_sem]
           rw [hps,if_neg hc',Int.add_zero]
     intro _ vs _
     repeat refine zq ?_
     refine awp_joinV (n:=49) (fun (_ : Unit) vs=>[(2,.r (i64 (x : Int))),(4,.r (.rp (thC t))),(6,.pt 6 (vs 6) 0),(7,.pt 7 (vs 7) 0),(15,.r (ints (t.pts.take (nT r)))),(16,.r (i64 (nT r : Int))),(17,.r (i64 (i : Int))),(42,.r (.bo (decide (i ≠ x ∧ u ≤ v))))])
      (fun _ vs=>[(6,.box [.r (i64 0),.r (i64 0)]),(7,.box [.r (i64 (placesV (i + 1) t x).1),.r (i64 (placesV i t x).2)])]) (fun _=>True) (fun _ h=>h) ?_ ?_
     · by_cases hix : i = x
       · have e1 : ((i : Int) != (x : Int)) = false:=by simp [hix]
         repeat refine zq ?_
         refine zb fun K hK=>?_;simp only [go_sem,e1];(try simp (disch:=omega) only [zI]);repeat first | intro _ | refine ⟨by omega,?_⟩
         refine hK _ ?_;clear hK K
         refine ⟨(),trivial,zj [] ?_ ?_⟩
         · try simp only [go_sem]
           simp [hix]
         · try simp only [go_sem]
       · have e1 : ((i : Int) != (x : Int)) = true:=by simp; omega
         repeat refine zq ?_
         refine zb fun K hK=>?_;simp only [go_sem,e1,hdr,hlx,Nat.mul_one,hlen20,List.length_append,hpl,hwl,List.length_drop];(try simp (disch:=omega) only [zI]);repeat first | intro _ | refine ⟨by omega,?_⟩
         repeat first | intro _ | refine ⟨by omega,?_⟩
         refine hK _ ?_;clear hK K
         refine ⟨(),trivial,zj [] ?_ ?_⟩
         · try simp only [go_sem]
           simp [hix]
         · try simp only [go_sem]
     intro _ vs _
     repeat refine zq ?_
     refine awp_joinV (n:=49) (fun (_ : Unit) vs=>[(2,.r (i64 (x : Int))),(4,.r (.rp (thC t))),(6,.pt 6 (vs 6) 0),(7,.pt 7 (vs 7) 0),(15,.r (ints (t.pts.take (nT r)))),(16,.r (i64 (nT r : Int))),(17,.r (i64 (i : Int)))])
      (fun _ vs=>[(6,.box [.r (i64 0),.r (i64 0)]),(7,.box [.r (i64 (placesV (i + 1) t x).1),.r (i64 (placesV (i + 1) t x).2)])]) (fun _=>True) (fun _ h=>h) ?_ ?_
     · repeat refine zq ?_
       refine zc rfl (fun hc=>?_) (fun hc=>?_) <;> (try simp only [go_sem] at hc)
       · have hc' : i ≠ x ∧ u ≤ v:=by simpa using hc
         repeat refine zq ?_
         refine zb fun K hK=>?_;simp only [go_sem];(try simp (disch:=omega) only [zI]);repeat first | intro _ | refine ⟨by omega,?_⟩
         refine hK _ ?_;clear hK K
         refine ⟨(),trivial,zj [] ?_ ?_⟩
         · try simp only [go_sem]
         · try simp only [go_sem]
           rw [hps,if_pos hc']
       · have hc' : ¬ (i ≠ x ∧ u ≤ v):=by simpa using hc
         refine zx ?_
         try simp only [go_sem]
         refine ⟨(),zj [] ?_ ?_⟩
         · try simp only [go_sem]
         · try simp only [go_sem]
           rw [hps,if_neg hc',Int.add_zero]
     intro _ vs _
     repeat refine zq ?_
     refine zb fun K hK=>?_;simp only [go_sem];(try simp (disch:=omega) only [zI]);repeat first | intro _ | refine ⟨by omega,?_⟩
     refine hK _ ?_;clear hK K
     try simp only [go_sem]
     refine ⟨by omega,zj [] ?_ ?_⟩
     · try simp only [go_sem]
     · try simp only [go_sem]
   · have hin : i = nT r:=by omega
     subst hin
     refine zf ?_;simp only [go_sem]
     repeat refine zq ?_
     refine zb fun K hK=>?_;simp only [go_sem];(try simp (disch:=omega) only [zI]);repeat first | intro _ | refine ⟨by omega,?_⟩
     refine hK _ ?_;clear hK K;refine zw (zk [6]) ?_;simp only [go_sem];refine ze ?_;simp only [go_sem]
def fullV (l : List Mt) : Int:=if 10 < (leftV l).length then 8 else 0
theorem full_ok (r : Tr) (l : List Mt) (hll : l.length ≤ 180) : ACalls Try.prog 151 [dvV r l] (i64 (fullV l)):=by
 refine acalls_st (rs:=[i64 (fullV l)]) [.tmp 2] Try.func151 rfl (by kernel_rfl) Try.ntmps151 rfl (by simp) rfl fun C vs=>?_
 repeat refine zq ?_
 refine zb fun K hK=>?_;simp only [go_sem];(try simp (disch:=omega) only [zI]);repeat first | intro _ | refine ⟨by omega,?_⟩
 refine hK _ ?_;clear hK K;refine zw (sub_frzP 1 1 (dvC r l) (by omega) rfl rfl) ?_;refine zw (zk [1]) ?_;simp only [go_sem]
 repeat refine zq ?_
 refine zb fun K hK=>?_;simp only [go_sem];(try simp (disch:=omega) only [zI]);repeat first | intro _ | refine ⟨by omega,?_⟩
 refine hK _ ?_;clear hK K;refine zw (zk [1,3]) ?_;simp only [go_sem]
 repeat refine zq ?_
 refine zb fun K hK=>?_;simp only [go_sem];(try simp (disch:=omega) only [zI])
 intro _
 repeat first | intro _ | refine ⟨by omega,?_⟩
 refine hK _ ?_;clear hK K;refine zw (zk [3,7,8,9]) ?_;simp only [go_sem]
 repeat refine zq ?_
 refine zd ?_
 refine awp_uptoV (n:=21) l.length (fun k vs=>[(3,.r (i64 ((leftV (l.take k)).length : Int))),(7,.r (mtsR l)),(8,.r (i64 (l.length : Int))),(9,.r (i64 (k : Int)))])
  (fun k vs=>[]) (fun _=>True) 0 (zj [] ?_ ?_) (Nat.zero_le _) trivial ?_
 · try simp only [go_sem]
   rfl
 · try simp only [go_sem]
 · intro k vs hk _
   repeat refine zq ?_
   refine zb fun K hK=>?_;simp only [go_sem];(try simp (disch:=omega) only [zI]);repeat first | intro _ | refine ⟨by omega,?_⟩
   refine hK _ ?_;clear hK K;refine zw (zk [3,7,8,9,10]) ?_;simp only [go_sem]
   repeat refine zq ?_
   refine zc rfl (fun hc=>?_) (fun hc=>?_) <;> (try simp only [go_sem] at hc)
   · have hck : k < l.length:=by omega
     obtain ⟨m,hm⟩:=opt_of_lt hck
     have hls:=left_step hm
     have hll2:=left_len (l.take k)
     rw [List.length_take] at hll2
     refine zx ?_
     try simp only [go_sem]
     repeat refine zq ?_
     refine zd ?_
     repeat refine zq ?_
     refine zb fun K hK=>?_;simp only [go_sem,hm,hck];(try simp (disch:=omega) only [zI]);repeat first | intro _ | refine ⟨by omega,?_⟩
     refine hK _ ?_;clear hK K;refine zw (sub_frzP 5 5 (mtR m) (by omega) rfl rfl) ?_;refine zw (zk [3,5,7,8,9]) ?_;simp only [go_sem]
     repeat refine zq ?_
     refine zb fun K hK=>?_;simp only [go_sem];(try simp (disch:=omega) only [zI]);repeat first | intro _ | refine ⟨by omega,?_⟩
     refine hK _ ?_;clear hK K;refine zw (zk [3,7,8,9,15]) ?_;simp only [go_sem]
     repeat refine zq ?_
     refine awp_joinV (n:=21) (fun (_ : Unit) vs=>[(3,.r (i64 ((leftV (l.take (k + 1))).length : Int))),(7,.r (mtsR l)),(8,.r (i64 (l.length : Int))),(9,.r (i64 (k : Int)))]) (fun _ vs=>[]) (fun _=>True) (fun _ h=>h) ?_ ?_
     · repeat refine zq ?_
       refine zc rfl (fun hc=>?_) (fun hc=>?_) <;> (try simp only [go_sem] at hc)
       · have hmp : m.p = false:=by simpa using hc
         repeat refine zq ?_
         refine zb fun K hK=>?_;simp only [go_sem];(try simp (disch:=omega) only [zI]);repeat first | intro _ | refine ⟨by omega,?_⟩
         refine hK _ ?_;clear hK K
         refine ⟨(),trivial,zj [] ?_ ?_⟩
         · try simp only [go_sem]
           rw [hls]; simp [hmp]
         · try simp only [go_sem]
       · have hmp : m.p = true:=by simpa using hc
         refine zx ?_
         try simp only [go_sem]
         refine ⟨(),zj [] ?_ ?_⟩
         · try simp only [go_sem]
           rw [hls]; simp [hmp]
         · try simp only [go_sem]
     intro _ vs _
     repeat refine zq ?_
     refine zb fun K hK=>?_;simp only [go_sem];(try simp (disch:=omega) only [zI]);repeat first | intro _ | refine ⟨by omega,?_⟩
     refine hK _ ?_;clear hK K
     try simp only [go_sem]
     refine ⟨by omega,zj [] ?_ ?_⟩
     · try simp only [go_sem]
     · try simp only [go_sem]
   · have hkl : k = l.length:=by omega
     subst hkl
     rw [List.take_length]
     refine zf ?_;simp only [go_sem]
     repeat refine zq ?_
     refine zb fun K hK=>?_;simp only [go_sem];(try simp (disch:=omega) only [zI]);repeat first | intro _ | refine ⟨by omega,?_⟩
     refine hK _ ?_;clear hK K;refine zw (zk [20]) ?_;simp only [go_sem]
     repeat refine zq ?_
     refine zc rfl (fun hc=>?_) (fun hc=>?_) <;> (try simp only [go_sem] at hc)
     · repeat refine zq ?_
       refine zb fun K hK=>?_;simp only [go_sem];(try simp (disch:=omega) only [zI]);repeat first | intro _ | refine ⟨by omega,?_⟩
       refine hK _ ?_;clear hK K;refine zw (zk [2]) ?_;simp only [go_sem];refine ze ?_;simp only [go_sem]
       have : 10 < (leftV l).length:=by omega
       simp [fullV,this]
     · refine zx ?_
       try simp only [go_sem]
       repeat refine zq ?_
       refine zb fun K hK=>?_;simp only [go_sem];(try simp (disch:=omega) only [zI]);repeat first | intro _ | refine ⟨by omega,?_⟩
       refine hK _ ?_;clear hK K;refine zw (zk [2]) ?_;simp only [go_sem];refine ze ?_;simp only [go_sem]
       have : ¬ 10 < (leftV l).length:=by omega
       simp [fullV,this]
end Go.Proofs.Ytlljkgiomkmjbaa.Tb
