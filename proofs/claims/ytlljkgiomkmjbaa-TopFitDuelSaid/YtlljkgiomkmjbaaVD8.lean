/- Part 8 of the texts of this claim. -/
import Derived.Test.YtlljkgiomkmjbaaVD7
namespace Go.Proofs.Ytlljkgiomkmjbaa.Du
open Go Go.Oc
set_option linter.unusedSimpArgs false
set_option linter.unusedVariables false
set_option maxRecDepth 8000
theorem max_ok (l : List Int) (h : l ≠ []) (hl : l.length ≤ 1000000) : ACalls Try.prog 219 [ints l] (i64 (maxL l)):=by
 have hp : 0 < l.length:=List.length_pos_iff.2 h
 have d0 : decide ((l.length : Int) < 1) = false:=by simp; omega
 obtain ⟨x0,hx0⟩:=opt_of_lt hp
 have hhd : l.headD 0 = x0:=by cases l with | nil=>exact absurd rfl h | cons a l=>simpa using hx0
 have hs : ∀ i v,l[i]? = some v → (l.take (i + 1)).foldl max x0 = max ((l.take i).foldl max x0) v:=fun i v hv=>by
  rw [List.take_add_one,hv]; simp
 refine acalls_st (rs:=[i64 (maxL l)]) [.tmp 2] Try.func219 rfl (by kernel_rfl) Try.ntmps219 rfl (by simp) rfl fun C vs=>?_
 repeat refine zq ?_
 refine zb fun K hK=>?_;simp only [go_sem];(try simp (disch:=omega) only [zI]);repeat first | intro _ | refine ⟨by omega,?_⟩
 refine hK _ ?_;clear hK K;refine zw (zk [0]) ?_;simp only [go_sem]
 repeat refine zq ?_
 refine zb fun K hK=>?_;simp only [go_sem,d0];(try simp (disch:=omega) only [zI]);repeat first | intro _ | refine ⟨by omega,?_⟩
 refine hK _ ?_;clear hK K;refine zw (zk [0,7]) ?_;simp only [go_sem]
 repeat refine zq ?_
 refine zc rfl (fun hc=>?_) (fun hc=>?_) <;> (try simp only [go_sem] at hc)
 refine zx ?_
 try simp only [go_sem]
 repeat refine zq ?_
 refine zb fun K hK=>?_;simp only [go_sem,hx0];(try simp (disch:=omega) only [zI]);repeat first | intro _ | refine ⟨by omega,?_⟩
 refine hK _ ?_;clear hK K;refine zw (zk [0,3]) ?_;simp only [go_sem]
 repeat refine zq ?_
 refine zb fun K hK=>?_;simp only [go_sem];(try simp (disch:=omega) only [zI]);repeat first | intro _ | refine ⟨by omega,?_⟩
 refine hK _ ?_;clear hK K;refine zw (zk [0,3,4]) ?_;simp only [go_sem]
 repeat refine zq ?_
 refine zd ?_
 refine awp_upto (n:=25) l.length (fun i vs=>[(0,.r (ints l)),(3,.r (i64 ((l.take i).foldl max x0))),(4,.r (i64 i))])
  (fun i=>[]) (fun _=>True) 1 (fit_of [] ?_ ?_) (by omega) trivial ?_
 · try simp only [go_sem]
   rw [show (1 : Nat) = 0 + 1 from rfl,hs 0 x0 hx0]; simp
 · try simp only [go_sem]
 · intro i vs hi _
   repeat refine zq ?_
   refine zb fun K hK=>?_;simp only [go_sem];(try simp (disch:=omega) only [zI]);repeat first | intro _ | refine ⟨by omega,?_⟩
   refine hK _ ?_;clear hK K;refine zw (zk [0,3,4,15]) ?_;simp only [go_sem]
   repeat refine zq ?_
   refine zc rfl (fun hc=>?_) (fun hc=>?_) <;> (try simp only [go_sem] at hc)
   · have hci : i < l.length:=by omega
     obtain ⟨v,hv⟩:=opt_of_lt hci
     refine zx ?_
     try simp only [go_sem]
     repeat refine zq ?_
     refine zd ?_
     repeat refine zq ?_
     refine zb fun K hK=>?_;simp only [go_sem,hv];(try simp (disch:=omega) only [zI]);repeat first | intro _ | refine ⟨by omega,?_⟩
     refine hK _ ?_;clear hK K;refine zw (zk [0,3,4]) ?_;simp only [go_sem]
     repeat refine zq ?_
     refine zb fun K hK=>?_;simp only [go_sem];(try simp (disch:=omega) only [zI]);repeat first | intro _ | refine ⟨by omega,?_⟩
     refine hK _ ?_;clear hK K
     try simp only [go_sem]
     refine ⟨by omega,fit_of [] ?_ ?_⟩
     · try simp only [go_sem]
       rw [hs i v hv]
     · try simp only [go_sem]
   · have hil : i = l.length:=by omega
     refine zf ?_;simp only [go_sem]
     repeat refine zq ?_
     refine zb fun K hK=>?_;simp only [go_sem];(try simp (disch:=omega) only [zI]);repeat first | intro _ | refine ⟨by omega,?_⟩
     refine hK _ ?_;clear hK K;refine zw (zk [2]) ?_;simp only [go_sem];refine ze ?_;simp only [go_sem];rw [maxL,hhd,hil,List.take_length]
theorem value_ok (r : Ru) (most : Bool) (T : List (List Int)) (k st n left : Nat) (hn : n ≤ 100) (hl : left ≤ 40) (hne : r.aims ≠ []) (hle : r.aims.length ≤ 1000)
 (hme : MCalls Try.prog 69 (visL r most T k st) (visL r most T k st) [.pt 1000 0 0,.r (.ag [i64 (left : Int),i64 ((n + 1 : Nat) : Int)])] (.r (ints (meansV r most (nextV r most T k st (valV r most T k st n) (decide (n = 0)) left))))) :
 MCalls Try.prog 180 (visL r most T k st) (visL r most T k st) [.pt 1000 0 0,.r (.ag [i64 (left : Int),i64 ((n + 1 : Nat) : Int)])] (.r (i64 (valV r most T k st (n + 1) left))):=by
 have hmx:=max_ok (meansV r most (nextV r most T k st (valV r most T k st n) (decide (n = 0)) left)) (by simp [meansV,hne]) (by simp [meansV]; omega)
 have hval : maxL (meansV r most (nextV r most T k st (valV r most T k st n) (decide (n = 0)) left)) = valV r most T k st (n + 1) left:=rfl
 rw [hval] at hmx
 refine mcalls_st (n:=29) (rs:=[.r (i64 (valV r most T k st (n + 1) left))]) _ _ [.tmp 4] Try.func180 rfl (by kernel_rfl) Try.ntmps180 rfl (by simp) rfl rfl fun C=>?_
 repeat refine zq ?_
 refine zb fun K hK=>?_;simp only [go_sem];(try simp (disch:=omega) only [zI]);repeat first | intro _ | refine ⟨by omega,?_⟩
 refine hK _ ?_;clear hK K;refine zw (sub_frzP 3 3 [i64 (left : Int),i64 ((n + 1 : Nat) : Int)] (by omega) rfl rfl) ?_;refine zw (zk [0,3]) ?_;simp only [go_sem]
 repeat refine zq ?_
 refine awp_openM 1001 (by rfl) fun m hm=>?_
 try simp only [go_sem]
 have ecast : (((n + 1 : Nat)) : Int) = (n : Int) + 1:=by omega
 rcases memo_find (n:=n + 1) (left:=left) (i:=0) hm with hf | ⟨j,hf⟩
 · rw [ecast] at hf
   repeat refine zq ?_
   refine zg follows (by decide +kernel) (by kernel_rfl) fun K hK=>?_;simp only [go_sem,hf,Bool.and_self,eq_self,true_and];(try simp (disch:=omega) only [zI]);repeat first | intro _ | refine ⟨by omega,?_⟩
   refine hK _ ?_;clear hK K;refine zw (sub_shutM (memoV r most T k st) 1001 (by rfl) hm) ?_;refine zw (zk [0,3,5,6]) ?_;simp only [go_sem]
   repeat refine zq ?_
   refine zb fun K hK=>?_;simp only [go_sem];(try simp (disch:=omega) only [zI]);repeat first | intro _ | refine ⟨by omega,?_⟩
   refine hK _ ?_;clear hK K;refine zw (zk [0,3,5,17]) ?_;simp only [go_sem]
   repeat refine zq ?_
   refine zc rfl (fun hc=>?_) (fun hc=>?_) <;> (try simp only [go_sem] at hc)
   repeat refine zq ?_
   refine zb fun K hK=>?_;simp only [go_sem];(try simp (disch:=omega) only [zI])
   refine xcall_mut (hme) [(1000,1000),(1001,1001)] rfl (by simp only [go_sem,i64,ints]) (by simp only [go_sem,i64,ints]) (by rfl) (by rfl) ?_
   (try simp only [go_sem]);(try simp (disch:=omega) only [zI])
   refine zh (hmx) rfl (by simp only [go_sem,i64,ints]) (by simp only [go_sem,i64,ints]) (by first | exact .inl rfl | exact .inr rfl) ?_
   (try simp only [go_sem]);(try simp (disch:=omega) only [zI]);repeat first | intro _ | refine ⟨by omega,?_⟩
   refine hK _ ?_;clear hK K;refine zw (zk [0,3,5]) ?_;simp only [go_sem]
   repeat refine zq ?_
   refine awp_openM 1001 (by rfl) fun m' hm'=>?_
   try simp only [go_sem]
   rcases memo_find (n:=n + 1) (left:=left) (i:=0) hm' with hf' | ⟨j,hf'⟩
   · rw [ecast] at hf'
     repeat refine zq ?_
     refine awp_dreg2 [(0,some 1000),(3,none),(5,none)] follows (by decide +kernel) (by kernel_rfl) (by simp only [keysOk,List.mem_cons,List.not_mem_nil,forall_eq_or_imp,Oc.keyOf,go_sem]; simp) fun K hK=>?_
     simp only [go_sem,hf',Bool.and_self,eq_self,true_and];(try simp (disch:=omega) only [zI]);repeat first | intro _ | refine ⟨by omega,?_⟩
     refine hK _ ?_;clear hK K;refine zw (sub_shutM (memoV r most T k st) 1001 (by rfl) (by have h:=memo_app (n:=n + 1) (left:=left) hm'; rw [ecast] at h; exact h)) ?_;refine zw (zk [5]) ?_;simp only [go_sem]
     repeat refine zq ?_
     refine zb fun K hK=>?_;simp only [go_sem];(try simp (disch:=omega) only [zI]);repeat first | intro _ | refine ⟨by omega,?_⟩
     refine hK _ ?_;clear hK K;refine zw (zk [4]) ?_;simp only [go_sem];refine ze ?_;simp only [go_sem]
   · rw [ecast] at hf'
     repeat refine zq ?_
     refine awp_dreg2 [(0,some 1000),(3,none),(5,none)] follows (by decide +kernel) (by kernel_rfl) (by simp only [keysOk,List.mem_cons,List.not_mem_nil,forall_eq_or_imp,Oc.keyOf,go_sem]; simp) fun K hK=>?_
     simp only [go_sem,hf',Bool.and_self,eq_self,true_and];(try simp (disch:=omega) only [zI]);repeat first | intro _ | refine ⟨by omega,?_⟩
     refine hK _ ?_;clear hK K;refine zw (sub_shutM (memoV r most T k st) 1001 (by rfl) (by have h:=memo_set (n:=n + 1) (left:=left) hm' j; rw [ecast] at h; exact h)) ?_;refine zw (zk [5]) ?_;simp only [go_sem]
     repeat refine zq ?_
     refine zb fun K hK=>?_;simp only [go_sem];(try simp (disch:=omega) only [zI]);repeat first | intro _ | refine ⟨by omega,?_⟩
     refine hK _ ?_;clear hK K;refine zw (zk [4]) ?_;simp only [go_sem];refine ze ?_;simp only [go_sem]
 · rw [ecast] at hf
   repeat refine zq ?_
   refine zg follows (by decide +kernel) (by kernel_rfl) fun K hK=>?_;simp only [go_sem,hf,Bool.and_self,eq_self,true_and];(try simp (disch:=omega) only [zI]);repeat first | intro _ | refine ⟨by omega,?_⟩
   refine hK _ ?_;clear hK K;refine zw (sub_shutM (memoV r most T k st) 1001 (by rfl) hm) ?_;refine zw (zk [0,3,5,6]) ?_;simp only [go_sem]
   repeat refine zq ?_
   refine zb fun K hK=>?_;simp only [go_sem];(try simp (disch:=omega) only [zI]);repeat first | intro _ | refine ⟨by omega,?_⟩
   refine hK _ ?_;clear hK K;refine zw (zk [0,3,5,17]) ?_;simp only [go_sem]
   repeat refine zq ?_
   refine zc rfl (fun hc=>?_) (fun hc=>?_) <;> (try simp only [go_sem] at hc)
   refine zx ?_
   try simp only [go_sem]
   repeat refine zq ?_
   refine zb fun K hK=>?_;simp only [go_sem];(try simp (disch:=omega) only [zI]);repeat first | intro _ | refine ⟨by omega,?_⟩
   refine hK _ ?_;clear hK K;refine zw (zk [4]) ?_;simp only [go_sem];refine ze ?_;simp only [go_sem]
theorem means_ok (r : Ru) (most : Bool) (T : List (List Int)) (k st n left : Nat) (f : Int → Int) (hn : n ≤ 100) (hl : left ≤ 40) (hle : r.aims.length ≤ 1000)
 (hch : ∀ a ∈ r.aims,ChG r.d (chW f a.beds)) (hbd : ∀ a ∈ r.aims,∀ c ∈ a.beds,0 ≤ c.b ∧ c.b ≤ 499)
 (hnx : ∀ b,0 ≤ b → b ≤ 499 → MCalls Try.prog 120 (visL r most T k st) (visL r most T k st) [.pt 1000 0 0,.r (.ag [i64 (left : Int),i64 ((n : Int) + 1)]),.r (i64 b)] (.r (i64 (f b)))) :
 MCalls Try.prog 69 (visL r most T k st) (visL r most T k st) [.pt 1000 0 0,.r (.ag [i64 (left : Int),i64 ((n : Int) + 1)])] (.r (ints (meansV r most f))):=by
 refine mcalls_st (n:=55) (rs:=[.r (ints (meansV r most f))]) _ _ [.tmp 4] Try.func69 rfl (by kernel_rfl) Try.ntmps69 rfl (by simp) rfl rfl fun C=>?_
 repeat refine zq ?_
 refine zb fun K hK=>?_;simp only [go_sem];(try simp (disch:=omega) only [zI]);repeat first | intro _ | refine ⟨by omega,?_⟩
 refine hK _ ?_;clear hK K;refine zw (sub_frzP 3 3 [i64 (left : Int),i64 ((n : Int) + 1)] (by omega) rfl rfl) ?_;refine zw (zk [0,3,4]) ?_;simp only [go_sem]
 repeat refine zq ?_
 refine zb fun K hK=>?_;simp only [go_sem];(try simp (disch:=omega) only [zI]);repeat first | intro _ | refine ⟨by omega,?_⟩
 refine hK _ ?_;clear hK K;refine zw (zk [0,3,4,19,20,21]) ?_;simp only [go_sem];refine zw (sub_own 4 52 3 1 (by omega) rfl) ?_
 try simp only [go_sem]
 repeat refine zq ?_
 refine zd ?_
 refine awp_upto0 (n:=55) r.aims.length (fun i vs=>[(0,.pt 1000 0 0),(3,.r (.rp [i64 (left : Int),i64 ((n : Int) + 1)])),(4,.os 52 (vs 52) 1 0 i),(19,.r (aimsR r.aims)),(20,.r (i64 r.aims.length)),(21,.r (i64 i))])
  (fun i=>[(52,.arr 3 1 (((meansV r most f).take i).map fun x=>[i64 x])),(1000,.box (visC r most T (k : Int) (st : Int) 1001 0)),(1001,.mem (memoV r most T k st))]) (fun _=>True) 0 (fit0_of [] (by repeat (first | exact lent_zero | refine lent_upd (by omega) ?_)) ?_ ?_) (by omega) trivial ?_
 · try simp only [go_sem]
 · try simp only [go_sem]
 · intro i vs hv hi _
   have hv0:=hv 1000 (by omega)
   have hv1:=hv 1001 (by omega)
   repeat refine zq ?_
   refine zb fun K hK=>?_;simp only [go_sem];(try simp (disch:=omega) only [zI]);repeat first | intro _ | refine ⟨by omega,?_⟩
   refine hK _ ?_;clear hK K;refine zw (zk [0,3,4,19,20,21,22]) ?_;simp only [go_sem]
   repeat refine zq ?_
   refine zc rfl (fun hc=>?_) (fun hc=>?_) <;> (try simp only [go_sem] at hc)
   · have hci:=hc
     obtain ⟨a,ha⟩:=opt_of_lt hc
     have haM:=mem_of_opt ha
     have hca:=hch a haM
     have hl19:=hca.len
     have hlen : (chW f a.beds).length = a.beds.length:=by simp [chW]
     rw [hlen] at hl19
     refine zx ?_
     try simp only [go_sem]
     repeat refine zq ?_
     refine zd ?_
     repeat refine zq ?_
     refine zb fun K hK=>?_;simp only [go_sem,ha,hci,aimR];(try simp (disch:=omega) only [zI]);repeat first | intro _ | refine ⟨by omega,?_⟩
     refine hK _ ?_;clear hK K;refine zw (sub_frzP 6 6 [i64 a.at_,bedsR a.beds] (by omega) (by try simp only [go_sem]) (by try simp only [go_sem])) ?_;refine zw (zk [0,3,4,6,19,20,21]) ?_;simp only [go_sem]
     repeat refine zq ?_
     refine zb fun K hK=>?_;simp only [go_sem];(try simp (disch:=omega) only [zI]);repeat first | intro _ | refine ⟨by omega,?_⟩
     refine hK _ ?_;clear hK K;refine zw (zk [0,3,4,6,7,19,20,21]) ?_;simp only [go_sem];refine zw (sub_own 7 42 285 3 (by omega) rfl) ?_
     try simp only [go_sem]
     repeat refine zq ?_
     refine zb fun K hK=>?_;simp only [go_sem];(try simp (disch:=omega) only [zI]);repeat first | intro _ | refine ⟨by omega,?_⟩
     refine hK _ ?_;clear hK K;refine zw (zk [0,3,4,7,19,20,21,26,27,28]) ?_;simp only [go_sem]
     repeat refine zq ?_
     refine zd ?_
     refine awp_upto0 (n:=55) a.beds.length (fun j vs=>[(0,.pt 1000 0 0),(3,.r (.rp [i64 (left : Int),i64 ((n : Int) + 1)])),(4,.os 52 (vs 52) 1 0 i),(7,.os 42 (vs 42) 3 0 j),(19,.r (aimsR r.aims)),(20,.r (i64 r.aims.length)),(21,.r (i64 i)),(26,.r (bedsR a.beds)),(27,.r (i64 a.beds.length)),(28,.r (i64 j))])
      (fun j=>[(42,.arr 285 3 (idx ((chW f a.beds).take j))),(52,.arr 3 1 (((meansV r most f).take i).map fun x=>[i64 x])),(1000,.box (visC r most T (k : Int) (st : Int) 1001 0)),(1001,.mem (memoV r most T k st))]) (fun _=>True) 0 (fit0_of [] (by repeat (first | exact hv | exact lent_zero | refine lent_upd (by omega) ?_)) ?_ ?_) (by omega) trivial ?_
     · try simp only [go_sem]
     · try simp only [go_sem]
     · intro j vs2 hv2 hj _
       have hv0:=hv2 1000 (by omega)
       have hv1:=hv2 1001 (by omega)
       repeat refine zq ?_
       refine zb fun K hK=>?_;simp only [go_sem];(try simp (disch:=omega) only [zI]);repeat first | intro _ | refine ⟨by omega,?_⟩
       refine hK _ ?_;clear hK K;refine zw (zk [0,3,4,7,19,20,21,26,27,28,29]) ?_;simp only [go_sem]
       repeat refine zq ?_
       refine zc rfl (fun hc=>?_) (fun hc=>?_) <;> (try simp only [go_sem] at hc)
       · have hcj:=hc
         obtain ⟨c,hc1⟩:=opt_of_lt hc
         have hbc:=hbd a haM c (mem_of_opt hc1)
         have hnc:=hnx c.b hbc.1 hbc.2
         have htk : (chW f a.beds).take (j + 1) = (chW f a.beds).take j ++ [⟨f c.b,c.lo,c.hi⟩]:=take_of_opt (by simp [chW,hc1])
         have hlj : ((chW f a.beds).take j).length = j:=by rw [List.length_take,hlen]; omega
         refine zx ?_
         try simp only [go_sem]
         repeat refine zq ?_
         refine zd ?_
         repeat refine zq ?_
         refine zb fun K hK=>?_;simp only [go_sem,hc1,hcj,bedR];(try simp (disch:=omega) only [zI]);repeat first | intro _ | refine ⟨by omega,?_⟩
         refine hK _ ?_;clear hK K;refine zw (sub_frzP 9 9 [i64 c.b,i64 c.lo,i64 c.hi] (by omega) (by try simp only [go_sem]) (by try simp only [go_sem])) ?_;simp only [go_sem,bedR];refine zw (zk [0,3,4,7,9,19,20,21,26,27,28]) ?_;simp only [go_sem]
         repeat refine zq ?_
         refine zg follows (by decide +kernel) (by kernel_rfl) fun K hK=>?_;simp only [go_sem,hlj];(try simp (disch:=omega) only [zI])
         refine xcall_keep hnc [(1000,1000),(1001,1001)] rfl (by simp only [go_sem,i64,ints,hv0,hv1]) (by simp only [go_sem,i64,ints,hv0,hv1]) (by rfl) (by rfl) ?_ ?_ ?_
         · intro x hx
           simp only [List.mem_cons,List.not_mem_nil,or_false] at hx
           rcases hx with rfl | rfl
           · try simp only [go_sem]
             simp [hv0,hv1]
           · try simp only [go_sem]
         · intro x hx
           simp only [List.mem_cons,List.not_mem_nil,or_false] at hx
           rcases hx with rfl | rfl
           · left
             simp [AV.nrL,AV.nr,AS.ver,Oc.st,hv0,upd]
           · right
             refine ⟨(1000,1000),by simp,visC r most T (k : Int) (st : Int) 1001 0,?_,by try simp only [go_sem],?_⟩
             · simp [AV.nrL,AV.nr,AS.ver,Oc.st,hv0,upd]
             · simp [AV.nrL,AV.nr,AS.ver,Oc.st,hv1,upd]
         simp only [go_sem,hlj];repeat first | intro _ | refine ⟨by omega,?_⟩
         refine hK _ ?_;clear hK K;refine zw (zk [0,3,4,7,19,20,21,26,27,28]) ?_;simp only [go_sem]
         repeat refine zq ?_
         refine zb fun K hK=>?_;simp only [go_sem];(try simp (disch:=omega) only [zI]);repeat first | intro _ | refine ⟨by omega,?_⟩
         refine hK _ ?_;clear hK K
         try simp only [go_sem]
         refine ⟨by omega,fit0_of [] (by repeat (first | exact hv2 | refine lent_upd (by omega) ?_)) ?_ ?_⟩
         · try simp only [go_sem]
         · try simp only [go_sem]
           rw [htk]
           simp [bedR]
       · have hjl : j = a.beds.length:=by omega
         subst hjl
         have e1 : (chW f a.beds).take a.beds.length = chW f a.beds:=by rw [← hlen,List.take_length]
         rw [e1]
         have hmn:=mean_ok r most T (chW f a.beds) hca
         rw [hlen] at hmn
         have htm : (meansV r most f).take (i + 1) = (meansV r most f).take i ++ [meanD most r.d (chW f a.beds)]:=take_of_opt (by simp [meansV,ha])
         have hli : ((meansV r most f).take i).length = i:=by rw [List.length_take]; simp [meansV]; omega
         refine zf ?_;simp only [go_sem]
         repeat refine zq ?_
         refine zb fun K hK=>?_;simp only [go_sem,hli,hlen];(try simp (disch:=omega) only [zI])
         refine ⟨hv0.symm,hv0.symm,hv0.symm,?_⟩
         refine xcall_mut (hmn) [(1000,42)] rfl (by simp only [go_sem,i64,ints,hli,hlen]) (by simp only [go_sem,i64,ints,hli,hlen]) (by rfl) (by rfl) ?_
         (try simp only [go_sem,hli,hlen]);(try simp (disch:=omega) only [zI]);repeat first | intro _ | refine ⟨by omega,?_⟩
         refine hK _ ?_;clear hK K;refine zw (zk [0,3,4,19,20,21]) ?_;simp only [go_sem]
         repeat refine zq ?_
         refine zb fun K hK=>?_;simp only [go_sem];(try simp (disch:=omega) only [zI]);repeat first | intro _ | refine ⟨by omega,?_⟩
         refine hK _ ?_;clear hK K
         try simp only [go_sem]
         refine ⟨by omega,fit0_of [42] (by repeat (first | exact hv2 | refine lent_upd (by omega) ?_)) ?_ ?_⟩
         · try simp only [go_sem]
         · try simp only [go_sem]
           rw [htm]
           simp
   · have hil : i = r.aims.length:=by omega
     have e1 : (meansV r most f).take i = meansV r most f:=List.take_of_length_le (by simp [meansV]; omega)
     rw [e1]
     have hml : (meansV r most f).length = i:=by simp [meansV,hil]
     refine zf ?_;simp only [go_sem]
     repeat refine zq ?_
     refine zb fun K hK=>?_;simp only [go_sem];(try simp (disch:=omega) only [zI]);repeat first | intro _ | refine ⟨by omega,?_⟩
     refine hK _ ?_;clear hK K;refine zw (zk [4]) ?_;simp only [go_sem];refine zw (sub_frz (ty:=3) (sz:=1) (off:=0) (m:=i) (es:=(meansV r most f).map fun x=>[i64 x]) 4 52 (by omega) (by try simp only [go_sem]) (by try simp only [go_sem]) (by simp [hml])) ?_
     have e2 : (((meansV r most f).map fun x=>[i64 x]).drop 0).take i = (meansV r most f).map fun x=>[i64 x]:=by
      rw [List.drop_zero,List.take_of_length_le (by simp [hml])]
     rw [e2]
     refine zw (zk [4]) ?_;simp only [go_sem];refine ze ?_;simp only [go_sem]
structure AimsG (r : Ru) : Prop where
 ne : r.aims ≠ []
 len : r.aims.length ≤ 1000
 den0 : 1 ≤ r.d
 den1 : r.d ≤ 3000
 beds : ∀ a ∈ r.aims,a.beds.length ≤ 19 ∧ loS a.beds ≤ r.d ∧ ∀ c ∈ a.beds,(0 ≤ c.b ∧ c.b ≤ 499) ∧ 0 ≤ c.lo ∧ c.lo ≤ c.hi ∧ c.hi ≤ 3000
theorem loS_chW (f : Int → Int) (l : List Bd) : loS (chW f l) = loS l:=by simp [loS,chW,Function.comp_def]
theorem AimsG.ch {r : Ru} (h : AimsG r) {f : Int → Int} (hf : ∀ b,0 ≤ b → b ≤ 499 → 0 ≤ f b ∧ f b ≤ 1000000) : ∀ a ∈ r.aims,ChG r.d (chW f a.beds):=fun a ha=>by
 obtain ⟨h1,h2,h3⟩:=h.beds a ha
 refine ⟨by simpa [chW] using h1,h.den0,h.den1,by rw [loS_chW]; exact h2,fun c hc=>?_⟩
 obtain ⟨x,hx,rfl⟩:=List.mem_map.1 hc
 obtain ⟨g1,g2⟩:=h3 x hx
 exact ⟨hf _ g1.1 g1.2,g2⟩
theorem fillG_le {den : Int} : ∀ (l : List Bd) (x : Int × Int),(∀ c ∈ l,(0 ≤ c.b ∧ c.b ≤ 1000000) ∧ c.lo ≤ c.hi) → 0 ≤ x.1 → 0 ≤ x.2 → x.2 ≤ 1000000 * (den - x.1) → 0 ≤ (fillG l x).2 ∧ (fillG l x).2 ≤ 1000000 * den
 | [],x,_,h1,h2,h3=>by simp only [fillG]; omega
 | c :: l, x, h, h1, h2, h3 => by
   obtain ⟨⟨b0,b1⟩,g⟩:=h c (by simp)
   simp only [fillG]
   generalize hm : min x.1 (c.hi - c.lo) = m
   have m0 : 0 ≤ m:=by omega
   have m1 : m ≤ x.1:=by omega
   have p0:=Int.mul_nonneg m0 b0
   have p1 : m * c.b ≤ m * 1000000:=Int.mul_le_mul_of_nonneg_left b1 m0
   exact fillG_le l _ (fun y hy=>h y (by simp [hy])) (by simp only; omega) (by simp only; omega) (by simp only; omega)
theorem loV_lo {l : List Bd} (h : ∀ c ∈ l,(0 ≤ c.b ∧ c.b ≤ 1000000) ∧ 0 ≤ c.lo) : 0 ≤ loV l ∧ loV l ≤ 1000000 * loS l:=by
 induction l with
 | nil=>simp [loV,loS]
 | cons c l ih =>
   obtain ⟨h1,h2⟩:=ih fun x hx=>h x (by simp [hx])
   obtain ⟨⟨b0,b1⟩,g0⟩:=h c (by simp)
   have m0:=Int.mul_nonneg g0 b0
   have m1 : c.lo * c.b ≤ c.lo * 1000000:=Int.mul_le_mul_of_nonneg_left b1 g0
   simp only [loV,loS,List.map_cons,List.sum_cons] at h1 h2 ⊢
   omega
theorem meanD_le {most : Bool} {den : Int} {l : List Bd} (h : ChG den l) : 0 ≤ meanD most den l ∧ meanD most den l ≤ 1000000:=by
 have hp:=sortN_perm (ltD most) l
 have hS : ∀ c ∈ sortN (ltD most) l,(0 ≤ c.b ∧ c.b ≤ 1000000) ∧ 0 ≤ c.lo ∧ c.lo ≤ c.hi ∧ c.hi ≤ 3000:=fun c hc=>h.each c (hp.mem_iff.1 hc)
 have hlo : loS (sortN (ltD most) l) = loS l:=perm_sum hp
 have hlow:=h.low
 obtain ⟨v0,v1⟩:=loV_lo (l:=sortN (ltD most) l) fun c hc=>⟨(hS c hc).1,(hS c hc).2.1⟩
 unfold meanD
 obtain ⟨f0,f1⟩:=fillG_le (den:=den) (sortN (ltD most) l) (den - loS (sortN (ltD most) l),loV (sortN (ltD most) l)) (fun c hc=>⟨(hS c hc).1,(hS c hc).2.2.1⟩) (by simp only; omega) (by simp only; omega) (by simp only; omega)
 exact overD_le f0 h.den0 f1
theorem foldl_max_le {l : List Int} {m : Int} : ∀ {x : Int},(0 ≤ x ∧ x ≤ m) → (∀ y ∈ l,0 ≤ y ∧ y ≤ m) → 0 ≤ l.foldl max x ∧ l.foldl max x ≤ m:=by
 induction l with
 | nil=>intro x h _; exact h
 | cons y l ih =>
   intro x h hl
   have:=hl y (by simp)
   exact ih (x:=max x y) (by omega) fun z hz=>hl z (by simp [hz])
theorem maxL_le {l : List Int} {m : Int} (h : l ≠ []) (hl : ∀ y ∈ l,0 ≤ y ∧ y ≤ m) : 0 ≤ maxL l ∧ maxL l ≤ m:=by
 unfold maxL
 refine foldl_max_le ?_ hl
 cases l with
 | nil=>exact absurd rfl h
 | cons x l=>exact hl x (by simp)
theorem after_le {r : Ru} {T : List (List Int)} {k st : Nat} (h : VisG r T k st) (most : Bool) {left : Nat} (hl : (left : Int) ≤ r.start) : 0 ≤ afterD r most T k left ∧ afterD r most T k left ≤ 1000000:=by
 unfold afterD
 split
 · omega
 · rename_i hk
   obtain ⟨row,v,hv⟩:=h.tab left hl
   obtain ⟨t1,t2,t3,t4⟩:=hv (by have:=h.kk; omega)
   obtain ⟨e,hek⟩:=opt_of_lt h.kk
   obtain ⟨g1,g2,g3⟩:=endOk_le (h.ends e (mem_of_opt hek))
   have e1 : ((T.getD (k + 1) []).getD left 0) = v:=by simp [List.getD_eq_getElem?_getD,t1,t2]
   have e2 : r.ends.getD k (0,0) = e:=by simp [List.getD_eq_getElem?_getD,hek]
   rw [e1,e2]
   have q : 0 ≤ endsD most e ∧ endsD most e ≤ 1000000:=by unfold endsD; split <;> omega
   exact overD_le (Int.mul_nonneg t3 (by omega)) (by omega) (Int.mul_le_mul t4 (by omega) (by omega) (by omega))
theorem nextV_le {r : Ru} {most : Bool} {T : List (List Int)} {k st left : Nat} {val : Nat → Int} {last : Bool} {b : Int} (h : VisG r T k st) (hl : (left : Int) ≤ r.start) (b0 : 0 ≤ b) (b1 : b ≤ 499) (hv : last = false → ∀ x : Nat,(x : Int) ≤ r.start → 0 ≤ val x ∧ val x ≤ 1000000) :
 0 ≤ nextV r most T k st val last left b ∧ nextV r most T k st val last left b ≤ 1000000:=by
 obtain ⟨s0,s1⟩:=score_le b0 b1
 unfold nextV
 split
 · omega
 · split
   · exact after_le h most h.st40
   · split
     · exact after_le h most (by omega)
     · rename_i hn
       exact hv (by simpa using hn) _ (by omega)
theorem valV_le {r : Ru} {most : Bool} {T : List (List Int)} {k st : Nat} (h : VisG r T k st) (ha : AimsG r) : ∀ n left : Nat,(left : Int) ≤ r.start → 0 ≤ valV r most T k st n left ∧ valV r most T k st n left ≤ 1000000
 | 0,_,_=>by simp only [valV]; omega
 | n + 1, left, hl => by
   simp only [valV]
   refine maxL_le (by simpa [meansV] using ha.ne) fun y hy=>?_
   obtain ⟨a,haM,rfl⟩:=List.mem_map.1 hy
   exact meanD_le (ha.ch (fun b b0 b1=>nextV_le h hl b0 b1 fun _ x hx=>valV_le h ha n x hx) a haM)
theorem vis_ok {r : Ru} (most : Bool) {T : List (List Int)} {k st : Nat} (h : VisG r T k st) (ha : AimsG r) : ∀ n left : Nat,n ≤ 100 → 1 ≤ left → (left : Int) ≤ r.start →
 MCalls Try.prog 180 (visL r most T k st) (visL r most T k st) [.pt 1000 0 0,.r (.ag [i64 (left : Int),i64 ((n + 1 : Nat) : Int)])] (.r (i64 (valV r most T k st (n + 1) left)))
 | n, left, hn, hl1, hl => by
   have h40:=h.s40
   have hl40 : left ≤ 40:=by omega
   refine value_ok r most T k st n left hn hl40 ha.ne ha.len ?_
   have e : (((n + 1 : Nat)) : Int) = (n : Int) + 1:=by omega
   rw [e]
   refine means_ok r most T k st n left _ hn hl40 ha.len (ha.ch fun b b0 b1=>nextV_le h hl b0 b1 fun _ x hx=>valV_le h ha n x hx) (fun a haM c hc=>((ha.beds a haM).2.2 c hc).1) fun b b0 b1=>?_
   refine next_ok r most T k st n left b h hl1 hl hn b0 b1 fun hn0 left' h1 h2=>?_
   match n,hn0 with
   | m + 1,_=>exact vis_ok most h ha m left' (by omega) h1 h2
theorem relV_of_map {w : World} {p : Plan} {ver : Nat → Nat} : ∀ {xs : List RV} {vs : List Value},AV.relV w p ver (xs.map .r) vs → RV.relV w p.R xs vs
 | [],_,h=>by simp only [List.map_nil,AV.relV] at h; simp only [RV.relV]; exact h
 | x :: xs, _, h => by
   simp only [List.map_cons,AV.relV,AV.rel] at h
   obtain ⟨u,us,e,h1,h2⟩:=h
   simp only [RV.relV];exact ⟨u,us,e,h1,relV_of_map h2⟩
theorem mcalls_ag {P : Program} {f : FuncId} {L L' : List (Nat × RowC)} {a : AV} {xs : List RV} {r : AV} (h : MCalls P f L L' [a,.r (.ag xs)] r) : MCalls P f L L' [a,.ag (xs.map .r)] r :=
 ⟨h.1,fun w p vs hp h1 h2 h3 h4 h5 h6=>h.2 w p vs hp h1 h2 h3 h4 h5 (by
  simp only [AV.relV] at h6 ⊢
  obtain ⟨u,us,e,g1,u2,us2,e2,g2,g3⟩:=h6
  refine ⟨u,us,e,g1,u2,us2,e2,?_,g3⟩
  simp only [AV.rel] at g2
  simp only [AV.rel,RV.rel]
  obtain ⟨vs,q1,q2,q3⟩:=g2
  exact ⟨vs,q1,q2,relV_of_map q3⟩)⟩
theorem whole_ok {r : Ru} (most : Bool) {T : List (List Int)} {k st : Nat} (h : VisG r T k st) (ha : AimsG r) (h1 : 1 ≤ st) : ACalls Try.prog 159 [sideP r most T,i64 (k : Int),i64 (st : Int)] (i64 (valV r most T k st 3 st)):=by
 have hnew:=newVisit_ok r most T (k : Int) (st : Int)
 have hval:=vis_ok most h ha 2 st (by omega) h1 h.st40
 refine acalls_st (rs:=[i64 (valV r most T k st 3 st)]) [.tmp 6] Try.func159 rfl (by kernel_rfl) Try.ntmps159 rfl (by simp) rfl fun C vs=>?_
 repeat refine zq ?_
 refine zb fun K hK=>?_;simp only [go_sem];(try simp (disch:=omega) only [zI]);repeat first | intro _ | refine ⟨by omega,?_⟩
 refine hK _ ?_;clear hK K;refine zw (zk [0,1,2]) ?_;simp only [go_sem]
 repeat refine zq ?_
 refine awp_long ?_
 refine sops_take 4 (by kernel_rfl) fun K hK=>?_
 simp only [go_sem,List.take_succ_cons,List.take_zero,List.drop_succ_cons,List.drop_zero,List.append_eq,List.cons_append,List.nil_append];(try simp (disch:=omega) only [zI])
 refine xcall_new hnew [(12,30),(10,31)] rfl (by rfl) (by rfl) (by rfl) (by rfl) (by rfl) ?_
 simp only [go_sem,idK,backA,backC,backL,pinOf,lendKey];repeat first | intro _ | refine ⟨by omega,?_⟩
 refine hK _ rfl ?_
 clear hK K
 refine sops_sub (sub_shutM (memoV r most T k st) 31 (by rfl) (fun e he=>by cases he)) ?_
 try simp only [go_sem]
 refine sops_end (by kernel_rfl) fun K hK=>?_
 simp only [go_sem,List.drop_succ_cons,List.drop_zero,List.append_eq,List.cons_append,List.nil_append];(try simp (disch:=omega) only [zI])
 refine xcall_mut (mcalls_ag hval) [(1000,30),(1001,31)] rfl (by simp only [go_sem,i64,ints]) (by simp only [go_sem,i64,ints]) (by rfl) (by rfl) ?_
 (try simp only [go_sem]);(try simp (disch:=omega) only [zI]);repeat first | intro _ | refine ⟨by omega,?_⟩
 refine hK _ ?_;clear hK K;refine zw (zk [6]) ?_;simp only [go_sem];refine ze ?_;simp only [go_sem]
def rowV (r : Ru) (most : Bool) (T : List (List Int)) (k : Nat) : List Int:=(List.range (r.start.toNat + 1)).map fun x : Nat=>if (x : Int) < lowestR r then 0 else valV r most T k x 3 x
def tabI (r : Ru) (most : Bool) : Nat → List (List Int)
 | 0=>List.replicate r.ends.length []
 | i + 1=>(tabI r most i).set (r.ends.length - 1 - i) (rowV r most (tabI r most i) (r.ends.length - 1 - i))
theorem tabI_len (r : Ru) (most : Bool) : ∀ i,(tabI r most i).length = r.ends.length
 | 0=>by simp [tabI]
 | i + 1=>by simp only [tabI,List.length_set]; exact tabI_len r most i
structure RuG (r : Ru) : Prop where
 aims : AimsG r
 e1 : 1 ≤ r.ends.length
 h10 : r.ends.length ≤ 10
 ends : ∀ x ∈ r.ends,endOk x = true
 s2 : 2 ≤ r.start
 s40 : r.start ≤ 40
theorem rowV_get (r : Ru) (most : Bool) (T : List (List Int)) (k left : Nat) (h : (left : Int) ≤ r.start) : (rowV r most T k)[left]? = some (if (left : Int) < lowestR r then 0 else valV r most T k left 3 left):=by
 unfold rowV
 rw [List.getElem?_map,List.getElem?_range (by omega)]
 rfl
theorem vis_at {r : Ru} (h : RuG r) (most : Bool) : ∀ i,i < r.ends.length → ∀ st : Nat,(st : Int) ≤ r.start → VisG r (tabI r most i) (r.ends.length - 1 - i) st
 | i, hi, st, hst => by
   refine ⟨by omega,h.h10,h.ends,hst,h.s40,fun left hl=>?_⟩
   cases i with
   | zero=>exact ⟨[],0,fun hk=>by omega⟩
   | succ i =>
     refine ⟨rowV r most (tabI r most i) (r.ends.length - 1 - i),_,fun hk=>⟨?_,rowV_get _ _ _ _ _ hl,?_⟩⟩
     · rw [show r.ends.length - 1 - (i + 1) + 1 = r.ends.length - 1 - i by omega]
       simp only [tabI]
       rw [List.getElem?_set_self (by rw [tabI_len]; omega)]
     · split
       · omega
       · have:=valV_le (most:=most) (vis_at h most i (by omega) left hl) h.aims 3 left hl
         exact this
theorem rowV_ne (r : Ru) (most : Bool) (T : List (List Int)) (k : Nat) : rowV r most T k ≠ []:=by simp [rowV]
theorem tabI_get (r : Ru) (most : Bool) : ∀ i,i ≤ r.ends.length → ∀ j,r.ends.length - i ≤ j → j < r.ends.length → (tabI r most i)[j]? = some (rowV r most (tabI r most (r.ends.length - 1 - j)) j)
 | 0,_,j,h1,h2=>by omega
 | i + 1, hi, j, h1, h2 => by
   simp only [tabI]
   by_cases e : j = r.ends.length - 1 - i
   · subst e
     rw [List.getElem?_set_self (by rw [tabI_len]; omega),show r.ends.length - 1 - (r.ends.length - 1 - i) = i by omega]
   · rw [List.getElem?_set_ne (by omega)]
     exact tabI_get r most i (by omega) j (by omega) h2
theorem tab_ne (r : Ru) (most : Bool) : ∀ row ∈ tabI r most r.ends.length,row ≠ []:=fun row hr=>by
 obtain ⟨j,hj⟩:=List.getElem?_of_mem hr
 have hl:=(List.getElem?_eq_some_iff.1 hj).1
 rw [tabI_len] at hl
 rw [tabI_get r most _ (Nat.le_refl _) j (by omega) hl] at hj
 injection hj with hj
 rw [← hj]
 exact rowV_ne _ _ _ _
abbrev sideA (r : Ru) (most : Bool) (t : AV) : List AV:=[.r (i64 r.d),.r (aimsR r.aims),.r (i64 r.start),.r (i64 r.out),.r (spansR r.ends),.r (.bo most),t]
def cellT (l : List Int) : RV:=if l = [] then .ns else ints l
theorem acalls_weak {P : Program} {f : FuncId} {xs ys : List RV} {r : RV} (h : ACalls P f ys r) (hs : ∀ (w : World) (R : Nat → Prop) vs,RV.relV w R xs vs → RV.relV w R ys vs) : ACalls P f xs r :=
 ⟨h.1,fun w R vs h1 h2=>h.2 w R vs h1 (hs w R _ h2)⟩
theorem cellT_rel {w : World} {R : Nat → Prop} {l : List Int} {v : Value} (h : (cellT l).rel w R v) : (ints l).rel w R v:=by
 unfold cellT at h
 split at h
 · rename_i e
   subst e
   simp only [RV.rel] at h ⊢
   obtain ⟨A,e⟩:=h
   exact ⟨A,0,e,by simp,Nat.zero_le _,fun hn=>absurd rfl hn⟩
 · exact h
theorem cellsT_rel {w : World} {R : Nat → Prop} : ∀ (T : List (List Int)) (ad : Addr) (j : Nat),RV.relE w R 1 (T.map fun row=>[cellT row]) ad j → RV.relE w R 1 (T.map fun row=>[ints row]) ad j
 | [],_,_,h=>h
 | l :: T, ad, j, h => by
   simp only [List.map_cons,RV.relE,RV.relC] at h ⊢
   obtain ⟨_,⟨⟨u,h1,h2,h3⟩,_⟩,h4⟩:=h
   exact ⟨rfl,⟨⟨u,h1,h2,cellT_rel h3⟩,trivial⟩,cellsT_rel T ad (j + 1) h4⟩
theorem tabT_rel {w : World} {R : Nat → Prop} {T : List (List Int)} {v : Value} (h : (RV.sl 1 (T.map fun row=>[cellT row])).rel w R v) : (tabR T).rel w R v:=by
 simp only [RV.rel,List.length_map] at h ⊢
 obtain ⟨A,c,h1,h2,h3,h4⟩:=h
 refine ⟨A,c,h1,h2,h3,fun hn=>?_⟩
 obtain ⟨ad,g1,g2,g3⟩:=h4 (by cases T <;> simp_all)
 exact ⟨ad,g1,g2,cellsT_rel _ _ _ g3⟩
theorem whole_ns {r : Ru} {most : Bool} {T : List (List Int)} {x y v : RV} (h : ACalls Try.prog 159 [sideP r most T,x,y] v) :
 ACalls Try.prog 159 [.rp [i64 r.d,aimsR r.aims,i64 r.start,i64 r.out,spansR r.ends,.bo most,.sl 1 (T.map fun row=>[cellT row])],x,y] v:=acalls_weak h fun w R vs hv=>by
 simp only [RV.relV] at hv ⊢
 obtain ⟨u,us,e1,hu,h3⟩:=hv
 refine ⟨u,us,e1,?_,h3⟩
 simp only [RV.rel] at hu ⊢
 obtain ⟨ad,e2,h1,h2⟩:=hu
 refine ⟨ad,e2,h1,?_⟩
 simp only [RV.relC] at h2 ⊢
 obtain ⟨c1,c2,c3,c4,c5,c6,⟨u7,c7,c8,c9⟩,_⟩:=h2
 exact ⟨c1,c2,c3,c4,c5,c6,⟨u7,c7,c8,tabT_rel c9⟩,trivial⟩
def rowP (r : Ru) (most : Bool) (T : List (List Int)) (k j : Nat) : List Int:=(List.range (r.start.toNat + 1)).map fun x : Nat=>if (x : Int) < lowestR r then 0 else if x < j then valV r most T k x 3 x else 0
theorem rowP_zero (r : Ru) (most : Bool) (T : List (List Int)) (k : Nat) : rowP r most T k (lowestR r).toNat = List.replicate (r.start.toNat + 1) 0:=by
 refine List.ext_getElem (by simp [rowP]) fun x h1 h2=>?_
 simp only [rowP,List.getElem_map,List.getElem_range,List.getElem_replicate]
 split
 · rfl
 · rw [if_neg (by omega)]
theorem rowP_end (r : Ru) (most : Bool) (T : List (List Int)) (k : Nat) : rowP r most T k (r.start.toNat + 1) = rowV r most T k:=by
 refine List.ext_getElem (by simp [rowP,rowV]) fun x h1 h2=>?_
 simp only [rowP,rowV,List.getElem_map,List.getElem_range]
 simp only [rowP,List.length_map,List.length_range] at h1
 rw [if_pos h1]
theorem rowP_set (r : Ru) (most : Bool) (T : List (List Int)) (k j : Nat) (hj : lowestR r ≤ j) (hs : (j : Int) ≤ r.start) : (rowP r most T k j).set j (valV r most T k j 3 j) = rowP r most T k (j + 1):=by
 refine List.ext_getElem (by simp [rowP]) fun x h1 h2=>?_
 simp only [rowP,List.getElem_set,List.getElem_map,List.getElem_range]
 by_cases e : j = x
 · subst e
   rw [if_pos rfl,if_neg (by omega),if_pos (by omega)]
 · rw [if_neg e]
   split
   · rfl
   · by_cases e2 : x < j
     · rw [if_pos e2,if_pos (by omega)]
     · rw [if_neg e2,if_neg (by omega)]
theorem rowP_len (r : Ru) (most : Bool) (T : List (List Int)) (k j : Nat) : (rowP r most T k j).length = r.start.toNat + 1:=by simp [rowP]
theorem fill_ok {r : Ru} (h : RuG r) (most : Bool) :
 MCalls Try.prog 89 [(1000,.box (sideA r most (.r .ns)))] [(1000,.box (sideA r most (.r (tabR (tabI r most r.ends.length)))))] [.pt 1000 0 0] (.tu []):=by
 have h10:=h.h10
 refine mcalls_st (n:=72) (rs:=[]) _ _ [] Try.func89 rfl (by kernel_rfl) Try.ntmps89 rfl (by simp) rfl rfl fun C=>?_
 repeat refine zq ?_
 refine zb fun K hK=>?_;simp only [go_sem];(try simp (disch:=omega) only [zI]);repeat first | intro _ | refine ⟨by omega,?_⟩
 repeat first | intro _ | refine ⟨by omega,?_⟩
 refine hK _ ?_;clear hK K;refine zw (zk [0]) ?_;simp only [go_sem]
 repeat refine zq ?_
 refine zb fun K hK=>?_;simp only [go_sem];(try simp (disch:=omega) only [zI]);repeat first | intro _ | refine ⟨by omega,?_⟩
 refine hK _ ?_;clear hK K;refine zw (zk [0,23,24]) ?_;simp only [go_sem]
 repeat refine zq ?_
 refine zd ?_
 refine awp_uptoV (n:=72) r.ends.length (fun i vs=>[(0,.pt 1000 (vs 1000) 0),(23,.r (i64 r.ends.length)),(24,.r (i64 i))])
  (fun i vs=>[(14,.arr 41 1 ((tabI r most i).map fun row=>[cellT row])),(1000,.box (sideA r most (.os 14 (vs 14) 1 0 r.ends.length)))]) (fun _=>True) 0 (zj [] ?_ ?_) (Nat.zero_le _) trivial ?_
 · try simp only [go_sem]
 · try simp only [go_sem]
   simp [tabI,cellT]
 · intro i vs hi _
   repeat refine zq ?_
   refine zb fun K hK=>?_;simp only [go_sem];(try simp (disch:=omega) only [zI]);repeat first | intro _ | refine ⟨by omega,?_⟩
   refine hK _ ?_;clear hK K;refine zw (zk [0,23,24,25]) ?_;simp only [go_sem]
   repeat refine zq ?_
   refine zc rfl (fun hc=>?_) (fun hc=>?_) <;> (try simp only [go_sem] at hc)
   · have hci:=hc
     have hla:=last_ok r (by omega)
     have hlo:=dlowest_ok r
     have hk : IntKind.i64.wrap ((r.ends.length : Int) - 1 - i) = ((r.ends.length - 1 - i : Nat) : Int):=by rw [zI] <;> omega
     refine zx ?_
     try simp only [go_sem]
     repeat refine zq ?_
     refine zd ?_
     repeat refine zq ?_
     refine zb fun K hK=>?_;simp only [go_sem];(try simp (disch:=omega) only [zI]);repeat first | intro _ | refine ⟨by omega,?_⟩
     refine hK _ ?_;clear hK K;refine zw (zk [0,2,23,24]) ?_;simp only [go_sem]
     repeat refine zq ?_
     refine zb fun K hK=>?_;simp only [go_sem,hk];(try simp (disch:=omega) only [zI])
     refine zh (hla) rfl (by simp only [go_sem,i64,ints,hk]) (by simp only [go_sem,i64,ints,hk]) (by first | exact .inl rfl | exact .inr rfl) ?_
     (try simp only [go_sem,hk]);(try simp (disch:=omega) only [zI]);repeat first | intro _ | refine ⟨by omega,?_⟩
     refine hK _ ?_;clear hK K;refine zw (zk [0,3,23,24]) ?_;simp only [go_sem]
     have hs2:=h.s2
     have hs40:=h.s40
     have hw1 : IntKind.i64.wrap (r.start + 1) = r.start + 1:=by rw [zI] <;> omega
     repeat refine zq ?_
     refine zb fun K hK=>?_;simp only [go_sem,hw1];(try simp (disch:=omega) only [zI])
     refine ⟨by omega,?_⟩
     repeat first | intro _ | refine ⟨by omega,?_⟩
     refine hK _ ?_;clear hK K;refine zw (zk [0,3,4,23,24]) ?_;simp only [go_sem]
     repeat refine zq ?_
     refine zb fun K hK=>?_;simp only [go_sem];(try simp (disch:=omega) only [zI])
     refine zh (hlo) rfl (by simp only [go_sem,i64,ints]) (by simp only [go_sem,i64,ints]) (by first | exact .inl rfl | exact .inr rfl) ?_
     (try simp only [go_sem]);(try simp (disch:=omega) only [zI]);repeat first | intro _ | refine ⟨by omega,?_⟩
     refine hK _ ?_;clear hK K;refine zw (zk [0,3,4,5,23,24]) ?_;simp only [go_sem]
     repeat refine zq ?_
     refine zd ?_
     generalize hT : tabI r most i = T
     have hTl : T.length = r.ends.length:=by rw [← hT]; exact tabI_len r most i
     have hvis : ∀ st : Nat,(st : Int) ≤ r.start → VisG r T (r.ends.length - 1 - i) st:=fun st hst=>by rw [← hT]; exact vis_at h most i hci st hst
     generalize hkk : r.ends.length - 1 - i = k at *
     have hst1 : (r.start + 1).toNat = r.start.toNat + 1:=by omega
     have hlow : lowestR r = 1 ∨ lowestR r = 2:=by unfold lowestR; split <;> simp
     refine awp_uptoV (n:=72) (r.start.toNat + 1) (fun j vs=>[(0,.pt 1000 (vs 1000) 0),(3,.r (i64 (k : Int))),(4,.os 41 (vs 41) 1 0 (r.start.toNat + 1)),(5,.r (i64 (j : Int))),(23,.r (i64 r.ends.length)),(24,.r (i64 i))])
      (fun j vs=>[(14,.arr 41 1 (T.map fun row=>[cellT row])),(41,.arr 3 1 ((rowP r most T k j).map fun v=>[i64 v])),(1000,.box (sideA r most (.os 14 (vs 14) 1 0 r.ends.length)))]) (fun j=>lowestR r ≤ j) (lowestR r).toNat (zj [] ?_ ?_) (by omega) (by omega) ?_
     · simp only [go_sem,hk,hw1,hst1]
       omega
     · simp only [go_sem,hw1,hst1];rw [rowP_zero]
       simp only [List.map_replicate,List.replicate_succ,List.map_cons]
     · intro j vs hj hjl
       have hpl:=rowP_len r most T k j
       repeat refine zq ?_
       refine zb fun K hK=>?_;simp only [go_sem];(try simp (disch:=omega) only [zI]);repeat first | intro _ | refine ⟨by omega,?_⟩
       refine hK _ ?_;clear hK K;refine zw (zk [0,3,4,5,23,24,54]) ?_;simp only [go_sem]
       repeat refine zq ?_
       refine zc rfl (fun hc=>?_) (fun hc=>?_) <;> (try simp only [go_sem] at hc)
       · have hcj : (j : Int) ≤ r.start:=by omega
         obtain ⟨w0,hw0⟩:=opt_of_lt (show j < (rowP r most T k j).length by rw [hpl]; omega)
         have htk : List.take r.ends.length (T.map fun row=>[cellT row]) = T.map fun row=>[cellT row]:=List.take_of_length_le (by simp [hTl])
         have hw:=whole_ns (whole_ok most (hvis j hcj) h.aims (by omega))
         refine zx ?_
         try simp only [go_sem]
         repeat refine zq ?_
         refine zd ?_
         repeat refine zq ?_
         refine zb fun K hK=>?_;simp only [go_sem,hTl,htk,hpl];(try simp (disch:=omega) only [zI])
         refine zh (hw) rfl (by simp only [go_sem,i64,ints,hTl,htk,hpl]) (by simp only [go_sem,i64,ints,hTl,htk,hpl]) (by first | exact .inl rfl | exact .inr rfl) ?_
         (try simp only [go_sem,hTl,htk,hpl]);(try simp (disch:=omega) only [zI]);repeat first | intro _ | refine ⟨by omega,?_⟩
         refine hK _ ?_;clear hK K;refine zw (zk [0,3,4,5,23,24]) ?_;simp only [go_sem]
         repeat refine zq ?_
         refine zb fun K hK=>?_;simp only [go_sem];(try simp (disch:=omega) only [zI]);repeat first | intro _ | refine ⟨by omega,?_⟩
         refine hK _ ?_;clear hK K
         try simp only [go_sem]
         refine ⟨by omega,by omega,zj [] ?_ ?_⟩
         · try simp only [go_sem]
         · simp only [go_sem,hw0];rw [← rowP_set r most T k j hjl hcj,List.map_set]
       · have hje : j = r.start.toNat + 1:=by omega
         subst hje
         rw [rowP_end] at hpl ⊢
         refine zf ?_;simp only [go_sem];refine zw (sub_frz (ty:=3) (sz:=1) (off:=0) (m:=r.start.toNat + 1) (es:=(rowV r most T k).map fun v=>[i64 v]) 4 41 (by omega) (by try simp only [go_sem]) (by try simp only [go_sem]) (by simp [hpl])) ?_
         have e2 : (((rowV r most T k).map fun v=>[i64 v]).drop 0).take (r.start.toNat + 1) = (rowV r most T k).map fun v=>[i64 v]:=by
          rw [List.drop_zero,List.take_of_length_le (by simp [hpl])]
         rw [e2]
         refine zw (zk [0,3,4,23,24]) ?_;simp only [go_sem]
         have hkT : k < T.length:=by omega
         have hkr : k < r.ends.length:=by omega
         obtain ⟨w0,hw0⟩:=opt_of_lt hkT
         repeat refine zq ?_
         refine zb fun K hK=>?_;simp only [go_sem,hkT,hkr,hw0];(try simp (disch:=omega) only [zI]);repeat first | intro _ | refine ⟨by omega,?_⟩
         refine hK _ ?_;clear hK K;refine zw (zk [0,23,24]) ?_;simp only [go_sem]
         repeat refine zq ?_
         refine zb fun K hK=>?_;simp only [go_sem];(try simp (disch:=omega) only [zI]);repeat first | intro _ | refine ⟨by omega,?_⟩
         refine hK _ ?_;clear hK K
         try simp only [go_sem]
         refine ⟨by omega,zj [] ?_ ?_⟩
         · try simp only [go_sem]
         · try simp only [go_sem]
           have e3 : tabI r most (i + 1) = T.set k (rowV r most T k):=by simp only [tabI,hT,hkk]
           rw [e3,List.map_set]
           simp only [cellT,if_neg (rowV_ne r most T k)]
           done
   · have hil : i = r.ends.length:=by omega
     subst hil
     refine zf ?_;simp only [go_sem]
     try simp only [go_sem]
     refine ⟨by rw [tabI_len]; exact Nat.le_refl _,?_⟩
     rw [List.take_of_length_le (by rw [List.length_map,tabI_len]; exact Nat.le_refl _)]
     have : (tabI r most r.ends.length).map (fun row=>[cellT row]) = (tabI r most r.ends.length).map fun row=>[ints row] :=
      List.map_congr_left fun row hr=>by rw [cellT,if_neg (tab_ne r most row hr)]
     rw [this]
end Go.Proofs.Ytlljkgiomkmjbaa.Du

namespace Go.Oc
open Go Go.RowKit
set_option linter.unusedVariables false
set_option linter.unusedSimpArgs false
def sLitBox (P : Program) (s : AS) (d : Nat) (t : TypeId) (len : Nat) (parts : List (Nat × AV)) : Res :=
 match tyq P t with
 | some ⟨.slice e esz _ ez, _, _, _⟩ =>
   if len = 0 then .bad else
   match lay s.ver (fun i=>some (i * esz,esz)) ((List.replicate len ez).flatten.map .r) parts with
   | some cs=>⟨0 < esz ∧ len * esz ≤ 16777216 ∧ d < 1000,True,⟨.os d ((s.rows d).ver + 1) esz 0 len,[(d,⟨(s.rows d).ver + 1,.ara e esz cs⟩)]⟩⟩
   | none=>.bad
 | _=>.bad
section
variable {P : Program} {C : Ctx} {p : Plan} {s : AS} {a : Act} {w : World} {o : Oper}
theorem relV_map_r {ver : Nat → Nat} : ∀ {xs : List RV} {vs : List Value},RV.relV w p.R xs vs → AV.relV w p ver (xs.map .r) vs
 | [],vs,h=>by simp only [RV.relV] at h; simp only [List.map_nil,AV.relV]; exact h
 | x :: xs, vs, h => by
   simp only [RV.relV] at h
   obtain ⟨u,us,e,h1,h2⟩:=h
   simp only [List.map_cons,AV.relV,AV.rel];exact ⟨u,us,e,h1,relV_map_r h2⟩
variable {Q : Exit → AS → Prop} {ops : Array Oper}
end
theorem sub_freezePB (s : AS) (kb i k v : Nat) {cells : List AV} {rs : List RV} (hk0 : k < 1000) (hne : kb ≠ k) (hbox : (s.rows kb).c = .box cells) (hi : cells[i]? = some (.pt k v 0)) (hv : v = s.ver k)
 (hc : (s.rows k).c = .box (rs.map .r)) :
 Sub s { s with rows:=upd (upd s.rows k ⟨(s.rows k).ver + 1,.dead⟩) kb ⟨(s.rows kb).ver,.box (cells.set i (.r (.rp rs)))⟩ }:=fun C a w ⟨p,hp⟩=>by
 have h1:=hp.reRow (w':=w) k hk0 .dead rfl none 1 (by simp [maxLen]) rfl rfl rfl (Nat.le_refl _) (fun _ _ _=>rfl) (fun _ h=>by cases h) (fun p' ver' _ hβ hγ _=>by simp only [rowRel]; exact ⟨hβ,hγ⟩)
 have hr:=hp.rw kb
 rw [hbox] at hr
 simp only [rowRel] at hr
 obtain ⟨b,cs,t,g1,g2,g3,g4⟩:=hr
 obtain ⟨u,hu,hval⟩:=AV.relV_get g3 hi
 have hq:=hp.rw k
 rw [hc] at hq
 simp only [rowRel] at hq
 obtain ⟨bk,ck,tk,k1,k2,k3,k4⟩:=hq
 simp only [AV.rel] at hval
 obtain ⟨bk',e1,e2⟩:=hval.2 hv
 rw [k1] at e1
 injection e1 with e1
 subst e1
 obtain ⟨q1,_,q2⟩:=hp.bl k bk k1
 have h2:=h1.publish (b:=bk) q1 (q2.imp id fun h=>h.resolve_left (fun h=>by omega)) (fun j hj=>by
  have hj' : upd p.β k none j = some bk:=hj
  by_cases e : j = k
  · subst e; rw [upd_same] at hj'; cases hj'
  · rw [upd_other _ _ e] at hj'; exact e (hp.ij j k bk hj' k1)) (hp.ex.publish k1)
 have hr2:=h2.rw kb
 rw [show (upd s.rows k ⟨(s.rows k).ver + 1,.dead⟩ kb).c = .box cells by rw [upd_other _ _ hne]; exact hbox] at hr2
 simp only [rowRel] at hr2
 obtain ⟨b',cs',t',f1,f2,f3,f4⟩:=hr2
 have eb : b' = b:=by
  rw [show (upd p.β k none) kb = p.β kb from upd_other _ _ hne,g1] at f1
  injection f1 with e; exact e.symm
 subst eb
 rw [g2] at f2
 injection f2 with e
 injection e with e1 e2' e3
 subst e1
 have:=h2.setRow (w':=w) kb (.box (cells.set i (.r (.rp rs))))
  (by rw [show (upd s.rows k ⟨(s.rows k).ver + 1,.dead⟩ kb).c = .box cells by rw [upd_other _ _ hne]; exact hbox]; rfl) (fun _ _ _ _ h=>by cases h) f1 rfl rfl rfl rfl (fun _ _=>rfl) (fun _=>by
   simp only [rowRel]
   refine ⟨b',cs,t',f1,by rw [g2,e2'],relV_set f3 (fun u' hu'=>?_),f4⟩
   rw [hu] at hu'
   injection hu' with e
   subst e
   simp only [AV.rel,RV.rel]
   refine ⟨_,e2,.inr rfl,?_⟩
   exact relC_plain (fun _ h=>.inl h) k2 k4 _ _ _ (fun i u h=>by simpa using h) k3)
 rw [show (upd s.rows k ⟨(s.rows k).ver + 1,.dead⟩ kb).ver = (s.rows kb).ver by rw [upd_other _ _ hne]] at this
 exact ⟨_,this⟩
section
variable {n : Nat} {l : List (Nat × AV)} {vs : Nat → Nat} {cs : List (Nat × RowC)}
theorem sub_frzPB (kb i k : Nat) (rs : List RV) {cells : List AV} (hk0 : k < 1000) (hne : kb ≠ k) (hb : lookc cs kb = .box cells) (hi : cells[i]? = some (.pt k (vs k) 0)) (hc : lookc cs k = .box (rs.map .r)) :
 Sub (st n l vs cs) (st n l (upd vs k (vs k + 1)) (insc (delc cs k) kb (.box (cells.set i (.r (.rp rs)))))):=by
 have:=sub_freezePB (st n l vs cs) kb i k (vs k) hk0 hne hb hi rfl hc
 have e : ({ st n l vs cs with rows:=upd (upd (st n l vs cs).rows k ⟨((st n l vs cs).rows k).ver + 1,.dead⟩) kb ⟨((st n l vs cs).rows kb).ver,.box (cells.set i (.r (.rp rs)))⟩ } : AS)
  = st n l (upd vs k (vs k + 1)) (insc (delc cs k) kb (.box (cells.set i (.r (.rp rs))))):=by
  simp only [st,AS.mk.injEq,true_and]
  funext j
  rw [lookc_insc,lookc_delc]
  unfold upd
  split
  · rename_i e; subst e; rw [if_neg hne]
  · split <;> rfl
 rwa [e] at this
end
end Go.Oc

namespace Go.Proofs.Ytlljkgiomkmjbaa.Du
open Go Go.Oc
set_option linter.unusedSimpArgs false
set_option linter.unusedVariables false
set_option maxRecDepth 8000
mutual
theorem rv_le : ∀ x : RV,RV.le x x
 | .sl _ _=>by simp only [RV.le]; exact .inl trivial
 | .ag xs=>by simp only [RV.le]; exact rv_leL xs
 | .fn _ xs=>by simp only [RV.le]; exact ⟨trivial,rv_leL xs⟩
 | .rp xs=>by simp only [RV.le]; exact rv_leL xs
 | .un | .bo _ | .it _ _ | .ns | .np | .nf | .tu _ | .st _ | .ud | .yl _ | .sx _ _ | .vl _ | .bf _ _=>by simp only [RV.le]
theorem rv_leL : ∀ xs : List RV,RV.leL xs xs
 | []=>by simp only [RV.leL]
 | x :: xs=>by simp only [RV.leL]; exact ⟨rv_le x,rv_leL xs⟩
end
theorem seq_beds : ∀ {p : Option Int} {l : List Bd},seqOk p l = true → ∀ x ∈ l,x.b = 0 ∨ bedOk x.b = true
 | _,[],_,x,hx=>by cases hx
 | p, y :: l, h, x, hx => by
   simp only [seqOk,Bool.and_eq_true,Bool.or_eq_true,decide_eq_true_eq] at h
   rcases List.mem_cons.1 hx with rfl | hx
   · exact h.1.1
   · exact seq_beds h.2 x hx
theorem bedOk_le {b : Int} (h : bedOk b = true) : 0 ≤ b ∧ b ≤ 499:=by
 simp only [bedOk,Bool.or_eq_true,Bool.and_eq_true,decide_eq_true_eq] at h
 omega
theorem ruG_of {r : Ru} (h : ruE r = 0) : RuG r ∧ 1 ≤ r.ends.length ∧ 0 ≤ r.out ∧ r.out ≤ 2:=by
 unfold ruE at h
 split at h
 · rename_i hc; exact absurd h hc
 · rename_i hc
   have hc : checkV r.d r.aims = 0:=by simpa using hc
   split at h
   · rename_i hb
     simp only [Bool.and_eq_true,decide_eq_true_eq] at hb
     obtain ⟨⟨⟨⟨⟨⟨⟨s2,s40⟩,o0⟩,o2⟩,e1⟩,e10⟩,he⟩,hl⟩:=hb
     unfold checkV at hc
     split at hc
     · cases hc
     · rename_i g1
       split at hc
       · cases hc
       · rename_i g2
         split at hc
         · rename_i g3
           simp only [Bool.or_eq_true,decide_eq_true_eq,List.any_eq_true,not_or,not_exists,not_and] at g1
           simp only [Bool.or_eq_true,Bool.not_eq_true',Bool.and_eq_false_iff,decide_eq_false_iff_not,not_or,Decidable.not_not,List.isEmpty_iff] at g2
           refine ⟨⟨⟨g2.1,by omega,by omega,by omega,fun a ha=>?_⟩,e1,e10,fun x hx=>List.all_eq_true.1 he x hx,s2,s40⟩,e1,o0,o2⟩
           have ha1:=List.all_eq_true.1 g3 a ha
           have ha2:=g1.2 a ha
           simp only [aimOk,Bool.and_eq_true,decide_eq_true_eq] at ha1
           obtain ⟨⟨⟨⟨q1,q2⟩,q3⟩,q4⟩,q5⟩:=ha1
           refine ⟨by omega,q4,fun c hc=>?_⟩
           have hb:=seq_beds q2 c hc
           have hch:=List.all_eq_true.1 q3 c hc
           simp only [Bool.and_eq_true,decide_eq_true_eq] at hch
           refine ⟨?_,hch.1.1,hch.1.2,by omega⟩
           rcases hb with hb | hb
           · omega
           · exact bedOk_le hb
         · cases hc
   · cases h
def tabF (r : Ru) (most : Bool) : List (List Int):=tabI r most r.ends.length
abbrev sidesV (r : Ru) : RV:=if ruE r = 0 then .ag [sideP r false (tabF r false),sideP r true (tabF r true)] else .ag [.np,.np]
theorem sides_ok (r : Ru) (hw : WfR r) : ACalls Try.prog 42 [ruV r] (.tu [sidesV r,i64 (ruE r)]):=by
 have hch:=dcheck_ok r hw
 refine acalls_st (rs:=[sidesV r,i64 (ruE r)]) [.cell 2 129,.tmp 3] Try.func42 rfl (by kernel_rfl) Try.ntmps42 rfl (by simp) rfl fun C vs=>?_
 repeat refine zq ?_
 refine zb fun K hK=>?_;simp only [go_sem];(try simp (disch:=omega) only [zI]);repeat first | intro _ | refine ⟨by omega,?_⟩
 refine hK _ ?_;clear hK K;refine zw (sub_frzP 1 1 (ruC r) (by omega) rfl rfl) ?_;refine zw (zk [1,2]) ?_;simp only [go_sem]
 repeat refine zq ?_
 refine zb fun K hK=>?_;simp only [go_sem];(try simp (disch:=omega) only [zI])
 refine zh (hch) rfl (by simp only [go_sem,i64,ints]) (by simp only [go_sem,i64,ints]) (by first | exact .inl rfl | exact .inr rfl) ?_
 (try simp only [go_sem]);(try simp (disch:=omega) only [zI]);repeat first | intro _ | refine ⟨by omega,?_⟩
 refine hK _ ?_;clear hK K;refine zw (zk [1,2,4]) ?_;simp only [go_sem]
 by_cases h0 : ruE r = 0
 rotate_left
 · have c : (ruE r != 0) = true:=by simpa using h0
   repeat refine zq ?_
   refine zb fun K hK=>?_;simp only [go_sem,c];(try simp (disch:=omega) only [zI]);repeat first | intro _ | refine ⟨by omega,?_⟩
   refine hK _ ?_;clear hK K;refine zw (zk [1,2,4,9]) ?_;simp only [go_sem]
   repeat refine zq ?_
   refine zc rfl (fun hc=>?_) (fun hc=>?_) <;> (try simp only [go_sem] at hc)
   repeat refine zq ?_
   refine zb fun K hK=>?_;simp only [go_sem];(try simp (disch:=omega) only [zI]);repeat first | intro _ | refine ⟨by omega,?_⟩
   refine hK _ ?_;clear hK K;refine zw (zk [2,3]) ?_;simp only [go_sem];refine ze ?_;simp only [go_sem];simp only [sidesV,if_neg h0];exact rv_le _
 obtain ⟨hG,_⟩:=ruG_of h0
 rw [h0]
 repeat refine zq ?_
 refine zb fun K hK=>?_;simp only [go_sem,bne_self_eq_false];(try simp (disch:=omega) only [zI]);repeat first | intro _ | refine ⟨by omega,?_⟩
 refine hK _ ?_;clear hK K;refine zw (zk [1,2,4,9]) ?_;simp only [go_sem]
 repeat refine zq ?_
 refine zc rfl (fun hc=>?_) (fun hc=>?_) <;> (try simp only [go_sem] at hc)
 refine zx ?_
 try simp only [go_sem]
 repeat refine zq ?_
 refine zb fun K hK=>?_;simp only [go_sem];(try simp (disch:=omega) only [zI]);repeat first | intro _ | refine ⟨by omega,?_⟩
 refine hK _ ?_;clear hK K;refine zw (zk [1,2,12]) ?_;simp only [go_sem]
 repeat refine zq ?_
 refine zd ?_
 refine awp_uptoV (n:=29) 2 (fun i vs=>[(1,.r (.rp (ruC r))),(2,.pt 2 (vs 2) 0),(12,.r (i64 (i : Int)))])
  (fun i vs=>[(2,.box [if 0 < i then .r (sideP r false (tabF r false)) else .r .np,if 1 < i then .r (sideP r true (tabF r true)) else .r .np])]) (fun _=>True) 0 (zj [] ?_ ?_) (Nat.zero_le _) trivial ?_
 · try simp only [go_sem]
 · try simp only [go_sem]
 · intro i vs hi _
   have hf0:=fill_ok hG false
   have hf1:=fill_ok hG true
   have e01 : ((0 : Int) == 1) = false:=rfl
   have e11 : ((1 : Int) == 1) = true:=rfl
   have h012 : i = 0 ∨ i = 1 ∨ i = 2:=by omega
   rcases h012 with rfl | rfl | rfl
   · repeat refine zq ?_
     refine zb fun K hK=>?_;simp only [go_sem];(try simp (disch:=omega) only [zI]);repeat first | intro _ | refine ⟨by omega,?_⟩
     refine hK _ ?_;clear hK K;refine zw (zk [1,2,12,13]) ?_;simp only [go_sem]
     repeat refine zq ?_
     refine zc rfl (fun hc=>?_) (fun hc=>?_) <;> (try simp only [go_sem] at hc)
     refine zx ?_
     try simp only [go_sem]
     repeat refine zq ?_
     refine zd ?_
     repeat refine zq ?_
     refine zb fun K hK=>?_;simp only [go_sem];(try simp (disch:=omega) only [zI]);repeat first | intro _ | refine ⟨by omega,?_⟩
     refine hK _ ?_;clear hK K;refine zw (zk [1,2,5,12]) ?_;simp only [go_sem]
     repeat refine zq ?_
     refine zb fun K hK=>?_;simp only [go_sem,e01,e11];(try simp (disch:=omega) only [zI]);repeat first | intro _ | refine ⟨by omega,?_⟩
     refine hK _ ?_;clear hK K;refine zw (zk [1,2,5,12]) ?_;simp only [go_sem]
     repeat refine zq ?_
     refine zb fun K hK=>?_;simp only [go_sem];(try simp (disch:=omega) only [zI])
     refine xcall_mut (hf0) [(1000,21)] rfl (by simp only [go_sem,i64,ints]) (by simp only [go_sem,i64,ints]) (by rfl) (by rfl) ?_
     (try simp only [go_sem]);(try simp (disch:=omega) only [zI]);repeat first | intro _ | refine ⟨by omega,?_⟩
     refine hK _ ?_;clear hK K;refine zw (sub_frzPB 2 0 21 (sideC r false (tabF r false)) (by omega) (by omega) rfl rfl rfl) ?_;refine zw (zk [1,2,12]) ?_;simp only [go_sem]
     repeat refine zq ?_
     refine zb fun K hK=>?_;simp only [go_sem];(try simp (disch:=omega) only [zI]);repeat first | intro _ | refine ⟨by omega,?_⟩
     refine hK _ ?_;clear hK K
     try simp only [go_sem]
     refine zj [] ?_ ?_
     · try simp only [go_sem]
     · try simp only [go_sem]
   · repeat refine zq ?_
     refine zb fun K hK=>?_;simp only [go_sem];(try simp (disch:=omega) only [zI]);repeat first | intro _ | refine ⟨by omega,?_⟩
     refine hK _ ?_;clear hK K;refine zw (zk [1,2,12,13]) ?_;simp only [go_sem]
     repeat refine zq ?_
     refine zc rfl (fun hc=>?_) (fun hc=>?_) <;> (try simp only [go_sem] at hc)
     refine zx ?_
     try simp only [go_sem]
     repeat refine zq ?_
     refine zd ?_
     repeat refine zq ?_
     refine zb fun K hK=>?_;simp only [go_sem];(try simp (disch:=omega) only [zI]);repeat first | intro _ | refine ⟨by omega,?_⟩
     refine hK _ ?_;clear hK K;refine zw (zk [1,2,5,12]) ?_;simp only [go_sem]
     repeat refine zq ?_
     refine zb fun K hK=>?_;simp only [go_sem,e01,e11];(try simp (disch:=omega) only [zI]);repeat first | intro _ | refine ⟨by omega,?_⟩
     refine hK _ ?_;clear hK K;refine zw (zk [1,2,5,12]) ?_;simp only [go_sem]
     repeat refine zq ?_
     refine zb fun K hK=>?_;simp only [go_sem];(try simp (disch:=omega) only [zI])
     refine xcall_mut (hf1) [(1000,21)] rfl (by simp only [go_sem,i64,ints]) (by simp only [go_sem,i64,ints]) (by rfl) (by rfl) ?_
     (try simp only [go_sem]);(try simp (disch:=omega) only [zI]);repeat first | intro _ | refine ⟨by omega,?_⟩
     refine hK _ ?_;clear hK K;refine zw (sub_frzPB 2 1 21 (sideC r true (tabF r true)) (by omega) (by omega) rfl rfl rfl) ?_;refine zw (zk [1,2,12]) ?_;simp only [go_sem]
     repeat refine zq ?_
     refine zb fun K hK=>?_;simp only [go_sem];(try simp (disch:=omega) only [zI]);repeat first | intro _ | refine ⟨by omega,?_⟩
     refine hK _ ?_;clear hK K
     try simp only [go_sem]
     refine zj [] ?_ ?_
     · try simp only [go_sem]
     · try simp only [go_sem]
   · repeat refine zq ?_
     refine zb fun K hK=>?_;simp only [go_sem];(try simp (disch:=omega) only [zI]);repeat first | intro _ | refine ⟨by omega,?_⟩
     refine hK _ ?_;clear hK K;refine zw (zk [1,2,12,13]) ?_;simp only [go_sem]
     repeat refine zq ?_
     refine zc rfl (fun hc=>?_) (fun hc=>?_) <;> (try simp only [go_sem] at hc)
     refine zf ?_;simp only [go_sem]
     repeat refine zq ?_
     refine zb fun K hK=>?_;simp only [go_sem];(try simp (disch:=omega) only [zI]);repeat first | intro _ | refine ⟨by omega,?_⟩
     refine hK _ ?_;clear hK K;refine zw (zk [2,3]) ?_;simp only [go_sem];refine ze ?_;simp only [go_sem];simp only [sidesV,if_pos h0];exact rv_le _
abbrev tabsV (r : Ru) (most : Bool) : RV:=if ruE r = 0 then tabR (tabF r most) else .ns
theorem table_ok (r : Ru) (hw : WfR r) : ACalls Try.prog 34 [ruV r] (.tu [tabsV r false,tabsV r true,i64 (ruE r)]):=by
 have hs:=sides_ok r hw
 refine acalls_st (rs:=[tabsV r false,tabsV r true,i64 (ruE r)]) [.tmp 2,.tmp 3,.tmp 4] Try.func34 rfl (by kernel_rfl) Try.ntmps34 rfl (by simp) rfl fun C vs=>?_
 repeat refine zq ?_
 refine zb fun K hK=>?_;simp only [go_sem];(try simp (disch:=omega) only [zI]);repeat first | intro _ | refine ⟨by omega,?_⟩
 refine hK _ ?_;clear hK K;refine zw (sub_frzP 1 1 (ruC r) (by omega) rfl rfl) ?_;refine zw (zk [1]) ?_;simp only [go_sem]
 by_cases h0 : ruE r = 0
 · have e1 : sidesV r = .ag [sideP r false (tabF r false),sideP r true (tabF r true)]:=if_pos h0
   rw [e1,h0] at hs
   repeat refine zq ?_
   refine zb fun K hK=>?_;simp only [go_sem];(try simp (disch:=omega) only [zI])
   refine zh (hs) rfl (by simp only [go_sem,i64,ints]) (by simp only [go_sem,i64,ints]) (by first | exact .inl rfl | exact .inr rfl) ?_
   (try simp only [go_sem]);(try simp (disch:=omega) only [zI]);repeat first | intro _ | refine ⟨by omega,?_⟩
   refine hK _ ?_;clear hK K;refine zw (zk [4,5]) ?_;simp only [go_sem]
   repeat refine zq ?_
   refine zb fun K hK=>?_;simp only [go_sem,bne_self_eq_false];(try simp (disch:=omega) only [zI]);repeat first | intro _ | refine ⟨by omega,?_⟩
   refine hK _ ?_;clear hK K;refine zw (zk [4,5,12]) ?_;simp only [go_sem]
   repeat refine zq ?_
   refine zc rfl (fun hc=>?_) (fun hc=>?_) <;> (try simp only [go_sem] at hc)
   refine zx ?_
   try simp only [go_sem]
   repeat refine zq ?_
   refine zg follows (by decide +kernel) (by kernel_rfl) fun K hK=>?_;simp only [go_sem];(try simp (disch:=omega) only [zI]);repeat first | intro _ | refine ⟨by omega,?_⟩
   refine hK _ ?_;clear hK K;refine zw (zk [2,3,4]) ?_;simp only [go_sem];refine ze ?_;simp only [go_sem];simp only [tabsV,if_pos h0];exact ⟨rv_le _,rv_le _,h0.symm⟩
 · have e1 : sidesV r = .ag [.np,.np]:=if_neg h0
   have c : (ruE r != 0) = true:=by simpa using h0
   rw [e1] at hs
   repeat refine zq ?_
   refine zb fun K hK=>?_;simp only [go_sem];(try simp (disch:=omega) only [zI])
   refine zh (hs) rfl (by simp only [go_sem,i64,ints]) (by simp only [go_sem,i64,ints]) (by first | exact .inl rfl | exact .inr rfl) ?_
   (try simp only [go_sem]);(try simp (disch:=omega) only [zI]);repeat first | intro _ | refine ⟨by omega,?_⟩
   refine hK _ ?_;clear hK K;refine zw (zk [4,5]) ?_;simp only [go_sem]
   repeat refine zq ?_
   refine zb fun K hK=>?_;simp only [go_sem,c];(try simp (disch:=omega) only [zI]);repeat first | intro _ | refine ⟨by omega,?_⟩
   refine hK _ ?_;clear hK K;refine zw (zk [4,5,12]) ?_;simp only [go_sem]
   repeat refine zq ?_
   refine zc rfl (fun hc=>?_) (fun hc=>?_) <;> (try simp only [go_sem] at hc)
   repeat refine zq ?_
   refine zb fun K hK=>?_;simp only [go_sem];(try simp (disch:=omega) only [zI]);repeat first | intro _ | refine ⟨by omega,?_⟩
   refine hK _ ?_;clear hK K;refine zw (zk [2,3,4]) ?_;simp only [go_sem];refine ze ?_;simp only [go_sem];simp only [tabsV,if_neg h0];exact ⟨rv_le _,rv_le _⟩
structure RefH (r : Ru) : Prop where
 out : r.out = 0 ∨ r.out = 1 ∨ r.out = 2
 beds : ∀ a ∈ r.aims,∀ c ∈ a.beds,c.b = 0 ∨ 0 < scoreOf c.b
 hi : ∀ a ∈ r.aims,r.d ≤ hiS a.beds
theorem bedOk_pos {b : Int} (h : bedOk b = true) : 0 < scoreOf b:=by
 simp only [bedOk,Bool.or_eq_true,Bool.and_eq_true,decide_eq_true_eq] at h
 unfold scoreOf
 refine Int.mul_pos (by omega) (by omega)
theorem refH_of {r : Ru} (h : ruE r = 0) : RefH r:=by
 have h0:=h
 unfold ruE at h
 split at h
 · rename_i hc; exact absurd h hc
 · rename_i hc
   have hc : checkV r.d r.aims = 0:=by simpa using hc
   obtain ⟨_,_,o0,o2⟩:=ruG_of h0
   unfold checkV at hc
   split at hc
   · cases hc
   · split at hc
     · cases hc
     · split at hc
       · rename_i g3
         refine ⟨by omega,fun a ha c hc=>?_,fun a ha=>?_⟩
         · have ha1:=List.all_eq_true.1 g3 a ha
           simp only [aimOk,Bool.and_eq_true,decide_eq_true_eq] at ha1
           obtain ⟨⟨⟨⟨q1,q2⟩,q3⟩,q4⟩,q5⟩:=ha1
           rcases seq_beds q2 c hc with hb | hb
           · exact .inl hb
           · exact .inr (bedOk_pos hb)
         · have ha1:=List.all_eq_true.1 g3 a ha
           simp only [aimOk,Bool.and_eq_true,decide_eq_true_eq] at ha1
           exact ha1.2
       · cases hc
theorem hiS_chW (f : Int → Int) (l : List Bd) : hiS (chW f l) = hiS l:=by simp [hiS,chW,Function.comp_def]
structure Pos where
 round : Int
 start : Int
 left : Int
 darts : Int
abbrev posC (p : Pos) : List RV:=[i64 p.round,i64 p.start,i64 p.left,i64 p.darts]
abbrev posV (p : Pos) : RV:=.ag (posC p)
def oddsV (r : Ru) (most : Bool) (T : List (List Int)) (k st left d : Nat) : List Int:=meansV r most (nextV r most T k st (valV r most T k st d) (decide (d = 0)) left)
end Go.Proofs.Ytlljkgiomkmjbaa.Du

namespace Go.Oc
open Go Go.RowKit
set_option linter.unusedVariables false
set_option linter.unusedSimpArgs false
def unl (listed : Array Bool) : Nat → Nat
 | 0=>0
 | m + 1=>unl listed m + if listed.getD m true then 0 else 1
def stepAll (P : Program) (ops : Array Oper) (n : Nat) (F : (Nat → Bool) → (Nat → Nat) → List (Nat × AV)) (R : (Nat → Bool) → (Nat → Nat) → List (Nat × RowC)) : Nat → List Oper → Prop
 | _,[]=>True
 | k,o :: rest=>(∀ b vs,(∀ j e,j < ops.size → (deps ops j).contains e = true → b j = true → b e = true) → b k = false → (∀ e ∈ deps ops k,b e = true) →
  xop P false o (FitV n (F (upd b k true)) (R (upd b k true))) (st n (F b vs) vs (R b vs))) ∧ stepAll P ops n F R (k + 1) rest
def upOk (ops : Array Oper) : Bool:=(List.range ops.size).all fun j=>(deps ops j).all fun e=>decide (e < j)
section
variable {P : Program} {C : Ctx} {s : AS} {a : Act} {w : World} {ops : Array Oper}
end
def allB (b : Nat → Bool) (v : Bool) : List Nat → Prop
 | []=>True
 | e :: es=>b e = v ∧ allB b v es
def chU (ops : Array Oper) (n : Nat) : List Nat → List Nat → Bool
 | _,[]=>true
 | seen,e :: es=>((deps ops n).contains e || seen.any fun j=>decide (j < ops.size) && (deps ops j).contains e) && chU ops n (e :: seen) es
def chD (ops : Array Oper) (n : Nat) : List Nat → List Nat → Bool
 | _,[]=>true
 | seen,e :: es=>(decide (e < ops.size) && ((deps ops e).contains n || seen.any fun j=>(deps ops e).contains j)) && chD ops n (e :: seen) es
end Go.Oc

namespace Go.Oc
open Go Go.RowKit
set_option linter.unusedVariables false
set_option linter.unusedSimpArgs false
def sAppB (P : Program) (s : AS) (d : Nat) (t t' : TypeId) (x y : AV) : Res :=
 match tyq P t,decide (t = t'),x,y with
 | some ⟨.slice e esz eb _, _, _, _⟩, true, .os k n sz off m, .os j n2 sz2 off2 m2 =>
   match s.rows k,s.rows j with
   | ⟨n',.ara e' sz' cs⟩,⟨n2',.ara e2 sz2' ds⟩=>⟨(n = n' ∧ n2 = n2') ∧ (e' = e ∧ e2 = e) ∧ (sz = esz ∧ sz' = esz ∧ sz2 = esz ∧ sz2' = esz) ∧ (off = 0 ∧ off2 = 0) ∧ (cs.length = m * esz ∧ ds.length = m2 * esz) ∧ (0 < m ∧ 0 < m2 ∧ 0 < esz) ∧ (m + m2) * eb ≤ 140737488355328 ∧ m + m2 ≤ 9223372036854775807 ∧ k < 1000,True,
    ⟨.os k (n' + 1) esz 0 (m + m2),[(k,⟨n' + 1,.ara e esz (cs ++ ds)⟩)]⟩⟩
   | _,_=>.bad
 | some ⟨.slice e esz eb _, _, _, _⟩, true, .r .ns, .os j n2 sz2 off2 m2 =>
   match s.rows j with
   | ⟨n2',.ara e2 sz2' ds⟩=>⟨n2 = n2' ∧ e2 = e ∧ (sz2 = esz ∧ sz2' = esz) ∧ off2 = 0 ∧ ds.length = m2 * esz ∧ (0 < m2 ∧ 0 < esz) ∧ m2 * eb ≤ 140737488355328 ∧ m2 ≤ 9223372036854775807 ∧ d < 1000,True,
    ⟨.os d ((s.rows d).ver + 1) esz 0 m2,[(d,⟨(s.rows d).ver + 1,.ara e esz ds⟩)]⟩⟩
   | _=>.bad
 | _,_,_,_=>.bad
section
variable {P : Program} {C : Ctx} {p : Plan} {s : AS} {a : Act} {w : World} {o : Oper}
variable {Q : Exit → AS → Prop} {ops : Array Oper}
end
end Go.Oc

namespace Go.Oc
open Go Go.RowKit
set_option linter.unusedVariables false
set_option linter.unusedSimpArgs false
def fam (f : Nat → RowC) : Nat → List (Nat × RowC)
 | 0=>[]
 | n + 1=>fam f n ++ [(n + 600,f n)]
def xlit (P : Program) (o : Oper) (K : AS → Prop) (s : AS) : Prop :=
 match o.op,o.dst with
 | .buildSlice t n ps,some d=>aR s (some d) (sLitBox P s d t n (ps.toList.map fun (i,x)=>(i,s.ev x))) K
 | _,_=>False
def xappB (P : Program) (o : Oper) (K : AS → Prop) (s : AS) : Prop :=
 match o.op,o.dst with
 | .call ⟨.builtin .append,⟨[x,y]⟩,⟨[t,t']⟩⟩,some d=>aR s (some d) (sAppB P s d t t' (s.ev x) (s.ev y)) K
 | _,_=>False
def xopL (P : Program) (o : Oper) (K : AS → Prop) (s : AS) : Prop:=xop P false o K s ∨ xlit P o K s ∨ xappB P o K s
section
variable {P : Program} {C : Ctx} {s : AS}
end
def stepAllL (P : Program) (ops : Array Oper) (n : Nat) (F : (Nat → Bool) → (Nat → Nat) → List (Nat × AV)) (R : (Nat → Bool) → (Nat → Nat) → List (Nat × RowC)) : Nat → List Oper → Prop
 | _,[]=>True
 | k,o :: rest=>(∀ b vs,(∀ j e,j < ops.size → (deps ops j).contains e = true → b j = true → b e = true) → b k = false → (∀ e ∈ deps ops k,b e = true) →
  xopL P o (FitV n (F (upd b k true)) (R (upd b k true))) (st n (F b vs) vs (R b vs))) ∧ stepAllL P ops n F R (k + 1) rest
section
variable {P : Program} {C : Ctx} {s : AS} {a : Act} {w : World} {ops : Array Oper}
end
end Go.Oc

namespace Go.Proofs.Ytlljkgiomkmjbaa.Du
open Go Go.Oc
set_option linter.unusedSimpArgs false
set_option linter.unusedVariables false
set_option maxRecDepth 8000
set_option maxHeartbeats 4000000
abbrev u8Q (n : Nat) : RV:=.it .u8 (n : Int)
def bedN (v : Nat) : Nat:=if v % 16 = 0 then 0 else 100 * (1 + v % 3) + 1 + v / 3 % 10
def posN (b : Int) : List Bd → Nat
 | []=>0
 | x :: L=>if x.b ≤ b then posN b L + 1 else 0
def seenB (b : Int) (L : List Bd) (k : Nat) : Bool:=(L.take k).any fun x=>x.b == b
def scN (d left : Int) (v : Nat × Nat × Nat) : Bd:=⟨bedN v.1,left * v.2.1 / 512,min d (left * v.2.1 / 512 + ((v.2.2 % 20 : Nat) : Int))⟩
def scS (d : Int) (s : List Bd × Int) (v : Nat × Nat × Nat) : List Bd × Int :=
 if seenB (bedN v.1) s.1 (posN (bedN v.1) s.1) then s
 else (s.1.take (posN (bedN v.1) s.1) ++ [scN d s.2 v] ++ s.1.drop (posN (bedN v.1) s.1),s.2 - s.2 * v.2.1 / 512)
def triK (a : List Nat) (k : Nat) : Nat × Nat × Nat:=(a.getD (3 * k) 0,a.getD (3 * k + 1) 0,a.getD (3 * k + 2) 0)
def scF (d : Int) (a : List Nat) : Nat → List Bd × Int
 | 0=>([],d)
 | k + 1=>scS d (scF d a k) (triK a k)
def headD (d : Int) : List Bd → List Bd
 | []=>[⟨201,0,d⟩]
 | x :: L=>⟨x.b,x.lo,d⟩ :: L
def scA (d : Int) (a : List Nat) : Am:=⟨201,headD d (scF d a 4).1⟩
def scL (d : Int) (as_ : List (List Nat)) : List Am:=if as_.length = 0 then [⟨201,headD d []⟩] else (as_.take 3).map (scA d)
structure ScI (d : Int) (s : List Bd × Int) : Prop where
 left : 0 ≤ s.2 ∧ s.2 ≤ d
 lo : loS s.1 + s.2 = d
 ok : ∀ x ∈ s.1,0 ≤ x.lo ∧ x.lo ≤ x.hi ∧ x.hi ≤ d ∧ (x.b = 0 ∨ bedOk x.b = true)
 asc : s.1.Pairwise fun x y=>x.b < y.b
end Go.Proofs.Ytlljkgiomkmjbaa.Du
