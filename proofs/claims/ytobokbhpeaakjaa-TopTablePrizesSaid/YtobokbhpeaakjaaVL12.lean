/- For all matches, shares and funds, the given function TopTablePrizes returns true: all prizes of a season and what is kept are the fund, no team gets more than one that is before it if no share is greater than the one before, and who is sure to go up alone gets the first prize. No conditions beyond those of the given statement. -/
import Derived.Test.YtobokbhpeaakjaaVL11
import Derived.Test.YtobokbhpeaakjaaVL5
import Derived.ChangeShapes
import Derived.WideShapes
import Derived.OpenShut
import Derived.ShutString
import Derived.ChangeOld
import Derived.Carry
import Derived.Below
import Derived.Test.YtobokbhpeaakjaaVL10
import Derived.JoinedOf
import Derived.Test.YtobokbhpeaakjaaRows
import Derived.SizedLaws
namespace Go.Proofs.Ytobokbhpeaakjaa
open Go Go.Oc
set_option linter.unusedSimpArgs false
set_option linter.unusedVariables false
set_option maxRecDepth 8000
def payS (m : Int) (sh : List Int) (s : List (Int × Int) × Nat × Int) (g : List Int) : List (Int × Int) × Nat × Int :=
 (payM s.1 g (psumL m sh s.2.1 g.length / g.length),s.2.1 + g.length,s.2.2 - psumL m sh s.2.1 g.length / g.length * g.length)
def stP (m : Int) (sh : List Int) (ps : List (List Int)) : List (Int × Int) × Nat × Int:=ps.foldl (payS m sh) ([],0,m)
theorem pay_bounds {m : Int} {sh : List Int} (hm : 0 ≤ m ∧ m ≤ 1000000000) (hs : ∀ s ∈ sh,0 ≤ s ∧ s ≤ 1000) (k : Nat) (n : Nat) :
 0 ≤ psumL m sh k n / n * n ∧ psumL m sh k n / n * n ≤ 1000000000 * n:=by
 have hb:=psumL_le hm hs k n
 by_cases h : n = 0
 · subst h; simp
 · have h1 : (n : Int) ≠ 0:=by omega
   have h2:=Int.ediv_mul_le (psumL m sh k n) h1
   have h3 : 0 ≤ psumL m sh k n / n:=Int.ediv_nonneg hb.1 (by omega)
   exact ⟨Int.mul_nonneg h3 (by omega),by omega⟩
theorem stP_gen {m : Int} {sh : List Int} (hm : 0 ≤ m ∧ m ≤ 1000000000) (hs : ∀ s ∈ sh,0 ≤ s ∧ s ≤ 1000) : ∀ (ps : List (List Int)) (s : List (Int × Int) × Nat × Int),
 (ps.foldl (payS m sh) s).1.map (·.1) = s.1.map (·.1) ++ ps.flatten ∧ (ps.foldl (payS m sh) s).2.1 = s.2.1 + ps.flatten.length ∧ s.2.2 - 1000000000 * ps.flatten.length ≤ (ps.foldl (payS m sh) s).2.2 ∧ (ps.foldl (payS m sh) s).2.2 ≤ s.2.2
 | [],s=>by simp
 | g :: ps, s => by
   obtain ⟨h1,h2,h3,h4⟩:=stP_gen hm hs ps (payS m sh s g)
   have hb:=pay_bounds hm hs s.2.1 g.length
   simp only [List.foldl_cons]
   refine ⟨?_,?_,?_,?_⟩
   · rw [h1]
     simp only [payS,payM_keys,List.flatten_cons,List.append_assoc]
   · rw [h2]
     simp only [payS,List.flatten_cons,List.length_append]
     omega
   · refine Int.le_trans ?_ h3
     simp only [payS,List.flatten_cons,List.length_append]
     omega
   · refine Int.le_trans h4 ?_
     simp only [payS]
     omega
theorem stP_facts {m : Int} {sh : List Int} (hm : 0 ≤ m ∧ m ≤ 1000000000) (hs : ∀ s ∈ sh,0 ≤ s ∧ s ≤ 1000) (ps : List (List Int)) :
 (stP m sh ps).1.map (·.1) = ps.flatten ∧ (stP m sh ps).2.1 = ps.flatten.length ∧ m - 1000000000 * ps.flatten.length ≤ (stP m sh ps).2.2 ∧ (stP m sh ps).2.2 ≤ m:=by
 have:=stP_gen hm hs ps ([],0,m)
 simpa [stP] using this
theorem stP_snoc (m : Int) (sh : List Int) (ps : List (List Int)) (g : List Int) : stP m sh (ps ++ [g]) = payS m sh (stP m sh ps) g:=by
 simp [stP,List.foldl_append]
abbrev listsR (l : List (List Int)) : RV:=.sl 1 (l.map fun x=>[ints x])
def prizesV (m : Int) (sh : List Int) (n : Nat) (ps : List (List Int)) : List Int:=(List.range n).map fun (p : Nat)=>valM (stP m sh ps).1 p
structure GoodP (n : Nat) (sh : List Int) (ps : List (List Int)) : Prop where
 n1 : 1 ≤ n ∧ n ≤ 60
 shl : sh.length ≤ 60
 shr : ∀ s ∈ sh,0 ≤ s ∧ s ≤ 1000
 shs : sh.sum ≤ 1000
 psl : ps.length ≤ 60
 fl : ps.flatten.length ≤ 60
 nd : ps.flatten.Nodup
 ne : ∀ g ∈ ps,g ≠ []
 rg : ∀ p ∈ ps.flatten,0 ≤ p ∧ p < n
theorem good_take {n : Nat} {sh : List Int} {ps : List (List Int)} (h : GoodP n sh ps) {i : Nat} {g : List Int} (hx : ps[i]? = some g) :
 (1 ≤ g.length ∧ g.length ≤ 60) ∧ ((ps.take i).flatten ++ g).Nodup ∧ (∀ p ∈ g,0 ≤ p ∧ p < n) ∧ (ps.take i).flatten.length + g.length ≤ 60:=by
 have hm:=mem_of_opt hx
 have hs : ((ps.take i).flatten ++ g).Sublist ps.flatten:=by
  have e : (ps.take i).flatten ++ g = (ps.take (i + 1)).flatten:=by rw [take_of_opt hx]; simp
  rw [e]
  have : ps.flatten = (ps.take (i + 1)).flatten ++ (ps.drop (i + 1)).flatten:=by rw [← List.flatten_append,List.take_append_drop]
  rw [this]
  exact List.sublist_append_left _ _
 have hl:=hs.length_le
 rw [List.length_append] at hl
 have:=h.fl
 have hne : g.length ≠ 0:=fun e=>h.ne g hm (List.eq_nil_of_length_eq_zero e)
 refine ⟨⟨by omega,by omega⟩,h.nd.sublist hs,fun p hp=>h.rg p (List.mem_flatten.2 ⟨g,hm,hp⟩),by omega⟩
theorem prizes_ok (m : Int) (n : Nat) (sh : List Int) (ps : List (List Int)) (hm : 0 ≤ m ∧ m ≤ 1000000000) (h : GoodP n sh ps) :
 ACalls Try.prog 50 [i64 m,i64 n,ints sh,listsR ps] (.tu [ints (prizesV m sh n ps),i64 (stP m sh ps).2.2,i64 0]):=by
 have w1 : withinL 0 1000000000 [m] = true:=by simp [withinL]; omega
 have w2 : withinL 1 60 [(n : Int)] = true:=by have:=h.n1; simp [withinL]; omega
 have w3 : withinL 0 1000 sh = true:=by
  unfold withinL
  rw [List.all_eq_true]
  intro x hx
  have:=h.shr x hx
  simp; omega
 have hfull:=stP_facts hm h.shr ps
 have h0:=h.shl
 have h1:=h.shs
 have h2:=h.psl
 have hn1:=h.n1
 have hfl:=h.fl
 have e1 : decide ((60 : Int) < (sh.length : Int)) = false:=by simp; omega
 have e2 : decide ((1000 : Int) < sh.sum) = false:=by simp; omega
 refine acalls_st (rs:=[ints (prizesV m sh n ps),i64 (stP m sh ps).2.2,i64 0]) [.tmp 8,.tmp 9,.tmp 10] Try.func50 rfl (by kernel_rfl) Try.ntmps50 rfl (by simp) rfl fun C vs=>?_
 repeat refine zq ?_
 refine zb fun K hK=>?_;simp only [go_sem];(try simp (disch:=omega) only [zI]);repeat first | intro _ | refine ⟨by omega,?_⟩
 refine hK _ ?_;clear hK K;refine zw (zk [0,1,2,3,8]) ?_;simp only [go_sem]
 repeat refine zq ?_
 refine zd ?_
 repeat refine zq ?_
 refine zb fun K hK=>?_;simp only [go_sem];(try simp (disch:=omega) only [zI])
 refine zh (pWithin_ok 0 1000000000 [m]) rfl (by simp only [go_sem,i64,ints]) (by simp only [go_sem,i64,ints]) (by first | exact .inl rfl | exact .inr rfl) ?_
 (try simp only [go_sem]);(try simp (disch:=omega) only [zI]);repeat first | intro _ | refine ⟨by omega,?_⟩
 refine hK _ ?_;clear hK K;rw [w1]
 refine zw (zk [0,1,2,3,8,16]) ?_;simp only [go_sem]
 repeat refine zq ?_
 refine zc rfl (fun hc=>?_) (fun hc=>?_) <;> (try simp only [go_sem] at hc)
 repeat refine zq ?_
 refine zb fun K hK=>?_;simp only [go_sem];(try simp (disch:=omega) only [zI])
 refine zh (pWithin_ok 1 60 [(n : Int)]) rfl (by simp only [go_sem,i64,ints]) (by simp only [go_sem,i64,ints]) (by first | exact .inl rfl | exact .inr rfl) ?_
 (try simp only [go_sem]);(try simp (disch:=omega) only [zI]);repeat first | intro _ | refine ⟨by omega,?_⟩
 refine hK _ ?_;clear hK K;rw [w2]
 refine zw (zk [0,1,2,3,8,21]) ?_;simp only [go_sem]
 repeat refine zq ?_
 refine zc rfl (fun hc=>?_) (fun hc=>?_) <;> (try simp only [go_sem] at hc)
 repeat refine zq ?_
 refine zb fun K hK=>?_;simp only [go_sem];(try simp (disch:=omega) only [zI])
 intros
 repeat first | intro _ | refine ⟨by omega,?_⟩
 refine hK _ ?_;clear hK K;rw [e1]
 refine zw (zk [0,1,2,3,8,26]) ?_;simp only [go_sem]
 repeat refine zq ?_
 refine zc rfl (fun hc=>?_) (fun hc=>?_) <;> (try simp only [go_sem] at hc)
 repeat refine zq ?_
 refine zb fun K hK=>?_;simp only [go_sem];(try simp (disch:=omega) only [zI])
 refine zh (pWithin_ok 0 1000 sh) rfl (by simp only [go_sem,i64,ints]) (by simp only [go_sem,i64,ints]) (by first | exact .inl rfl | exact .inr rfl) ?_
 (try simp only [go_sem]);(try simp (disch:=omega) only [zI]);repeat first | intro _ | refine ⟨by omega,?_⟩
 refine hK _ ?_;clear hK K;rw [w3]
 refine zw (zk [0,1,2,3,8,30]) ?_;simp only [go_sem]
 repeat refine zq ?_
 refine zc rfl (fun hc=>?_) (fun hc=>?_) <;> (try simp only [go_sem] at hc)
 repeat refine zq ?_
 refine zb fun K hK=>?_;simp only [go_sem];(try simp (disch:=omega) only [zI])
 refine zh (ptotal_ok sh (by omega) (fun x hx=>by have:=h.shr x hx; omega)) rfl (by simp only [go_sem,i64,ints]) (by simp only [go_sem,i64,ints]) (by first | exact .inl rfl | exact .inr rfl) ?_
 (try simp only [go_sem]);(try simp (disch:=omega) only [zI]);repeat first | intro _ | refine ⟨by omega,?_⟩
 refine hK _ ?_;clear hK K;rw [e2]
 refine zw (zk [0,1,2,3,8,30]) ?_;simp only [go_sem]
 repeat refine zq ?_
 refine zc rfl (fun hc=>?_) (fun hc=>?_) <;> (try simp only [go_sem] at hc)
 refine zx ?_
 try simp only [go_sem]
 repeat refine zq ?_
 refine zb fun K hK=>?_;simp only [go_sem];(try simp (disch:=omega) only [zI]);repeat first | intro _ | refine ⟨by omega,?_⟩
 refine hK _ ?_;clear hK K;refine zw (zk [0,1,3,8,11]) ?_;simp only [go_sem]
 repeat refine zq ?_
 refine zb fun K hK=>?_;simp only [go_sem];(try simp (disch:=omega) only [zI]);repeat first | intro _ | refine ⟨by omega,?_⟩
 refine hK _ ?_;clear hK K;refine zw (zk [1,3,8,9,11]) ?_;simp only [go_sem]
 repeat refine zq ?_
 refine zb fun K hK=>?_;simp only [go_sem];(try simp (disch:=omega) only [zI])
 intros
 repeat first | intro _ | refine ⟨by omega,?_⟩
 refine hK _ ?_;clear hK K;refine zw (zk [1,8,9,11,43,44,45]) ?_;simp only [go_sem]
 repeat refine zq ?_
 refine zd ?_
 refine awp_uptoV (n:=78) ps.length (fun i vs=>[(1,.r (i64 n)),(8,.r .ns),(9,.r (i64 (stP m sh (ps.take i)).2.2)),(11,.pt 41 (vs 41) 0),(43,.r (listsR ps)),(44,.r (i64 ps.length)),(45,.r (i64 i))])
  (fun i vs=>[(39,.mp ((stP m sh (ps.take i)).1.map encIQ)),(41,.box [.r (i64 m),.r (ints sh),.mp 39 (vs 39),.r (i64 (stP m sh (ps.take i)).2.1)])]) (fun _=>True) 0 (zj [] ?_ ?_) (Nat.zero_le _) trivial ?_
 · try simp only [go_sem]
   simp [stP]
 · try simp only [go_sem]
   simp [stP]
 · intro i vs hi _
   obtain ⟨f1,f2,f3,f4⟩:=stP_facts hm h.shr (ps.take i)
   repeat refine zq ?_
   refine zb fun K hK=>?_;simp only [go_sem];(try simp (disch:=omega) only [zI]);repeat first | intro _ | refine ⟨by omega,?_⟩
   refine hK _ ?_;clear hK K;refine zw (zk [1,8,9,11,43,44,45,46]) ?_;simp only [go_sem]
   repeat refine zq ?_
   refine zc rfl (fun hc=>?_) (fun hc=>?_) <;> (try simp only [go_sem] at hc)
   · have hci:=hc
     obtain ⟨g,hx⟩:=opt_of_lt hci
     obtain ⟨g1,g2,g3,g4⟩:=good_take h hx
     have hsn : stP m sh (ps.take (i + 1)) = payS m sh (stP m sh (ps.take i)) g:=by rw [take_of_opt hx,stP_snoc]
     have hb:=pay_bounds hm h.shr (stP m sh (ps.take i)).2.1 g.length
     rw [← f1] at g2
     rw [hsn]
     generalize hst : stP m sh (ps.take i) = s at *
     obtain ⟨M,k,kept⟩:=s
     simp only [payS] at *
     refine zx ?_
     try simp only [go_sem]
     repeat refine zq ?_
     refine zd ?_
     repeat refine zq ?_
     refine zb fun K hK=>?_;simp only [go_sem,hx,hci];(try simp (disch:=omega) only [zI]);repeat first | intro _ | refine ⟨by omega,?_⟩
     refine hK _ ?_;clear hK K;refine zw (zk [1,8,9,11,13,43,44,45]) ?_;simp only [go_sem]
     repeat refine zq ?_
     refine zb fun K hK=>?_;simp only [go_sem];(try simp (disch:=omega) only [zI])
     refine xcall_mut (fcheck_ok m sh k M n g (by omega) g1 g3 g2) [(1000,41),(1001,39)] rfl (by simp only [go_sem,i64,ints]) (by simp only [go_sem,i64,ints]) (by rfl) (by rfl) ?_
     (try simp only [go_sem]);(try simp (disch:=omega) only [zI]);repeat first | intro _ | refine ⟨by omega,?_⟩
     refine hK _ ?_;clear hK K;refine zw (zk [1,8,9,11,13,14,43,44,45]) ?_;simp only [go_sem]
     repeat refine zq ?_
     refine zb fun K hK=>?_;simp only [go_sem,bne_self_eq_false];(try simp (disch:=omega) only [zI]);repeat first | intro _ | refine ⟨by omega,?_⟩
     refine hK _ ?_;clear hK K;refine zw (zk [1,8,9,11,13,14,43,44,45,54]) ?_;simp only [go_sem]
     repeat refine zq ?_
     refine zc rfl (fun hc=>?_) (fun hc=>?_) <;> (try simp only [go_sem] at hc)
     refine zx ?_
     try simp only [go_sem]
     repeat refine zq ?_
     refine zb fun K hK=>?_;simp only [go_sem];(try simp (disch:=omega) only [zI])
     refine xcall_mut (pay_ok m sh k M g hm h.shr (by omega) g1 g2) [(1000,41),(1001,39)] rfl (by simp only [go_sem,i64,ints]) (by simp only [go_sem,i64,ints]) (by rfl) (by rfl) ?_
     (try simp only [go_sem]);(try simp (disch:=omega) only [zI]);repeat first | intro _ | refine ⟨by omega,?_⟩
     refine hK _ ?_;clear hK K;refine zw (zk [1,8,9,11,43,44,45]) ?_;simp only [go_sem]
     repeat refine zq ?_
     refine zb fun K hK=>?_;simp only [go_sem];(try simp (disch:=omega) only [zI]);repeat first | intro _ | refine ⟨by omega,?_⟩
     refine hK _ ?_;clear hK K
     try simp only [go_sem]
     refine ⟨hci,zj [] ?_ ?_⟩
     · try simp only [go_sem]
     · try simp only [go_sem]
   · have : i = ps.length:=by omega
     subst this
     rw [List.take_length] at *
     generalize hst : stP m sh ps = s at *
     obtain ⟨M,k,kept⟩:=s
     simp only at *
     have hpv : prizesV m sh n ps = (List.range n).map fun (p : Nat)=>valM M p:=by rw [prizesV,hst]
     rw [hpv]
     refine zf ?_;simp only [go_sem]
     repeat refine zq ?_
     refine zb fun K hK=>?_;simp only [go_sem];(try simp (disch:=omega) only [zI]);repeat first | intro _ | refine ⟨by omega,?_⟩
     refine hK _ ?_;clear hK K;refine zw (zk [8,9,11,62,63]) ?_;simp only [go_sem]
     repeat refine zq ?_
     refine zd ?_;refine zw (sub_own 8 74 3 1 (by omega) rfl) ?_
     refine awp_uptoV (n:=78) n (fun i vs=>[(8,.os 74 (vs 74) 1 0 i),(9,.r (i64 kept)),(11,.pt 41 (vs 41) 0),(62,.r (i64 n)),(63,.r (i64 i))])
      (fun i vs=>[(39,.mp (M.map encIQ)),(41,.box [.r (i64 m),.r (ints sh),.mp 39 (vs 39),.r (i64 k)]),(74,.arr 3 1 ((List.range i).map fun (p : Nat)=>[i64 (valM M p)]))]) (fun _=>True) 0 (zj [] ?_ ?_) (Nat.zero_le _) trivial ?_
     · try simp only [go_sem]
     · try simp only [go_sem]
       rfl
     · intro i vs hi _
       have hil : ((List.range i).map fun (p : Nat)=>[i64 (valM M p)]).length = i:=by simp
       have hfk:=findK_I i M 0
       have hsn : ((List.range (i + 1)).map fun (p : Nat)=>[i64 (valM M p)]) = ((List.range i).map fun (p : Nat)=>[i64 (valM M p)]) ++ [[i64 (valM M i)]]:=by simp [List.range_succ]
       repeat refine zq ?_
       refine zb fun K hK=>?_;simp only [go_sem];(try simp (disch:=omega) only [zI]);repeat first | intro _ | refine ⟨by omega,?_⟩
       refine hK _ ?_;clear hK K;refine zw (zk [8,9,11,62,63,64]) ?_;simp only [go_sem]
       repeat refine zq ?_
       refine zc rfl (fun hc=>?_) (fun hc=>?_) <;> (try simp only [go_sem] at hc)
       · have hci:=hc
         refine zx ?_
         try simp only [go_sem]
         repeat refine zq ?_
         refine zd ?_
         repeat refine zq ?_
         refine zb fun K hK=>?_;simp only [go_sem];(try simp (disch:=omega) only [zI]);repeat first | intro _ | refine ⟨by omega,?_⟩
         refine hK _ ?_;clear hK K;refine zw (zk [8,9,11,15,62,63]) ?_;simp only [go_sem]
         cases hf : findIQ i M 0 with
         | none =>
           have hv : valM M i = 0:=by rw [valM,hf]
           rw [hf] at hfk
           repeat refine zq ?_
           refine zb fun K hK=>?_;simp only [go_sem,hfk,Option.map_none,hil];(try simp (disch:=omega) only [zI])
           refine ⟨⟨by omega,by omega⟩,?_⟩
           repeat first | intro _ | refine ⟨by omega,?_⟩
           refine hK _ ?_;clear hK K;refine zw (zk [8,9,11,62,63]) ?_;simp only [go_sem]
           repeat refine zq ?_
           refine zb fun K hK=>?_;simp only [go_sem];(try simp (disch:=omega) only [zI]);repeat first | intro _ | refine ⟨by omega,?_⟩
           refine hK _ ?_;clear hK K
           try simp only [go_sem]
           refine ⟨hci,zj [] ?_ ?_⟩
           · try simp only [go_sem]
           · try simp only [go_sem]
             simp [hv]
         | some x =>
           obtain ⟨j,v⟩:=x
           have hv : valM M i = v:=by rw [valM,hf]
           rw [hf] at hfk
           repeat refine zq ?_
           refine zb fun K hK=>?_;simp only [go_sem,hfk,Option.map_some,hil];(try simp (disch:=omega) only [zI])
           refine ⟨⟨by omega,by omega⟩,?_⟩
           repeat first | intro _ | refine ⟨by omega,?_⟩
           refine hK _ ?_;clear hK K;refine zw (zk [8,9,11,62,63]) ?_;simp only [go_sem]
           repeat refine zq ?_
           refine zb fun K hK=>?_;simp only [go_sem];(try simp (disch:=omega) only [zI]);repeat first | intro _ | refine ⟨by omega,?_⟩
           refine hK _ ?_;clear hK K
           try simp only [go_sem]
           refine ⟨hci,zj [] ?_ ?_⟩
           · try simp only [go_sem]
           · try simp only [go_sem]
             simp [hv]
       · have : i = n:=by omega
         subst this
         refine zf ?_;simp only [go_sem]
         repeat refine zq ?_
         refine zb fun K hK=>?_;simp only [go_sem];(try simp (disch:=omega) only [zI]);repeat first | intro _ | refine ⟨by omega,?_⟩
         refine hK _ ?_;clear hK K;refine zw (zk [8,9,10]) ?_;simp only [go_sem];refine ze ?_;simp only [go_sem];exact ⟨by simp,by rw [List.take_of_length_le (by simp)]; simp⟩
def zipP (m : Int) (sh : List Int) : Nat → List Int → List (Int × Int)
 | _,[]=>[]
 | k,p :: L=>(p,prz m sh k) :: zipP m sh (k + 1) L
def sumP (m : Int) (sh : List Int) : Nat → List Int → Int
 | _,[]=>0
 | k,_ :: L=>prz m sh k + sumP m sh (k + 1) L
abbrev sing (L : List Int) : List (List Int):=L.map fun p=>[p]
theorem sing_fold (m : Int) (sh : List Int) : ∀ (L : List Int) (M : List (Int × Int)) (k : Nat) (c : Int),
 (sing L).foldl (payS m sh) (M,k,c) = (M ++ zipP m sh k L,k + L.length,c - sumP m sh k L)
 | [],M,k,c=>by simp [zipP,sumP]
 | p :: L, M, k, c => by
   have h1 : psumL m sh k 1 = prz m sh k:=by simp [psumL]
   have e : payS m sh (M,k,c) [p] = (M ++ [(p,prz m sh k)],k + 1,c - prz m sh k):=by
    simp [payS,payM,h1]
   rw [sing,List.map_cons,List.foldl_cons,e]
   have ih:=sing_fold m sh L (M ++ [(p,prz m sh k)]) (k + 1) (c - prz m sh k)
   rw [sing] at ih
   rw [ih]
   simp only [zipP,sumP,List.append_assoc,List.singleton_append,List.length_cons,Prod.mk.injEq,true_and]
   omega
theorem sing_find (m : Int) (sh : List Int) {p : Int} : ∀ {L : List Int} {i k j : Nat},L[i]? = some p → L.Nodup → findIQ p (zipP m sh k L) j = some (j + i,prz m sh (k + i))
 | [],_,_,_,h,_=>by simp at h
 | x :: L, 0, k, j, h, _ => by
   simp only [List.getElem?_cons_zero,Option.some.injEq] at h
   subst h
   simp [zipP,findIQ]
 | x :: L, i + 1, k, j, h, hn => by
   rw [List.getElem?_cons_succ] at h
   rw [List.nodup_cons] at hn
   have hx : p ≠ x:=fun e=>hn.1 (e ▸ List.mem_of_getElem? h)
   simp only [zipP,findIQ,if_neg hx];rw [sing_find m sh h hn.2]
   have e1 : j + 1 + i = j + (i + 1):=by omega
   have e2 : k + 1 + i = k + (i + 1):=by omega
   rw [e1,e2]
theorem sing_prize {m : Int} {sh : List Int} {L : List Int} {i : Nat} {p : Nat} {n : Nat} (h : L[i]? = some (p : Int)) (hn : L.Nodup) (hp : p < n) : (prizesV m sh n (sing L))[p]? = some (prz m sh i):=by
 unfold prizesV
 rw [List.getElem?_map,List.getElem?_range hp]
 simp only [Option.map_some,Option.some.injEq]
 unfold valM stP
 rw [sing_fold]
 have:=sing_find m sh (k:=0) (j:=0) h hn
 simp only [List.nil_append] at *
 rw [this]
 simp
theorem sing_kept (m : Int) (sh : List Int) (L : List Int) : (stP m sh (sing L)).2.2 = m - sumP m sh 0 L:=by
 unfold stP
 rw [sing_fold]
def minS (c : Int) (s : List Nat) : Nat → Int
 | 0=>c
 | i + 1=>min (minS c s i) ((s.getD i 0 : Nat) : Int)
def pmL (c : Int) (s : List Nat) (n : Nat) : List Int:=(List.range n).map fun i=>minS c s (i + 1)
theorem minS_le {c : Int} (hc : 0 ≤ c) (s : List Nat) : ∀ i,0 ≤ minS c s i ∧ minS c s i ≤ c
 | 0=>⟨hc,by simp [minS]⟩
 | i + 1 => by
   have ih:=minS_le hc s i
   simp only [minS]
   omega
theorem minS_anti {c : Int} {s : List Nat} {i : Nat} : ∀ {j : Nat},i ≤ j → minS c s j ≤ minS c s i
 | 0, h => by
   have : i = 0:=by omega
   subst this; omega
 | j + 1, h => by
   by_cases e : i = j + 1
   · subst e; omega
   · have ih:=minS_anti (c:=c) (s:=s) (i:=i) (j:=j) (by omega)
     simp only [minS]
     omega
theorem pmL_len (c : Int) (s : List Nat) (n : Nat) : (pmL c s n).length = n:=by simp [pmL]
theorem pmL_snoc (c : Int) (s : List Nat) (n : Nat) : pmL c s (n + 1) = pmL c s n ++ [minS c s (n + 1)]:=by simp [pmL,List.range_succ]
theorem pmL_at {c : Int} {s : List Nat} {n i : Nat} (h : i < n) : (pmL c s n)[i]? = some (minS c s (i + 1)):=by
 unfold pmL
 rw [List.getElem?_map,List.getElem?_range h]
 rfl
theorem pmL_mem {c : Int} (hc : 0 ≤ c) {s : List Nat} {n : Nat} : ∀ x ∈ pmL c s n,0 ≤ x ∧ x ≤ c:=fun x hx=>by
 obtain ⟨i,_,rfl⟩:=List.mem_map.1 hx
 exact minS_le hc s (i + 1)
theorem pmL_getD {c : Int} {s : List Nat} {n i : Nat} (h : i < n) : (pmL c s n).getD i 0 = minS c s (i + 1):=by
 rw [List.getD_eq_getElem?_getD,pmL_at h]; rfl
theorem prz_anti {c m : Int} (hm : 0 ≤ m) (hc : 0 ≤ c) {s : List Nat} {n i j : Nat} (hij : i ≤ j) (hi : i < n) : prz m (pmL c s n) j ≤ m * minS c s (i + 1) / 1000:=by
 unfold prz
 have h1:=minS_le hc s (i + 1)
 by_cases hj : j < n
 · rw [pmL_getD hj]
   exact Int.ediv_le_ediv (by omega) (Int.mul_le_mul_of_nonneg_left (minS_anti (by omega)) hm)
 · have e : (pmL c s n).getD j 0 = 0:=by
    rw [List.getD_eq_getElem?_getD,List.getElem?_eq_none (by rw [pmL_len]; omega)]; rfl
   rw [e]
   have:=Int.ediv_nonneg (Int.mul_nonneg hm h1.1) (show (0 : Int) ≤ 1000 by omega)
   simpa using this
end Go.Proofs.Ytobokbhpeaakjaa

namespace Go.Oc
open Go Go.RowKit Go.ChangeShapes Go.WideShapes
inductive Sh where
 | int (k : IntKind)
 | bool
 | sl (es : List Sh)
def fieldsSh (P : Program) (sh : TypeId → Option (List Sh)) : List Field → Nat → Option (List Sh)
 | [],_=>some []
 | f :: fs, o =>
   match sh f.type with
   | some ss=>if f.offset == o && ss.length == P.cellsOf f.type then match fieldsSh P sh fs (o + ss.length) with | some q=>some (ss ++ q) | none=>none else none
   | none=>none
def shape (P : Program) : Nat → TypeId → Option (List Sh)
 | 0,_=>none
 | n + 1, t =>
   match P.underlying t with
   | some (.int k)=>some [.int k]
   | some .bool=>some [.bool]
   | some (.slice e) =>
     match shape P n e with
     | some ss=>if ss.length == P.cellsOf e && decide (0 < ss.length) then some [.sl ss] else none
     | none=>none
   | some (.array m e) =>
     match shape P n e with
     | some ss=>if ss.length == P.cellsOf e && P.cellsOf t == m * ss.length then some (List.replicate m ss).flatten else none
     | none=>none
   | some (.struct fs) =>
     match fieldsSh P (shape P n) fs.toList 0 with
     | some ss=>if ss.length == P.cellsOf t then some ss else none
     | none=>none
   | _=>none
mutual
def Fits : Sh → RV → Prop
 | .int k,x=>∃ n,x = .it k n ∧ (Lit.int k n).wf = true
 | .bool,x=>∃ b,x = .bo b
 | .sl ss,x=>∃ es,x = .sl ss.length es ∧ FitsE ss es
def FitsL : List Sh → List RV → Prop
 | [],xs=>xs = []
 | s :: ss,xs=>∃ y ys,xs = y :: ys ∧ Fits s y ∧ FitsL ss ys
def FitsE (ss : List Sh) : List (List RV) → Prop
 | []=>True
 | e :: es=>FitsL ss e ∧ FitsE ss es
end
theorem fitsL_append : ∀ {s1 s2 : List Sh} {x1 x2 : List RV},FitsL s1 x1 → FitsL s2 x2 → FitsL (s1 ++ s2) (x1 ++ x2)
 | [],_,_,_,h1,h2=>by simp only [FitsL] at h1; subst h1; simpa using h2
 | s :: ss, s2, x1, x2, h1, h2 => by
   simp only [FitsL] at h1
   obtain ⟨y,ys,rfl,h3,h4⟩:=h1
   simp only [List.cons_append,FitsL];exact ⟨y,_,rfl,h3,fitsL_append h4 h2⟩
theorem fitsL_length : ∀ {ss : List Sh} {xs : List RV},FitsL ss xs → xs.length = ss.length
 | [],_,h=>by simp only [FitsL] at h; subst h; rfl
 | s :: ss, _, h => by
   simp only [FitsL] at h
   obtain ⟨y,ys,rfl,_,h⟩:=h
   simp [fitsL_length h]
theorem fitsE_of : ∀ {ss : List Sh} {es : List (List RV)},(∀ e ∈ es,FitsL ss e) → FitsE ss es
 | _,[],_=>by simp only [FitsE]
 | ss,e :: es,h=>by simp only [FitsE]; exact ⟨h e (by simp),fitsE_of fun x hx=>h x (by simp [hx])⟩
theorem choice {α : Type} {Q : Nat → α → Prop} : ∀ (n : Nat),(∀ i,i < n → ∃ x,Q i x) → ∃ xs : List α,xs.length = n ∧ ∀ i x,xs[i]? = some x → Q i x
 | 0,_=>⟨[],rfl,by simp⟩
 | n + 1, h => by
   obtain ⟨xs,hl,hx⟩:=choice n fun i hi=>h i (by omega)
   obtain ⟨y,hy⟩:=h n (by omega)
   refine ⟨xs ++ [y],by simp [hl],fun i x hi=>?_⟩
   by_cases h1 : i < n
   · rw [List.getElem?_append_left (by omega)] at hi; exact hx i x hi
   · rw [List.getElem?_append_right (by omega)] at hi
     have : i = n:=by have:=(List.getElem?_eq_some_iff.1 hi).1; simp at this; omega
     subst this
     simp [hl] at hi
     exact hi ▸ hy
section
variable {w : World} {P : Program}
theorem cells?_get {base n : Nat} {a : Addr} {cs : List Value} (h : w.cells? base a n = some cs) : cs.length = n ∧ ∀ i,i < n → w.cell? (a.add i) = cs[i]?:=by
 unfold World.cells? at h
 split at h
 · exact ⟨by simpa using mapM_some_length h,fun i hi=>mapM_some_get h i i (by simp [hi])⟩
 · cases h
theorem cell_lt {a : Addr} {v : Value} (h : w.cell? a = some v) : a.block < w.heap.size:=by
 refine Decidable.byContradiction fun hn=>?_
 have : w.heap[a.block]? = none:=by simp; omega
 simp [World.cell?,this] at h
def old (w : World) : Nat → Prop:=fun b=>b < w.heap.size
theorem relC_of_cells {xs : List RV} {cs : List Value} {ad : Addr} (hV : RV.relV w (old w) xs cs) (hone : ∀ u ∈ cs,u.oneCell' = true) (hc : ∀ i,i < cs.length → w.cell? (ad.add i) = cs[i]?) : RV.relC w (old w) xs ad 0:=by
 refine RV.relC_of_get fun i x hx=>?_
 obtain ⟨u,hu,hr⟩:=RV.relV_get hV hx
 have hi:=(List.getElem?_eq_some_iff.1 hu).1
 refine ⟨u,?_,hone u (List.mem_of_getElem? hu),hr⟩
 rw [Nat.zero_add,hc i hi,hu]
variable {H : Type} {enc : TypeId × Value → H} {base : Nat} {spare : Nat → Bool} {held : Bool}
def Good3 (w : World) (ss : List Sh) (cs : List Value) : Prop:=∃ xs,FitsL ss xs ∧ RV.relV w (old w) xs cs ∧ ∀ u ∈ cs,u.oneCell' = true
theorem good3_append {s1 s2 : List Sh} {c1 c2 : List Value} (h1 : Good3 w s1 c1) (h2 : Good3 w s2 c2) : Good3 w (s1 ++ s2) (c1 ++ c2):=by
 obtain ⟨x1,f1,r1,o1⟩:=h1
 obtain ⟨x2,f2,r2,o2⟩:=h2
 refine ⟨x1 ++ x2,fitsL_append f1 f2,RV.relV_append r1 r2,fun u hu=>?_⟩
 rcases List.mem_append.1 hu with hu | hu
 · exact o1 u hu
 · exact o2 u hu
theorem good3_length {ss : List Sh} {cs : List Value} (h : Good3 w ss cs) : cs.length = ss.length:=by
 obtain ⟨xs,f,r,_⟩:=h
 rw [RV.relV_length r,fitsL_length f]
theorem trod_fits : ∀ (fuel n : Nat) (t : TypeId) (cs : List Value) (x : DataW H × List MemPlace) (ss : List Sh),DataW.trod enc P w base spare held fuel t cs = some x → shape P n t = some ss → Good3 w ss cs:=by
 intro fuel
 induction fuel with
 | zero=>intro n t cs x ss h; simp [DataW.trod] at h
 | succ fuel ih =>
   intro n t cs x ss h hs
   cases n with
   | zero=>simp [shape] at hs
   | succ n =>
     unfold shape at hs
     split at hs
     · rename_i k ht
       injection hs with hs; subst hs
       obtain ⟨m,rfl,_,hw⟩:=DataW.trod_int ht h
       exact ⟨[.it k m],by simp only [FitsL,Fits]; exact ⟨_,[],rfl,⟨m,rfl,hw⟩,rfl⟩,by simp only [RV.relV,RV.rel]; exact ⟨_,[],rfl,rfl,rfl⟩,by simp [Value.oneCell']⟩
     · rename_i ht
       injection hs with hs; subst hs
       obtain ⟨b,rfl,_⟩:=DataW.trod_bool ht h
       exact ⟨[.bo b],by simp only [FitsL,Fits]; exact ⟨_,[],rfl,⟨b,rfl⟩,rfl⟩,by simp only [RV.relV,RV.rel]; exact ⟨_,[],rfl,rfl,rfl⟩,by simp [Value.oneCell']⟩
     · rename_i e ht
       split at hs
       · rename_i es hes
         split at hs
         · rename_i hc
           simp only [Bool.and_eq_true,beq_iff_eq,decide_eq_true_eq] at hc
           injection hs with hs; subst hs
           rcases DataW.trod_slice ht h with ⟨rfl,_⟩ | ⟨a,len,cap,elems,rest,m,hm,rfl,_,_,hlc,hcm,hel,hget,_⟩
           · refine ⟨[.sl es.length []],?_,?_,by simp [Value.oneCell']⟩
             · simp only [FitsL,Fits];exact ⟨_,[],rfl,⟨[],rfl,by simp only [FitsE]⟩,rfl⟩
             · simp only [RV.relV,RV.rel];exact ⟨_,[],rfl,⟨none,0,rfl,Nat.le_refl _,Nat.zero_le _,fun h=>absurd rfl h⟩,rfl⟩
           · injection hm with hm; subst hm
             have hall : ∀ i,i < len → ∃ e',FitsL es e' ∧ e'.length = es.length ∧ RV.relC w (old w) e' (a.add (i * es.length)) 0 ∧ a.block < w.heap.size:=fun i hi=>by
              have h1:=hget i hi
              have h2 : i < elems.length:=by omega
              rw [List.getElem?_eq_getElem h2] at h1
              obtain ⟨ci,hci,htr⟩:=Option.bind_eq_some_iff.1 h1
              rw [← hc.1] at hci
              obtain ⟨hl,hcell⟩:=cells?_get hci
              obtain ⟨xs,f,r,o⟩:=ih n e ci _ es htr hes
              refine ⟨xs,f,fitsL_length f,relC_of_cells r o (fun j hj=>hcell j (by omega)),?_⟩
              have h3:=hcell 0 hc.2
              have h4 : 0 < ci.length:=by omega
              rw [List.getElem?_eq_getElem h4] at h3
              have:=cell_lt h3
              rwa [block_add,block_add] at this
             obtain ⟨els,hlen,hels⟩:=choice len hall
             refine ⟨[.sl es.length els],?_,?_,by simp [Value.oneCell']⟩
             · simp only [FitsL,Fits]
               refine ⟨_,[],rfl,⟨els,rfl,fitsE_of fun e' he'=>?_⟩,rfl⟩
               obtain ⟨i,hi⟩:=List.getElem?_of_mem he'
               exact (hels i e' hi).1
             · simp only [RV.relV,RV.rel]
               refine ⟨_,[],rfl,⟨some a,cap,by rw [hlen],by omega,hcm,fun hne=>?_⟩,rfl⟩
               obtain ⟨e0,he0⟩ : ∃ e0,els[0]? = some e0:=by
                cases els with
                | nil=>exact absurd rfl hne
                | cons a l=>exact ⟨a,rfl⟩
               refine ⟨a,rfl,(hels 0 e0 he0).2.2.2,RV.relE_of_get fun i e' he'=>?_⟩
               obtain ⟨_,q1,q2,_⟩:=hels i e' he'
               exact ⟨q1,RV.relC_unbase _ q2⟩
         · cases hs
       · cases hs
     · rename_i m e ht
       split at hs
       · rename_i es hes
         split at hs
         · rename_i hc
           simp only [Bool.and_eq_true,beq_iff_eq] at hc
           injection hs with hs; subst hs
           obtain ⟨xs,fm,hm,_,hcl,hxl,hget⟩:=DataW.trod_array ht h
           injection hm with hm; subst hm
           have key : ∀ j,j ≤ m → Good3 w (List.replicate j es).flatten (cs.take (j * es.length)):=by
            intro j
            induction j with
            | zero=>intro _; exact ⟨[],by simp [FitsL],by simp [RV.relV],by simp⟩
            | succ j ihj =>
              intro hj
              have h1:=hget j (by omega)
              have h2 : j < xs.length:=by omega
              rw [List.getElem?_eq_getElem h2,← hc.1] at h1
              have h3:=ih n e _ _ es h1 hes
              have:=good3_append (ihj (by omega)) h3
              rw [← List.take_add] at this
              rw [List.replicate_succ',List.flatten_append,Nat.add_mul]
              simpa using this
           have:=key m (Nat.le_refl _)
           rwa [← hc.2,← hcl,List.take_length] at this
         · cases hs
       · cases hs
     · rename_i fs ht
       split at hs
       · rename_i q hq
         split at hs
         · rename_i hc
           simp only [beq_iff_eq] at hc
           injection hs with hs; subst hs
           obtain ⟨xs,fm,hm,_,hcl,hxl,hget⟩:=DataW.trod_struct ht h
           injection hm with hm; subst hm
           have key : ∀ (l : List Field) (o : Nat) (q : List Sh),(∀ f ∈ l,∃ y,DataW.trod enc P w base spare held fuel f.type ((cs.drop f.offset).take (P.cellsOf f.type)) = some y) → fieldsSh P (shape P n) l o = some q → Good3 w q ((cs.drop o).take q.length):=by
            intro l
            induction l with
            | nil =>
              intro o q _ hq
              simp only [fieldsSh,Option.some.injEq] at hq
              subst hq
              exact ⟨[],by simp [FitsL],by simp [RV.relV],by simp⟩
            | cons f l ihl =>
              intro o q hall hq
              simp only [fieldsSh] at hq
              split at hq
              · rename_i s1 hs1
                split at hq
                · rename_i hc1
                  simp only [Bool.and_eq_true,beq_iff_eq] at hc1
                  split at hq
                  · rename_i q2 hq2
                    injection hq with hq; subst hq
                    obtain ⟨y,hy⟩:=hall f (by simp)
                    have g1:=ih n f.type _ _ s1 hy hs1
                    have g2:=ihl (o + s1.length) q2 (fun f' hf'=>hall f' (by simp [hf'])) hq2
                    rw [hc1.1,← hc1.2] at g1
                    have:=good3_append g1 g2
                    rw [← List.drop_drop,← List.take_add] at this
                    simpa using this
                  · cases hq
                · cases hq
              · cases hq
           have:=key fs.toList 0 q (fun f hf=>by
            obtain ⟨i,hi⟩:=List.getElem?_of_mem hf
            have hi' : fs[i]? = some f:=by simpa using hi
            have h1:=hget i f hi'
            have h2 : i < xs.length:=by have:=(Array.getElem?_eq_some_iff.1 hi').1; omega
            exact ⟨xs[i],by rw [h1]; exact List.getElem?_eq_getElem h2⟩) hq
           rwa [List.drop_zero,hc,← hcl,List.take_length] at this
         · cases hs
       · cases hs
     · cases hs
def FitsT (P : Program) (n : Nat) (t : TypeId) (x : RV) : Prop:=∃ ss,shape P n t = some ss ∧ if aggOf P t then ∃ xs,x = .ag xs ∧ FitsL ss xs else FitsL ss [x]
theorem arg_fits {n : Nat} {t : TypeId} {v : Value} {d : DataW H} {ps : List MemPlace} {r : Reach} {b0 : Nat} (hs : (shape P n t).isSome = true) (hval : Value.okWide P w r b0 t v) (h : DataW.Trod enc P w base spare held t v d ps) :
 ∃ x,FitsT P n t x ∧ x.rel w (old w) v:=by
 obtain ⟨ss,hss⟩:=Option.isSome_iff_exists.1 hs
 obtain ⟨fuel,hf⟩:=h
 obtain ⟨xs,f,r,o⟩:=trod_fits fuel n t _ _ ss hf hss
 have one : aggOf P t = false → v.cells.toList = [v] → ∃ x,FitsT P n t x ∧ x.rel w (old w) v:=fun ha hc=>by
  rw [hc] at r
  match xs,r with
  | [x], r =>
    simp only [RV.relV] at r
    obtain ⟨u,us,e,hr,_⟩:=r
    injection e with e1 e2
    subst e1
    exact ⟨x,⟨ss,hss,by rw [ha]; exact f⟩,hr⟩
  | [],r=>simp [RV.relV] at r
  | _ :: _ :: _, r =>
    simp only [RV.relV] at r
    obtain ⟨u,us,e,_,u2,us2,e2,_⟩:=r
    injection e with _ e
    rw [e2] at e; cases e
 cases n with
 | zero=>simp [shape] at hss
 | succ n =>
   have hss':=hss
   unfold shape at hss'
   split at hss'
   · rename_i k ht
     obtain ⟨m,rfl⟩:=okWide_int ht hval
     exact one (by simp [aggOf,ht]) rfl
   · rename_i ht
     obtain ⟨b,rfl⟩:=okWide_bool ht hval
     exact one (by simp [aggOf,ht]) rfl
   · rename_i e ht
     obtain ⟨a,l,c,rfl⟩:=okWide_slice ht hval
     exact one (by simp [aggOf,ht]) rfl
   · rename_i m e ht
     obtain ⟨cs,rfl⟩ : ∃ cs,v = .agg cs:=by
      simp only [Value.okWide,ht] at hval
      obtain ⟨cs,h1,_⟩:=hval
      exact ⟨cs,h1⟩
     exact ⟨.ag xs,⟨ss,hss,by simp only [aggOf,ht,if_true]; exact ⟨xs,rfl,f⟩⟩,by simp only [RV.rel]; exact ⟨cs,rfl,o,r⟩⟩
   · rename_i fs ht
     obtain ⟨cs,rfl,_⟩:=okWide_struct ht hval
     exact ⟨.ag xs,⟨ss,hss,by simp only [aggOf,ht,if_true]; exact ⟨xs,rfl,f⟩⟩,by simp only [RV.rel]; exact ⟨cs,rfl,o,r⟩⟩
   · cases hss'
theorem wf_i64 {n : Int} (h : (Lit.int .i64 n).wf = true) : -9223372036854775808 ≤ n ∧ n ≤ 9223372036854775807:=by
 simp only [Lit.wf,Bool.and_eq_true,decide_eq_true_eq] at h
 have h1 : IntKind.min .i64 = -9223372036854775808:=by decide
 have h2 : IntKind.max .i64 = 9223372036854775807:=by decide
 rw [h1,h2] at h
 exact h
theorem fitsE_ints : ∀ {es : List (List RV)},FitsE [.int .i64] es → ∃ l : List Int,es = l.map (fun x=>[.it .i64 x]) ∧ ∀ x ∈ l,-9223372036854775808 ≤ x ∧ x ≤ 9223372036854775807
 | [],_=>⟨[],rfl,by simp⟩
 | e :: es, h => by
   simp only [FitsE,FitsL,Fits] at h
   obtain ⟨⟨y,ys,rfl,⟨n,rfl,hn⟩,rfl⟩,h⟩:=h
   obtain ⟨l,rfl,hl⟩:=fitsE_ints h
   refine ⟨n :: l,rfl,fun x hx=>?_⟩
   rcases List.mem_cons.1 hx with rfl | hx
   · exact wf_i64 hn
   · exact hl x hx
theorem fitsT_ag {n : Nat} {t : TypeId} {x : RV} {ss : List Sh} (h : FitsT P n t x) (hs : shape P n t = some ss) (ha : aggOf P t = true) : ∃ xs,x = .ag xs ∧ FitsL ss xs:=by
 obtain ⟨s',h1,h2⟩:=h
 rw [hs] at h1; injection h1 with h1; subst h1
 rw [ha] at h2
 exact h2
theorem fitsT_one {n : Nat} {t : TypeId} {x : RV} {s : Sh} (h : FitsT P n t x) (hs : shape P n t = some [s]) (ha : aggOf P t = false) : Fits s x:=by
 obtain ⟨s',h1,h2⟩:=h
 rw [hs] at h1; injection h1 with h1; subst h1
 rw [ha] at h2
 simp only [Bool.false_eq_true,if_false,FitsL] at h2
 obtain ⟨y,ys,e,h3,_⟩:=h2
 injection e with e1 e2
 subst e1
 exact h3
theorem fitsT_int {n : Nat} {t : TypeId} {x : RV} (h : FitsT P n t x) (hs : shape P n t = some [.int .i64]) (ha : aggOf P t = false) : ∃ m,x = .it .i64 m ∧ -9223372036854775808 ≤ m ∧ m ≤ 9223372036854775807:=by
 have:=fitsT_one h hs ha
 simp only [Fits] at this
 obtain ⟨m,h1,h2⟩:=this
 exact ⟨m,h1,wf_i64 h2⟩
theorem fitsT_ints {n : Nat} {t : TypeId} {x : RV} (h : FitsT P n t x) (hs : shape P n t = some [.sl [.int .i64]]) (ha : aggOf P t = false) : ∃ l : List Int,x = .sl 1 (l.map (fun x=>[.it .i64 x])) ∧ ∀ x ∈ l,-9223372036854775808 ≤ x ∧ x ≤ 9223372036854775807:=by
 have:=fitsT_one h hs ha
 simp only [Fits] at this
 obtain ⟨es,h1,h2⟩:=this
 obtain ⟨l,rfl,hl⟩:=fitsE_ints h2
 exact ⟨l,h1,hl⟩
end
end Go.Oc

namespace Go.Proofs.Ytobokbhpeaakjaa
open Go Go.Oc
theorem wfb {n : Int} (h : (Lit.int .u8 n).wf = true) : ∃ k : Nat,n = k ∧ k < 256:=by
 simp only [Lit.wf,Bool.and_eq_true,decide_eq_true_eq] at h
 have h1 : IntKind.min .u8 = 0:=by decide
 have h2 : IntKind.max .u8 = 255:=by decide
 rw [h1,h2] at h
 obtain ⟨k,hk⟩:=Int.eq_ofNat_of_zero_le h.1
 exact ⟨k,hk,by omega⟩
theorem fitsE_by : ∀ {es : List (List RV)},FitsE [.int .u8] es → ∃ l : List Nat,es = l.map (fun n=>[u8 n]) ∧ ∀ n ∈ l,n < 256
 | [],_=>⟨[],rfl,by simp⟩
 | e :: es, h => by
   simp only [Oc.FitsE,Oc.FitsL,Oc.Fits] at h
   obtain ⟨⟨_,_,rfl,⟨a,rfl,ha⟩,rfl⟩,h⟩:=h
   obtain ⟨l,rfl,hl⟩:=fitsE_by h
   obtain ⟨k,rfl,kk⟩:=wfb ha
   refine ⟨k :: l,rfl,fun x hx=>?_⟩
   rcases List.mem_cons.1 hx with rfl | hx
   · exact kk
   · exact hl x hx
theorem fitsE_by3 : ∀ {es : List (List RV)},FitsE [.int .u8,.int .u8,.int .u8] es → ∃ l : List (Nat × Nat × Nat),es = l.map m3R ∧ ∀ v ∈ l,v.1 < 256 ∧ v.2.1 < 256 ∧ v.2.2 < 256
 | [],_=>⟨[],rfl,by simp⟩
 | e :: es, h => by
   simp only [Oc.FitsE,Oc.FitsL,Oc.Fits] at h
   obtain ⟨⟨_,_,rfl,⟨a,rfl,ha⟩,_,_,rfl,⟨b,rfl,hb⟩,_,_,rfl,⟨c,rfl,hc⟩,rfl⟩,h⟩:=h
   obtain ⟨l,rfl,hl⟩:=fitsE_by3 h
   obtain ⟨a,rfl,ka⟩:=wfb ha
   obtain ⟨b,rfl,kb⟩:=wfb hb
   obtain ⟨c,rfl,kc⟩:=wfb hc
   refine ⟨(a,b,c) :: l,rfl,fun x hx=>?_⟩
   rcases List.mem_cons.1 hx with rfl | hx
   · exact ⟨ka,kb,kc⟩
   · exact hl x hx
theorem fits66 {x : RV} (h : FitsT Try.prog 9 66 x) : ∃ r : Sm,x = smV r ∧ WfS r:=by
 obtain ⟨xs,rfl,hx⟩:=fitsT_ag (ss:=[.int .u8,.int .u8,.int .u8,.int .u8,.int .u8,.int .u8,.sl [.int .u8],.sl [.int .u8,.int .u8,.int .u8],.int .u8]) h (by kernel_rfl) (by kernel_rfl)
 simp only [Oc.FitsL,Oc.Fits] at hx
 obtain ⟨_,_,rfl,⟨a,rfl,ha⟩,_,_,rfl,⟨b,rfl,hb⟩,_,_,rfl,⟨c,rfl,hc⟩,_,_,rfl,⟨d,rfl,hd⟩,_,_,rfl,⟨u,rfl,hu⟩,_,_,rfl,⟨w,rfl,hw⟩,_,_,rfl,⟨es,rfl,hes⟩,_,_,rfl,⟨fs,rfl,hfs⟩,_,_,rfl,⟨q,rfl,hq⟩,rfl⟩:=hx
 obtain ⟨a,rfl,ka⟩:=wfb ha
 obtain ⟨b,rfl,kb⟩:=wfb hb
 obtain ⟨c,rfl,kc⟩:=wfb hc
 obtain ⟨d,rfl,kd⟩:=wfb hd
 obtain ⟨u,rfl,ku⟩:=wfb hu
 obtain ⟨w,rfl,kw⟩:=wfb hw
 obtain ⟨q,rfl,kq⟩:=wfb hq
 obtain ⟨l,rfl,hl⟩:=fitsE_by hes
 obtain ⟨m,rfl,hm⟩:=fitsE_by3 hfs
 exact ⟨⟨a,b,c,d,u,w,l,m,q⟩,rfl,⟨ka,kb,kc,kd,ku,kw,hl,hm,kq⟩⟩
theorem fits5 {x : RV} (h : FitsT Try.prog 9 5 x) : ∃ n : Nat,x = u8 n ∧ n < 256:=by
 have:=fitsT_one (s:=.int .u8) h (by kernel_rfl) (by kernel_rfl)
 simp only [Oc.Fits] at this
 obtain ⟨m,rfl,hm⟩:=this
 obtain ⟨k,rfl,kk⟩:=wfb hm
 exact ⟨k,rfl,kk⟩
theorem fits63 {x : RV} (h : FitsT Try.prog 9 63 x) : ∃ l : List Nat,x = bytesR l ∧ ∀ n ∈ l,n < 256:=by
 have:=fitsT_one (s:=.sl [.int .u8]) h (by kernel_rfl) (by kernel_rfl)
 simp only [Oc.Fits] at this
 obtain ⟨es,rfl,hes⟩:=this
 obtain ⟨l,rfl,hl⟩:=fitsE_by hes
 exact ⟨l,rfl,hl⟩
theorem fits81 {x : RV} (h : FitsT Try.prog 9 81 x) : ∃ a b : Nat,x = .ag [u8 a,u8 b] ∧ a < 256 ∧ b < 256:=by
 obtain ⟨xs,rfl,hx⟩:=fitsT_ag (ss:=[.int .u8,.int .u8]) h (by kernel_rfl) (by kernel_rfl)
 simp only [Oc.FitsL,Oc.Fits] at hx
 obtain ⟨_,_,rfl,⟨a,rfl,ha⟩,_,_,rfl,⟨b,rfl,hb⟩,rfl⟩:=hx
 obtain ⟨a,rfl,ka⟩:=wfb ha
 obtain ⟨b,rfl,kb⟩:=wfb hb
 exact ⟨a,b,rfl,ka,kb⟩
set_option linter.unusedSimpArgs false
set_option linter.unusedVariables false
set_option maxRecDepth 8000
def rawM (n legs : Nat) (v : Nat × Nat × Nat) : Mt:=⟨((v.1 % n : Nat) : Int),(((v.1 % n + 1 + v.2.1 % (n - 1)) % n : Nat) : Int),true,((v.2.2 % (legs + 1) : Nat) : Int),(legs : Int) - ((v.2.2 % (legs + 1) : Nat) : Int)⟩
def rawL (n legs K : Nat) (l : List (Nat × Nat × Nat)) : List Mt:=(l.take K).map (rawM n legs)
theorem rawL_len (n legs K : Nat) (l : List (Nat × Nat × Nat)) : (rawL n legs K l).length = min K l.length:=by simp [rawL]
theorem rawL_succ {n legs k : Nat} {l : List (Nat × Nat × Nat)} {v : Nat × Nat × Nat} (h : l[k]? = some v) : rawL n legs (k + 1) l = rawL n legs k l ++ [rawM n legs v]:=by
 unfold rawL
 rw [take_of_opt h]
 simp
theorem rawM_match {r : Tr} {n legs : Nat} (hn : r.teams = (n : Int)) (h2 : 2 ≤ n) (hl : r.legs = (legs : Int)) (v : Nat × Nat × Nat) : MatchI r (rawM n legs v):=by
 have m1:=Nat.mod_lt v.1 (show n > 0 by omega)
 have m2:=Nat.mod_lt v.2.1 (show n - 1 > 0 by omega)
 have m4:=Nat.mod_lt v.2.2 (show legs + 1 > 0 by omega)
 unfold rawM
 generalize v.1 % n = p at *
 generalize v.2.1 % (n - 1) = q at *
 have m3:=Nat.mod_lt (p + 1 + q) (show n > 0 by omega)
 have hne : (p + 1 + q) % n ≠ p:=by
  by_cases h : p + 1 + q < n
  · rw [Nat.mod_eq_of_lt h]; omega
  · have e : (p + 1 + q) % n = p + 1 + q - n:=by
     rw [Nat.mod_eq_sub_mod (by omega),Nat.mod_eq_of_lt (by omega)]
    rw [e]; omega
 refine ⟨⟨by simp only; omega,by simp only; omega⟩,⟨by simp only; omega,by simp only; omega⟩,by simp only; omega,?_,?_⟩
 · simp only [legsOf,if_true]; omega
 · simp only [legsOf,if_true]; omega
theorem rawL_match {r : Tr} {n legs : Nat} (hn : r.teams = (n : Int)) (h2 : 2 ≤ n) (hl : r.legs = (legs : Int)) (K : Nat) (l : List (Nat × Nat × Nat)) : ∀ m ∈ rawL n legs K l,MatchI r m ∧ m.p = true:=fun m hm=>by
 obtain ⟨v,_,rfl⟩:=List.mem_map.1 hm
 exact ⟨rawM_match hn h2 hl v,rfl⟩
theorem opn_left {q : Nat → Bool} {K : Nat} (hq : ∀ i,q i = true → K ≤ i) : ∀ (l : List Mt) (i : Nat),(∀ m ∈ l,m.p = true) → (leftV (opn q i l)).length ≤ l.length ∧ (leftV (opn q i l)).length ≤ i + l.length - K
 | [],i,_=>by simp [opn,leftV]
 | m :: l, i, h => by
   have ih:=opn_left hq l (i + 1) fun y hy=>h y (List.mem_cons_of_mem m hy)
   simp only [opn]
   by_cases e : q i = true
   · rw [if_pos e,leftV_cons,if_neg (by simp)]
     have:=hq i e
     simp only [List.length_cons]
     omega
   · rw [if_neg e,leftV_cons,if_pos (h m (by simp))]
     simp only [List.length_cons]
     omega
def r13 : Tr:=⟨5,5,2,0,[],0,0⟩
def r14 : Tr:=⟨6,8,3,1,[],1,1⟩
theorem r13_ok : RulesI r13:=⟨by decide,by decide,by decide,by decide,.inl rfl,by decide,by decide⟩
theorem r14_ok : RulesI r14:=⟨by decide,by decide,by decide,by decide,.inl rfl,by decide,by decide⟩
def q13 (n : Nat) (i : Nat) : Bool:=decide ((min n 15 : Int) - 4 ≤ (i : Int))
def q14 (n : Nat) (i : Nat) : Bool:=decide ((n : Int) - 4 ≤ (i : Int)) || decide (16 ≤ i)
theorem left13 (l : List (Nat × Nat × Nat)) : (leftV (opn (q13 l.length) 0 (rawL 5 5 15 l))).length ≤ 10:=by
 have h:=opn_left (q:=q13 l.length) (K:=min l.length 15 - 4) (fun i hi=>by
  unfold q13 at hi
  rw [decide_eq_true_eq] at hi
  omega) (rawL 5 5 15 l) 0 fun m hm=>(rawL_match (r:=r13) (n:=5) (legs:=5) rfl (by omega) rfl 15 l m hm).2
 rw [rawL_len] at h
 omega
theorem left14 (l : List (Nat × Nat × Nat)) : (leftV (opn (q14 l.length) 0 (rawL 6 8 20 l))).length ≤ 10:=by
 have h:=opn_left (q:=q14 l.length) (K:=min (l.length - 4) 16) (fun i hi=>by
  unfold q14 at hi
  rw [Bool.or_eq_true,decide_eq_true_eq,decide_eq_true_eq] at hi
  omega) (rawL 6 8 20 l) 0 fun m hm=>(rawL_match (r:=r14) (n:=6) (legs:=8) rfl (by omega) rfl 20 l m hm).2
 rw [rawL_len] at h
 omega
abbrev teamsT (r : Tr) (l : List Mt) : List Int:=(tabT r l).map (·.team)
theorem goodP_tab {r : Tr} (hr : RulesI r) (l : List Mt) {sh : List Int} (h1 : sh.length ≤ 60) (h2 : ∀ s ∈ sh,0 ≤ s ∧ s ≤ 1000) (h3 : sh.sum ≤ 1000) : GoodP (nT r) sh (sing (teamsT r l)):=by
 obtain ⟨hn,hn2,hn10⟩:=nT_eq hr
 have hfl : (sing (teamsT r l)).flatten = teamsT r l:=by
  induction teamsT r l with
  | nil=>rfl
  | cons x L ih=>simp only [sing,List.map_cons,List.flatten_cons] at ih ⊢; rw [ih]; rfl
 have hlen : (teamsT r l).length = nT r:=by simp [tab_len]
 refine ⟨⟨by omega,by omega⟩,h1,h2,h3,by simp only [sing,List.length_map]; simp only [List.length_map] at hlen; omega,by rw [hfl]; omega,by rw [hfl]; exact tab_nodup,?_,?_⟩
 · intro g hg
   obtain ⟨x,_,rfl⟩:=List.mem_map.1 hg
   simp
 · rw [hfl]
   intro p hp
   obtain ⟨w,hw,rfl⟩:=List.mem_map.1 hp
   obtain ⟨t,ht,rfl⟩:=tab_mem hw
   rw [team_row]
   omega
theorem sp_top {r : Tr} (hr : RulesI r) {l : List Mt} (hl : ∀ m ∈ l,MatchI r m) {t : Nat} (ht : t < nT r) : (spF r l t).2 ≤ nT r:=by
 obtain ⟨T,_,h⟩:=sp_at2 hr hl t
 rw [← h,places_cnt2 T ht]
 have:=(cnt_le (p:=fun j : Nat=>T.pts.getD t 0 ≤ T.pts.getD j 0) (List.range (nT r))).2
 rwa [List.length_range] at this
theorem tab_has {r : Tr} {l : List Mt} {t : Nat} (ht : t < nT r) : ∃ (i : Nat) (w : Rw),i < nT r ∧ (tabT r l)[i]? = some w ∧ w.team = (t : Int):=by
 have hm : rowT r l t ∈ tabT r l:=(tab_perm r l).mem_iff.2 (List.mem_map.2 ⟨t,List.mem_range.2 ht,rfl⟩)
 obtain ⟨i,hi,e⟩:=List.getElem_of_mem hm
 rw [tab_len] at hi
 exact ⟨i,rowT r l t,hi,by rw [List.getElem?_eq_getElem (by rw [tab_len]; exact hi),e],team_row r l t⟩
theorem place_prize {r : Tr} (hr : RulesI r) {l : List Mt} (hl : ∀ m ∈ l,MatchI r m ∧ m.p = true) (q : Nat → Bool) {m c : Int} (hm : 0 ≤ m) (hc : 0 ≤ c) (s : List Nat) {n : Nat} (hn : nT r = n) {t : Nat} (ht : t < n) :
 ∃ (pz : Int) (lo hi : Nat), (prizesV m (pmL c s n) n (sing (teamsT r l)))[t]? = some pz ∧ (spansL r (opn q 0 l))[t]? = some (((lo : Nat) : Int) + 1, ((hi : Nat) : Int) + 1) ∧ lo ≤ hi ∧ hi < n ∧
   pz ≤ m * minS c s (lo + 1) / 1000 ∧ m * minS c s (hi + 1) / 1000 ≤ pz:=by
 subst hn
 obtain ⟨i,w,hi,hw,hwt⟩:=tab_has (r:=r) (l:=l) ht
 obtain ⟨t',ht',e,h1,h2⟩:=opn_place hr hl q hw
 have : t' = t:=by omega
 subst this
 have ho : ∀ m ∈ opn q 0 l,MatchI r m:=opn_match fun m hm=>(hl m hm).1
 have hb:=sp_bounds hr ho ht
 have htp:=sp_top hr ho ht
 have hs:=spans_at (r:=r) (l:=opn q 0 l) ht
 generalize spF r (opn q 0 l) t' = S at *
 obtain ⟨a,b⟩:=S
 simp only at h1 h2 hb htp
 obtain ⟨lo,hlo⟩:=Int.eq_ofNat_of_zero_le (show 0 ≤ a - 1 by omega)
 obtain ⟨hi',hhi⟩:=Int.eq_ofNat_of_zero_le (show 0 ≤ b - 1 by omega)
 have e1 : a = (lo : Int) + 1:=by omega
 have e2 : b = (hi' : Int) + 1:=by omega
 subst e1 e2
 refine ⟨prz m (pmL c s (nT r)) i,lo,hi',sing_prize (by rw [List.getElem?_map,hw]; simp [hwt]) tab_nodup ht,hs,by omega,by omega,prz_anti hm hc (by omega) (by omega),?_⟩
 unfold prz
 rw [pmL_getD (by omega)]
 exact Int.ediv_le_ediv (by omega) (Int.mul_le_mul_of_nonneg_left (minS_anti (by omega)) hm)
def sumK (m : Int) (sh : List Int) : Nat → Int
 | 0=>0
 | i + 1=>sumK m sh i + prz m sh i
theorem sumP_eq (m : Int) (sh : List Int) : ∀ (L : List Int) (k : Nat),sumP m sh k L + sumK m sh k = sumK m sh (k + L.length)
 | [],k=>by simp [sumP]
 | p :: L, k => by
   have ih:=sumP_eq m sh L (k + 1)
   simp only [sumP,List.length_cons]
   simp only [sumK] at ih
   have e : k + 1 + L.length = k + (L.length + 1):=by omega
   rw [e] at ih
   omega
theorem kept_eq (m : Int) (sh : List Int) (L : List Int) : (stP m sh (sing L)).2.2 = m - sumK m sh L.length:=by
 have h:=sumP_eq m sh L 0
 rw [sing_kept]
 simp only [sumK,Nat.zero_add] at h
 omega
theorem prz_top {m c : Int} (hm : 0 ≤ m) (hc : 0 ≤ c) (s : List Nat) (n k : Nat) : 0 ≤ prz m (pmL c s n) k ∧ prz m (pmL c s n) k ≤ m * c / 1000 ∧ (n ≤ k → prz m (pmL c s n) k = 0) ∧ (k < n → prz m (pmL c s n) k = m * minS c s (k + 1) / 1000):=by
 unfold prz
 by_cases h : k < n
 · rw [pmL_getD h]
   have b:=minS_le hc s (k + 1)
   exact ⟨Int.ediv_nonneg (Int.mul_nonneg hm b.1) (by omega),Int.ediv_le_ediv (by omega) (Int.mul_le_mul_of_nonneg_left b.2 hm),fun h'=>absurd h (by omega),fun _=>rfl⟩
 · have e : (pmL c s n).getD k 0 = 0:=by
    rw [List.getD_eq_getElem?_getD,List.getElem?_eq_none (by rw [pmL_len]; omega)]; rfl
   rw [e]
   have:=Int.ediv_nonneg (Int.mul_nonneg hm hc) (show (0 : Int) ≤ 1000 by omega)
   exact ⟨by simp,by simpa using this,fun _=>by simp,fun h'=>absurd h' h⟩
theorem sumK_le {m c : Int} (hm : 0 ≤ m) (hc : 0 ≤ c) (s : List Nat) (n : Nat) : ∀ k : Nat,0 ≤ sumK m (pmL c s n) k ∧ sumK m (pmL c s n) k ≤ (m * c / 1000) * (min k n : Nat)
 | 0=>by simp [sumK]
 | k + 1 => by
   have ih:=sumK_le hm hc s n k
   obtain ⟨h1,h2,h3,_⟩:=prz_top hm hc s n k
   simp only [sumK]
   by_cases h : k < n
   · have e : min (k + 1) n = min k n + 1:=by omega
     rw [e,Int.natCast_add,Int.mul_add]
     simp only [Int.natCast_one,Int.mul_one]
     omega
   · have e : min (k + 1) n = min k n:=by omega
     rw [e,h3 (by omega)]
     omega
theorem table_prize {r : Tr} (hr : RulesI r) {l : List Mt} (hl : ∀ m ∈ l,MatchI r m ∧ m.p = true) (q : Nat → Bool) (m : Int) (sh : List Int) {n : Nat} (hn : nT r = n) {i : Nat} (hi : i < n) :
 ∃ (w : Rw) (t : Nat) (sp : Int × Int),(tabT r l)[i]? = some w ∧ w.team = (t : Int) ∧ t < n ∧ (prizesV m sh n (sing (teamsT r l)))[t]? = some (prz m sh i) ∧ (spansL r (opn q 0 l))[t]? = some sp ∧ (upV r sp = 2 → (i : Int) + 1 ≤ r.up):=by
 subst hn
 obtain ⟨w,hw⟩:=opt_of_lt (l:=tabT r l) (i:=i) (by rw [tab_len]; exact hi)
 obtain ⟨t,ht,e,h1,h2⟩:=opn_place hr hl q hw
 refine ⟨w,t,spF r (opn q 0 l) t,hw,e,ht,sing_prize (by rw [List.getElem?_map,hw]; simp [e]) tab_nodup ht,spans_at ht,fun h=>?_⟩
 unfold upV at h
 split at h
 · omega
 · split at h <;> omega
theorem prizesK_ok : ACalls Try.prog 50 [i64 10001,i64 4,ints [500,300,200],.sl 1 [[ints [2]],[ints [0,3]],[ints [1]]]] (.tu [ints [2500,0,5000,2500],i64 1,i64 0]):=by
 have hp:=prizes_ok 10001 4 [500,300,200] [[2],[0,3],[1]] (by omega) { n1:=by omega,shl:=by decide,shr:=by decide,shs:=by decide,psl:=by decide,fl:=by decide,nd:=by decide,ne:=by decide,rg:=by decide }
 have e2 : prizesV 10001 [500,300,200] 4 [[2],[0,3],[1]] = [2500,0,5000,2500]:=by decide
 have e3 : (stP 10001 [500,300,200] [[2],[0,3],[1]]).2.2 = 1:=by decide
 rw [e2,e3] at hp
 exact hp
theorem shareK_ok : ACalls Try.prog 84 [i64 100,ints [5,3,0]] (.tu [ints [63,37,0],i64 0]):=by
 have hs:=share_ok 100 [5,3,0] (by omega) (by simp) (fun w hw=>by
  simp only [List.mem_cons,List.mem_singleton,List.not_mem_nil,or_false] at hw
  rcases hw with rfl | rfl | rfl <;> omega) (by decide)
 have e : shareL 100 [5,3,0] = [63,37,0]:=by decide
 rw [e] at hs
 exact hs
def pOrc : Orc:=[(84,[i64 100,ints [5,3,0]],.tu [ints [63,37,0],i64 0]),(50,[i64 10001,i64 4,ints [500,300,200],.sl 1 [[ints [2]],[ints [0,3]],[ints [1]]]],.tu [ints [2500,0,5000,2500],i64 1,i64 0])]
theorem pOrc_ok : orcOk Try.prog pOrc:=⟨shareK_ok,prizesK_ok,trivial⟩
theorem fsP_ok : allOk Try.prog [] = true:=by kernel_rfl
theorem knownPurse_ok : ACalls Try.prog 51 [] (.bo true):=evalX_ok follows fsP_ok pOrc_ok (k:=200) (by kernel_rfl) (by kernel_rfl)
set_option maxHeartbeats 4000000
abbrev u16Q (n : Int) : RV:=.it .u16 n
theorem acalls_leQ {F : Nat} {xs ys : List RV} {r : RV} (hle : RV.leL xs ys) (h : ACalls Try.prog F ys r) : ACalls Try.prog F xs r :=
 ⟨h.1,fun w R vs hb hv=>h.2 w R vs hb (le_relV _ _ _ hle hv)⟩
theorem r14_le (x : RV) : RV.leL [.ag [i64 6,i64 8,i64 3,i64 1,.ns,i64 1,i64 1],x] [trV r14,x]:=by
 simp only [trV,trC,r14,ints,RV.leL,RV.le,List.map_nil,and_true,true_and,leL_refl,or_true,true_or];exact leL_refl.le_refl _
theorem fates_goodQ {r : Tr} (hr : RulesI r) {l : List Mt} (hl : ∀ m ∈ l,MatchI r m) (hll : l.length ≤ 180) (hle : (leftV l).length ≤ 10) :
 ACalls Try.prog 40 [trV r,mtsR l] (.tu [.sl 2 ((spansL r l).map (fateR r)),i64 0]):=by
 have he : errV r l = 0:=by unfold errV; rw [check_good hr hl hll,if_pos rfl]; unfold fullV; rw [if_neg (by omega)]
 exact Fates_ok r l (wf_good hr hl) he
theorem season_law (l : List (Nat × Nat × Nat)) (hz : l.length ≤ 140737488351232) (hl : ∀ v ∈ l,v.1 < 256 ∧ v.2.1 < 256 ∧ v.2.2 < 256) (s : List Nat) (hs4 : s.length = 4) (hs : ∀ n ∈ s,n < 256) (f : Nat) (hf : f < 65536) :
 ACalls Try.prog 14 [.sl 3 (l.map m3R),.ag (s.map fun n=>u8 n),u16Q f] (.bo true):=by
 have hkn:=knownT_ok
 have hkp:=knownPurse_ok
 have hA:=rawL_match (r:=r14) (n:=6) (legs:=8) rfl (by omega) rfl 20 l
 have hWl0 : (rawL 6 8 20 l).length ≤ 180:=by rw [rawL_len]; omega
 have hM : ∀ m ∈ rawL 6 8 20 l,MatchI r14 m:=fun m hm=>(hA m hm).1
 have hta:=table_ok _ _ (wf_good r14_ok hM)
 rw [check_good r14_ok hM hWl0,if_pos rfl] at hta
 replace hta:=acalls_leQ (r14_le _) hta
 have hpl:=acalls_leQ (r14_le _) <| fates_goodQ r14_ok (opn_match hM) (by rw [opn_len]; exact hWl0) (left14 l)
 refine acalls_st (rs:=[.bo true]) [.tmp 6] Try.func14 rfl (by kernel_rfl) Try.ntmps14 rfl (by simp) rfl fun C vs=>?_
 repeat refine zq ?_
 refine zb fun K hK=>?_;simp only [go_sem];(try simp (disch:=omega) only [zI]);repeat first | intro _ | refine ⟨by omega,?_⟩
 refine hK _ ?_;clear hK K;refine zw (sub_frzP 4 4 (s.map fun n=>u8 n) (by omega) rfl rfl) ?_;refine zw (zk [0,2,4]) ?_;simp only [go_sem]
 repeat refine zq ?_
 refine zb fun K hK=>?_;simp only [go_sem];(try simp (disch:=omega) only [zI]);repeat first | intro _ | refine ⟨by omega,?_⟩
 refine hK _ ?_;clear hK K;refine zw (sub_frzP 7 7 [i64 6,i64 8,i64 3,i64 1,.ns,i64 1,i64 1] (by omega) rfl rfl) ?_;refine zw (zk [0,2,4,7]) ?_;simp only [go_sem]
 repeat refine zq ?_
 refine zb fun K hK=>?_;simp only [go_sem];(try simp (disch:=omega) only [zI]);repeat first | intro _ | refine ⟨by omega,?_⟩
 refine hK _ ?_;clear hK K;refine zw (sub_own 8 73 70 5 (by omega) rfl) ?_;refine zw (sub_own 9 86 70 5 (by omega) rfl) ?_;refine zw (zk [0,2,4,7,8,9]) ?_;simp only [go_sem]
 repeat refine zq ?_
 refine zb fun K hK=>?_;simp only [go_sem];(try simp (disch:=omega) only [zI]);repeat first | intro _ | refine ⟨by omega,?_⟩
 refine hK _ ?_;clear hK K;refine zw (zk [0,2,4,7,8,9,10]) ?_;simp only [go_sem]
 repeat refine zq ?_
 refine awp_joinV (n:=259) (fun (_ : Unit) vs=>[(2,.r (u16Q f)),(4,.r (.rp (s.map fun n=>u8 n))),(7,.r (.rp [i64 6,i64 8,i64 3,i64 1,.ns,i64 1,i64 1])),(8,.r (mtsR (rawL 6 8 20 l))),(9,.r (mtsR (opn (q14 l.length) 0 (rawL 6 8 20 l))))]) (fun _ vs=>[]) (fun _=>True) (fun _ h=>h) ?_ ?_
 repeat refine zq ?_
 refine zd ?_
 refine awp_uptoV (n:=259) (min 20 l.length) (fun i vs=>[(0,.r (.sl 3 (l.map m3R))),(2,.r (u16Q f)),(4,.r (.rp (s.map fun n=>u8 n))),(7,.r (.rp [i64 6,i64 8,i64 3,i64 1,.ns,i64 1,i64 1])),(8,.os 73 (vs 73) 5 0 i),(9,.os 86 (vs 86) 5 0 i),(10,.r (i64 (i : Int)))])
  (fun i vs=>[(73,.arr 70 5 ((rawL 6 8 i l).map mtR)),(86,.arr 70 5 ((opn (q14 l.length) 0 (rawL 6 8 i l)).map mtR))]) (fun _=>True) 0 (zj [] ?_ ?_) (Nat.zero_le _) trivial ?_
 · try simp only [go_sem]
   try rfl
 · try simp only [go_sem]
   try rfl
 · intro i vs hi _
   by_cases hin : i < l.length ∧ i < 20
   · obtain ⟨hi1,hi2⟩:=hin
     have g1 : decide ((i : Int) < 20) = true:=by simp; omega
     obtain ⟨v,hv⟩:=opt_of_lt hi1
     obtain ⟨v1,v2,v3⟩:=hl v (mem_of_opt hv)
     have hrl : (rawL 6 8 i l).length = i:=by rw [rawL_len]; omega
     have hks:=rawL_succ (n:=6) (legs:=8) hv
     have hop : opn (q14 l.length) 0 (rawL 6 8 i l ++ [rawM 6 8 v]) = opn (q14 l.length) 0 (rawL 6 8 i l) ++ [if q14 l.length i then openM (rawM 6 8 v) else rawM 6 8 v]:=by
      rw [opn_snoc,hrl,Nat.zero_add]
     have hol : (opn (q14 l.length) 0 (rawL 6 8 i l)).length = i:=by rw [opn_len,hrl]
     rw [hks,hop]
     have hmk : mtR (rawM 6 8 v) = [i64 ((v.1 % 6 : Nat) : Int),i64 (((v.1 % 6 + 1 + v.2.1 % 5) % 6 : Nat) : Int),.bo true,i64 ((v.2.2 % 9 : Nat) : Int),i64 (8 - ((v.2.2 % 9 : Nat) : Int))]:=rfl
     have hmo : mtR (openM (rawM 6 8 v)) = [i64 ((v.1 % 6 : Nat) : Int),i64 (((v.1 % 6 + 1 + v.2.1 % 5) % 6 : Nat) : Int),.bo false,i64 0,i64 0]:=rfl
     generalize opn (q14 l.length) 0 (rawL 6 8 i l) = O at *
     generalize rawL 6 8 i l = W at *
     have k1 : IntKind.i64.wrap (v.1 : Int) = v.1:=by rw [zI] <;> omega
     have k2 : Int.tmod (v.1 : Int) 6 = ((v.1 % 6 : Nat) : Int):=rfl
     have k3 : IntKind.i64.wrap (v.2.1 : Int) = v.2.1:=by rw [zI] <;> omega
     have k5 : Int.tmod (v.2.1 : Int) 5 = ((v.2.1 % 5 : Nat) : Int):=rfl
     have m1:=Nat.mod_lt v.1 (show 6 > 0 by omega)
     have m2:=Nat.mod_lt v.2.1 (show 5 > 0 by omega)
     generalize v.1 % 6 = p at *
     generalize v.2.1 % 5 = q at *
     have k6 : IntKind.i64.wrap ((p : Int) + 1) = (p : Int) + 1:=by rw [zI] <;> omega
     have k7 : IntKind.i64.wrap ((p : Int) + 1 + (q : Int)) = (p : Int) + 1 + (q : Int):=by rw [zI] <;> omega
     have k8 : Int.tmod ((p : Int) + 1 + (q : Int)) 6 = (((p + 1 + q) % 6 : Nat) : Int):=by rw [show (p : Int) + 1 + (q : Int) = ((p + 1 + q : Nat) : Int) by omega]; rfl
     have m3:=Nat.mod_lt (p + 1 + q) (show 6 > 0 by omega)
     generalize (p + 1 + q) % 6 = w at *
     have j1 : IntKind.i64.wrap (v.2.2 : Int) = v.2.2:=by rw [zI] <;> omega
     have j3 : Int.tmod (v.2.2 : Int) 9 = ((v.2.2 % 9 : Nat) : Int):=rfl
     have m4:=Nat.mod_lt v.2.2 (show 9 > 0 by omega)
     generalize v.2.2 % 9 = u at *
     repeat refine zq ?_
     refine zb fun K hK=>?_;simp only [go_sem,hi1,g1];(try simp (disch:=omega) only [zI]);repeat first | intro _ | refine ⟨by omega,?_⟩
     refine hK _ ?_;clear hK K;refine zw (zk [0,2,4,7,8,9,10,38]) ?_;simp only [go_sem]
     repeat refine zq ?_
     refine zc rfl (fun hc=>?_) (fun hc=>?_) <;> (try simp only [go_sem] at hc)
     refine zx ?_
     try simp only [go_sem]
     repeat refine zq ?_
     refine zd ?_
     repeat refine zq ?_
     refine zg follows (by decide +kernel) (by kernel_rfl) fun K hK=>?_;simp only [go_sem,hv,hi1,k1,k2,j1,j3];(try simp (disch:=omega) only [zI]);repeat first | intro _ | refine ⟨by omega,?_⟩
     repeat first | intro _ | refine ⟨by omega,?_⟩
     refine hK _ ?_;clear hK K;refine zw (zk [0,2,4,7,8,9,10,11]) ?_;simp only [go_sem]
     repeat refine zq ?_
     refine awp_dreg2 [(11,some 11),(0,none)] follows (by decide +kernel) (by kernel_rfl) (by simp only [keysOk,List.mem_cons,List.not_mem_nil,forall_eq_or_imp,Oc.keyOf,go_sem]; simp) fun K hK=>?_
     simp only [go_sem,hv,hi1,k3,k5,k6,k7,k8];(try simp (disch:=omega) only [zI]);repeat first | intro _ | refine ⟨by omega,?_⟩
     repeat first | intro _ | refine ⟨by omega,?_⟩
     refine hK _ ?_;clear hK K;refine zw (zk [0,2,4,7,8,9,10,11]) ?_;simp only [go_sem]
     repeat refine zq ?_
     refine zb fun K hK=>?_;simp only [go_sem,hrl,List.length_map];(try simp (disch:=omega) only [zI]);repeat first | intro _ | refine ⟨by omega,?_⟩
     refine hK _ ?_;clear hK K;refine zw (zk [0,2,4,7,8,9,10,11]) ?_;simp only [go_sem]
     have z1 : IntKind.i64.wrap ((l.length : Int) - 4) = (l.length : Int) - 4:=by rw [zI] <;> omega
     have hqd : q14 l.length i = (decide ((l.length : Int) - 4 ≤ (i : Int)) || decide (16 ≤ i)):=rfl
     by_cases e1 : (l.length : Int) - 4 ≤ (i : Int)
     · have d1 : decide ((l.length : Int) - 4 ≤ (i : Int)) = true:=decide_eq_true e1
       have hqv : q14 l.length i = true:=by rw [hqd,d1]; rfl
       repeat refine zq ?_
       refine zb fun K hK=>?_;simp only [go_sem,z1,d1,e1];(try simp (disch:=omega) only [zI]);repeat first | intro _ | refine ⟨by omega,?_⟩
       refine hK _ ?_;clear hK K;refine zw (zk [0,2,4,7,8,9,10,11,85]) ?_;simp only [go_sem];rw [hqv]
       repeat refine zq ?_
       refine zc rfl (fun hc=>?_) (fun hc=>?_) <;> (try simp only [go_sem] at hc)
       repeat refine zq ?_
       refine zb fun K hK=>?_;simp only [go_sem];(try simp (disch:=omega) only [zI]);repeat first | intro _ | refine ⟨by omega,?_⟩
       refine hK _ ?_;clear hK K;refine zw (zk [0,2,4,7,8,9,10,11]) ?_;simp only [go_sem]
       repeat refine zq ?_
       refine zb fun K hK=>?_;simp only [go_sem,hol,List.length_map];(try simp (disch:=omega) only [zI]);repeat first | intro _ | refine ⟨by omega,?_⟩
       refine hK _ ?_;clear hK K;refine zw (zk [0,2,4,7,8,9,10]) ?_;simp only [go_sem]
       repeat refine zq ?_
       refine zb fun K hK=>?_;simp only [go_sem];(try simp (disch:=omega) only [zI]);repeat first | intro _ | refine ⟨by omega,?_⟩
       refine hK _ ?_;clear hK K
       try simp only [go_sem]
       refine ⟨by omega,zj [11] ?_ ?_⟩
       · try simp only [go_sem]
       · try simp only [go_sem]
         simp only [List.map_append,List.map_cons,List.map_nil,hmk,hmo,if_true,if_false,Bool.false_eq_true]
     · have d1 : decide ((l.length : Int) - 4 ≤ (i : Int)) = false:=decide_eq_false e1
       by_cases e2 : 16 ≤ i
       · have d2 : decide (16 ≤ (i : Int)) = true:=decide_eq_true (by omega)
         have hqv : q14 l.length i = true:=by rw [hqd,d1]; simp [e2]
         repeat refine zq ?_
         refine zb fun K hK=>?_;simp only [go_sem,z1,d1,d2];(try simp (disch:=omega) only [zI]);repeat first | intro _ | refine ⟨by omega,?_⟩
         refine hK _ ?_;clear hK K;refine zw (zk [0,2,4,7,8,9,10,11,85]) ?_;simp only [go_sem];rw [hqv]
         repeat refine zq ?_
         refine zc rfl (fun hc=>?_) (fun hc=>?_) <;> (try simp only [go_sem] at hc)
         repeat refine zq ?_
         refine zb fun K hK=>?_;simp only [go_sem];(try simp (disch:=omega) only [zI]);repeat first | intro _ | refine ⟨by omega,?_⟩
         refine hK _ ?_;clear hK K;refine zw (zk [0,2,4,7,8,9,10,11]) ?_;simp only [go_sem]
         repeat refine zq ?_
         refine zb fun K hK=>?_;simp only [go_sem,hol,List.length_map];(try simp (disch:=omega) only [zI]);repeat first | intro _ | refine ⟨by omega,?_⟩
         refine hK _ ?_;clear hK K;refine zw (zk [0,2,4,7,8,9,10]) ?_;simp only [go_sem]
         repeat refine zq ?_
         refine zb fun K hK=>?_;simp only [go_sem];(try simp (disch:=omega) only [zI]);repeat first | intro _ | refine ⟨by omega,?_⟩
         refine hK _ ?_;clear hK K
         try simp only [go_sem]
         refine ⟨by omega,zj [11] ?_ ?_⟩
         · try simp only [go_sem]
         · try simp only [go_sem]
           simp only [List.map_append,List.map_cons,List.map_nil,hmk,hmo,if_true,if_false,Bool.false_eq_true]
       · have d2 : decide (16 ≤ (i : Int)) = false:=decide_eq_false (by omega)
         have hqv : q14 l.length i = false:=by rw [hqd,d1]; simp [e2]
         repeat refine zq ?_
         refine zb fun K hK=>?_;simp only [go_sem,z1,d1,d2];(try simp (disch:=omega) only [zI]);repeat first | intro _ | refine ⟨by omega,?_⟩
         refine hK _ ?_;clear hK K;refine zw (zk [0,2,4,7,8,9,10,11,85]) ?_;simp only [go_sem];rw [hqv]
         repeat refine zq ?_
         refine zc rfl (fun hc=>?_) (fun hc=>?_) <;> (try simp only [go_sem] at hc)
         refine zx ?_
         try simp only [go_sem]
         repeat refine zq ?_
         refine zb fun K hK=>?_;simp only [go_sem,hol,List.length_map];(try simp (disch:=omega) only [zI]);repeat first | intro _ | refine ⟨by omega,?_⟩
         refine hK _ ?_;clear hK K;refine zw (zk [0,2,4,7,8,9,10]) ?_;simp only [go_sem]
         repeat refine zq ?_
         refine zb fun K hK=>?_;simp only [go_sem];(try simp (disch:=omega) only [zI]);repeat first | intro _ | refine ⟨by omega,?_⟩
         refine hK _ ?_;clear hK K
         try simp only [go_sem]
         refine ⟨by omega,zj [11] ?_ ?_⟩
         · try simp only [go_sem]
         · try simp only [go_sem]
           simp only [List.map_append,List.map_cons,List.map_nil,hmk,hmo,if_true,if_false,Bool.false_eq_true]
   · have hil : i = min 20 l.length:=by omega
     subst hil
     have hW : rawL 6 8 (min 20 l.length) l = rawL 6 8 20 l:=by unfold rawL; congr 1; rw [List.take_eq_take_iff]; omega
     rw [hW]
     have hWl : (rawL 6 8 20 l).length = min 20 l.length:=rawL_len 6 8 20 l
     have hOl : (opn (q14 l.length) 0 (rawL 6 8 20 l)).length = min 20 l.length:=by rw [opn_len,hWl]
     generalize opn (q14 l.length) 0 (rawL 6 8 20 l) = O at *
     generalize rawL 6 8 20 l = W at *
     have t1 : List.take (min 20 l.length) (W.map mtR) = W.map mtR:=List.take_of_length_le (by simp [hWl])
     have t2 : List.take (min 20 l.length) (O.map mtR) = O.map mtR:=List.take_of_length_le (by simp [hOl])
     by_cases hi1 : min 20 l.length < l.length
     · have g1 : decide (((min 20 l.length : Nat) : Int) < 20) = false:=by simp; omega
       repeat refine zq ?_
       refine zb fun K hK=>?_;simp only [go_sem,hi1,g1];(try simp (disch:=omega) only [zI]);repeat first | intro _ | refine ⟨by omega,?_⟩
       refine hK _ ?_;clear hK K;refine zw (zk [0,2,4,7,8,9,10,38]) ?_;simp only [go_sem]
       repeat refine zq ?_
       refine zc rfl (fun hc=>?_) (fun hc=>?_) <;> (try simp only [go_sem] at hc)
       refine zw (sub_frz 8 73 (by omega) rfl rfl (by simp [hWl])) ?_;refine zw (sub_frz 9 86 (by omega) rfl rfl (by simp [hOl])) ?_;refine zf ?_;simp only [go_sem];rw [t1,t2]
       refine ⟨(),zj [] ?_ ?_⟩
       · try simp only [go_sem]
       · try simp only [go_sem]
     · repeat refine zq ?_
       refine zb fun K hK=>?_;simp only [go_sem,hi1];(try simp (disch:=omega) only [zI]);repeat first | intro _ | refine ⟨by omega,?_⟩
       refine hK _ ?_;clear hK K;refine zw (zk [0,2,4,7,8,9,10,38]) ?_;simp only [go_sem]
       repeat refine zq ?_
       refine zc rfl (fun hc=>?_) (fun hc=>?_) <;> (try simp only [go_sem] at hc)
       refine zw (sub_frz 8 73 (by omega) rfl rfl (by simp [hWl])) ?_;refine zw (sub_frz 9 86 (by omega) rfl rfl (by simp [hOl])) ?_;refine zf ?_;simp only [go_sem];rw [t1,t2]
       refine ⟨(),zj [] ?_ ?_⟩
       · try simp only [go_sem]
       · try simp only [go_sem]
 intro _ vs _
 repeat refine zq ?_
 refine zb fun K hK=>?_;simp only [go_sem];(try simp (disch:=omega) only [zI])
 refine zh (hta) rfl (by simp only [go_sem,i64,ints]) (by simp only [go_sem,i64,ints]) (by first | exact .inl rfl | exact .inr rfl) ?_
 (try simp only [go_sem]);(try simp (disch:=omega) only [zI]);repeat first | intro _ | refine ⟨by omega,?_⟩
 refine hK _ ?_;clear hK K;refine zw (zk [2,4,7,9,12,14]) ?_;simp only [go_sem]
 repeat refine zq ?_
 refine zb fun K hK=>?_;simp only [go_sem];(try simp (disch:=omega) only [zI])
 refine zh (hpl) rfl (by simp only [go_sem,i64,ints]) (by simp only [go_sem,i64,ints]) (by first | exact .inl rfl | exact .inr rfl) ?_
 (try simp only [go_sem]);(try simp (disch:=omega) only [zI]);repeat first | intro _ | refine ⟨by omega,?_⟩
 refine hK _ ?_;clear hK K;refine zw (zk [2,4,12,14,15,16]) ?_;simp only [go_sem]
 have hTe : sortW (rowsL r14 (rawL 6 8 20 l)) = tabT r14 (rawL 6 8 20 l):=rfl
 rw [hTe]
 have hTl : (tabT r14 (rawL 6 8 20 l)).length = 6:=tab_len _ _
 have hSl : (spansL r14 (opn (q14 l.length) 0 (rawL 6 8 20 l))).length = 6:=spansL_len _ _
 repeat refine zq ?_
 refine zb fun K hK=>?_;simp only [go_sem,hTl,hSl,List.length_map,bne_self_eq_false];(try simp (disch:=omega) only [zI]);repeat first | intro _ | refine ⟨by omega,?_⟩
 refine hK _ ?_;clear hK K;refine zw (zk [2,4,12,15,121]) ?_;simp only [go_sem]
 repeat refine zq ?_
 refine zc rfl (fun hc=>?_) (fun hc=>?_) <;> (try simp only [go_sem] at hc)
 refine zx ?_
 try simp only [go_sem]
 repeat refine zq ?_
 refine zb fun K hK=>?_;simp only [go_sem];(try simp (disch:=omega) only [zI]);repeat first | intro _ | refine ⟨by omega,?_⟩
 refine hK _ ?_;clear hK K;refine zw (sub_own 17 146 27 1 (by omega) rfl) ?_;refine zw (zk [2,4,12,15,17,18,19]) ?_;simp only [go_sem]
 repeat refine zq ?_
 refine zb fun K hK=>?_;simp only [go_sem];(try simp (disch:=omega) only [zI]);repeat first | intro _ | refine ⟨by omega,?_⟩
 refine hK _ ?_;clear hK K;refine zw (zk [2,4,12,15,17,18,19,20]) ?_;simp only [go_sem]
 have hpp:=fun i (hi : i < 6)=>table_prize r14_ok hA (q14 l.length) (f : Int) (pmL 250 s 4) (n:=6) rfl hi
 repeat refine zq ?_
 refine awp_joinV (n:=259) (fun (_ : Unit) vs=>[(2,.r (u16Q f)),(4,.r (.rp (s.map fun n=>u8 n))),(12,.r (rwsR (tabT r14 (rawL 6 8 20 l)))),(15,.r (.sl 2 ((spansL r14 (opn (q14 l.length) 0 (rawL 6 8 20 l))).map (fateR r14)))),(17,.r (listsR (sing (teamsT r14 (rawL 6 8 20 l))))),(18,.r .ns),(19,.r (i64 250))]) (fun _ vs=>[]) (fun _=>True) (fun _ h=>h) ?_ ?_
 · generalize hT : tabT r14 (rawL 6 8 20 l) = T at *
   generalize spansL r14 (opn (q14 l.length) 0 (rawL 6 8 20 l)) = S at *
   have htm : teamsT r14 (rawL 6 8 20 l) = T.map (·.team):=by rw [teamsT,hT]
   rw [htm] at hpp ⊢
   repeat refine zq ?_
   refine zd ?_
   refine awp_uptoV (n:=259) 6 (fun i vs=>[(2,.r (u16Q f)),(4,.r (.rp (s.map fun n=>u8 n))),(12,.r (rwsR T)),(15,.r (.sl 2 (S.map (fateR r14)))),(17,.os 146 (vs 146) 1 0 i),(18,.r .ns),(19,.r (i64 250)),(20,.r (i64 (i : Int)))])
    (fun i vs=>[(146,.arr 27 1 ((sing ((T.map (·.team)).take i)).map fun g=>[ints g]))]) (fun _=>True) 0 (zj [] ?_ ?_) (Nat.zero_le _) trivial ?_
   · try simp only [go_sem]
     try rfl
   · try simp only [go_sem]
     try rfl
   · intro i vs hi _
     repeat refine zq ?_
     refine zb fun K hK=>?_;simp only [go_sem];(try simp (disch:=omega) only [zI]);repeat first | intro _ | refine ⟨by omega,?_⟩
     refine hK _ ?_;clear hK K;refine zw (zk [2,4,12,15,17,18,19,20,125]) ?_;simp only [go_sem]
     repeat refine zq ?_
     refine zc rfl (fun hc=>?_) (fun hc=>?_) <;> (try simp only [go_sem] at hc)
     · have hci : i < 6:=by omega
       obtain ⟨w,t,sp,hw,hwt,ht,_,_,_⟩:=hpp i hci
       have d1 : decide ((t : Int) < 0) = false:=decide_eq_false (by omega)
       have d2 : decide (5 < (t : Int)) = false:=decide_eq_false (by omega)
       have htk : (T.map (·.team)).take (i + 1) = (T.map (·.team)).take i ++ [w.team]:=take_of_opt (by rw [List.getElem?_map,hw]; rfl)
       have htl : (sing ((T.map (·.team)).take i)).length = i:=by simp; omega
       rw [htk]
       generalize (T.map (·.team)).take i = B at *
       refine zx ?_
       try simp only [go_sem]
       repeat refine zq ?_
       refine zd ?_
       repeat refine zq ?_
       refine zb fun K hK=>?_;simp only [go_sem,hw,hwt];(try simp (disch:=omega) only [zI]);repeat first | intro _ | refine ⟨by omega,?_⟩
       refine hK _ ?_;clear hK K;refine zw (zk [2,4,12,15,17,18,19,20,21]) ?_;simp only [go_sem]
       repeat refine zq ?_
       refine zb fun K hK=>?_;simp only [go_sem,d1,d2];(try simp (disch:=omega) only [zI]);repeat first | intro _ | refine ⟨by omega,?_⟩
       refine hK _ ?_;clear hK K;refine zw (zk [2,4,12,15,17,18,19,20,138]) ?_;simp only [go_sem]
       repeat refine zq ?_
       refine zc rfl (fun hc=>?_) (fun hc=>?_) <;> (try simp only [go_sem] at hc)
       refine zx ?_
       try simp only [go_sem]
       repeat refine zq ?_
       refine zb fun K hK=>?_;simp only [go_sem,hw,htl,List.length_map];(try simp (disch:=omega) only [zI]);repeat first | intro _ | refine ⟨by omega,?_⟩
       refine hK _ ?_;clear hK K;refine zw (zk [2,4,12,15,17,18,19,20]) ?_;simp only [go_sem]
       repeat refine zq ?_
       refine zb fun K hK=>?_;simp only [go_sem];(try simp (disch:=omega) only [zI]);repeat first | intro _ | refine ⟨by omega,?_⟩
       refine hK _ ?_;clear hK K
       try simp only [go_sem]
       refine ⟨by omega,zj [] ?_ ?_⟩
       · try simp only [go_sem]
       · try simp only [go_sem]
         simp [List.map_append]
     · have hi5 : i = 6:=by omega
       subst hi5
       refine zw (sub_frz 17 146 (by omega) rfl rfl (by simp; omega)) ?_;refine zf ?_;simp only [go_sem]
       have t1 : ∀ g : List Int → List RV,List.take 6 ((sing ((T.map (·.team)).take 6)).map g) = (sing (T.map (·.team))).map g:=fun g=>by
        rw [List.take_of_length_le (l:=T.map (·.team)) (by simp; omega),List.take_of_length_le (by simp; omega)]
       rw [t1]
       refine ⟨(),zj [] ?_ ?_⟩
       · try simp only [go_sem]
       · try simp only [go_sem]
 intro _ vs _
 refine zw (sub_own 18 161 3 1 (by omega) rfl) ?_
 repeat refine zq ?_
 refine zb fun K hK=>?_;simp only [go_sem];(try simp (disch:=omega) only [zI]);repeat first | intro _ | refine ⟨by omega,?_⟩
 refine hK _ ?_;clear hK K;refine zw (zk [2,4,12,15,17,18,19,22]) ?_;simp only [go_sem]
 repeat refine zq ?_
 refine awp_joinV (n:=259) (fun (_ : Unit) vs=>[(2,.r (u16Q f)),(12,.r (rwsR (tabT r14 (rawL 6 8 20 l)))),(15,.r (.sl 2 ((spansL r14 (opn (q14 l.length) 0 (rawL 6 8 20 l))).map (fateR r14)))),(17,.r (listsR (sing (teamsT r14 (rawL 6 8 20 l))))),(18,.r (ints (pmL 250 s 4)))]) (fun _ vs=>[]) (fun _=>True) (fun _ h=>h) ?_ ?_
 · generalize rwsR (tabT r14 (rawL 6 8 20 l)) = T at *
   generalize List.map (fateR r14) (spansL r14 (opn (q14 l.length) 0 (rawL 6 8 20 l))) = S at *
   generalize listsR (sing (teamsT r14 (rawL 6 8 20 l))) = G at *
   repeat refine zq ?_
   refine zd ?_
   refine awp_uptoV (n:=259) 4 (fun i vs=>[(2,.r (u16Q f)),(4,.r (.rp (s.map fun n=>u8 n))),(12,.r T),(15,.r (.sl 2 S)),(17,.r G),(18,.os 161 (vs 161) 1 0 i),(19,.r (i64 (minS 250 s i))),(22,.r (i64 (i : Int)))])
    (fun i vs=>[(161,.arr 3 1 ((pmL 250 s i).map fun x=>[i64 x]))]) (fun _=>True) 0 (zj [] ?_ ?_) (Nat.zero_le _) trivial ?_
   · try simp only [go_sem]
     try rfl
   · try simp only [go_sem]
     try rfl
   · intro i vs hi _
     repeat refine zq ?_
     refine zb fun K hK=>?_;simp only [go_sem];(try simp (disch:=omega) only [zI]);repeat first | intro _ | refine ⟨by omega,?_⟩
     refine hK _ ?_;clear hK K;refine zw (zk [2,4,12,15,17,18,19,22,149]) ?_;simp only [go_sem]
     repeat refine zq ?_
     refine zc rfl (fun hc=>?_) (fun hc=>?_) <;> (try simp only [go_sem] at hc)
     · have hci : i < 4:=by omega
       obtain ⟨n,hn⟩:=opt_of_lt (l:=s) (i:=i) (by omega)
       have hnl:=hs n (mem_of_opt hn)
       have hwn : IntKind.i64.wrap (n : Int) = n:=by rw [zI] <;> omega
       have hmn : minS 250 s (i + 1) = min (minS 250 s i) (n : Int):=by
        have : s.getD i 0 = n:=by rw [List.getD_eq_getElem?_getD,hn]; rfl
        simp only [minS,this]
       have hpl':=pmL_len 250 s i
       have hps:=pmL_snoc 250 s i
       have hdn : (List.drop (i * 1) (List.map (fun n : Nat=>u8 n) s)).headD RV.un = u8 n:=by
        rw [Nat.mul_one,drop_of_opt (l:=s.map fun n : Nat=>u8 n) (i:=i) (x:=u8 n) (by rw [List.getElem?_map,hn]; rfl)]
        rfl
       rw [hps,hmn]
       generalize minS 250 s i = M at *
       generalize pmL 250 s i = A at *
       refine zx ?_
       try simp only [go_sem]
       repeat refine zq ?_
       refine zd ?_
       repeat refine zq ?_
       refine zb fun K hK=>?_;simp only [go_sem,hdn,hwn];(try simp (disch:=omega) only [zI]);repeat first | intro _ | refine ⟨by omega,?_⟩
       refine hK _ ?_;clear hK K;refine zw (zk [2,4,12,15,17,18,19,22]) ?_;simp only [go_sem]
       repeat refine zq ?_
       refine zb fun K hK=>?_;simp only [go_sem,hpl',List.length_map];(try simp (disch:=omega) only [zI]);repeat first | intro _ | refine ⟨by omega,?_⟩
       refine hK _ ?_;clear hK K;refine zw (zk [2,4,12,15,17,18,19,22]) ?_;simp only [go_sem]
       repeat refine zq ?_
       refine zb fun K hK=>?_;simp only [go_sem];(try simp (disch:=omega) only [zI]);repeat first | intro _ | refine ⟨by omega,?_⟩
       refine hK _ ?_;clear hK K
       try simp only [go_sem]
       refine ⟨by omega,zj [] ?_ ?_⟩
       · try simp only [go_sem]
       · try simp only [go_sem]
         simp [List.map_append]
     · have hi5 : i = 4:=by omega
       subst hi5
       refine zw (sub_frz 18 161 (by omega) rfl rfl (by simp [pmL_len])) ?_;refine zf ?_;simp only [go_sem]
       have t2 : ∀ g : Int → List RV,List.take 4 ((pmL 250 s 4).map g) = (pmL 250 s 4).map g:=fun g=>List.take_of_length_le (by simp [pmL_len])
       rw [t2]
       refine ⟨(),zj [] ?_ ?_⟩
       · try simp only [go_sem]
       · try simp only [go_sem]
 intro _ vs _
 have hgp:=goodP_tab r14_ok (rawL 6 8 20 l) (sh:=pmL 250 s 4) (by rw [pmL_len]; omega) (fun x hx=>by have:=pmL_mem (c:=250) (by omega) x hx; omega) (by
  have:=psum_le 250 (pmL 250 s 4) fun x hx=>pmL_mem (c:=250) (by omega) x hx
  rw [pmL_len] at this; omega)
 have hpz:=prizes_ok (f : Int) 6 (pmL 250 s 4) (sing (teamsT r14 (rawL 6 8 20 l))) (by omega) hgp
 have hke:=kept_eq (f : Int) (pmL 250 s 4) (teamsT r14 (rawL 6 8 20 l))
 rw [show (teamsT r14 (rawL 6 8 20 l)).length = 6 by simp [tab_len]; rfl] at hke
 rw [hke] at hpz
 have hVl : (prizesV f (pmL 250 s 4) 6 (sing (teamsT r14 (rawL 6 8 20 l)))).length = 6:=by simp [prizesV]
 have hfw : IntKind.i64.wrap (f : Int) = f:=by rw [zI] <;> omega
 have hsk:=fun k=>sumK_le (m:=(f : Int)) (c:=250) (by omega) (by omega) s 4 k
 have hk0 : decide ((f : Int) - sumK f (pmL 250 s 4) 6 < 0) = false:=decide_eq_false (by
  have h6:=(hsk 6).2
  rw [show min 6 4 = 4 from rfl] at h6
  omega)
 generalize prizesV f (pmL 250 s 4) 6 (sing (teamsT r14 (rawL 6 8 20 l))) = V at *
 generalize listsR (sing (teamsT r14 (rawL 6 8 20 l))) = LR at *
 repeat refine zq ?_
 refine zb fun K hK=>?_;simp only [go_sem,hfw];(try simp (disch:=omega) only [zI])
 refine zh (hpz) rfl (by simp only [go_sem,i64,ints]) (by simp only [go_sem,i64,ints]) (by first | exact .inl rfl | exact .inr rfl) ?_
 (try simp only [go_sem]);(try simp (disch:=omega) only [zI]);repeat first | intro _ | refine ⟨by omega,?_⟩
 refine hK _ ?_;clear hK K;refine zw (zk [2,12,14,15,18,23,24]) ?_;simp only [go_sem]
 repeat refine zq ?_
 refine zb fun K hK=>?_;simp only [go_sem,hVl,hk0,List.length_map,bne_self_eq_false];(try simp (disch:=omega) only [zI]);repeat first | intro _ | refine ⟨by omega,?_⟩
 refine hK _ ?_;clear hK K;refine zw (zk [2,12,15,18,23,24,181]) ?_;simp only [go_sem]
 repeat refine zq ?_
 refine zc rfl (fun hc=>?_) (fun hc=>?_) <;> (try simp only [go_sem] at hc)
 refine zx ?_
 try simp only [go_sem]
 repeat refine zq ?_
 refine zb fun K hK=>?_;simp only [go_sem];(try simp (disch:=omega) only [zI]);repeat first | intro _ | refine ⟨by omega,?_⟩
 refine hK _ ?_;clear hK K;refine zw (zk [2,12,15,18,23,25]) ?_;simp only [go_sem]
 repeat refine zq ?_
 refine zb fun K hK=>?_;simp only [go_sem];(try simp (disch:=omega) only [zI]);repeat first | intro _ | refine ⟨by omega,?_⟩
 refine hK _ ?_;clear hK K;refine zw (zk [2,12,15,18,23,25,26]) ?_;simp only [go_sem]
 repeat refine zq ?_
 refine awp_joinV (n:=259) (fun (_ : Unit) vs=>[(2,.r (u16Q f)),(25,.r (i64 f))]) (fun _ vs=>[]) (fun _=>True) (fun _ h=>h) ?_ ?_
 · generalize tabT r14 (rawL 6 8 20 l) = T at *
   generalize spansL r14 (opn (q14 l.length) 0 (rawL 6 8 20 l)) = S at *
   have hpt:=fun k=>prz_top (m:=(f : Int)) (c:=250) (by omega) (by omega) s 4 k
   repeat refine zq ?_
   refine zd ?_
   refine awp_uptoV (n:=259) 6 (fun i vs=>[(2,.r (u16Q f)),(12,.r (rwsR T)),(15,.r (.sl 2 (S.map (fateR r14)))),(18,.r (ints (pmL 250 s 4))),(23,.r (ints V)),(25,.r (i64 (f - sumK f (pmL 250 s 4) 6 + sumK f (pmL 250 s 4) i))),(26,.r (i64 (i : Int)))])
    (fun i vs=>[]) (fun _=>True) 0 (zj [] ?_ ?_) (Nat.zero_le _) trivial ?_
   · try simp only [go_sem]
     try (simp only [sumK]; omega)
   · try simp only [go_sem]
     try (simp only [sumK]; omega)
   · intro i vs hi _
     repeat refine zq ?_
     refine zb fun K hK=>?_;simp only [go_sem];(try simp (disch:=omega) only [zI]);repeat first | intro _ | refine ⟨by omega,?_⟩
     refine hK _ ?_;clear hK K;refine zw (zk [2,12,15,18,23,25,26,184]) ?_;simp only [go_sem]
     repeat refine zq ?_
     refine zc rfl (fun hc=>?_) (fun hc=>?_) <;> (try simp only [go_sem] at hc)
     · have hci : i < 6:=by omega
       obtain ⟨w,t,sp,hw,hwt,ht,hpv,hsp,hup⟩:=hpp i hci
       have hsi:=hsk i
       have hs6:=hsk 6
       have hpi:=hpt i
       rw [show min 6 4 = 4 from rfl] at hs6
       have hm4 : ((min i 4 : Nat) : Int) ≤ 4:=by omega
       have hsb : sumK f (pmL 250 s 4) i ≤ 100000:=by
        have:=Int.mul_le_mul_of_nonneg_left hm4 (show (0 : Int) ≤ f * 250 / 1000 by omega)
        omega
       have hsu : sumK f (pmL 250 s 4) (i + 1) = sumK f (pmL 250 s 4) i + prz f (pmL 250 s 4) i:=rfl
       have hpj : 0 < i → prz f (pmL 250 s 4) i ≤ prz f (pmL 250 s 4) (i - 1):=fun h0=>by
        by_cases h4 : i < 4
        · rw [(hpt i).2.2.2 h4,(hpt (i - 1)).2.2.2 (by omega)]
          exact Int.ediv_le_ediv (by omega) (Int.mul_le_mul_of_nonneg_left (minS_anti (by omega)) (by omega))
        · rw [(hpt i).2.2.1 (by omega)]; exact (hpt (i - 1)).1
       rw [hsu]
       have hfr : fateR r14 sp = [i64 (upV r14 sp),i64 (dnV r14 sp)]:=rfl
       have hz1 : decide (prz f (pmL 250 s 4) i < 0) = false:=decide_eq_false (by omega)
       have hww : IntKind.i64.wrap (f - sumK f (pmL 250 s 4) 6 + sumK f (pmL 250 s 4) i + prz f (pmL 250 s 4) i) = f - sumK f (pmL 250 s 4) 6 + (sumK f (pmL 250 s 4) i + prz f (pmL 250 s 4) i):=by rw [zI] <;> omega
       have hup1 : upV r14 sp = 2 → i = 0:=fun h=>by have:=hup h; simp only [r14] at this; omega
       refine zx ?_
       try simp only [go_sem]
       repeat refine zq ?_
       refine zd ?_
       repeat refine zq ?_
       refine zb fun K hK=>?_;simp only [go_sem,hw,hwt];(try simp (disch:=omega) only [zI]);repeat first | intro _ | refine ⟨by omega,?_⟩
       refine hK _ ?_;clear hK K;refine zw (zk [2,12,15,18,23,25,26,27]) ?_;simp only [go_sem]
       repeat refine zq ?_
       refine zb fun K hK=>?_;simp only [go_sem,hpv,hww];(try simp (disch:=omega) only [zI]);repeat first | intro _ | refine ⟨by omega,?_⟩
       refine hK _ ?_;clear hK K;refine zw (zk [2,12,15,18,23,25,26,27]) ?_;simp only [go_sem]
       by_cases hi0 : i = 0
       · have g1 : decide (0 < (i : Int)) = false:=decide_eq_false (by omega)
         have g2 : ((i : Int) != 0) = false:=by simp [hi0]
         have hq : (pmL 250 s 4)[0]? = some (minS 250 s 1):=pmL_at (by omega)
         have hzi : prz f (pmL 250 s 4) i = f * minS 250 s 1 / 1000:=by rw [hi0]; exact (hpt 0).2.2.2 (by omega)
         have hb:=minS_le (show (0 : Int) ≤ 250 by omega) s 1
         rw [hzi] at hpv hz1
         have hpm4:=pmL_len 250 s 4
         have hnb : ∀ x : Int,(x != x) = false:=fun x=>by simp
         generalize minS 250 s 1 = a at *
         generalize pmL 250 s 4 = pm at *
         have c1:=Int.mul_nonneg (show (0 : Int) ≤ f by omega) hb.1
         have c3:=Int.mul_le_mul (show (f : Int) ≤ 65535 by omega) hb.2 hb.1 (by omega)
         have t1 : Int.tdiv ((f : Int) * a) 1000 = (f : Int) * a / 1000:=Int.tdiv_eq_ediv_of_nonneg c1
         have w1 : IntKind.i64.wrap ((f : Int) * a) = (f : Int) * a:=by rw [zI] <;> omega
         by_cases hu : upV r14 sp = 2
         · have hu2 : (upV r14 sp == 2) = true:=by simp [hu]
           repeat refine zq ?_
           refine zg follows (by decide +kernel) (by kernel_rfl) fun K hK=>?_;simp only [go_sem,hpv,hz1,g1,g2,hsp,hfr,hu2,hfw,hq,w1,t1,hpm4,bne_self_eq_false];(try simp (disch:=omega) only [zI]);repeat first | intro _ | refine ⟨by omega,?_⟩
           repeat first | intro _ | refine ⟨by omega,?_⟩
           refine hK _ ?_;clear hK K;refine zw (zk [2,12,15,18,23,25,26,248]) ?_;simp only [go_sem]
           try rw [hnb]
           repeat refine zq ?_
           refine zc rfl (fun hc=>?_) (fun hc=>?_) <;> (try simp only [go_sem] at hc)
           refine zx ?_
           try simp only [go_sem]
           repeat refine zq ?_
           refine zb fun K hK=>?_;simp only [go_sem];(try simp (disch:=omega) only [zI]);repeat first | intro _ | refine ⟨by omega,?_⟩
           refine hK _ ?_;clear hK K
           try simp only [go_sem]
           refine ⟨by omega,zj [] ?_ ?_⟩
           · try simp only [go_sem]
           · try simp only [go_sem]
         · have hu2 : (upV r14 sp == 2) = false:=by simp [hu]
           repeat refine zq ?_
           refine zg follows (by decide +kernel) (by kernel_rfl) fun K hK=>?_;simp only [go_sem,hpv,hz1,g1,g2,hsp,hfr,hu2,hfw,hq,w1,t1,hpm4,bne_self_eq_false];(try simp (disch:=omega) only [zI]);repeat first | intro _ | refine ⟨by omega,?_⟩
           repeat first | intro _ | refine ⟨by omega,?_⟩
           refine hK _ ?_;clear hK K;refine zw (zk [2,12,15,18,23,25,26,248]) ?_;simp only [go_sem]
           try rw [hnb]
           repeat refine zq ?_
           refine zc rfl (fun hc=>?_) (fun hc=>?_) <;> (try simp only [go_sem] at hc)
           refine zx ?_
           try simp only [go_sem]
           repeat refine zq ?_
           refine zb fun K hK=>?_;simp only [go_sem];(try simp (disch:=omega) only [zI]);repeat first | intro _ | refine ⟨by omega,?_⟩
           refine hK _ ?_;clear hK K
           try simp only [go_sem]
           refine ⟨by omega,zj [] ?_ ?_⟩
           · try simp only [go_sem]
           · try simp only [go_sem]
       · have g1 : decide (0 < (i : Int)) = true:=decide_eq_true (by omega)
         obtain ⟨w',t',sp',hw',hwt',ht',hpv',_,_⟩:=hpp (i - 1) (by omega)
         have hu2 : (upV r14 sp == 2) = false:=by simp; exact fun h=>hi0 (hup1 h)
         have w3 : IntKind.i64.wrap ((i : Int) - 1) = ((i - 1 : Nat) : Int):=by rw [zI] <;> omega
         have g3 : decide (prz f (pmL 250 s 4) (i - 1) < prz f (pmL 250 s 4) i) = false:=decide_eq_false (by have:=hpj (by omega); omega)
         repeat refine zq ?_
         refine zg follows (by decide +kernel) (by kernel_rfl) fun K hK=>?_;simp only [go_sem,hpv,hpv',hw',hwt',hz1,g1,g3,w3,hsp,hfr,hu2,hfw];(try simp (disch:=omega) only [zI]);repeat first | intro _ | refine ⟨by omega,?_⟩
         repeat first | intro _ | refine ⟨by omega,?_⟩
         refine hK _ ?_;clear hK K;refine zw (zk [2,12,15,18,23,25,26,248]) ?_;simp only [go_sem]
         repeat refine zq ?_
         refine zc rfl (fun hc=>?_) (fun hc=>?_) <;> (try simp only [go_sem] at hc)
         refine zx ?_
         try simp only [go_sem]
         repeat refine zq ?_
         refine zb fun K hK=>?_;simp only [go_sem];(try simp (disch:=omega) only [zI]);repeat first | intro _ | refine ⟨by omega,?_⟩
         refine hK _ ?_;clear hK K
         try simp only [go_sem]
         refine ⟨by omega,zj [] ?_ ?_⟩
         · try simp only [go_sem]
         · try simp only [go_sem]
     · have hi6 : i = 6:=by omega
       subst hi6
       refine zf ?_;simp only [go_sem];rw [Int.sub_add_cancel]
       refine ⟨(),zj [] ?_ ?_⟩
       · try simp only [go_sem]
       · try simp only [go_sem]
 intro _ vs _
 repeat refine zq ?_
 refine zb fun K hK=>?_;simp only [go_sem,hfw,beq_self_eq_true];(try simp (disch:=omega) only [zI])
 refine zh (hkn) rfl (by simp only [go_sem,i64,ints]) (by simp only [go_sem,i64,ints]) (by first | exact .inl rfl | exact .inr rfl) ?_
 (try simp only [go_sem]);(try simp (disch:=omega) only [zI])
 refine zh (hkp) rfl (by simp only [go_sem,i64,ints]) (by simp only [go_sem,i64,ints]) (by first | exact .inl rfl | exact .inr rfl) ?_
 (try simp only [go_sem]);(try simp (disch:=omega) only [zI]);repeat first | intro _ | refine ⟨by omega,?_⟩
 refine hK _ ?_;clear hK K;refine zw (zk [6]) ?_;simp only [go_sem];refine ze ?_;simp only [go_sem]
end Go.Proofs.Ytobokbhpeaakjaa

namespace Go.Oc
open Go Go.RowKit
theorem wf_u8 {n : Int} (h : (Lit.int .u8 n).wf = true) : 0 ≤ n ∧ n ≤ 255:=by
 simp only [Lit.wf,Bool.and_eq_true,decide_eq_true_eq] at h
 have h1 : IntKind.min .u8 = 0:=by decide
 have h2 : IntKind.max .u8 = 255:=by decide
 rw [h1,h2] at h
 exact h
theorem wf_u16 {n : Int} (h : (Lit.int .u16 n).wf = true) : 0 ≤ n ∧ n ≤ 65535:=by
 simp only [Lit.wf,Bool.and_eq_true,decide_eq_true_eq] at h
 have h1 : IntKind.min .u16 = 0:=by decide
 have h2 : IntKind.max .u16 = 65535:=by decide
 rw [h1,h2] at h
 exact h
theorem wf_u32 {n : Int} (h : (Lit.int .u32 n).wf = true) : 0 ≤ n ∧ n ≤ 4294967295:=by
 simp only [Lit.wf,Bool.and_eq_true,decide_eq_true_eq] at h
 have h1 : IntKind.min .u32 = 0:=by decide
 have h2 : IntKind.max .u32 = 4294967295:=by decide
 rw [h1,h2] at h
 exact h
theorem fitsE_u8 : ∀ {es : List (List RV)},FitsE [.int .u8] es → ∃ l : List Int,es = l.map (fun x=>[.it .u8 x]) ∧ ∀ x ∈ l,0 ≤ x ∧ x ≤ 255
 | [],_=>⟨[],rfl,by simp⟩
 | e :: es, h => by
   simp only [FitsE,FitsL,Fits] at h
   obtain ⟨⟨y,ys,rfl,⟨n,rfl,hn⟩,rfl⟩,h⟩:=h
   obtain ⟨l,rfl,hl⟩:=fitsE_u8 h
   refine ⟨n :: l,rfl,fun x hx=>?_⟩
   rcases List.mem_cons.1 hx with rfl | hx
   · exact wf_u8 hn
   · exact hl x hx
theorem fitsE_u16 : ∀ {es : List (List RV)},FitsE [.int .u16] es → ∃ l : List Int,es = l.map (fun x=>[.it .u16 x]) ∧ ∀ x ∈ l,0 ≤ x ∧ x ≤ 65535
 | [],_=>⟨[],rfl,by simp⟩
 | e :: es, h => by
   simp only [FitsE,FitsL,Fits] at h
   obtain ⟨⟨y,ys,rfl,⟨n,rfl,hn⟩,rfl⟩,h⟩:=h
   obtain ⟨l,rfl,hl⟩:=fitsE_u16 h
   refine ⟨n :: l,rfl,fun x hx=>?_⟩
   rcases List.mem_cons.1 hx with rfl | hx
   · exact wf_u16 hn
   · exact hl x hx
end Go.Oc

namespace Go.Proofs.Ytobokbhpeaakjaa
open Go Go.Oc
theorem wfw {n : Int} (h : (Lit.int .u16 n).wf = true) : ∃ k : Nat,n = k ∧ k < 65536:=by
 simp only [Lit.wf,Bool.and_eq_true,decide_eq_true_eq] at h
 have h1 : IntKind.min .u16 = 0:=by decide
 have h2 : IntKind.max .u16 = 65535:=by decide
 rw [h1,h2] at h
 obtain ⟨k,hk⟩:=Int.eq_ofNat_of_zero_le h.1
 exact ⟨k,hk,by omega⟩
theorem fitsL_by : ∀ {n : Nat} {xs : List RV},FitsL (List.replicate n (.int .u8)) xs → ∃ l : List Nat,xs = l.map (fun n : Nat=>u8 n) ∧ l.length = n ∧ ∀ n ∈ l,n < 256
 | 0, xs, h => by
   simp only [List.replicate_zero,Oc.FitsL] at h
   subst h
   exact ⟨[],rfl,rfl,by simp⟩
 | n + 1, xs, h => by
   simp only [List.replicate_succ,Oc.FitsL,Oc.Fits] at h
   obtain ⟨_,_,rfl,⟨a,rfl,ha⟩,h⟩:=h
   obtain ⟨l,rfl,hn,hl⟩:=fitsL_by h
   obtain ⟨k,rfl,kk⟩:=wfb ha
   refine ⟨k :: l,rfl,by simp [hn],fun x hx=>?_⟩
   rcases List.mem_cons.1 hx with rfl | hx
   · exact kk
   · exact hl x hx
theorem fits64 {x : RV} (h : FitsT Try.prog 9 64 x) : ∃ l : List (Nat × Nat × Nat),x = .sl 3 (l.map m3R) ∧ ∀ v ∈ l,v.1 < 256 ∧ v.2.1 < 256 ∧ v.2.2 < 256:=by
 have:=fitsT_one (s:=.sl [.int .u8,.int .u8,.int .u8]) h (by kernel_rfl) (by kernel_rfl)
 simp only [Oc.Fits] at this
 obtain ⟨es,rfl,hes⟩:=this
 obtain ⟨l,rfl,hl⟩:=fitsE_by3 hes
 exact ⟨l,rfl,hl⟩
theorem fits110 {x : RV} (h : FitsT Try.prog 9 110 x) : ∃ l : List Nat,x = .ag (l.map fun n : Nat=>u8 n) ∧ l.length = 5 ∧ ∀ n ∈ l,n < 256:=by
 obtain ⟨xs,rfl,hx⟩:=fitsT_ag (ss:=List.replicate 5 (.int .u8)) h (by kernel_rfl) (by kernel_rfl)
 obtain ⟨l,rfl,hn,hl⟩:=fitsL_by hx
 exact ⟨l,rfl,hn,hl⟩
theorem fits111 {x : RV} (h : FitsT Try.prog 9 111 x) : ∃ n : Nat,x = .it .u16 n ∧ n < 65536:=by
 have:=fitsT_one (s:=.int .u16) h (by kernel_rfl) (by kernel_rfl)
 simp only [Oc.Fits] at this
 obtain ⟨m,rfl,hm⟩:=this
 obtain ⟨k,rfl,kk⟩:=wfw hm
 exact ⟨k,rfl,kk⟩
open Go Go.Oc Go.ChangeShapes Go.RowKit
theorem fits117 {x : RV} (h : FitsT Try.prog 9 117 x) : ∃ l : List Nat,x = .ag (l.map fun n : Nat=>u8 n) ∧ l.length = 4 ∧ ∀ n ∈ l,n < 256:=by
 obtain ⟨xs,rfl,hx⟩:=fitsT_ag (ss:=List.replicate 4 (.int .u8)) h (by kernel_rfl) (by kernel_rfl)
 obtain ⟨l,rfl,hn,hl⟩:=fitsL_by hx
 exact ⟨l,rfl,hn,hl⟩
theorem reach_sl {H : Type} {enc : TypeId × Value → H} {P : Program} {w : World} {R : Nat → Prop} {base : Nat} {spare : Nat → Bool} {held : Bool} {t e : TypeId} {n : Nat} {es : List (List RV)} {v : Value} {d : DataW H} {ps : List MemPlace}
 (ht : P.underlying t = some (.slice e)) (h : DataW.Trod enc P w base spare held t v d ps) (hr : RV.rel w R (.sl n es) v) (hw : (d.weights P t).all (fun x=>x ≤ reachBytes) = true) (hb : 1 ≤ P.bytesOf e) : es.length ≤ 140737488351232:=by
 simp only [RV.rel] at hr
 obtain ⟨A,c,rfl,h1,h2,h3⟩:=hr
 obtain ⟨fuel,hf⟩:=h
 have hc : (Value.slice A es.length c).cells.toList = [.slice A es.length c]:=rfl
 rw [hc] at hf
 rcases DataW.trod_slice ht hf with ⟨e1,_⟩ | ⟨a,len,cap,elems,rest,m,_,e1,e2,_,_,_,e3,_⟩
 · injection e1 with e1 _
   injection e1 with _ e1 _
   omega
 · injection e1 with e1 _
   injection e1 with _ e1 _
   injection e2 with e2 _
   subst e2
   simp only [DataW.weights,ht,List.all_cons,Bool.and_eq_true,decide_eq_true_eq,List.length_map] at hw
   have h4:=hw.1
   have h5 : elems.length + rest.length ≤ (elems.length + rest.length) * P.bytesOf e:=Nat.le_mul_of_pos_right _ hb
   have h6 : reachBytes = 140737488351232 - 0:=by unfold reachBytes; rfl
   omega
open Go Go.Oc
theorem law14' {x0 x1 x2 : RV} (h0 : FitsT Try.prog 9 64 x0) (h1 : FitsT Try.prog 9 117 x1) (h2 : FitsT Try.prog 9 111 x2) (hz : ∀ n es,x0 = .sl n es → es.length ≤ 140737488351232) : ACalls Try.prog 14 [x0,x1,x2] (.bo true):=by
 obtain ⟨l,rfl,hl⟩:=fits64 h0
 obtain ⟨s,rfl,hn,hs⟩:=fits117 h1
 obtain ⟨f,rfl,hf⟩:=fits111 h2
 exact season_law l (by have:=hz _ _ rfl; simpa using this) hl s hn hs f hf
end Go.Proofs.Ytobokbhpeaakjaa


namespace Go.Proofs.Ytobokbhpeaakjaa
open Go Go.Oc Go.ChangeShapes Go.WideShapes Go.RowKit
set_option linter.unusedVariables false
theorem own : ownKnob Try.prog.godebug = none := by kernel_rfl
theorem laidOut : laidOutB Try.prog = true := by kernel_rfl
set_option maxRecDepth 100000 in
theorem lifted (os : Os) (started : os.Started) (H : Type) (enc : TypeId × Value → H) :
    ReturnsInHanded {} Try.checked os 14 .any (Rows.topTablePrizesSpec.pre6 enc Try.prog Try.f14 Rows.topTablePrizesRow.domain false) (Rows.topTablePrizesSpec.post enc Try.prog Try.f14 false true false false) := by
  refine returnsInHanded_of_change_sized (C := Try.checked) own started (by kernel_rfl) Try.func14
    (ChangeSpec.witness6 (enc := enc) (C := Try.checked) false ⟨#[], #[.slice none 0 0, .agg #[.int .u8 0, .int .u8 0, .int .u8 0, .int .u8 0], .int .u16 0], []⟩ 8 (by kernel_rfl) (by kernel_rfl) (by kernel_rfl) (by kernel_rfl)) ?_
  intro W base args ds gs before hval0 hW hcnd hsz0 _
  have hsz : (DataW.weightsEach Try.prog (Try.f14.params.toList ++ []) (ds ++ gs)).all (fun x => x ≤ reachBytes) = true := hsz0
  have hval : ∀ (j : Nat) t v, Try.f14.params[j]? = some t → args[j]? = some v → Value.okWide Try.prog W .any base t v := hval0
  have hW' := hW
  obtain ⟨p, q, hA0, hV, rfl, hfz, hnd⟩ := hW
  have hA : DataW.TrodAll enc Try.prog W 0 (fun _ => true) true Try.f14.params.toList args.toList ds p := hA0
  rw [Try.params14] at hA hval hsz
  obtain ⟨v0, vs0, d0, ds0, p0, q0, hargs, rfl, rfl, h0, r0⟩ := trodAll_cons hA
  obtain ⟨v1, vs1, d1, ds1, p1, q1, rfl, rfl, rfl, h1, r1⟩ := trodAll_cons r0
  obtain ⟨v2, vs2, d2, ds2, p2, q2, rfl, rfl, rfl, h2, r2⟩ := trodAll_cons r1
  obtain ⟨rfl, rfl, rfl⟩ := trodAll_nil r2
  obtain rfl : args = #[v0, v1, v2] := by cases args; simp_all
  obtain ⟨rfl, rfl⟩ := trodVars_none hV
  have lt0 : ∀ x ∈ p0, x.block < W.heap.size := by obtain ⟨m, hm⟩ := h0; exact DataW.trod_lt m _ _ _ hm
  have lt1 : ∀ x ∈ p1, x.block < W.heap.size := by obtain ⟨m, hm⟩ := h1; exact DataW.trod_lt m _ _ _ hm
  have lt2 : ∀ x ∈ p2, x.block < W.heap.size := by obtain ⟨m, hm⟩ := h2; exact DataW.trod_lt m _ _ _ hm
  obtain ⟨x0, g0, e0⟩ := arg_fits (n := 9) (by kernel_rfl) (hval 0 64 v0 rfl rfl) h0
  obtain ⟨x1, g1, e1⟩ := arg_fits (n := 9) (by kernel_rfl) (hval 1 117 v1 rfl rfl) h1
  obtain ⟨x2, g2, e2⟩ := arg_fits (n := 9) (by kernel_rfl) (hval 2 111 v2 rfl rfl) h2
  simp only [List.append_nil, DataW.weightsEach, List.all_append, Bool.and_eq_true] at hsz
  have z0 : ∀ n es, x0 = .sl n es → es.length ≤ 140737488351232 := fun n es he => by subst he; exact reach_sl Try.underlying64 h0 e0 hsz.1 (of_decide_eq_true (by kernel_rfl))
  clear hA0 hval0
  refine ((law14' g0 g1 g2 z0).2 W (old W) #[v0, v1, v2] (fun _ h => h) (by simp only [RV.relV]; exact ⟨_, _, rfl, e0, _, _, rfl, e1, _, _, rfl, e2, rfl⟩)).mono fun e W' he => ?_
  obtain ⟨v, R', rfl, bel, _, _, _, hr⟩ := he
  simp only [RV.rel] at hr
  subst hr
  exact ⟨_, rfl, _, _, _, [], _, [], hW', trodAll_mk1 (shut_bool Try.underlying4 _), (trodAll_cons_mk (Below.trod laidOut (by kernel_rfl) (of_decide_eq_true (by kernel_rfl)) h0 bel lt0) (trodAll_cons_mk (Below.trod laidOut (by kernel_rfl) (of_decide_eq_true (by kernel_rfl)) h1 bel lt1) (trodAll_cons_mk (Below.trod laidOut (by kernel_rfl) (of_decide_eq_true (by kernel_rfl)) h2 bel lt2) trodAll_mk0))), rfl, bel.frame _, fun h => by cases h⟩
theorem over : Rows.topTablePrizesRow.holds Try.pinned (OpenSpec.ofChange Rows.topTablePrizesSpec) :=
  OpenClaim.holds_of_wide 14 Try.f14 rfl rfl rfl rfl rfl rfl rfl ⟨rfl, rfl, rfl, rfl, rfl⟩ rfl rfl rfl rfl rfl (by kernel_rfl) Try.func14 (by kernel_rfl)
    (of_decide_eq_true (by kernel_rfl)) (by unfold Func.isWrapper; first | (rw [if_pos (by decide +kernel)]; kernel_rfl) | (rw [if_neg (by decide +kernel)]; exact ⟨rfl, rfl⟩))
    (fun os started H enc _ => lifted os started H enc)
theorem topTablePrizes_holds : Rows.TopTablePrizesSaid := over
#print axioms topTablePrizes_holds
end Go.Proofs.Ytobokbhpeaakjaa
