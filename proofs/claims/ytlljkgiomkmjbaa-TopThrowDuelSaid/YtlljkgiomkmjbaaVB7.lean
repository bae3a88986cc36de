/- Part 7 of the texts of this claim. -/
import Derived.Test.YtlljkgiomkmjbaaVB6
namespace Go.Proofs.Ytlljkgiomkmjbaa.Du.Th
open Go Go.Oc
set_option linter.unusedSimpArgs false
set_option linter.unusedVariables false
set_option maxRecDepth 8000
theorem stable_ok (lt : Nat → Nat → Bool) (c : Nat → Nat → Int) (f : Nat) (caps : List RV) (l : List Nat) (hl : l.length ≤ 19) (hlt : ∀ x y,lt x y = decide (c x y < 0))
 (hcc : ∀ x ∈ l,∀ y ∈ l,ACalls Try.prog f (i64 (x : Int) :: i64 (y : Int) :: caps) (i64 (c x y))) :
 MCalls Try.prog 94 [(1000,.arr 3 1 (idx l))] [(1000,.arr 3 1 (idx (sortN lt l)))] [.os 1000 0 1 0 l.length,.r (i64 l.length),.r (.fn f caps)] (.tu []):=by
 refine mcalls_st (n:=63) (rs:=[]) _ _ [] Try.func94 rfl (by kernel_rfl) Try.ntmps94 rfl (by simp) rfl rfl fun C=>?_
 repeat refine zq ?_
 refine zb fun K hK=>?_;simp only [go_sem];(try simp (disch:=omega) only [zI]);repeat first | intro _ | refine ⟨by omega,?_⟩
 refine hK _ ?_;clear hK K
 repeat refine zq ?_
 refine zb fun K hK=>?_;simp only [go_sem];(try simp (disch:=omega) only [zI]);repeat first | intro _ | refine ⟨by omega,?_⟩
 refine hK _ ?_;clear hK K;refine zw (zk [0,1,2,6,7,8]) ?_;simp only [go_sem]
 repeat refine zq ?_
 refine zd ?_
 refine awp_upto0 (n:=63) 0 (fun i vs=>[(0,.os 1000 0 1 0 l.length),(1,.r (i64 l.length)),(2,.r (.fn f caps)),(6,.r (i64 20)),(7,.r (i64 0)),(8,.r (i64 20))])
  (fun i=>[(1000,.arr 3 1 (idx l))]) (fun i=>True) 0 (fit0_of [] lent_zero ?_ ?_) (Nat.zero_le _) trivial ?_
 · try simp only [go_sem]
 · try simp only [go_sem]
 intro i vs hv _ _
 have hv0:=hv 1000 (by omega)
 repeat refine zq ?_
 refine zb fun K hK=>?_;simp only [go_sem];(try simp (disch:=omega) only [zI]);repeat first | intro _ | refine ⟨by omega,?_⟩
 refine hK _ ?_;clear hK K
 repeat refine zq ?_
 refine zc rfl (fun hc=>?_) (fun hc=>?_) <;> (try simp only [go_sem] at hc)
 · omega
 refine zf ?_;simp only [go_sem]
 repeat refine zq ?_
 refine zb fun K hK=>?_;simp only [go_sem];(try simp (disch:=omega) only [zI])
 refine xcall_mut (insertion_ok lt c f caps l (by omega) hlt hcc) [(1000,1000)] rfl (by simp only [go_sem,i64,ints,hv0]) (by simp only [go_sem,i64,ints,hv0]) (by rfl) (by rfl) ?_
 (try simp only [go_sem,hv0]);(try simp (disch:=omega) only [zI]);repeat first | intro _ | refine ⟨by omega,?_⟩
 refine hK _ ?_;clear hK K
 try simp only [go_sem]
 repeat refine zq ?_
 refine zd ?_
 refine awp_upto0 (n:=63) 0 (fun i vs=>[(1,.r (i64 l.length)),(6,.r (i64 20))])
  (fun i=>[(1000,.arr 3 1 (idx (sortN lt l)))]) (fun i=>True) 0 (fit0_of [] hv ?_ ?_) (Nat.zero_le _) trivial ?_
 · try simp only [go_sem]
 · try simp only [go_sem]
 intro i vs hv _ _
 repeat refine zq ?_
 refine zb fun K hK=>?_;simp only [go_sem];(try simp (disch:=omega) only [zI]);repeat first | intro _ | refine ⟨by omega,?_⟩
 refine hK _ ?_;clear hK K
 repeat refine zq ?_
 refine zc rfl (fun hc=>?_) (fun hc=>?_) <;> (try simp only [go_sem] at hc)
 · omega
 refine zf ?_;simp only [go_sem]
theorem sortStable_ok (lt : Nat → Nat → Bool) (c : Nat → Nat → Int) (f : Nat) (caps : List RV) (l : List Nat) (hl : l.length ≤ 19) (hlt : ∀ x y,lt x y = decide (c x y < 0))
 (hcc : ∀ x ∈ l,∀ y ∈ l,ACalls Try.prog f (i64 (x : Int) :: i64 (y : Int) :: caps) (i64 (c x y))) :
 MCalls Try.prog 48 [(1000,.arr 3 1 (idx l))] [(1000,.arr 3 1 (idx (sortN lt l)))] [.os 1000 0 1 0 l.length,.r (.fn f caps)] (.tu []):=by
 refine mcalls_st (n:=9) (rs:=[]) _ _ [] Try.func48 rfl (by kernel_rfl) Try.ntmps48 rfl (by simp) rfl rfl fun C=>?_
 repeat refine zq ?_
 refine zb fun K hK=>?_;simp only [go_sem];(try simp (disch:=omega) only [zI])
 intro _
 refine xcall_mut (stable_ok lt c f caps l (by omega) hlt hcc) [(1000,1000)] rfl (by simp only [go_sem,i64,ints]) (by simp only [go_sem,i64,ints]) (by rfl) (by rfl) ?_
 (try simp only [go_sem]);(try simp (disch:=omega) only [zI]);repeat first | intro _ | refine ⟨by omega,?_⟩
 refine hK _ ?_;clear hK K
 try simp only [go_sem]
theorem relV_unmap {w : World} {p : Plan} {ver : Nat → Nat} : ∀ {xs : List RV} {vs : List Value},AV.relV w p ver (xs.map .r) vs → RV.relV w p.R xs vs
 | [],_,h=>by simpa only [List.map_nil,AV.relV,RV.relV] using h
 | x :: xs, vs, h => by
   simp only [List.map_cons,AV.relV,AV.rel] at h
   simp only [RV.relV]
   obtain ⟨u,us,h1,h2,h3⟩:=h
   exact ⟨u,us,h1,h2,relV_unmap h3⟩
theorem mcalls_fn {F : Nat} {L L' : List (Nat × RowC)} {x r : AV} {f : Nat} {caps : List RV} (h : MCalls Try.prog F L L' [x,.r (.fn f caps)] r) : MCalls Try.prog F L L' [x,.fn f (caps.map .r)] r :=
 ⟨h.1,fun w p vs h1 h2 h3 h4 h5 h6 hV=>h.2 w p vs h1 h2 h3 h4 h5 h6 (by
  simp only [AV.relV] at hV ⊢
  obtain ⟨u,us,e1,k1,u',us',e2,k2,e3⟩:=hV
  refine ⟨u,us,e1,k1,u',us',e2,?_,e3⟩
  simp only [AV.rel,RV.rel] at k2 ⊢
  obtain ⟨ws,k3,k4⟩:=k2
  exact ⟨ws,k3,relV_unmap k4⟩)⟩
def moreS (l : List Bd) (o : List Int) (m : Int) (i : Nat) : Int:=min m ((l[i]?.map (·.hi)).getD 0 - (o[i]?).getD 0)
def fillS (l : List Bd) : List Nat → List Int × Int → List Int × Int
 | [],x=>x
 | i :: is,x=>fillS l is (x.1.set i ((x.1[i]?).getD 0 + moreS l x.1 x.2 i),x.2 - moreS l x.1 x.2 i)
theorem fillS_snoc (l : List Bd) : ∀ (is : List Nat) (i : Nat) (x : List Int × Int),fillS l (is ++ [i]) x = ((fillS l is x).1.set i (((fillS l is x).1[i]?).getD 0 + moreS l (fillS l is x).1 (fillS l is x).2 i),(fillS l is x).2 - moreS l (fillS l is x).1 (fillS l is x).2 i)
 | [],_,_=>rfl
 | j :: is,i,x=>by simp only [List.cons_append,fillS]; exact fillS_snoc l is i _
def FillOk (l : List Bd) (x : List Int × Int) : Prop:=x.1.length = l.length ∧ (0 ≤ x.2 ∧ x.2 ≤ 6000) ∧ ∀ (i : Nat) (b : Bd) (o : Int),l[i]? = some b → x.1[i]? = some o → b.lo ≤ o ∧ o ≤ b.hi
theorem fillOk_step {l : List Bd} {x : List Int × Int} (h : FillOk l x) {i : Nat} {b : Bd} {o : Int} (hb : l[i]? = some b) (ho : x.1[i]? = some o) :
 moreS l x.1 x.2 i = min x.2 (b.hi - o) ∧ 0 ≤ moreS l x.1 x.2 i ∧ FillOk l (x.1.set i ((x.1[i]?).getD 0 + moreS l x.1 x.2 i),x.2 - moreS l x.1 x.2 i):=by
 obtain ⟨h1,h2,h3⟩:=h
 obtain ⟨h4,h5⟩:=h3 i b o hb ho
 have hm : moreS l x.1 x.2 i = min x.2 (b.hi - o):=by simp [moreS,hb,ho]
 refine ⟨hm,by omega,by simp [h1],by simp only; omega,fun k b' o' hb' ho'=>?_⟩
 simp only [ho,Option.getD_some] at ho'
 by_cases e : i = k
 · subst e
   rw [List.getElem?_set_self (by have:=(List.getElem?_eq_some_iff.1 ho).1; exact this)] at ho'
   injection ho' with ho'
   rw [hb] at hb'
   injection hb' with hb'
   subst hb'
   omega
 · rw [List.getElem?_set_ne e] at ho'
   exact h3 k b' o' hb' ho'
theorem fillOk_all {l : List Bd} : ∀ (is : List Nat) (x : List Int × Int),(∀ i ∈ is,i < l.length) → FillOk l x → FillOk l (fillS l is x)
 | [],_,_,h=>h
 | i :: is, x, hi, h => by
   obtain ⟨b,hb⟩:=opt_of_lt (hi i (by simp))
   obtain ⟨o,ho⟩:=opt_of_lt (l:=x.1) (i:=i) (by have:=hi i (by simp); have:=h.1; omega)
   exact fillOk_all is _ (fun j hj=>hi j (by simp [hj])) (fillOk_step h hb ho).2.2
def startF (d : Int) (l : List Bd) : List Int × Int:=(l.map (·.lo),d - loS l)
def keyLt (cm : Int → Int → Int) (vals : List Int) (i k : Nat) : Bool:=decide (cm ((vals[i]?).getD 0) ((vals[k]?).getD 0) < 0)
def filledV (cm : Int → Int → Int) (d : Int) (l : List Bd) (vals : List Int) : List Int:=(fillS l (sortN (keyLt cm vals) (List.range l.length)) (startF d l)).1
theorem startF_ok {d : Int} {l : List Bd} (hc : chOk d l = true) (hd : d ≤ 3000) (h1 : loS l ≤ d) (h0 : 0 ≤ loS l) : FillOk l (startF d l):=by
 refine ⟨by simp [startF],by simp only [startF]; omega,fun i b o hb ho=>?_⟩
 simp only [startF,List.getElem?_map,hb,Option.map_some,Option.some.injEq] at ho
 have:=List.all_eq_true.1 hc b (mem_of_opt hb)
 simp only [Bool.and_eq_true,decide_eq_true_eq] at this
 omega
theorem mem_sortN {lt : Nat → Nat → Bool} {l : List Nat} {z : Nat} : z ∈ sortN lt l ↔ z ∈ l:=by
 unfold sortN
 rw [List.mem_reverse,mem_sortB]
 simp
theorem sortN_len (lt : Nat → Nat → Bool) (l : List Nat) : (sortN lt l).length = l.length:=by
 unfold sortN
 rw [List.length_reverse,sortB_len]
 simp
theorem rep_at {g : List (List RV)} {z : List RV} {n i : Nat} (hg : g.length = i) (hi : i < n) : (g ++ List.replicate (n - i) z).getD i [] = z:=by
 rw [List.getD_eq_getElem?_getD,List.getElem?_append_right (by omega),hg,Nat.sub_self,List.getElem?_replicate,if_pos (by omega)]
 rfl
theorem rep_len {g : List (List RV)} {z : List RV} {n i : Nat} (hg : g.length = i) (hi : i < n) : (g ++ List.replicate (n - i) z).length = n:=by simp; omega
theorem rep_set {g : List (List RV)} {z v : List RV} {n i : Nat} (hg : g.length = i) (hi : i < n) : (g ++ List.replicate (n - i) z).set i v = (g ++ [v]) ++ List.replicate (n - (i + 1)) z:=by
 rw [List.set_append_right _ _ (by omega),hg,Nat.sub_self]
 have : n - i = (n - (i + 1)) + 1:=by omega
 rw [this,List.replicate_succ,List.set_cons_zero]
 simp
theorem filled_ok (a : Int) (l : List Bd) (d : Int) (vals : List Int) (f : Nat) (cm : Int → Int → Int) (hf : ∀ x y,ACalls Try.prog f [i64 x,i64 y] (i64 (cm x y))) (hv : vals.length = l.length) (hl : l.length ≤ 19) (hch : chOk d l = true) (hd : d ≤ 3000) (h1 : loS l ≤ d) :
 ACalls Try.prog 125 [.ag [i64 a,bedsR l,i64 d],ints vals,.fn f []] (ints (filledV cm d l vals)):=by
 have hs:=chOk_small hch (by omega)
 have hsm:=sums_le hs
 refine acalls_st (rs:=[ints (filledV cm d l vals)]) [.tmp 6] Try.func125 rfl (by kernel_rfl) Try.ntmps125 rfl (by simp) rfl fun C vs=>?_
 repeat refine zq ?_
 refine zb fun K hK=>?_;simp only [go_sem];(try simp (disch:=omega) only [zI]);repeat first | intro _ | refine ⟨by omega,?_⟩
 refine hK _ ?_;clear hK K;refine zw (sub_frzP 3 3 [i64 a,bedsR l,i64 d] (by omega) rfl rfl) ?_;refine zw (sub_frzP 4 4 [ints vals] (by omega) rfl rfl) ?_;refine zw (sub_frzP 5 5 [.fn f []] (by omega) rfl rfl) ?_;refine zw (zk [3,4,5]) ?_;simp only [go_sem]
 repeat refine zq ?_
 refine awp_dreg2 [(3,none)] follows (by decide +kernel) (by kernel_rfl) (by simp only [keysOk,List.mem_cons,List.not_mem_nil,forall_eq_or_imp,Oc.keyOf,go_sem]; simp) fun K hK=>?_
 simp only [go_sem];(try simp (disch:=omega) only [zI])
 intro _
 refine ⟨⟨by omega,by omega⟩,fun _=>⟨⟨by omega,by omega⟩,?_⟩⟩
 repeat first | intro _ | refine ⟨by omega,?_⟩
 refine hK _ ?_;clear hK K;refine zw (zk [3,4,5,7,8,9]) ?_;simp only [go_sem]
 repeat refine zq ?_
 refine zb fun K hK=>?_;simp only [go_sem];(try simp (disch:=omega) only [zI])
 intro _
 repeat first | intro _ | refine ⟨by omega,?_⟩
 refine hK _ ?_;clear hK K;refine zw (zk [3,4,5,7,8,9,29,30,31]) ?_;simp only [go_sem]
 repeat refine zq ?_
 refine zd ?_
 refine awp_upto (n:=90) l.length (fun i vs=>[(3,.r (.rp [i64 a,bedsR l,i64 d])),(4,.r (.rp [ints vals])),(5,.r (.rp [.fn f []])),(7,.os 19 (vs 19) 1 0 l.length),(8,.os 24 (vs 24) 1 0 l.length),(9,.r (i64 (d - loS (l.take i)))),(29,.r (bedsR l)),(30,.r (i64 l.length)),(31,.r (i64 i))])
  (fun i=>[(19,.arr 3 1 (idx (List.range i) ++ List.replicate (l.length - i) [i64 0])),(24,.arr 3 1 (((l.take i).map fun x=>[i64 x.lo]) ++ List.replicate (l.length - i) [i64 0]))]) (fun _=>True) 0 (fit_of [3,4,5] ?_ ?_) (Nat.zero_le _) trivial ?_
 · try simp only [go_sem]
   simp [loS]
 · try simp only [go_sem]
   simp
 · intro i vs hi _
   repeat refine zq ?_
   refine zb fun K hK=>?_;simp only [go_sem];(try simp (disch:=omega) only [zI]);repeat first | intro _ | refine ⟨by omega,?_⟩
   refine hK _ ?_;clear hK K
   repeat refine zq ?_
   refine zc rfl (fun hc=>?_) (fun hc=>?_) <;> (try simp only [go_sem] at hc)
   · have hci:=hc
     obtain ⟨x,hx⟩:=opt_of_lt hci
     obtain ⟨⟨x1,x2⟩,x3,x4⟩:=hs x (mem_of_opt hx)
     have hsub:=sums_le (hs.take (i + 1))
     have hsub0:=sums_le (hs.take i)
     have htl : ((l.take (i + 1)).length : Int) ≤ 20:=by rw [List.length_take]; omega
     have htl0 : ((l.take i).length : Int) ≤ 20:=by rw [List.length_take]; omega
     have hlo : loS (l.take (i + 1)) = loS (l.take i) + x.lo:=by rw [take_of_opt hx,loS_snoc]
     rw [hlo] at hsub
     refine zx ?_
     repeat refine zq ?_
     refine zd ?_
     repeat refine zq ?_
     refine zb fun K hK=>?_;simp only [go_sem,hx,hci,bedR];(try simp (disch:=omega) only [zI]);repeat first | intro _ | refine ⟨by omega,?_⟩
     refine hK _ ?_;clear hK K;refine zw (zk [3,4,5,7,8,9,10,11,29,30,31]) ?_;simp only [go_sem]
     have g1 : (idx (List.range i)).length = i:=by simp
     have g2 : ((l.take i).map fun x=>[i64 x.lo]).length = i:=by simp; omega
     have r1:=rep_at (z:=[i64 0]) g1 hci
     have r2:=rep_at (z:=[i64 0]) g2 hci
     have r3:=rep_len (z:=[i64 0]) g1 hci
     have r4:=rep_len (z:=[i64 0]) g2 hci
     have r5:=fun v=>rep_set (z:=[i64 0]) (v:=v) g1 hci
     have r6:=fun v=>rep_set (z:=[i64 0]) (v:=v) g2 hci
     repeat refine zq ?_
     refine awp_dreg2 [(7,some 19),(8,some 24),(10,none),(11,some 11)] follows (by decide +kernel) (by kernel_rfl) (by simp only [keysOk,List.mem_cons,List.not_mem_nil,forall_eq_or_imp,Oc.keyOf,go_sem]; simp) fun K hK=>?_
     simp only [go_sem,hci,r1,r2,r3,r4,r5,r6];(try simp (disch:=omega) only [zI]);repeat first | intro _ | refine ⟨by omega,?_⟩
     refine hK _ ?_;clear hK K;refine zw (zk [3,4,5,7,8,9,10,11,29,30,31]) ?_;simp only [go_sem]
     repeat refine zq ?_
     refine zb fun K hK=>?_;simp only [go_sem];(try simp (disch:=omega) only [zI]);repeat first | intro _ | refine ⟨by omega,?_⟩
     refine hK _ ?_;clear hK K;refine zw (zk [3,4,5,7,8,9,29,30,31]) ?_;simp only [go_sem]
     repeat refine zq ?_
     refine zb fun K hK=>?_;simp only [go_sem];(try simp (disch:=omega) only [zI]);repeat first | intro _ | refine ⟨by omega,?_⟩
     refine hK _ ?_;clear hK K
     try simp only [go_sem]
     refine ⟨hci,fit_of [11] ?_ ?_⟩
     · simp only [go_sem,hlo]
       omega
     · try simp only [go_sem]
       have hr : List.range (i + 1) = List.range i ++ [i]:=List.range_succ
       simp only [take_of_opt hx,hr,List.map_append,List.map_cons,List.map_nil]
   · refine zf ?_;simp only [go_sem]
     have hii : i = l.length:=by omega
     subst hii
     have e1 : idx (List.range l.length) ++ List.replicate (l.length - l.length) [i64 0] = idx (List.range l.length):=by simp
     have e2 : ((l.take l.length).map fun x=>[i64 x.lo]) ++ List.replicate (l.length - l.length) [i64 0] = (l.map (·.lo)).map fun x=>[i64 x]:=by simp
     have e3 : l.take l.length = l:=List.take_length
     rw [e1,e2,e3]
     have hmem : ∀ i ∈ List.range l.length,i < vals.length:=fun i hi=>by rw [hv]; exact List.mem_range.1 hi
     have hsort:=sortStable_ok (keyLt cm vals) (fun i k=>cm ((vals[i]?).getD 0) ((vals[k]?).getD 0)) 187 [.rp [.fn f []],.rp [ints vals]] (List.range l.length) (by simpa using hl) (fun _ _=>rfl) (fun i hi k hk=>by
      obtain ⟨x,hx⟩:=opt_of_lt (hmem i hi)
      obtain ⟨y,hy⟩:=opt_of_lt (hmem k hk)
      have:=filled1_ok i k vals f cm hf hx hy
      simpa [hx,hy] using this)
     rw [List.length_range] at hsort
     repeat refine zq ?_
     refine zb fun K hK=>?_;simp only [go_sem];(try simp (disch:=omega) only [zI])
     refine xcall_mut (mcalls_fn hsort) [(1000,19)] rfl (by simp only [go_sem,i64,ints]) (by simp only [go_sem,i64,ints]) (by rfl) (by rfl) ?_
     (try simp only [go_sem]);(try simp (disch:=omega) only [zI]);repeat first | intro _ | refine ⟨by omega,?_⟩
     refine hK _ ?_;clear hK K;refine zw (zk [3,4,5,7,8,9]) ?_;simp only [go_sem]
     obtain ⟨S,hS⟩ : ∃ S,S = sortN (keyLt cm vals) (List.range l.length):=⟨_,rfl⟩
     have hSl : S.length = l.length:=by rw [hS,sortN_len,List.length_range]
     have hSm : ∀ i ∈ S,i < l.length:=fun i hi=>by rw [hS,mem_sortN,List.mem_range] at hi; exact hi
     rw [← hS]
     repeat refine zq ?_
     refine zb fun K hK=>?_;simp only [go_sem];(try simp (disch:=omega) only [zI])
     intro _
     repeat first | intro _ | refine ⟨by omega,?_⟩
     refine hK _ ?_;clear hK K;refine zw (zk [3,4,5,7,8,9,55,56,57]) ?_;simp only [go_sem]
     repeat refine zq ?_
     refine zd ?_
     have hst:=startF_ok hch hd h1 hsm.1.1
     refine awp_upto (n:=90) l.length (fun i vs=>[(3,.r (.rp [i64 a,bedsR l,i64 d])),(8,.os 24 (vs 24) 1 0 l.length),(9,.r (i64 (fillS l (S.take i) (startF d l)).2)),(55,.os 19 (vs 19) 1 0 l.length),(56,.r (i64 l.length)),(57,.r (i64 i))])
      (fun i=>[(19,.arr 3 1 (idx S)),(24,.arr 3 1 ((fillS l (S.take i) (startF d l)).1.map fun x=>[i64 x]))]) (fun _=>True) 0 (fit_of [] ?_ ?_) (Nat.zero_le _) trivial ?_
     · try simp only [go_sem]
       simp [fillS,startF]
     · try simp only [go_sem]
       simp [fillS,startF]
     · intro q vs hq _
       repeat refine zq ?_
       refine zb fun K hK=>?_;simp only [go_sem];(try simp (disch:=omega) only [zI]);repeat first | intro _ | refine ⟨by omega,?_⟩
       refine hK _ ?_;clear hK K
       repeat refine zq ?_
       refine zc rfl (fun hc=>?_) (fun hc=>?_) <;> (try simp only [go_sem] at hc)
       · have hci:=hc
         obtain ⟨i,hi⟩:=opt_of_lt (l:=S) (i:=q) (by omega)
         have hil:=hSm i (mem_of_opt hi)
         obtain ⟨x,hx⟩:=opt_of_lt hil
         obtain ⟨F,hF⟩ : ∃ F,F = fillS l (S.take q) (startF d l):=⟨_,rfl⟩
         have hFo : FillOk l F:=hF ▸ fillOk_all _ _ (fun j hj=>hSm j (List.mem_of_mem_take hj)) hst
         obtain ⟨o,ho⟩:=opt_of_lt (l:=F.1) (i:=i) (by have:=hFo.1; omega)
         obtain ⟨s1,s2,s3⟩:=fillOk_step hFo hx ho
         have hnx : fillS l (S.take (q + 1)) (startF d l) = (F.1.set i (o + moreS l F.1 F.2 i),F.2 - moreS l F.1 F.2 i):=by
          rw [take_of_opt hi,fillS_snoc,← hF]
          simp [ho]
         obtain ⟨⟨x1,x2⟩,x3,x4⟩:=hs x (mem_of_opt hx)
         obtain ⟨f1,f2,f3⟩:=hFo
         have f4:=f3 i x o hx ho
         rw [← hF]
         refine zx ?_
         repeat refine zq ?_
         refine zd ?_
         repeat refine zq ?_
         refine zb fun K hK=>?_;simp only [go_sem,hi,hci];(try simp (disch:=omega) only [zI]);repeat first | intro _ | refine ⟨by omega,?_⟩
         refine hK _ ?_;clear hK K;refine zw (zk [3,8,9,13,55,56,57]) ?_;simp only [go_sem]
         repeat refine zq ?_
         refine awp_dreg2 [(3,none),(8,some 24),(9,none),(13,none)] follows (by decide +kernel) (by kernel_rfl) (by simp only [keysOk,List.mem_cons,List.not_mem_nil,forall_eq_or_imp,Oc.keyOf,go_sem]; simp) fun K hK=>?_
         simp only [go_sem,hx,ho,hil,bedR,f1];(try simp (disch:=omega) only [zI]);repeat first | intro _ | refine ⟨by omega,?_⟩
         refine hK _ ?_;clear hK K;refine zw (zk [3,8,9,13,14,55,56,57]) ?_;simp only [go_sem]
         repeat refine zq ?_
         refine zb fun K hK=>?_;simp only [go_sem,ho,hil,f1];(try simp (disch:=omega) only [zI])
         have hwr : IntKind.i64.wrap (o + min F.2 (x.hi - o)) = o + min F.2 (x.hi - o):=by rw [zI] <;> omega
         repeat first | intro _ | refine ⟨by omega,?_⟩
         refine hK _ ?_;clear hK K;refine zw (zk [3,8,9,55,56,57]) ?_;simp only [go_sem]
         repeat refine zq ?_
         refine zb fun K hK=>?_;simp only [go_sem];(try simp (disch:=omega) only [zI]);repeat first | intro _ | refine ⟨by omega,?_⟩
         refine hK _ ?_;clear hK K
         try simp only [go_sem]
         refine ⟨hci,fit_of [] ?_ ?_⟩
         · simp only [go_sem,hnx,s1]
         · simp only [go_sem,hnx,s1];rw [List.map_set]
       · refine zf ?_;simp only [go_sem]
         repeat refine zq ?_
         refine zb fun K hK=>?_;simp only [go_sem];(try simp (disch:=omega) only [zI]);repeat first | intro _ | refine ⟨by omega,?_⟩
         refine hK _ ?_;clear hK K;refine ze ?_;simp only [go_sem]
         have e4 : S.take q = S:=List.take_of_length_le (by omega)
         rw [e4]
         have hfin:=fillOk_all S (startF d l) hSm hst
         refine ⟨by have:=hfin.1; omega,?_⟩
         rw [List.take_of_length_le (by simp; have:=hfin.1; omega),filledV,← hS]
def dotV : List Int → List Int → Int
 | x :: xs,y :: ys=>x * y + dotV xs ys
 | _,_=>0
theorem dotV_snoc : ∀ {xs ys : List Int} {x y : Int},xs.length = ys.length → dotV (xs ++ [x]) (ys ++ [y]) = dotV xs ys + x * y
 | [],[],x,y,_=>by simp [dotV]
 | _ :: xs,_ :: ys,x,y,h=>by simp only [List.cons_append,dotV]; rw [dotV_snoc (by simpa using h)]; omega
 | [],_ :: _,_,_,h=>by simp at h
 | _ :: _,[],_,_,h=>by simp at h
def Vals (l : List Int) : Prop:=∀ x ∈ l,-1000000000000 ≤ x ∧ x ≤ 1000000000000
theorem mul_bound {x y : Int} (h0 : 0 ≤ x) (h1 : x ≤ 6000) (h2 : -1000000000000 ≤ y) (h3 : y ≤ 1000000000000) : -6000000000000000 ≤ x * y ∧ x * y ≤ 6000000000000000:=by
 constructor
 · have h4 : x * -1000000000000 ≤ x * y:=Int.mul_le_mul_of_nonneg_left h2 h0
   omega
 · have h4 : x * y ≤ x * 1000000000000:=Int.mul_le_mul_of_nonneg_left h3 h0
   omega
theorem dotV_bound : ∀ {xs ys : List Int},(∀ x ∈ xs,0 ≤ x ∧ x ≤ 6000) → Vals ys → -6000000000000000 * (xs.length : Int) ≤ dotV xs ys ∧ dotV xs ys ≤ 6000000000000000 * xs.length
 | [],_,_,_=>by simp [dotV]
 | _ :: _,[],_,_=>by simp only [dotV,List.length_cons]; omega
 | x :: xs, y :: ys, h, hv => by
   have h1:=dotV_bound (xs:=xs) (ys:=ys) (fun z hz=>h z (by simp [hz])) fun z hz=>hv z (by simp [hz])
   have h2:=h x (by simp)
   have h3:=hv y (by simp)
   have h4:=mul_bound h2.1 h2.2 h3.1 h3.2
   simp only [dotV,List.length_cons]
   omega
theorem filled_facts {cm : Int → Int → Int} {d : Int} {l : List Bd} {vals : List Int} (hch : chOk d l = true) (hd : d ≤ 3000) (h1 : loS l ≤ d) : (filledV cm d l vals).length = l.length ∧ ∀ x ∈ filledV cm d l vals,0 ≤ x ∧ x ≤ 3000:=by
 have hs:=chOk_small hch (by omega)
 have hsm:=sums_le hs
 have hst:=startF_ok hch hd h1 hsm.1.1
 have hfin:=fillOk_all (sortN (keyLt cm vals) (List.range l.length)) (startF d l) (fun i hi=>by rw [mem_sortN,List.mem_range] at hi; exact hi) hst
 refine ⟨hfin.1,fun x hx=>?_⟩
 obtain ⟨i,hi⟩:=List.getElem?_of_mem hx
 obtain ⟨b,hb⟩:=opt_of_lt (l:=l) (i:=i) (by have:=(List.getElem?_eq_some_iff.1 hi).1; have:=hfin.1; unfold filledV at *; omega)
 have h2:=hfin.2.2 i b x hb hi
 have:=List.all_eq_true.1 hch b (mem_of_opt hb)
 simp only [Bool.and_eq_true,decide_eq_true_eq] at this
 omega
theorem mean1_ok (a : Int) (l : List Bd) (d : Int) (vals : List Int) (f : Nat) (cm : Int → Int → Int) (hf : ∀ x y,ACalls Try.prog f [i64 x,i64 y] (i64 (cm x y))) (hv : vals.length = l.length) (hl : l.length ≤ 19) (hch : chOk d l = true) (hd : d ≤ 3000) (h1 : loS l ≤ d) (hvs : Vals vals) :
 ACalls Try.prog 124 [.fn f [],.rp [i64 a,bedsR l,i64 d],.rp [ints vals]] (i64 (dotV (filledV cm d l vals) vals)):=by
 obtain ⟨q1,q2⟩:=filled_facts (cm:=cm) (vals:=vals) hch hd h1
 obtain ⟨F,hF⟩ : ∃ F,F = filledV cm d l vals:=⟨_,rfl⟩
 have hfl:=filled_ok a l d vals f cm hf hv hl hch hd h1
 rw [← hF] at q1 q2 hfl ⊢
 refine acalls_st (rs:=[i64 (dotV F vals)]) [.tmp 4] Try.func124 rfl (by kernel_rfl) Try.ntmps124 rfl (by simp) rfl fun C vs=>?_
 repeat refine zq ?_
 refine zb fun K hK=>?_;simp only [go_sem];(try simp (disch:=omega) only [zI]);repeat first | intro _ | refine ⟨by omega,?_⟩
 refine hK _ ?_;clear hK K
 repeat refine zq ?_
 refine zb fun K hK=>?_;simp only [go_sem];(try simp (disch:=omega) only [zI])
 refine zh (hfl) rfl (by simp only [go_sem,i64,ints]) (by simp only [go_sem,i64,ints]) (by first | exact .inl rfl | exact .inr rfl) ?_
 (try simp only [go_sem]);(try simp (disch:=omega) only [zI])
 intro _
 repeat first | intro _ | refine ⟨by omega,?_⟩
 refine hK _ ?_;clear hK K;refine zw (zk [2,4,10,11,12]) ?_;simp only [go_sem]
 repeat refine zq ?_
 refine zd ?_
 refine awp_upto (n:=27) F.length (fun i vs=>[(2,.r (.rp [ints vals])),(4,.r (i64 (dotV (F.take i) (vals.take i)))),(10,.r (ints F)),(11,.r (i64 F.length)),(12,.r (i64 i))]) (fun _=>[]) (fun _=>True) 0 (fit_of [] ?_ ?_) (Nat.zero_le _) trivial ?_
 · try simp only [go_sem]
   simp [dotV]
 · try simp only [go_sem]
 · intro i vs hi _
   repeat refine zq ?_
   refine zb fun K hK=>?_;simp only [go_sem];(try simp (disch:=omega) only [zI]);repeat first | intro _ | refine ⟨by omega,?_⟩
   refine hK _ ?_;clear hK K
   repeat refine zq ?_
   refine zc rfl (fun hc=>?_) (fun hc=>?_) <;> (try simp only [go_sem] at hc)
   · have hci:=hc
     have hcv : i < vals.length:=by omega
     obtain ⟨x,hx⟩:=opt_of_lt hci
     obtain ⟨y,hy⟩:=opt_of_lt hcv
     have b1:=q2 x (mem_of_opt hx)
     have b2:=hvs y (mem_of_opt hy)
     have b3:=mul_bound b1.1 (by omega) b2.1 b2.2
     have b4:=dotV_bound (xs:=F.take i) (ys:=vals.take i) (fun z hz=>by have:=q2 z (List.mem_of_mem_take hz); omega) (fun z hz=>hvs z (List.mem_of_mem_take hz))
     have b5 : ((F.take i).length : Int) ≤ 19:=by rw [List.length_take]; omega
     have hsn : dotV (F.take (i + 1)) (vals.take (i + 1)) = dotV (F.take i) (vals.take i) + x * y:=by
      rw [take_of_opt hx,take_of_opt hy,dotV_snoc (by simp; omega)]
     have hw1 : IntKind.i64.wrap (x * y) = x * y:=by rw [zI] <;> omega
     refine zx ?_
     repeat refine zq ?_
     refine zd ?_
     repeat refine zq ?_
     refine zb fun K hK=>?_;simp only [go_sem,hx,hci];(try simp (disch:=omega) only [zI]);repeat first | intro _ | refine ⟨by omega,?_⟩
     refine hK _ ?_;clear hK K
     repeat refine zq ?_
     refine zb fun K hK=>?_;simp only [go_sem,hy,hcv,hw1];(try simp (disch:=omega) only [zI]);repeat first | intro _ | refine ⟨by omega,?_⟩
     refine hK _ ?_;clear hK K;refine zw (zk [2,4,10,11,12]) ?_;simp only [go_sem]
     repeat refine zq ?_
     refine zb fun K hK=>?_;simp only [go_sem];(try simp (disch:=omega) only [zI]);repeat first | intro _ | refine ⟨by omega,?_⟩
     refine hK _ ?_;clear hK K
     try simp only [go_sem]
     refine ⟨hci,fit_of [] ?_ ?_⟩
     · simp only [go_sem,hsn]
     · try simp only [go_sem]
   · refine zf ?_;simp only [go_sem]
     repeat refine zq ?_
     refine zb fun K hK=>?_;simp only [go_sem];(try simp (disch:=omega) only [zI]);repeat first | intro _ | refine ⟨by omega,?_⟩
     refine hK _ ?_;clear hK K;refine ze ?_;simp only [go_sem];rw [List.take_of_length_le (by omega),List.take_of_length_le (by omega)]
def meanLo (d : Int) (l : List Bd) (vals : List Int) : Int:=dotV (filledV cmpI d l vals) vals
def meanHi (d : Int) (l : List Bd) (vals : List Int) : Int:=dotV (filledV (fun x y=>cmpI y x) d l vals) vals
theorem mean_ok (a : Int) (l : List Bd) (d : Int) (vals : List Int) (hv : vals.length = l.length) (hl : l.length ≤ 19) (hch : chOk d l = true) (hd : d ≤ 3000) (h1 : loS l ≤ d) (hvs : Vals vals) :
 ACalls Try.prog 72 [.ag [i64 a,bedsR l,i64 d],ints vals] (.ag [i64 (meanLo d l vals),i64 (meanHi d l vals)]):=by
 refine acalls_st (rs:=[.ag [i64 (meanLo d l vals),i64 (meanHi d l vals)]]) [.cell 4 30] Try.func72 rfl (by kernel_rfl) Try.ntmps72 rfl (by simp) rfl fun C vs=>?_
 repeat refine zq ?_
 refine zb fun K hK=>?_;simp only [go_sem];(try simp (disch:=omega) only [zI]);repeat first | intro _ | refine ⟨by omega,?_⟩
 refine hK _ ?_;clear hK K
 repeat refine zq ?_
 refine zb fun K hK=>?_;simp only [go_sem];(try simp (disch:=omega) only [zI]);repeat first | intro _ | refine ⟨by omega,?_⟩
 refine hK _ ?_;clear hK K
 repeat refine zq ?_
 refine zb fun K hK=>?_;simp only [go_sem];(try simp (disch:=omega) only [zI])
 refine zh (mean1_ok a l d vals 126 cmpI rising_ok hv hl hch hd h1 hvs) rfl (by simp only [go_sem,i64,ints]) (by simp only [go_sem,i64,ints]) (by first | exact .inl rfl | exact .inr rfl) ?_
 (try simp only [go_sem]);(try simp (disch:=omega) only [zI])
 refine zh (mean1_ok a l d vals 127 (fun x y=>cmpI y x) falling_ok hv hl hch hd h1 hvs) rfl (by simp only [go_sem,i64,ints]) (by simp only [go_sem,i64,ints]) (by first | exact .inl rfl | exact .inr rfl) ?_
 (try simp only [go_sem]);(try simp (disch:=omega) only [zI]);repeat first | intro _ | refine ⟨by omega,?_⟩
 refine hK _ ?_;clear hK K;refine ze ?_;simp only [go_sem]
 simp [meanLo,meanHi]
abbrev Pv:=Int × Int
def fillP : List Pv → Int × Int → Int × Int
 | [],x=>x
 | c :: cs,x=>fillP cs (x.1 - min x.1 c.1,x.2 + min x.1 c.1 * c.2)
def dotP : List Pv → List Int → Int
 | c :: S,y :: ys=>y * c.2 + dotP S ys
 | _,_=>0
inductive FeasP : List Pv → List Int → Prop where
 | nil : FeasP [] []
 | cons {c : Pv} {S : List Pv} {y : Int} {ys : List Int} (h : 0 ≤ y ∧ y ≤ c.1) (t : FeasP S ys) : FeasP (c :: S) (y :: ys)
theorem feas_sum {S : List Pv} {ys : List Int} (h : FeasP S ys) : 0 ≤ ys.sum:=by
 induction h with
 | nil=>simp
 | cons h t ih=>simp only [List.sum_cons]; omega
theorem feas_less {v : Int} {S : List Pv} {ys : List Int} (h : FeasP S ys) : ∀ δ : Int,0 ≤ δ → δ ≤ ys.sum → (∀ c ∈ S,v ≤ c.2) → ∃ zs,FeasP S zs ∧ zs.sum = ys.sum - δ ∧ dotP S zs + δ * v ≤ dotP S ys:=by
 induction h with
 | nil =>
   intro δ h0 h1 _
   simp only [List.sum_nil] at h1
   have : δ = 0:=by omega
   subst this
   exact ⟨[],.nil,by simp,by simp [dotP]⟩
 | @cons c S y ys h t ih =>
   intro δ h0 h1 hv
   simp only [List.sum_cons] at h1
   have hs:=feas_sum t
   obtain ⟨zs,g1,g2,g3⟩:=ih (δ - min δ y) (by omega) (by omega) fun x hx=>hv x (by simp [hx])
   have hc:=hv c (by simp)
   have e0 : 0 ≤ min δ y:=by omega
   have p:=Int.mul_nonneg e0 (show 0 ≤ c.2 - v by omega)
   refine ⟨(y - min δ y) :: zs,.cons ⟨by omega,by omega⟩ g1,by simp only [List.sum_cons]; omega,?_⟩
   simp only [dotP]
   generalize min δ y = e at *
   rw [Int.mul_sub] at p
   rw [Int.sub_mul] at g3
   rw [Int.sub_mul]
   omega
theorem fill_min : ∀ {S : List Pv} {ys : List Int},FeasP S ys → ∀ (left s : Int),S.Pairwise (fun a b=>a.2 ≤ b.2) → ys.sum = left → (fillP S (left,s)).2 ≤ s + dotP S ys
 | [],_,h,left,s,_,_=>by cases h; simp [fillP,dotP]
 | c :: S, _, h, left, s, hp, hsum => by
   cases h with
   | @cons _ _ y ys h t =>
     obtain ⟨hp1,hp2⟩:=List.pairwise_cons.1 hp
     simp only [List.sum_cons] at hsum
     have hs:=feas_sum t
     obtain ⟨zs,g1,g2,g3⟩:=feas_less t (min left c.1 - y) (by omega) (by omega) hp1
     have:=fill_min g1 (left - min left c.1) (s + min left c.1 * c.2) hp2 (by omega)
     simp only [fillP,dotP]
     rw [Int.sub_mul] at g3
     omega
def negP (S : List Pv) : List Pv:=S.map fun c=>(c.1,-c.2)
theorem fill_neg : ∀ (S : List Pv) (x y : Int),(fillP (negP S) (x,-y)).2 = -(fillP S (x,y)).2
 | [],_,_=>rfl
 | c :: S, x, y => by
   have:=fill_neg S (x - min x c.1) (y + min x c.1 * c.2)
   simp only [negP,List.map_cons,fillP] at this ⊢
   rw [← this]
   congr 3
   rw [Int.mul_neg]; omega
theorem dot_neg : ∀ (S : List Pv) (ys : List Int),dotP (negP S) ys = -dotP S ys
 | [],_=>by simp [negP,dotP]
 | _ :: _,[]=>by simp [negP,dotP]
 | c :: S, y :: ys => by
   have:=dot_neg S ys
   simp only [negP,List.map_cons,dotP] at this ⊢
   rw [this,Int.mul_neg]; omega
theorem feas_neg : ∀ {S : List Pv} {ys : List Int},FeasP S ys → FeasP (negP S) ys
 | _,_,.nil=>.nil
 | _,_,.cons h t=>.cons h (feas_neg t)
theorem fill_max {S : List Pv} {ys : List Int} (h : FeasP S ys) (left s : Int) (hp : S.Pairwise (fun a b=>b.2 ≤ a.2)) (hs : ys.sum = left) : s + dotP S ys ≤ (fillP S (left,s)).2:=by
 have:=fill_min (feas_neg h) left (-s) (by unfold negP; exact List.Pairwise.map _ (fun a b h=>by simp only; omega) hp) hs
 rw [fill_neg,dot_neg] at this
 omega
theorem insB_perm (lt : Nat → Nat → Bool) (x : Nat) : ∀ R,(insB lt x R).Perm (x :: R)
 | []=>.refl _
 | y :: R => by
   unfold insB
   split
   · exact ((insB_perm lt x R).cons y).trans (.swap x y R)
   · exact .refl _
theorem sortB_perm (lt : Nat → Nat → Bool) : ∀ l R,(sortB lt l R).Perm (l ++ R)
 | [],R=>.refl _
 | x :: l, R => by
   simp only [sortB]
   refine (sortB_perm lt l _).trans ?_
   refine ((insB_perm lt x R).append_left l).trans ?_
   exact List.perm_middle
theorem sortN_perm (lt : Nat → Nat → Bool) (l : List Nat) : (sortN lt l).Perm l:=by
 unfold sortN
 refine (List.reverse_perm _).trans ?_
 have:=sortB_perm lt l []
 rwa [List.append_nil] at this
theorem insB_pw {K : Nat → Int} {lt : Nat → Nat → Bool} (hlt : ∀ x y,lt x y = decide (K x < K y)) {x : Nat} : ∀ {R : List Nat},R.Pairwise (fun y z=>K z ≤ K y) → (insB lt x R).Pairwise (fun y z=>K z ≤ K y)
 | [],_=>by simp [insB]
 | y :: R, h => by
   obtain ⟨h1,h2⟩:=List.pairwise_cons.1 h
   unfold insB
   split
   · rename_i hc
     rw [hlt,decide_eq_true_eq] at hc
     refine List.pairwise_cons.2 ⟨fun z hz=>?_,insB_pw hlt h2⟩
     rcases (mem_insB lt x z R).1 hz with rfl | hz
     · omega
     · exact h1 z hz
   · rename_i hc
     rw [hlt,decide_eq_true_eq] at hc
     refine List.pairwise_cons.2 ⟨fun z hz=>?_,h⟩
     rcases List.mem_cons.1 hz with rfl | hz
     · omega
     · have:=h1 z hz; omega
theorem sortB_pw {K : Nat → Int} {lt : Nat → Nat → Bool} (hlt : ∀ x y,lt x y = decide (K x < K y)) : ∀ {l R : List Nat},R.Pairwise (fun y z=>K z ≤ K y) → (sortB lt l R).Pairwise (fun y z=>K z ≤ K y)
 | [],_,h=>h
 | x :: l,R,h=>by simp only [sortB]; exact sortB_pw hlt (insB_pw hlt h)
theorem sortN_pw {K : Nat → Int} {lt : Nat → Nat → Bool} (hlt : ∀ x y,lt x y = decide (K x < K y)) (l : List Nat) : (sortN lt l).Pairwise (fun y z=>K y ≤ K z):=by
 unfold sortN
 rw [List.pairwise_reverse]
 exact sortB_pw hlt (by simp)
theorem dotV_sum : ∀ {o vals : List Int},o.length = vals.length → dotV o vals = ((List.range o.length).map fun i=>o.getD i 0 * vals.getD i 0).sum
 | [],[],_=>rfl
 | x :: o, y :: vals, h => by
   have ih:=dotV_sum (o:=o) (vals:=vals) (by simpa using h)
   simp only [dotV,List.length_cons,List.range_succ_eq_map,List.map_cons,List.sum_cons,List.map_map,ih]
   rfl
 | [],_ :: _,h=>by simp at h
 | _ :: _,[],h=>by simp at h
theorem dotV_set : ∀ {o vals : List Int} {i : Nat} {y : Int},i < o.length → o.length = vals.length → dotV (o.set i y) vals = dotV o vals + (y - o.getD i 0) * vals.getD i 0
 | x :: o,v :: vals,0,y,_,_=>by simp only [List.set_cons_zero,dotV,List.getD_cons_zero,Int.sub_mul]; omega
 | x :: o, v :: vals, i + 1, y, h, hl => by
   have ih:=dotV_set (o:=o) (vals:=vals) (i:=i) (y:=y) (by simpa using h) (by simpa using hl)
   simp only [List.set_cons_succ,dotV,List.getD_cons_succ,ih]; omega
 | x :: o,[],_,_,_,hl=>by simp at hl
 | [],_,_,_,h,_=>by simp at h
theorem fillS_dot {l : List Bd} {vals : List Int} : ∀ {I : List Nat} {o : List Int} {left : Int},I.Nodup → o.length = l.length → vals.length = l.length → (∀ i ∈ I,i < l.length) →
 dotV (fillS l I (o,left)).1 vals = (fillP (I.map fun i=>((bAt l i).hi - o.getD i 0,vals.getD i 0)) (left,dotV o vals)).2 ∧ (fillS l I (o,left)).1.length = l.length
 | [],o,left,_,ho,_,_=>⟨rfl,ho⟩
 | i :: I, o, left, hn, ho, hv, hi => by
   obtain ⟨n1,n2⟩:=List.nodup_cons.1 hn
   have hil:=hi i (by simp)
   have hm : moreS l o left i = min left ((bAt l i).hi - o.getD i 0):=by
    unfold moreS bAt
    rw [List.getD_eq_getElem?_getD,List.getD_eq_getElem?_getD,List.getElem?_eq_getElem hil]
    rfl
   have hs : (o[i]?).getD 0 = o.getD i 0:=by rw [List.getD_eq_getElem?_getD]
   simp only [fillS,List.map_cons,fillP];rw [hm,hs]
   obtain ⟨h1,h2⟩:=fillS_dot (l:=l) (vals:=vals) (I:=I) (o:=o.set i (o.getD i 0 + min left ((bAt l i).hi - o.getD i 0))) (left:=left - min left ((bAt l i).hi - o.getD i 0)) n2 (by simp [ho]) hv fun j hj=>hi j (by simp [hj])
   refine ⟨?_,h2⟩
   rw [h1,dotV_set (by omega) (by omega)]
   have e1 : (I.map fun j=>((bAt l j).hi - (o.set i (o.getD i 0 + min left ((bAt l i).hi - o.getD i 0))).getD j 0,vals.getD j 0)) = I.map fun j=>((bAt l j).hi - o.getD j 0,vals.getD j 0) :=
    List.map_congr_left fun j hj=>by
     have hji : ¬ j = i:=fun e=>n1 (e ▸ hj)
     rw [getD_set _ _ _ _ (by omega),if_neg hji]
   rw [e1]
   congr 3
   rw [show o.getD i 0 + min left ((bAt l i).hi - o.getD i 0) - o.getD i 0 = min left ((bAt l i).hi - o.getD i 0) by omega]
structure TruthN (den : Int) (l : List Bd) (y : List Int) : Prop where
 len : y.length = l.length
 each : ∀ i,i < l.length → (bAt l i).lo ≤ y.getD i 0 ∧ y.getD i 0 ≤ (bAt l i).hi
 sum : y.sum = den
theorem feas_mapL {m v x : Nat → Int} : ∀ {I : List Nat},(∀ i ∈ I,0 ≤ x i ∧ x i ≤ m i) → FeasP (I.map fun i=>(m i,v i)) (I.map x)
 | [],_=>.nil
 | i :: I,h=>.cons (h i (by simp)) (feas_mapL fun j hj=>h j (by simp [hj]))
theorem dot_mapL {m v x : Nat → Int} : ∀ I : List Nat,dotP (I.map fun i=>(m i,v i)) (I.map x) = (I.map fun i=>x i * v i).sum
 | []=>rfl
 | i :: I=>by simp only [List.map_cons,dotP,List.sum_cons,dot_mapL I]
theorem perm_sumL {f : Nat → Int} {I J : List Nat} (h : I.Perm J) : (I.map f).sum = (J.map f).sum:=by
 induction h with
 | nil=>rfl
 | cons x _ ih=>simp only [List.map_cons,List.sum_cons,ih]
 | swap x y l=>simp only [List.map_cons,List.sum_cons]; omega
 | trans _ _ h1 h2=>rw [h1,h2]
theorem sum_addL {f g : Nat → Int} : ∀ I : List Nat,(I.map fun i=>f i + g i).sum = (I.map f).sum + (I.map g).sum
 | []=>by simp
 | i :: I=>by simp only [List.map_cons,List.sum_cons,sum_addL I]; omega
theorem sum_subL {f g : Nat → Int} : ∀ I : List Nat,(I.map fun i=>f i - g i).sum = (I.map f).sum - (I.map g).sum
 | []=>by simp
 | i :: I=>by simp only [List.map_cons,List.sum_cons,sum_subL I]; omega
theorem filled_bound {d : Int} {l : List Bd} {vals y : List Int} (hv : vals.length = l.length) (hy : TruthN d l y) : meanLo d l vals ≤ dotV y vals ∧ dotV y vals ≤ meanHi d l vals:=by
 have hyl:=hy.len
 have hlo : (l.map (·.lo)).length = l.length:=by simp
 have hgl : ∀ i,i < l.length → (l.map (·.lo)).getD i 0 = (bAt l i).lo:=fun i hi=>by simp [bAt,List.getD,List.getElem?_eq_getElem hi]
 have key : ∀ cm : Int → Int → Int,∀ I : List Nat,I.Perm (List.range l.length) → I = sortN (keyLt cm vals) (List.range l.length) →
  dotV (filledV cm d l vals) vals = (fillP (I.map fun i=>((bAt l i).hi - (bAt l i).lo,vals.getD i 0)) (d - loS l,dotV (l.map (·.lo)) vals)).2 ∧
  FeasP (I.map fun i=>((bAt l i).hi - (bAt l i).lo,vals.getD i 0)) (I.map fun i=>y.getD i 0 - (bAt l i).lo) ∧ (I.map fun i=>y.getD i 0 - (bAt l i).lo).sum = d - loS l ∧
  dotV (l.map (·.lo)) vals + dotP (I.map fun i=>((bAt l i).hi - (bAt l i).lo,vals.getD i 0)) (I.map fun i=>y.getD i 0 - (bAt l i).lo) = dotV y vals:=fun cm I hp he=>by
  have hI : ∀ i ∈ I,i < l.length:=fun i hi=>List.mem_range.1 (hp.mem_iff.1 hi)
  have hn : I.Nodup:=hp.nodup_iff.2 List.nodup_range
  refine ⟨?_,feas_mapL fun i hi=>?_,?_,?_⟩
  · unfold filledV startF
    rw [← he,(fillS_dot (l:=l) (vals:=vals) (o:=l.map (·.lo)) (left:=d - loS l) hn hlo hv hI).1]
    have e : (I.map fun i=>((bAt l i).hi - (l.map (·.lo)).getD i 0,vals.getD i 0)) = I.map fun i=>((bAt l i).hi - (bAt l i).lo,vals.getD i 0):=List.map_congr_left fun i hi=>by rw [hgl i (hI i hi)]
    rw [e]
  · have:=hy.each i (hI i hi); omega
  · rw [perm_sumL (f:=fun i=>y.getD i 0 - (bAt l i).lo) hp,sum_subL]
    have e1 : ((List.range l.length).map fun i=>y.getD i 0).sum = d:=by rw [← hyl,sum_getD,hy.sum]
    have e2 : ((List.range l.length).map fun i=>(bAt l i).lo).sum = loS l:=by
     conv=>rhs; rw [loS,← range_bAt l,List.map_map]
     rfl
    rw [e1,e2]
  · rw [dot_mapL,perm_sumL (f:=fun i=>(y.getD i 0 - (bAt l i).lo) * vals.getD i 0) hp,dotV_sum (by rw [hlo,hv]),dotV_sum (by rw [hyl,hv]),hlo,hyl,← sum_addL]
    congr 1
    refine List.map_congr_left fun i hi=>?_
    rw [hgl i (List.mem_range.1 hi),Int.sub_mul]; omega
 constructor
 · obtain ⟨k1,k2,k3,k4⟩:=key cmpI _ (sortN_perm _ _) rfl
   unfold meanLo
   rw [k1,← k4]
   refine fill_min k2 _ _ ?_ k3
   refine List.pairwise_map.2 ((sortN_pw (K:=fun i=>vals.getD i 0) (fun x y=>?_) _).imp fun h=>h)
   unfold keyLt cmpI
   simp only [List.getD_eq_getElem?_getD];rw [Bool.eq_iff_iff,decide_eq_true_eq,decide_eq_true_eq]
   split
   · omega
   · split <;> omega
 · obtain ⟨k1,k2,k3,k4⟩:=key (fun x y=>cmpI y x) _ (sortN_perm _ _) rfl
   unfold meanHi
   rw [k1,← k4]
   refine fill_max k2 _ _ ?_ k3
   refine List.pairwise_map.2 ((sortN_pw (K:=fun i=>-vals.getD i 0) (fun x y=>?_) _).imp fun h=>by simp only; omega)
   unfold keyLt cmpI
   simp only [List.getD_eq_getElem?_getD];rw [Bool.eq_iff_iff,decide_eq_true_eq,decide_eq_true_eq]
   split
   · omega
   · split <;> omega
def aimAt (l : List Am) (i : Int) : Am:=(l[i.toNat]?).getD ⟨0,[]⟩
def pickE (d : Int) (l : List Am) (i : Int) (vals : List Int) : Int :=
 if checkV d l ≠ 0 then checkV d l
 else if ¬ (0 ≤ i ∧ i < l.length) then 7
 else if vals.length ≠ (aimAt l i).beds.length then 4
 else if withinL (-1000000000000) 1000000000000 vals = false then 2 else 0
theorem zero_chk {d : Int} {l : List Am} (h : checkV d l = 0) : (1 ≤ d ∧ d ≤ 3000) ∧ ∀ a ∈ l,a.beds.length ≤ 10 ∧ chOk d a.beds = true ∧ loS a.beds ≤ d:=by
 obtain ⟨_,h2,_,h4,h5⟩:=checkV_zero h
 refine ⟨h4,fun a ha=>?_⟩
 obtain ⟨_,_,_,k4,k5,_⟩:=aimOk_facts (h5 a ha)
 exact ⟨h2 a ha,k4,k5⟩
theorem pick_ok (d : Int) (l : List Am) (i : Int) (vals : List Int) (hw : WfL d l) : ACalls Try.prog 71 [lawV d l,i64 i,ints vals] (.tu [if pickE d l i vals = 0 then chV (aimAt l i) d else .ag [i64 0,.ns,i64 0],i64 (pickE d l i vals)]):=by
 refine acalls_st (rs:=[if pickE d l i vals = 0 then chV (aimAt l i) d else .ag [i64 0,.ns,i64 0],i64 (pickE d l i vals)]) [.cell 6 204,.tmp 7] Try.func71 rfl (by kernel_rfl) Try.ntmps71 rfl (by simp) rfl fun C vs=>?_
 repeat refine zq ?_
 refine zb fun K hK=>?_;simp only [go_sem];(try simp (disch:=omega) only [zI]);repeat first | intro _ | refine ⟨by omega,?_⟩
 refine hK _ ?_;clear hK K
 repeat refine zq ?_
 refine zb fun K hK=>?_;simp only [go_sem];(try simp (disch:=omega) only [zI])
 refine zh (check_ok d l hw) rfl (by simp only [go_sem,i64,ints]) (by simp only [go_sem,i64,ints]) (by first | exact .inl rfl | exact .inr rfl) ?_
 (try simp only [go_sem]);(try simp (disch:=omega) only [zI]);repeat first | intro _ | refine ⟨by omega,?_⟩
 refine hK _ ?_;clear hK K;refine zw (zk [1,2,3,6,7,8]) ?_;simp only [go_sem]
 repeat refine zq ?_
 refine zd ?_
 repeat refine zq ?_
 refine zb fun K hK=>?_;simp only [go_sem];(try simp (disch:=omega) only [zI]);repeat first | intro _ | refine ⟨by omega,?_⟩
 refine hK _ ?_;clear hK K;refine zw (zk [1,2,3,6,7,8,11]) ?_;simp only [go_sem]
 cases hE : checkV d l != 0
 case true =>
  have hne : checkV d l ≠ 0:=by simpa using hE
  repeat refine zq ?_
  refine zc rfl (fun hc=>?_) (fun hc=>?_) <;> (try simp only [go_sem] at hc)
  repeat refine zq ?_
  refine zb fun K hK=>?_;simp only [go_sem];(try simp (disch:=omega) only [zI]);repeat first | intro _ | refine ⟨by omega,?_⟩
  refine hK _ ?_;clear hK K;refine ze ?_;simp only [go_sem]
  simp [pickE,hne,leL_refl.le_refl]
 have h0 : checkV d l = 0:=by simpa using hE
 repeat refine zq ?_
 refine zc rfl (fun hc=>?_) (fun hc=>?_) <;> (try simp only [go_sem] at hc)
 repeat refine zq ?_
 refine zb fun K hK=>?_;simp only [go_sem];(try simp (disch:=omega) only [zI])
 intro hl19
 have hw1 : IntKind.i64.wrap ((l.length : Int) - 1) = (l.length : Int) - 1:=by rw [zI] <;> omega
 refine zh (within_ok 0 ((l.length : Int) - 1) [i]) rfl (by simp only [go_sem,i64,ints,hw1]) (by simp only [go_sem,i64,ints,hw1]) (by first | exact .inl rfl | exact .inr rfl) ?_
 (try simp only [go_sem,hw1]);(try simp (disch:=omega) only [zI]);repeat first | intro _ | refine ⟨by omega,?_⟩
 refine hK _ ?_;clear hK K;refine zw (zk [1,2,3,6,7,8,16]) ?_;simp only [go_sem]
 cases h1 : withinL 0 ((l.length : Int) - 1) [i]
 · have h1' : ¬ (0 ≤ i ∧ i < l.length):=by
    simp [withinL] at h1
    omega
   repeat refine zq ?_
   refine zc rfl (fun hc=>?_) (fun hc=>?_) <;> (try simp only [go_sem] at hc)
   repeat refine zq ?_
   refine zb fun K hK=>?_;simp only [go_sem];(try simp (disch:=omega) only [zI]);repeat first | intro _ | refine ⟨by omega,?_⟩
   refine hK _ ?_;clear hK K;refine ze ?_;simp only [go_sem]
   have : pickE d l i vals = 7:=by simp [pickE,h0,h1']
   simp [this,leL_refl.le_refl]
 have h1' : 0 ≤ i ∧ i < l.length:=by
  simp [withinL] at h1
  omega
 obtain ⟨n,rfl⟩:=Int.eq_ofNat_of_zero_le h1'.1
 have hn : n < l.length:=by omega
 obtain ⟨x,hx⟩:=opt_of_lt hn
 have hax : aimAt l n = x:=by simp [aimAt,hx]
 repeat refine zq ?_
 refine zc rfl (fun hc=>?_) (fun hc=>?_) <;> (try simp only [go_sem] at hc)
 repeat refine zq ?_
 refine zb fun K hK=>?_;simp only [go_sem,hx,hn,aimR];(try simp (disch:=omega) only [zI])
 intro _ _
 repeat first | intro _ | refine ⟨by omega,?_⟩
 refine hK _ ?_;clear hK K;refine zw (zk [1,2,3,6,7,8,26]) ?_;simp only [go_sem]
 cases h2 : ((vals.length : Int) != x.beds.length)
 case true =>
  have h2' : vals.length ≠ x.beds.length:=by simp at h2; omega
  repeat refine zq ?_
  refine zc rfl (fun hc=>?_) (fun hc=>?_) <;> (try simp only [go_sem] at hc)
  repeat refine zq ?_
  refine zb fun K hK=>?_;simp only [go_sem];(try simp (disch:=omega) only [zI]);repeat first | intro _ | refine ⟨by omega,?_⟩
  refine hK _ ?_;clear hK K;refine ze ?_;simp only [go_sem]
  have : pickE d l n vals = 4:=by simp [pickE,h0,h1',hax,h2']
  simp [this,leL_refl.le_refl]
 have h2' : vals.length = x.beds.length:=by simp at h2; omega
 repeat refine zq ?_
 refine zc rfl (fun hc=>?_) (fun hc=>?_) <;> (try simp only [go_sem] at hc)
 repeat refine zq ?_
 refine zb fun K hK=>?_;simp only [go_sem];(try simp (disch:=omega) only [zI])
 refine zh (within_ok (-1000000000000) 1000000000000 vals) rfl (by simp only [go_sem,i64,ints]) (by simp only [go_sem,i64,ints]) (by first | exact .inl rfl | exact .inr rfl) ?_
 (try simp only [go_sem]);(try simp (disch:=omega) only [zI]);repeat first | intro _ | refine ⟨by omega,?_⟩
 refine hK _ ?_;clear hK K;refine zw (zk [1,2,3,6,7,8,38]) ?_;simp only [go_sem]
 cases h3 : withinL (-1000000000000) 1000000000000 vals
 · repeat refine zq ?_
   refine zc rfl (fun hc=>?_) (fun hc=>?_) <;> (try simp only [go_sem] at hc)
   repeat refine zq ?_
   refine zb fun K hK=>?_;simp only [go_sem];(try simp (disch:=omega) only [zI]);repeat first | intro _ | refine ⟨by omega,?_⟩
   refine hK _ ?_;clear hK K;refine ze ?_;simp only [go_sem]
   have : pickE d l n vals = 2:=by simp [pickE,h0,hn,hax,h2',h3]
   simp [this,leL_refl.le_refl]
 repeat refine zq ?_
 refine zc rfl (fun hc=>?_) (fun hc=>?_) <;> (try simp only [go_sem] at hc)
 refine zx ?_
 try simp only [go_sem]
 repeat refine zq ?_
 refine awp_dreg2 [(1,none),(3,some 3),(6,some 6)] follows (by decide +kernel) (by kernel_rfl) (by simp only [keysOk,List.mem_cons,List.not_mem_nil,forall_eq_or_imp,Oc.keyOf,go_sem]; simp) fun K hK=>?_
 simp only [go_sem,hx,hn,aimR];(try simp (disch:=omega) only [zI]);repeat first | intro _ | refine ⟨by omega,?_⟩
 refine hK _ ?_;clear hK K;refine ze ?_;simp only [go_sem]
 have : pickE d l n vals = 0:=by simp [pickE,h0,hn,hax,h2',h3]
 simp [this,leL_refl.le_refl,hax]
theorem pickE_zero {d : Int} {l : List Am} {i : Int} {vals : List Int} (h : pickE d l i vals = 0) : checkV d l = 0 ∧ (0 ≤ i ∧ i < l.length) ∧ vals.length = (aimAt l i).beds.length ∧ Vals vals ∧ aimAt l i ∈ l:=by
 unfold pickE at h
 split at h
 · rename_i h1; exact absurd h h1
 rename_i h1
 split at h
 · cases h
 rename_i h2
 split at h
 · cases h
 rename_i h3
 split at h
 · cases h
 rename_i h4
 have h2':=Decidable.not_not.1 h2
 refine ⟨Decidable.not_not.1 h1,h2',Decidable.not_not.1 h3,fun x hx=>?_,?_⟩
 · have:=List.all_eq_true.1 (by simpa using h4 : withinL (-1000000000000) 1000000000000 vals = true) x hx
   simpa using this
 · obtain ⟨n,rfl⟩:=Int.eq_ofNat_of_zero_le h2'.1
   obtain ⟨x,hx⟩:=opt_of_lt (l:=l) (i:=n) (by omega)
   simp only [aimAt,Int.toNat_natCast,hx,Option.getD_some];exact mem_of_opt hx
def meanV (d : Int) (l : List Am) (i : Int) (vals : List Int) : Int × Int:=if pickE d l i vals = 0 then (meanLo d (aimAt l i).beds vals,meanHi d (aimAt l i).beds vals) else (0,0)
theorem Mean_ok (d : Int) (l : List Am) (i : Int) (vals : List Int) (hw : WfL d l) : ACalls Try.prog 31 [lawV d l,i64 i,ints vals] (.tu [.ag [i64 (meanV d l i vals).1,i64 (meanV d l i vals).2],i64 (pickE d l i vals)]):=by
 have hp:=pick_ok d l i vals hw
 refine acalls_st (rs:=[.ag [i64 (meanV d l i vals).1,i64 (meanV d l i vals).2],i64 (pickE d l i vals)]) [.cell 6 30,.tmp 7] Try.func31 rfl (by kernel_rfl) Try.ntmps31 rfl (by simp) rfl fun C vs=>?_
 repeat refine zq ?_
 refine zb fun K hK=>?_;simp only [go_sem];(try simp (disch:=omega) only [zI]);repeat first | intro _ | refine ⟨by omega,?_⟩
 refine hK _ ?_;clear hK K
 cases hE : pickE d l i vals != 0
 case true =>
  have hne : pickE d l i vals ≠ 0:=by simpa using hE
  rw [if_neg hne] at hp
  repeat refine zq ?_
  refine zb fun K hK=>?_;simp only [go_sem];(try simp (disch:=omega) only [zI])
  refine zh (hp) rfl (by simp only [go_sem,i64,ints]) (by simp only [go_sem,i64,ints]) (by first | exact .inl rfl | exact .inr rfl) ?_
  (try simp only [go_sem]);(try simp (disch:=omega) only [zI]);repeat first | intro _ | refine ⟨by omega,?_⟩
  refine hK _ ?_;clear hK K
  repeat refine zq ?_
  refine zb fun K hK=>?_;simp only [go_sem,hE];(try simp (disch:=omega) only [zI]);repeat first | intro _ | refine ⟨by omega,?_⟩
  refine hK _ ?_;clear hK K
  repeat refine zq ?_
  refine zc rfl (fun hc=>?_) (fun hc=>?_) <;> (try simp only [go_sem] at hc)
  repeat refine zq ?_
  refine zb fun K hK=>?_;simp only [go_sem];(try simp (disch:=omega) only [zI]);repeat first | intro _ | refine ⟨by omega,?_⟩
  refine hK _ ?_;clear hK K;refine ze ?_;simp only [go_sem]
  simp [meanV,hne]
 have h0 : pickE d l i vals = 0:=by simpa using hE
 rw [if_pos h0] at hp
 obtain ⟨z1,z2,z3,z4,z5⟩:=pickE_zero h0
 obtain ⟨y1,y2⟩:=zero_chk z1
 obtain ⟨y3,y4,y5⟩:=y2 _ z5
 repeat refine zq ?_
 refine zb fun K hK=>?_;simp only [go_sem];(try simp (disch:=omega) only [zI])
 refine zh (hp) rfl (by simp only [go_sem,i64,ints]) (by simp only [go_sem,i64,ints]) (by first | exact .inl rfl | exact .inr rfl) ?_
 (try simp only [go_sem]);(try simp (disch:=omega) only [zI]);repeat first | intro _ | refine ⟨by omega,?_⟩
 refine hK _ ?_;clear hK K
 repeat refine zq ?_
 refine zb fun K hK=>?_;simp only [go_sem,hE];(try simp (disch:=omega) only [zI]);repeat first | intro _ | refine ⟨by omega,?_⟩
 refine hK _ ?_;clear hK K
 repeat refine zq ?_
 refine zc rfl (fun hc=>?_) (fun hc=>?_) <;> (try simp only [go_sem] at hc)
 refine zx ?_
 try simp only [go_sem]
 repeat refine zq ?_
 refine zb fun K hK=>?_;simp only [go_sem];(try simp (disch:=omega) only [zI])
 refine zh (mean_ok (aimAt l i).at_ (aimAt l i).beds d vals z3 (by omega) y4 y1.2 y5 z4) rfl (by simp only [go_sem,i64,ints]) (by simp only [go_sem,i64,ints]) (by first | exact .inl rfl | exact .inr rfl) ?_
 (try simp only [go_sem]);(try simp (disch:=omega) only [zI]);repeat first | intro _ | refine ⟨by omega,?_⟩
 refine hK _ ?_;clear hK K;refine ze ?_;simp only [go_sem]
 simp [meanV,h0]
def truthV (d : Int) (l : List Am) (i : Int) (vals : List Int) (g : Bool) : List Int:=if pickE d l i vals = 0 then filledV (if g then fun x y=>cmpI y x else cmpI) d (aimAt l i).beds vals else []
structure FixI (D : Int) (l X : List Bd) : Prop where
 map : X.map (fun c=>(c.b,c.lo)) = l.map fun c=>(c.b,c.lo)
 each : ∀ c ∈ X,0 ≤ c.lo ∧ c.lo ≤ c.hi ∧ c.hi ≤ D
theorem FixI.len {D : Int} {l X : List Bd} (h : FixI D l X) : X.length = l.length:=by
 have:=congrArg List.length h.map
 simpa using this
theorem FixI.cap {D : Int} {l : List Bd} (h0 : ∀ c ∈ l,0 ≤ c.lo ∧ c.lo ≤ c.hi ∧ c.lo ≤ D) : FixI D l (capB D l):=by
 refine ⟨by simp [capB,Function.comp_def],fun c hc=>?_⟩
 obtain ⟨d,hd,rfl⟩:=List.mem_map.1 hc
 have:=h0 d hd
 simp only; omega
theorem FixI.raise {D : Int} {l X : List Bd} (h : FixI D l X) (k : Nat) (hk : k < X.length) : FixI D l (raiseB D X k):=by
 unfold raiseB
 split
 · rename_i hh
   have hg : X[k]? = some (X.getD k ⟨0,0,0⟩):=by rw [List.getD_eq_getElem?_getD,List.getElem?_eq_getElem hk]; rfl
   have hc:=h.each _ (List.mem_of_getElem? hg)
   refine ⟨?_,fun c hc'=>?_⟩
   · rw [← h.map,List.map_set]
     refine List.ext_getElem? fun j=>?_
     rw [List.getElem?_set]
     split
     · rename_i e; subst e
       rw [List.getElem?_map,hg]
       simp [hk]
     · rfl
   · rcases List.mem_or_eq_of_mem_set hc' with hx | hx
     · exact h.each c hx
     · subst hx
       simp only; omega
 · exact h
theorem seqOk_map : ∀ {l l' : List Bd} {p : Option Int},l'.map (·.b) = l.map (·.b) → seqOk p l' = seqOk p l
 | [],[],_,_=>rfl
 | [],c :: l',_,h=>by simp at h
 | c :: l,[],_,h=>by simp at h
 | c :: l, c' :: l', p, h => by
   simp only [List.map_cons,List.cons.injEq] at h
   unfold seqOk
   rw [h.1,seqOk_map h.2]
theorem FixI.b {D : Int} {l X : List Bd} (h : FixI D l X) : X.map (·.b) = l.map (·.b) ∧ loS X = loS l:=by
 have h1:=congrArg (List.map Prod.fst) h.map
 have h2:=congrArg (fun z=>(List.map Prod.snd z).sum) h.map
 simp only [List.map_map] at h1 h2
 exact ⟨h1,h2⟩
structure MadeI (D : Int) (a : Am) : Prop where
 ok : aimOk D a = true
 wf : WfA a
 len : 1 ≤ a.beds.length ∧ a.beds.length ≤ 10
theorem fillS_TI {l : List Bd} {d : Int} : ∀ (I : List Nat) (x : List Int × Int),(∀ i ∈ I,i < l.length) → TI l d x → TI l d (fillS l I x) ∧ ∀ i,i < l.length → x.1.getD i 0 ≤ (fillS l I x).1.getD i 0 ∧ ((fillS l I x).2 = 0 ∨ (i ∈ I → (fillS l I x).1.getD i 0 = (bAt l i).hi))
 | [],x,_,h=>⟨h,fun i hi=>⟨Int.le_refl _,.inr fun h=>by cases h⟩⟩
 | j :: I, x, hI, h => by
   have hj:=hI j (by simp)
   have hl:=h.len
   have hm : moreS l x.1 x.2 j = takeU l j x:=by
    unfold moreS takeU bAt
    rw [List.getD_eq_getElem?_getD,List.getD_eq_getElem?_getD,List.getElem?_eq_getElem hj]; rfl
   have e : (x.1.set j ((x.1[j]?).getD 0 + moreS l x.1 x.2 j),x.2 - moreS l x.1 x.2 j) = giveU j (takeU l j x) x:=by
    rw [hm,← List.getD_eq_getElem?_getD]; rfl
   have ht:=h.take hj
   have hg:=h.give hj ⟨ht,Int.le_refl _⟩
   simp only [fillS];rw [e]
   obtain ⟨h1,h2⟩:=fillS_TI I (giveU j (takeU l j x) x) (fun i hi=>hI i (by simp [hi])) hg
   refine ⟨h1,fun i hi=>?_⟩
   obtain ⟨k1,k2⟩:=h2 i hi
   have hgi : (giveU j (takeU l j x) x).1.getD i 0 = if i = j then x.1.getD j 0 + takeU l j x else x.1.getD i 0:=by
    unfold giveU; exact getD_set _ _ _ _ (by omega)
   rw [hgi] at k1
   have h6:=h1.each i hi
   refine ⟨by
    split at k1
    · rename_i e; subst e; omega
    · exact k1,?_⟩
   rcases k2 with k2 | k2
   · exact .inl k2
   · by_cases e : i = j
     · subst e
       rw [if_pos rfl] at k1
       have h3:=h.each i hi
       by_cases c : x.2 ≤ (bAt l i).hi - x.1.getD i 0
       · left
         have h4:=h1.sum
         have h5:=h1.left
         have : (giveU i (takeU l i x) x).2 = 0:=by unfold giveU takeU; simp only; omega
         have hle : ∀ (I : List Nat) (y : List Int × Int),(∀ i ∈ I,i < l.length) → TI l d y → (fillS l I y).2 ≤ y.2:=by
          intro I
          induction I with
          | nil=>intro y _ _; exact Int.le_refl _
          | cons a I ih =>
            intro y hI hy
            have ha:=hI a (by simp)
            have hm : moreS l y.1 y.2 a = takeU l a y:=by
             unfold moreS takeU bAt
             rw [List.getD_eq_getElem?_getD,List.getD_eq_getElem?_getD,List.getElem?_eq_getElem ha]; rfl
            have e : (y.1.set a ((y.1[a]?).getD 0 + moreS l y.1 y.2 a),y.2 - moreS l y.1 y.2 a) = giveU a (takeU l a y) y:=by
             rw [hm,← List.getD_eq_getElem?_getD]; rfl
            have ht:=hy.take ha
            simp only [fillS];rw [e]
            have:=ih (giveU a (takeU l a y) y) (fun i hi=>hI i (by simp [hi])) (hy.give ha ⟨ht,Int.le_refl _⟩)
            simp only [giveU] at this ⊢
            omega
         have:=hle I (giveU i (takeU l i x) x) (fun i hi=>hI i (by simp [hi])) hg
         omega
       · right; intro _
         have : takeU l i x = (bAt l i).hi - x.1.getD i 0:=by unfold takeU; omega
         omega
     · right; intro hi'
       rcases List.mem_cons.1 hi' with h | h
       · exact absurd h e
       · exact k2 h
theorem hiS_eq (l : List Bd) : hiS l = ((List.range l.length).map fun i=>(bAt l i).hi).sum:=by
 conv=>lhs; rw [hiS,← range_bAt l,List.map_map]
 rfl
theorem filled_truth {cm : Int → Int → Int} {d : Int} {l : List Bd} {vals : List Int} (h1 : ∀ c ∈ l,c.lo ≤ c.hi) (h : loS l ≤ d) (hh : d ≤ hiS l) : TruthN d l (filledV cm d l vals):=by
 have h0 : TI l d (startF d l):=by
  refine ⟨by simp [startF],fun i hi=>?_,by simp only [startF,loS]; omega,by simp only [startF]; omega⟩
  have:=h1 _ (bAt_mem hi)
  have e : (startF d l).1.getD i 0 = (bAt l i).lo:=by simp [startF,bAt,List.getD,List.getElem?_eq_getElem hi]
  rw [e]; omega
 obtain ⟨hT,hF⟩:=fillS_TI (sortN (keyLt cm vals) (List.range l.length)) (startF d l) (fun i hi=>by rw [mem_sortN,List.mem_range] at hi; exact hi) h0
 have hz : (fillS l (sortN (keyLt cm vals) (List.range l.length)) (startF d l)).2 = 0:=by
  by_cases c : (fillS l (sortN (keyLt cm vals) (List.range l.length)) (startF d l)).2 = 0
  · exact c
  · have hs:=hT.sum
    have hl:=hT.left
    have : (fillS l (sortN (keyLt cm vals) (List.range l.length)) (startF d l)).1.sum = hiS l:=by
     rw [← sum_getD,hT.len,hiS_eq]
     congr 1
     refine List.map_congr_left fun i hi=>?_
     rcases (hF i (List.mem_range.1 hi)).2 with h | h
     · exact absurd h c
     · exact h (by rw [mem_sortN]; exact hi)
    omega
 refine ⟨hT.len,hT.each,?_⟩
 have:=hT.sum
 unfold filledV
 omega
theorem truth_sum {d : Int} {l : List Bd} {y : List Int} (h : TruthN d l y) : ((List.range l.length).map fun i=>y.getD i 0).sum = d:=by rw [← h.len,sum_getD,h.sum]
def oneV (n k : Nat) : List Int:=(List.replicate n 0).set k 1
end Go.Proofs.Ytlljkgiomkmjbaa.Du.Th

namespace Go.Proofs.Ytlljkgiomkmjbaa.Du
open Go Go.Oc
set_option linter.unusedSimpArgs false
set_option linter.unusedVariables false
set_option maxRecDepth 8000
abbrev Sp:=Int × Int
def spanR (x : Int × Int) : List RV:=[i64 x.1,i64 x.2]
abbrev spanV (x : Int × Int) : RV:=.ag [i64 x.1,i64 x.2]
abbrev spansR (l : List (Int × Int)) : RV:=.sl 2 (l.map spanR)
structure Ru where
 d : Int
 aims : List Am
 start : Int
 out : Int
 ends : List (Int × Int)
abbrev ruC (r : Ru) : List RV:=[i64 r.d,aimsR r.aims,i64 r.start,i64 r.out,spansR r.ends]
abbrev ruV (r : Ru) : RV:=.ag (ruC r)
theorem indexS_ok (p : (Int × Int) → Bool) (f : Nat) (caps : List RV) (l : List (Int × Int)) (h : ∀ x ∈ l,ACalls Try.prog f (spanV x :: caps) (.bo (p x))) : ACalls Try.prog 210 [spansR l,.fn f caps] (i64 (indexF p l)):=by
 refine acalls_st (rs:=[i64 (indexF p l)]) [.tmp 4] Try.func210 rfl (by kernel_rfl) Try.ntmps210 rfl (by simp) rfl fun C vs=>?_
 repeat refine zq ?_
 refine zb fun K hK=>?_;simp only [go_sem];(try simp (disch:=omega) only [zI]);repeat first | intro _ | refine ⟨by omega,?_⟩
 refine hK _ ?_;clear hK K
 repeat refine zq ?_
 refine zb fun K hK=>?_;simp only [go_sem];(try simp (disch:=omega) only [zI])
 intro hl
 repeat first | intro _ | refine ⟨by omega,?_⟩
 refine hK _ ?_;clear hK K
 repeat refine zq ?_
 refine zd ?_
 refine awp_upto (n:=19) l.length (fun i vs=>[(0,.r (spansR l)),(1,.r (.fn f caps)),(7,.r (i64 l.length)),(8,.r (i64 i))]) (fun _=>[])
  (fun i=>indexF p l = if indexF p (l.drop i) < 0 then -1 else i + indexF p (l.drop i)) 0 (fit_of [] ?_ rfl) (Nat.zero_le _) ?_ ?_
 · try simp only [go_sem]
 · simp only [List.drop_zero]
   have:=indexF_ge p l
   split
   · omega
   · simp
 · intro i vs hi hI
   repeat refine zq ?_
   refine zb fun K hK=>?_;simp only [go_sem];(try simp (disch:=omega) only [zI]);repeat first | intro _ | refine ⟨by omega,?_⟩
   refine hK _ ?_;clear hK K
   repeat refine zq ?_
   refine zc rfl (fun hc=>?_) (fun hc=>?_) <;> (try simp only [go_sem] at hc)
   · obtain ⟨x,hx⟩:=opt_of_lt hc
     rw [drop_of_opt hx] at hI
     refine zx ?_
     repeat refine zq ?_
     refine zd ?_
     repeat refine zq ?_
     refine zb fun K hK=>?_;simp only [go_sem];(try simp (disch:=omega) only [zI]);repeat first | intro _ | refine ⟨by omega,?_⟩
     refine hK _ ?_;clear hK K
     repeat refine zq ?_
     refine zb fun K hK=>?_;simp only [go_sem,hx,hc,spanR];(try simp (disch:=omega) only [zI])
     refine zh (h x (mem_of_opt hx)) rfl (by simp only [go_sem,i64,ints]) (by simp only [go_sem,i64,ints]) (by first | exact .inl rfl | exact .inr rfl) ?_
     (try simp only [go_sem]);(try simp (disch:=omega) only [zI]);repeat first | intro _ | refine ⟨by omega,?_⟩
     refine hK _ ?_;clear hK K
     repeat refine zq ?_
     refine zc rfl (fun hc=>?_) (fun hc=>?_) <;> (try simp only [go_sem] at hc)
     · repeat refine zq ?_
       refine zb fun K hK=>?_;simp only [go_sem];(try simp (disch:=omega) only [zI]);repeat first | intro _ | refine ⟨by omega,?_⟩
       refine hK _ ?_;clear hK K;refine ze ?_;simp only [go_sem]
       simp [hI,indexF,hc]
     · refine zx ?_
       try simp only [go_sem]
       repeat refine zq ?_
       refine zb fun K hK=>?_;simp only [go_sem];(try simp (disch:=omega) only [zI]);repeat first | intro _ | refine ⟨by omega,?_⟩
       refine hK _ ?_;clear hK K
       try simp only [go_sem]
       refine ⟨‹_›,?_,fit_of [] ?_ rfl⟩
       · rw [hI]
         simp only [indexF,hc,Bool.false_eq_true,if_false]
         have:=indexF_ge p (l.drop (i + 1))
         (repeat' split) <;> omega
       · try simp only [go_sem]
   · refine zf ?_;simp only [go_sem]
     repeat refine zq ?_
     refine zb fun K hK=>?_;simp only [go_sem];(try simp (disch:=omega) only [zI]);repeat first | intro _ | refine ⟨by omega,?_⟩
     refine hK _ ?_;clear hK K;refine ze ?_;simp only [go_sem]
     have : l.drop i = []:=List.drop_eq_nil_of_le (by omega)
     simp [hI,this,indexF]
theorem containsS_ok (p : (Int × Int) → Bool) (f : Nat) (caps : List RV) (l : List (Int × Int)) (h : ∀ x ∈ l,ACalls Try.prog f (spanV x :: caps) (.bo (p x))) : ACalls Try.prog 158 [spansR l,.fn f caps] (.bo (l.any p)):=by
 refine acalls_st (rs:=[.bo (l.any p)]) [.tmp 4] Try.func158 rfl (by kernel_rfl) Try.ntmps158 rfl (by simp) rfl fun C vs=>?_
 repeat refine zq ?_
 refine zb fun K hK=>?_;simp only [go_sem];(try simp (disch:=omega) only [zI]);repeat first | intro _ | refine ⟨by omega,?_⟩
 refine hK _ ?_;clear hK K
 repeat refine zq ?_
 refine zb fun K hK=>?_;simp only [go_sem];(try simp (disch:=omega) only [zI])
 refine zh (indexS_ok p f caps l h) rfl (by simp only [go_sem,i64,ints]) (by simp only [go_sem,i64,ints]) (by first | exact .inl rfl | exact .inr rfl) ?_
 (try simp only [go_sem]);(try simp (disch:=omega) only [zI]);repeat first | intro _ | refine ⟨by omega,?_⟩
 refine hK _ ?_;clear hK K;refine ze ?_;simp only [go_sem];rw [← indexF_any]
theorem dwithin1_ok (n a b : Int) : ACalls Try.prog 178 [i64 n,.rp [i64 a],.rp [i64 b]] (.bo (decide (n < a) || decide (b < n))):=by
 refine acalls_st (rs:=[.bo (decide (n < a) || decide (b < n))]) [.tmp 4] Try.func178 rfl (by kernel_rfl) Try.ntmps178 rfl (by simp) rfl fun C vs=>?_
 repeat refine zq ?_
 refine zb fun K hK=>?_;simp only [go_sem];(try simp (disch:=omega) only [zI]);repeat first | intro _ | refine ⟨by omega,?_⟩
 refine hK _ ?_;clear hK K
 repeat refine zq ?_
 refine zb fun K hK=>?_;simp only [go_sem];(try simp (disch:=omega) only [zI])
 refine ⟨fun h=>?_,fun h=>?_⟩ <;>
 · repeat first | intro _ | refine ⟨by omega,?_⟩
   refine hK _ ?_;clear hK K;refine ze ?_;simp only [go_sem]
   try simp [h]
theorem dwithin_ok (a b : Int) (l : List Int) : ACalls Try.prog 118 [i64 a,i64 b,ints l] (.bo (withinL a b l)):=by
 refine acalls_st (rs:=[.bo (withinL a b l)]) [.tmp 6] Try.func118 rfl (by kernel_rfl) Try.ntmps118 rfl (by simp) rfl fun C vs=>?_
 repeat refine zq ?_
 refine zb fun K hK=>?_;simp only [go_sem];(try simp (disch:=omega) only [zI]);repeat first | intro _ | refine ⟨by omega,?_⟩
 refine hK _ ?_;clear hK K
 repeat refine zq ?_
 refine zb fun K hK=>?_;simp only [go_sem];(try simp (disch:=omega) only [zI])
 refine zh (contains_ok (fun n=>decide (n < a) || decide (b < n)) 178 [.rp [i64 a],.rp [i64 b]] l fun x _=>dwithin1_ok x a b) rfl (by simp only [go_sem,i64,ints]) (by simp only [go_sem,i64,ints]) (by first | exact .inl rfl | exact .inr rfl) ?_
 (try simp only [go_sem]);(try simp (disch:=omega) only [zI]);repeat first | intro _ | refine ⟨by omega,?_⟩
 refine hK _ ?_;clear hK K;refine ze ?_;simp only [go_sem];rw [← withinL_not]
def endOk (x : Int × Int) : Bool:=decide (x.1 ≤ x.2) && withinL 0 1000000 [x.1,x.2]
theorem isEnd_ok (x : Int × Int) : ACalls Try.prog 157 [spanV x] (.bo (endOk x)):=by
 refine acalls_st (rs:=[.bo (endOk x)]) [.tmp 2] Try.func157 rfl (by kernel_rfl) Try.ntmps157 rfl (by simp) rfl fun C vs=>?_
 repeat refine zq ?_
 refine zb fun K hK=>?_;simp only [go_sem];(try simp (disch:=omega) only [zI]);repeat first | intro _ | refine ⟨by omega,?_⟩
 refine hK _ ?_;clear hK K;refine zw (sub_frzP 1 1 [i64 x.1,i64 x.2] (by omega) rfl rfl) ?_;refine zw (zk [1]) ?_;simp only [go_sem]
 by_cases h : x.1 ≤ x.2
 · have c : decide (x.1 ≤ x.2) = true:=by simpa using h
   repeat refine zq ?_
   refine zb fun K hK=>?_;simp only [go_sem,c];(try simp (disch:=omega) only [zI])
   refine zh (dwithin_ok 0 1000000 [x.1,x.2]) rfl (by simp only [go_sem,i64,ints]) (by simp only [go_sem,i64,ints]) (by first | exact .inl rfl | exact .inr rfl) ?_
   (try simp only [go_sem]);(try simp (disch:=omega) only [zI]);repeat first | intro _ | refine ⟨by omega,?_⟩
   refine hK _ ?_;clear hK K;refine zw (zk [2]) ?_;simp only [go_sem];refine ze ?_;simp only [go_sem]
   simp [endOk,h]
 · have c : decide (x.1 ≤ x.2) = false:=by simpa using h
   repeat refine zq ?_
   refine zb fun K hK=>?_;simp only [go_sem,c];(try simp (disch:=omega) only [zI]);repeat first | intro _ | refine ⟨by omega,?_⟩
   refine hK _ ?_;clear hK K;refine zw (zk [2]) ?_;simp only [go_sem];refine ze ?_;simp only [go_sem]
   simp [endOk,h]
theorem bad_ok (x : Int × Int) : ACalls Try.prog 156 [spanV x] (.bo (!endOk x)):=by
 refine acalls_st (rs:=[.bo (!endOk x)]) [.tmp 2] Try.func156 rfl (by kernel_rfl) Try.ntmps156 rfl (by simp) rfl fun C vs=>?_
 repeat refine zq ?_
 refine zb fun K hK=>?_;simp only [go_sem];(try simp (disch:=omega) only [zI]);repeat first | intro _ | refine ⟨by omega,?_⟩
 refine hK _ ?_;clear hK K;refine zw (sub_frzP 1 1 [i64 x.1,i64 x.2] (by omega) rfl rfl) ?_;refine zw (zk [1]) ?_;simp only [go_sem]
 repeat refine zq ?_
 refine zb fun K hK=>?_;simp only [go_sem];(try simp (disch:=omega) only [zI])
 refine zh (isEnd_ok x) rfl (by simp only [go_sem,i64,ints]) (by simp only [go_sem,i64,ints]) (by first | exact .inl rfl | exact .inr rfl) ?_
 (try simp only [go_sem]);(try simp (disch:=omega) only [zI]);repeat first | intro _ | refine ⟨by omega,?_⟩
 refine hK _ ?_;clear hK K;refine zw (zk [2]) ?_;simp only [go_sem];refine ze ?_;simp only [go_sem]
def lowestR (r : Ru) : Int:=if r.out = 0 then 1 else 2
def lastE (r : Ru) : Int:=(r.ends.getD (r.ends.length - 1) (0,0)).1
def ruE (r : Ru) : Int :=
 if checkV r.d r.aims ≠ 0 then checkV r.d r.aims
 else if (decide (2 ≤ r.start) && decide (r.start ≤ 40) && decide (0 ≤ r.out) && decide (r.out ≤ 2) && decide (1 ≤ r.ends.length) && decide (r.ends.length ≤ 10) && r.ends.all endOk && decide (lastE r = 1000000)) = true then 0 else 2
theorem within1L (a b n : Int) : withinL a b [n] = (decide (a ≤ n) && decide (n ≤ b)):=by simp [withinL]
structure WfR (r : Ru) : Prop where
 law : WfL r.d r.aims
theorem dcheck_ok (r : Ru) (hw : WfR r) : ACalls Try.prog 88 [ruV r] (i64 (ruE r)):=by
 have hc:=check_ok r.d r.aims hw.law
 refine acalls_st (rs:=[i64 (ruE r)]) [.tmp 2] Try.func88 rfl (by kernel_rfl) Try.ntmps88 rfl (by simp) rfl fun C vs=>?_
 repeat refine zq ?_
 refine zb fun K hK=>?_;simp only [go_sem];(try simp (disch:=omega) only [zI]);repeat first | intro _ | refine ⟨by omega,?_⟩
 refine hK _ ?_;clear hK K;refine zw (sub_frzP 1 1 (ruC r) (by omega) rfl rfl) ?_;refine zw (zk [1]) ?_;simp only [go_sem]
 repeat refine zq ?_
 refine zb fun K hK=>?_;simp only [go_sem];(try simp (disch:=omega) only [zI])
 refine zh (hc) rfl (by simp only [go_sem,i64,ints]) (by simp only [go_sem,i64,ints]) (by first | exact .inl rfl | exact .inr rfl) ?_
 (try simp only [go_sem]);(try simp (disch:=omega) only [zI]);repeat first | intro _ | refine ⟨by omega,?_⟩
 refine hK _ ?_;clear hK K;refine zw (zk [1,3]) ?_;simp only [go_sem]
 by_cases h0 : checkV r.d r.aims = 0
 rotate_left
 · have c : (checkV r.d r.aims != 0) = true:=by simpa using h0
   have e : ruE r = checkV r.d r.aims:=by simp [ruE,h0]
   repeat refine zq ?_
   refine zb fun K hK=>?_;simp only [go_sem,c];(try simp (disch:=omega) only [zI]);repeat first | intro _ | refine ⟨by omega,?_⟩
   refine hK _ ?_;clear hK K;refine zw (zk [1,3,9]) ?_;simp only [go_sem]
   repeat refine zq ?_
   refine zc rfl (fun hc=>?_) (fun hc=>?_) <;> (try simp only [go_sem] at hc)
   repeat refine zq ?_
   refine zb fun K hK=>?_;simp only [go_sem];(try simp (disch:=omega) only [zI]);repeat first | intro _ | refine ⟨by omega,?_⟩
   refine hK _ ?_;clear hK K;refine zw (zk [2]) ?_;simp only [go_sem];refine ze ?_;simp only [go_sem];rw [e]
 rw [h0]
 repeat refine zq ?_
 refine zb fun K hK=>?_;simp only [go_sem,bne_self_eq_false];(try simp (disch:=omega) only [zI]);repeat first | intro _ | refine ⟨by omega,?_⟩
 refine hK _ ?_;clear hK K;refine zw (zk [1,3,9]) ?_;simp only [go_sem]
 repeat refine zq ?_
 refine zc rfl (fun hc=>?_) (fun hc=>?_) <;> (try simp only [go_sem] at hc)
 refine zx ?_
 try simp only [go_sem]
 repeat refine zq ?_
 refine zb fun K hK=>?_;simp only [go_sem];(try simp (disch:=omega) only [zI]);repeat first | intro _ | refine ⟨by omega,?_⟩
 refine hK _ ?_;clear hK K;refine zw (zk [1,4]) ?_;simp only [go_sem]
 repeat refine zq ?_
 refine awp_join (n:=49) (fun (b : Bool) vs=>[(48,.r (.bo b))]) (fun _=>[]) (fun b=>ruE r = if b then 2 else 0) (fun _ h=>h) ?_ ?_
 · have w1:=dwithin_ok 2 40 [r.start]
   have w2:=dwithin_ok 0 2 [r.out]
   have w3:=dwithin_ok 1 10 [(r.ends.length : Int)]
   have w4:=containsS_ok (fun x=>!endOk x) 156 [] r.ends fun x _=>bad_ok x
   rw [within1L] at w1 w2 w3
   cases b1 : (decide (2 ≤ r.start) && decide (r.start ≤ 40))
   · rw [b1] at w1
     repeat refine zq ?_
     refine zb fun K hK=>?_;simp only [go_sem];(try simp (disch:=omega) only [zI])
     refine zh (w1) rfl (by simp only [go_sem,i64,ints]) (by simp only [go_sem,i64,ints]) (by first | exact .inl rfl | exact .inr rfl) ?_
     (try simp only [go_sem]);(try simp (disch:=omega) only [zI]);repeat first | intro _ | refine ⟨by omega,?_⟩
     refine hK _ ?_;clear hK K
     try simp only [go_sem]
     exact ⟨true,by simp [ruE,h0,b1],fit_of [] (by try simp only [go_sem]) (by try simp only [go_sem])⟩
   rw [b1] at w1
   cases b2 : (decide (0 ≤ r.out) && decide (r.out ≤ 2))
   · rw [b2] at w2
     repeat refine zq ?_
     refine zb fun K hK=>?_;simp only [go_sem];(try simp (disch:=omega) only [zI])
     refine zh (w1) rfl (by simp only [go_sem,i64,ints]) (by simp only [go_sem,i64,ints]) (by first | exact .inl rfl | exact .inr rfl) ?_
     (try simp only [go_sem]);(try simp (disch:=omega) only [zI])
     try simp only [go_sem]
     refine zh (w2) rfl (by simp only [go_sem,i64,ints]) (by simp only [go_sem,i64,ints]) (by first | exact .inl rfl | exact .inr rfl) ?_
     (try simp only [go_sem]);(try simp (disch:=omega) only [zI]);repeat first | intro _ | refine ⟨by omega,?_⟩
     refine hK _ ?_;clear hK K
     try simp only [go_sem]
     exact ⟨true,by simp only [ruE,h0]; simp_all; omega,fit_of [] (by try simp only [go_sem]) (by try simp only [go_sem])⟩
   rw [b2] at w2
   cases b3 : (decide (1 ≤ (r.ends.length : Int)) && decide ((r.ends.length : Int) ≤ 10))
   · rw [b3] at w3
     repeat refine zq ?_
     refine zb fun K hK=>?_;simp only [go_sem];(try simp (disch:=omega) only [zI])
     refine zh (w1) rfl (by simp only [go_sem,i64,ints]) (by simp only [go_sem,i64,ints]) (by first | exact .inl rfl | exact .inr rfl) ?_
     (try simp only [go_sem]);(try simp (disch:=omega) only [zI])
     try simp only [go_sem]
     refine zh (w2) rfl (by simp only [go_sem,i64,ints]) (by simp only [go_sem,i64,ints]) (by first | exact .inl rfl | exact .inr rfl) ?_
     (try simp only [go_sem]);(try simp (disch:=omega) only [zI])
     try simp only [go_sem]
     intros
     refine zh (w3) rfl (by simp only [go_sem,i64,ints]) (by simp only [go_sem,i64,ints]) (by first | exact .inl rfl | exact .inr rfl) ?_
     (try simp only [go_sem]);(try simp (disch:=omega) only [zI]);repeat first | intro _ | refine ⟨by omega,?_⟩
     refine hK _ ?_;clear hK K
     try simp only [go_sem]
     exact ⟨true,by simp only [ruE,h0]; simp_all; omega,fit_of [] (by try simp only [go_sem]) (by try simp only [go_sem])⟩
   rw [b3] at w3
   cases b4 : (r.ends.any fun x=>!endOk x)
   rotate_left
   · rw [b4] at w4
     have e4 : r.ends.all endOk = false:=by
      rw [List.any_eq_true] at b4
      obtain ⟨x,hx,h⟩:=b4
      exact Bool.eq_false_iff.2 fun h2=>by
       have:=List.all_eq_true.1 h2 x hx
       rw [this] at h; cases h
     repeat refine zq ?_
     refine zb fun K hK=>?_;simp only [go_sem];(try simp (disch:=omega) only [zI])
     refine zh (w1) rfl (by simp only [go_sem,i64,ints]) (by simp only [go_sem,i64,ints]) (by first | exact .inl rfl | exact .inr rfl) ?_
     (try simp only [go_sem]);(try simp (disch:=omega) only [zI])
     try simp only [go_sem]
     refine zh (w2) rfl (by simp only [go_sem,i64,ints]) (by simp only [go_sem,i64,ints]) (by first | exact .inl rfl | exact .inr rfl) ?_
     (try simp only [go_sem]);(try simp (disch:=omega) only [zI])
     try simp only [go_sem]
     intros
     refine zh (w3) rfl (by simp only [go_sem,i64,ints]) (by simp only [go_sem,i64,ints]) (by first | exact .inl rfl | exact .inr rfl) ?_
     (try simp only [go_sem]);(try simp (disch:=omega) only [zI])
     try simp only [go_sem]
     refine zh (w4) rfl (by simp only [go_sem,i64,ints]) (by simp only [go_sem,i64,ints]) (by first | exact .inl rfl | exact .inr rfl) ?_
     (try simp only [go_sem]);(try simp (disch:=omega) only [zI]);repeat first | intro _ | refine ⟨by omega,?_⟩
     refine hK _ ?_;clear hK K
     try simp only [go_sem]
     exact ⟨true,by simp [ruE,h0,e4],fit_of [] (by try simp only [go_sem]) (by try simp only [go_sem])⟩
   rw [b4] at w4
   have e4 : r.ends.all endOk = true:=by
    rw [List.all_eq_true]
    intro x hx
    have:=List.any_eq_false.1 b4 x hx
    simpa using this
   have hpos : 1 ≤ r.ends.length:=by
    simp only [Bool.and_eq_true,decide_eq_true_eq] at b3; omega
   have h10 : r.ends.length ≤ 10:=by
    simp only [Bool.and_eq_true,decide_eq_true_eq] at b3; omega
   obtain ⟨x,hx⟩:=opt_of_lt (l:=r.ends) (i:=r.ends.length - 1) (by omega)
   have hl : lastE r = x.1:=by simp [lastE,List.getD_eq_getElem?_getD,hx]
   have hsb : IntKind.i64.wrap ((r.ends.length : Int) - 1) = ((r.ends.length - 1 : Nat) : Int):=by rw [zI] <;> omega
   have hlt : r.ends.length - 1 < r.ends.length:=by omega
   repeat refine zq ?_
   refine zb fun K hK=>?_;simp only [go_sem];(try simp (disch:=omega) only [zI])
   refine zh (w1) rfl (by simp only [go_sem,i64,ints]) (by simp only [go_sem,i64,ints]) (by first | exact .inl rfl | exact .inr rfl) ?_
   (try simp only [go_sem]);(try simp (disch:=omega) only [zI])
   try simp only [go_sem]
   refine zh (w2) rfl (by simp only [go_sem,i64,ints]) (by simp only [go_sem,i64,ints]) (by first | exact .inl rfl | exact .inr rfl) ?_
   (try simp only [go_sem]);(try simp (disch:=omega) only [zI])
   try simp only [go_sem]
   intros
   refine zh (w3) rfl (by simp only [go_sem,i64,ints]) (by simp only [go_sem,i64,ints]) (by first | exact .inl rfl | exact .inr rfl) ?_
   (try simp only [go_sem]);(try simp (disch:=omega) only [zI])
   try simp only [go_sem]
   refine zh (w4) rfl (by simp only [go_sem,i64,ints,hsb,hx,hlt,spanR]) (by simp only [go_sem,i64,ints,hsb,hx,hlt,spanR]) (by first | exact .inl rfl | exact .inr rfl) ?_
   (try simp only [go_sem,hsb,hx,hlt,spanR]);(try simp (disch:=omega) only [zI])
   intros
   repeat first | intro _ | refine ⟨by omega,?_⟩
   refine hK _ ?_;clear hK K
   try simp only [go_sem]
   refine ⟨x.1 != 1000000,?_,fit_of [] (by try simp only [go_sem]) (by try simp only [go_sem])⟩
   have b3' : (decide (1 ≤ r.ends.length) && decide (r.ends.length ≤ 10)) = true:=by simp; omega
   simp only [Bool.and_eq_true,decide_eq_true_eq] at b1 b2
   unfold ruE
   rw [if_neg (by simp [h0]),hl,e4]
   by_cases q : x.1 = 1000000
   · simp [q,b1,b2,hpos,h10]
   · simp [q]
 intro b vs hb
 cases b
 · repeat refine zq ?_
   refine zc rfl (fun hc=>?_) (fun hc=>?_) <;> (try simp only [go_sem] at hc)
   refine zx ?_
   try simp only [go_sem]
   repeat refine zq ?_
   refine zb fun K hK=>?_;simp only [go_sem];(try simp (disch:=omega) only [zI]);repeat first | intro _ | refine ⟨by omega,?_⟩
   refine hK _ ?_;clear hK K;refine zw (zk [2]) ?_;simp only [go_sem];refine ze ?_;simp only [go_sem]
   rw [hb]; rfl
 · repeat refine zq ?_
   refine zc rfl (fun hc=>?_) (fun hc=>?_) <;> (try simp only [go_sem] at hc)
   repeat refine zq ?_
   refine zb fun K hK=>?_;simp only [go_sem];(try simp (disch:=omega) only [zI]);repeat first | intro _ | refine ⟨by omega,?_⟩
   refine hK _ ?_;clear hK K;refine zw (zk [2]) ?_;simp only [go_sem];refine ze ?_;simp only [go_sem]
   rw [hb]; rfl
def inB (n a b : Int) : Bool:=decide (a ≤ n) && decide (n ≤ b)
def stepOk (d : Int) (p : Option Int) (x : Bd) : Bool:=(decide (x.b = 0) || bedOk x.b) && (match p with | none=>true | some q=>decide (q < x.b)) && (decide (0 ≤ x.lo) && decide (x.lo ≤ x.hi) && decide (x.hi ≤ d))
def restOk (d : Int) (l : List Bd) (k : Nat) : Bool:=seqOk (prevB l k) (l.drop k) && chOk d (l.drop k)
set_option maxHeartbeats 4000000
theorem dlowest_ok (r : Ru) : ACalls Try.prog 119 [ruV r] (i64 (lowestR r)):=by
 refine acalls_st (rs:=[i64 (lowestR r)]) [.tmp 2] Try.func119 rfl (by kernel_rfl) Try.ntmps119 rfl (by simp) rfl fun C vs=>?_
 repeat refine zq ?_
 refine zb fun K hK=>?_;simp only [go_sem];(try simp (disch:=omega) only [zI]);repeat first | intro _ | refine ⟨by omega,?_⟩
 refine hK _ ?_;clear hK K;refine zw (sub_frzP 1 1 (ruC r) (by omega) rfl rfl) ?_;refine zw (zk [1]) ?_;simp only [go_sem]
 by_cases h : r.out = 0
 · have c : (r.out == 0) = true:=by simpa using h
   repeat refine zq ?_
   refine zb fun K hK=>?_;simp only [go_sem,c];(try simp (disch:=omega) only [zI]);repeat first | intro _ | refine ⟨by omega,?_⟩
   refine hK _ ?_;clear hK K;refine zw (zk [1,6]) ?_;simp only [go_sem]
   repeat refine zq ?_
   refine zc rfl (fun hc=>?_) (fun hc=>?_) <;> (try simp only [go_sem] at hc)
   repeat refine zq ?_
   refine zb fun K hK=>?_;simp only [go_sem];(try simp (disch:=omega) only [zI]);repeat first | intro _ | refine ⟨by omega,?_⟩
   refine hK _ ?_;clear hK K;refine zw (zk [2]) ?_;simp only [go_sem];refine ze ?_;simp only [go_sem]
   simp [lowestR,h]
 · have c : (r.out == 0) = false:=by simpa using h
   repeat refine zq ?_
   refine zb fun K hK=>?_;simp only [go_sem,c];(try simp (disch:=omega) only [zI]);repeat first | intro _ | refine ⟨by omega,?_⟩
   refine hK _ ?_;clear hK K;refine zw (zk [1,6]) ?_;simp only [go_sem]
   repeat refine zq ?_
   refine zc rfl (fun hc=>?_) (fun hc=>?_) <;> (try simp only [go_sem] at hc)
   refine zx ?_
   try simp only [go_sem]
   repeat refine zq ?_
   refine zb fun K hK=>?_;simp only [go_sem];(try simp (disch:=omega) only [zI]);repeat first | intro _ | refine ⟨by omega,?_⟩
   refine hK _ ?_;clear hK K;refine zw (zk [2]) ?_;simp only [go_sem];refine ze ?_;simp only [go_sem]
   simp [lowestR,h]
def insB (lt : Bd → Bd → Bool) (x : Bd) : List Bd → List Bd
 | []=>[x]
 | y :: ys=>if lt x y then y :: insB lt x ys else x :: y :: ys
def sortB (lt : Bd → Bd → Bool) : List Bd → List Bd → List Bd
 | [],R=>R
 | x :: xs,R=>sortB lt xs (insB lt x R)
def sortN (lt : Bd → Bd → Bool) (l : List Bd) : List Bd:=(sortB lt l []).reverse
theorem insB_len (lt : Bd → Bd → Bool) (x : Bd) : ∀ R,(insB lt x R).length = R.length + 1
 | []=>rfl
 | y :: R => by
   unfold insB
   split
   · simp [insB_len lt x R]
   · rfl
theorem insB_skip (lt : Bd → Bd → Bool) (x : Bd) : ∀ (R : List Bd) (k : Nat),(∀ y ∈ R.take k,lt x y = true) → insB lt x R = R.take k ++ insB lt x (R.drop k)
 | R,0,_=>by simp
 | [],k + 1,_=>by simp
 | y :: R, k + 1, h => by
   have hy : lt x y = true:=h y (by simp)
   have ih:=insB_skip lt x R k fun z hz=>h z (by simp [hz])
   simp only [List.take_succ_cons,List.drop_succ_cons,List.cons_append];rw [← ih]
   simp [insB,hy]
theorem sortB_snoc (lt : Bd → Bd → Bool) : ∀ (l : List Bd) (x : Bd) (R : List Bd),sortB lt (l ++ [x]) R = insB lt x (sortB lt l R)
 | [],_,_=>rfl
 | y :: l,x,R=>by simp only [List.cons_append,sortB]; exact sortB_snoc lt l x _
theorem sortB_len (lt : Bd → Bd → Bool) : ∀ (l R : List Bd),(sortB lt l R).length = l.length + R.length
 | [],R=>by simp [sortB]
 | x :: l,R=>by simp only [sortB]; rw [sortB_len lt l,insB_len]; simp; omega
theorem mem_insB (lt : Bd → Bd → Bool) (x z : Bd) : ∀ R,z ∈ insB lt x R ↔ z = x ∨ z ∈ R
 | []=>by simp [insB]
 | y :: R => by
   unfold insB
   split
   · simp only [List.mem_cons,mem_insB lt x z R]
     constructor
     · rintro (h | h | h) <;> simp [h]
     · rintro (h | h | h) <;> simp [h]
   · simp
theorem mem_sortB (lt : Bd → Bd → Bool) (z : Bd) : ∀ l R,z ∈ sortB lt l R ↔ z ∈ l ∨ z ∈ R
 | [],R=>by simp [sortB]
 | x :: l, R => by
   simp only [sortB];rw [mem_sortB lt z l,mem_insB]
   simp only [List.mem_cons]
   constructor
   · rintro (h | h | h) <;> simp [h]
   · rintro ((h | h) | h) <;> simp [h]
def holeL (R : List Bd) (x : Bd) (k : Nat) (rest : List Bd) : List Bd:=(R.drop k).reverse ++ x :: ((R.take k).reverse ++ rest)
theorem hole_len (R : List Bd) (x : Bd) (k : Nat) (rest : List Bd) (hk : k ≤ R.length) : (holeL R x k rest).length = R.length + 1 + rest.length:=by
 simp [holeL]; omega
theorem hole_at (R : List Bd) (x : Bd) (k : Nat) (rest : List Bd) (hk : k ≤ R.length) : (holeL R x k rest)[R.length - k]? = some x:=by
 unfold holeL
 rw [List.getElem?_append_right (by simp)]
 simp
theorem hole_next {R : List Bd} {x y : Bd} {k : Nat} {rest : List Bd} (hy : R[k]? = some y) : (holeL R x k rest)[R.length - k - 1]? = some y ∧ (holeL R x k rest) = (R.drop (k + 1)).reverse ++ y :: x :: ((R.take k).reverse ++ rest) ∧ holeL R x (k + 1) rest = (R.drop (k + 1)).reverse ++ x :: y :: ((R.take k).reverse ++ rest):=by
 have hk:=(List.getElem?_eq_some_iff.1 hy).1
 have hd:=drop_of_opt hy
 have ht:=take_of_opt hy
 have e1 : (holeL R x k rest) = (R.drop (k + 1)).reverse ++ y :: x :: ((R.take k).reverse ++ rest):=by
  unfold holeL; rw [hd]; simp
 refine ⟨?_,e1,by unfold holeL; rw [ht]; simp⟩
 rw [e1,List.getElem?_append_right (by simp; omega)]
 have : R.length - k - 1 - (R.drop (k + 1)).reverse.length = 0:=by simp; omega
 rw [this]; rfl
theorem hole_swap {α : Type} (g : Bd → α) {R : List Bd} {x y : Bd} {k : Nat} {rest : List Bd} (hy : R[k]? = some y) :
 (((holeL R x k rest).map g).set (R.length - k) (g y)).set (R.length - k - 1) (g x) = (holeL R x (k + 1) rest).map g:=by
 obtain ⟨_,e1,e2⟩:=hole_next (x:=x) (rest:=rest) hy
 have hk:=(List.getElem?_eq_some_iff.1 hy).1
 rw [e1,e2,← List.map_set,← List.map_set]
 congr 1
 have hl : (R.drop (k + 1)).reverse.length = R.length - k - 1:=by simp; omega
 generalize (R.drop (k + 1)).reverse = A at hl
 generalize (R.take k).reverse ++ rest = B
 have e3 : R.length - k = A.length + 1:=by omega
 rw [e3,Nat.add_sub_cancel]
 rw [List.set_append_right _ _ (by omega)]
 simp only [Nat.add_sub_cancel_left,List.set_cons_succ,List.set_cons_zero];rw [List.set_append_right _ _ (by omega)]
 simp
theorem lent_put {vs : Nat → Nat} {k : Nat} (h : Lent vs) : Lent (upd vs k 0):=fun j hj=>by
 unfold upd; split
 · rfl
 · exact h j hj
abbrev idx (l : List Bd) : List (List RV):=l.map bedR
theorem insertion_ok (lt : Bd → Bd → Bool) (c : Bd → Bd → Int) (f : Nat) (caps : List RV) (l : List Bd) (hl : l.length ≤ 1000) (hlt : ∀ x y,lt x y = decide (c x y < 0))
 (hcc : ∀ x ∈ l,∀ y ∈ l,ACalls Try.prog f (bedV x :: bedV y :: caps) (i64 (c x y))) :
 MCalls Try.prog 238 [(1000,.arr 285 3 (idx l))] [(1000,.arr 285 3 (idx (sortN lt l)))] [.os 1000 0 3 0 l.length,.r (i64 0),.r (i64 l.length),.r (.fn f caps)] (.tu []):=by
 refine mcalls_st (n:=53) (rs:=[]) _ _ [] Try.func238 rfl (by kernel_rfl) Try.ntmps238 rfl (by simp) rfl rfl fun C=>?_
 have hmem : ∀ i z,z ∈ sortB lt (l.take i) [] → z ∈ l:=fun i z hz=>by
  rw [mem_sortB] at hz
  rcases hz with hz | hz
  · exact List.mem_of_mem_take hz
  · cases hz
 repeat refine zq ?_
 refine zb fun K hK=>?_;simp only [go_sem];(try simp (disch:=omega) only [zI]);repeat first | intro _ | refine ⟨by omega,?_⟩
 refine hK _ ?_;clear hK K;refine zw (zk [0,1,2,3,8]) ?_;simp only [go_sem]
 repeat refine zq ?_
 refine zd ?_
 refine awp_upto0 (n:=53) (max l.length 1) (fun i vs=>[(0,.os 1000 0 3 0 l.length),(1,.r (i64 0)),(2,.r (i64 l.length)),(3,.r (.fn f caps)),(8,.r (i64 i))])
  (fun i=>[(1000,.arr 285 3 (idx ((sortB lt (l.take i) []).reverse ++ l.drop i)))]) (fun i=>1 ≤ i) 1 (fit0_of [] lent_zero ?_ ?_) (by omega) (Nat.le_refl _) ?_
 · try simp only [go_sem]
 · simp only [go_sem]
   cases l with
   | nil=>rfl
   | cons x l=>simp [sortB,insB]
 · intro i vs hv hi hi1
   have hv0:=hv 1000 (by omega)
   repeat refine zq ?_
   refine zb fun K hK=>?_;simp only [go_sem];(try simp (disch:=omega) only [zI]);repeat first | intro _ | refine ⟨by omega,?_⟩
   refine hK _ ?_;clear hK K;refine zw (zk [0,1,2,3,8,14]) ?_;simp only [go_sem]
   repeat refine zq ?_
   refine zc rfl (fun hc=>?_) (fun hc=>?_) <;> (try simp only [go_sem] at hc)
   · have hci : i < l.length:=by omega
     obtain ⟨x,hx⟩:=opt_of_lt hci
     obtain ⟨R,hR⟩ : ∃ R,R = sortB lt (l.take i) []:=⟨_,rfl⟩
     have hRl : R.length = i:=by rw [hR,sortB_len]; simp; omega
     have hRm : ∀ z ∈ R,z ∈ l:=fun z hz=>hmem i z (hR ▸ hz)
     have hnx : sortB lt (l.take (i + 1)) [] = insB lt x R:=by rw [take_of_opt hx,sortB_snoc,hR]
     have hst : (sortB lt (l.take i) []).reverse ++ l.drop i = holeL R x 0 (l.drop (i + 1)):=by rw [← hR,drop_of_opt hx]; simp [holeL]
     rw [hst]
     refine zx ?_
     repeat refine zq ?_
     refine zd ?_
     repeat refine zq ?_
     refine zb fun K hK=>?_;simp only [go_sem];(try simp (disch:=omega) only [zI]);repeat first | intro _ | refine ⟨by omega,?_⟩
     refine hK _ ?_;clear hK K;refine zw (zk [0,1,2,3,8,9]) ?_;simp only [go_sem]
     repeat refine zq ?_
     refine zd ?_
     refine awp_upto0 (n:=53) i (fun k vs=>[(0,.os 1000 0 3 0 l.length),(1,.r (i64 0)),(2,.r (i64 l.length)),(3,.r (.fn f caps)),(8,.r (i64 i)),(9,.r (i64 (i - k : Nat)))])
      (fun k=>[(1000,.arr 285 3 (idx (holeL R x k (l.drop (i + 1)))))]) (fun k=>∀ y ∈ R.take k,lt x y = true) 0 (fit0_of [] hv ?_ ?_) (Nat.zero_le _) (by simp) ?_
     · try simp only [go_sem]
     · try simp only [go_sem]
     · intro k vs hv hk hI
       have hv0:=hv 1000 (by omega)
       have hins:=insB_skip lt x R k hI
       have done : insB lt x (R.drop k) = x :: R.drop k → sortB lt (l.take (i + 1)) [] = R.take k ++ x :: R.drop k:=fun h=>by rw [hnx,hins,h]
       by_cases hk0 : k = i
       · have e0 : i - k = 0:=by omega
         repeat refine zq ?_
         refine awp_dreg2 [(0,some 1000)] follows (by decide +kernel) (by kernel_rfl) (by simp only [keysOk,List.mem_cons,List.not_mem_nil,forall_eq_or_imp,Oc.keyOf,go_sem]; simp) fun K hK=>?_
         simp only [go_sem,hv0,e0];(try simp (disch:=omega) only [zI]);repeat first | intro _ | refine ⟨by omega,?_⟩
         refine hK _ ?_;clear hK K;refine zw (zk [0,1,2,3,8,9,34]) ?_;simp only [go_sem]
         repeat refine zq ?_
         refine zc rfl (fun hc=>?_) (fun hc=>?_) <;> (try simp only [go_sem] at hc)
         refine zf ?_;simp only [go_sem]
         repeat refine zq ?_
         refine zb fun K hK=>?_;simp only [go_sem];(try simp (disch:=omega) only [zI]);repeat first | intro _ | refine ⟨by omega,?_⟩
         refine hK _ ?_;clear hK K
         try simp only [go_sem]
         refine ⟨by omega,fit0_of [] hv ?_ ?_⟩
         · try simp only [go_sem]
         · have hd0 : R.drop k = []:=List.drop_eq_nil_of_le (by omega)
           have:=done (by rw [hd0]; rfl)
           simp only [go_sem,this]
           simp [holeL]
       · obtain ⟨y,hy⟩:=opt_of_lt (l:=R) (i:=k) (by omega)
         obtain ⟨j,hj⟩ : ∃ j,i - k = j + 1:=⟨i - k - 1,by omega⟩
         have hjs : IntKind.i64.wrap ((j : Int) + 1 - 1) = j:=by rw [zI] <;> omega
         have hlen : (holeL R x k (l.drop (i + 1))).length = l.length:=by rw [hole_len _ _ _ _ (by omega),List.length_drop]; omega
         have hxa : (holeL R x k (l.drop (i + 1)))[j + 1]? = some x:=by rw [← hj,← hRl]; exact hole_at R x k _ (by omega)
         have hya : (holeL R x k (l.drop (i + 1)))[j]? = some y:=by
          have:=(hole_next (x:=x) (rest:=l.drop (i + 1)) hy).1
          rw [hRl,hj] at this
          exact this
         have hcall:=hcc x (mem_of_opt hx) y (hRm y (mem_of_opt hy))
         have hpos : (0 < (j : Int) + 1) = True:=by simp
         have hlxy:=hlt x y
         repeat refine zq ?_
         refine awp_dreg2 [(0,some 1000)] follows (by decide +kernel) (by kernel_rfl) (by simp only [keysOk,List.mem_cons,List.not_mem_nil,forall_eq_or_imp,Oc.keyOf,go_sem]; simp) fun K hK=>?_
         simp only [go_sem,hv0,hj,hjs,hxa,hya,hlen,hpos,bedR];(try simp (disch:=omega) only [zI])
         refine ⟨by omega,by omega,?_⟩
         refine zh (hcall) rfl (by simp only [go_sem,i64,ints,hv0]) (by simp only [go_sem,i64,ints,hv0]) (by first | exact .inl rfl | exact .inr rfl) ?_
         (try simp only [go_sem,hv0]);(try simp (disch:=omega) only [zI]);repeat first | intro _ | refine ⟨by omega,?_⟩
         refine hK _ ?_;clear hK K;refine zw (zk [0,1,2,3,8,9,34]) ?_;simp only [go_sem]
         cases hcx : decide (c x y < 0)
         · repeat refine zq ?_
           refine zc rfl (fun hc=>?_) (fun hc=>?_) <;> (try simp only [go_sem] at hc)
           refine zf ?_;simp only [go_sem]
           repeat refine zq ?_
           refine zb fun K hK=>?_;simp only [go_sem];(try simp (disch:=omega) only [zI]);repeat first | intro _ | refine ⟨by omega,?_⟩
           refine hK _ ?_;clear hK K
           try simp only [go_sem]
           refine ⟨by omega,fit0_of [] hv ?_ ?_⟩
           · try simp only [go_sem]
           · have:=done (by rw [drop_of_opt hy]; simp [insB,hlxy,hcx])
             simp only [go_sem,this]
             simp [holeL]
         · repeat refine zq ?_
           refine zc rfl (fun hc=>?_) (fun hc=>?_) <;> (try simp only [go_sem] at hc)
           refine zx ?_
           try simp only [go_sem]
           repeat refine zq ?_
           refine zd ?_
           have hset : ((idx (holeL R x k (l.drop (i + 1)))).set (j + 1) [i64 y.b,i64 y.lo,i64 y.hi]).getD j [] = [i64 y.b,i64 y.lo,i64 y.hi]:=by
            rw [List.getD_eq_getElem?_getD,List.getElem?_set_ne (by omega),List.getElem?_map,hya]; rfl
           have hsw:=hole_swap bedR (x:=x) (rest:=l.drop (i + 1)) hy
           rw [hRl,hj] at hsw
           simp only [Nat.add_sub_cancel] at hsw
           repeat refine zq ?_
           refine awp_dreg2 [(0,some 1000)] follows (by decide +kernel) (by kernel_rfl) (by simp only [keysOk,List.mem_cons,List.not_mem_nil,forall_eq_or_imp,Oc.keyOf,go_sem]; simp) fun K hK=>?_
           simp only [go_sem,hv0,hj,hjs,hxa,hya,hlen,hset,List.length_set,bedR];(try simp (disch:=omega) only [zI])
           repeat' first | intro _ | refine And.intro ?_ ?_
           all_goals first | omega | skip
           all_goals (refine hK _ ?_; clear hK K)
           refine zw (zk [0,1,2,3,8,9]) ?_;simp only [go_sem]
           repeat refine zq ?_
           refine zb fun K hK=>?_;simp only [go_sem,hjs];(try simp (disch:=omega) only [zI]);repeat first | intro _ | refine ⟨by omega,?_⟩
           refine hK _ ?_;clear hK K
           try simp only [go_sem]
           have hj2 : i - (k + 1) = j:=by omega
           refine ⟨by omega,?_,fit0_of [] (lent_put (lent_put hv)) ?_ ?_⟩
           · rw [take_of_opt hy]
             intro z hz
             rcases List.mem_append.1 hz with hz | hz
             · exact hI z hz
             · simp only [List.mem_singleton] at hz
               subst hz
               rw [hlxy,hcx]
           · simp only [go_sem,hj2]
           · simp only [go_sem];exact congrArg (fun z=>[(1000,RowC.arr 285 3 z)]) hsw
   · refine zf ?_;simp only [go_sem]
     have h1 : l.take i = l:=List.take_of_length_le (by omega)
     have h2 : l.drop i = []:=List.drop_eq_nil_of_le (by omega)
     rw [h1,h2,List.append_nil]
     rfl
theorem stable_ok (lt : Bd → Bd → Bool) (c : Bd → Bd → Int) (f : Nat) (caps : List RV) (l : List Bd) (hl : l.length ≤ 19) (hlt : ∀ x y,lt x y = decide (c x y < 0))
 (hcc : ∀ x ∈ l,∀ y ∈ l,ACalls Try.prog f (bedV x :: bedV y :: caps) (i64 (c x y))) :
 MCalls Try.prog 220 [(1000,.arr 285 3 (idx l))] [(1000,.arr 285 3 (idx (sortN lt l)))] [.os 1000 0 3 0 l.length,.r (i64 l.length),.r (.fn f caps)] (.tu []):=by
 refine mcalls_st (n:=63) (rs:=[]) _ _ [] Try.func220 rfl (by kernel_rfl) Try.ntmps220 rfl (by simp) rfl rfl fun C=>?_
 repeat refine zq ?_
 refine zb fun K hK=>?_;simp only [go_sem];(try simp (disch:=omega) only [zI]);repeat first | intro _ | refine ⟨by omega,?_⟩
 refine hK _ ?_;clear hK K
 repeat refine zq ?_
 refine zb fun K hK=>?_;simp only [go_sem];(try simp (disch:=omega) only [zI]);repeat first | intro _ | refine ⟨by omega,?_⟩
 refine hK _ ?_;clear hK K;refine zw (zk [0,1,2,6,7,8]) ?_;simp only [go_sem]
 repeat refine zq ?_
 refine zd ?_
 refine awp_upto0 (n:=63) 0 (fun i vs=>[(0,.os 1000 0 3 0 l.length),(1,.r (i64 l.length)),(2,.r (.fn f caps)),(6,.r (i64 20)),(7,.r (i64 0)),(8,.r (i64 20))])
  (fun i=>[(1000,.arr 285 3 (idx l))]) (fun i=>True) 0 (fit0_of [] lent_zero ?_ ?_) (Nat.zero_le _) trivial ?_
 · try simp only [go_sem]
 · try simp only [go_sem]
 intro i vs hv _ _
 have hv0:=hv 1000 (by omega)
 repeat refine zq ?_
 refine zb fun K hK=>?_;simp only [go_sem];(try simp (disch:=omega) only [zI]);repeat first | intro _ | refine ⟨by omega,?_⟩
 refine hK _ ?_;clear hK K
 repeat refine zq ?_
 refine zc rfl (fun hc=>?_) (fun hc=>?_) <;> (try simp only [go_sem] at hc)
 · omega
 refine zf ?_;simp only [go_sem]
 repeat refine zq ?_
 refine zb fun K hK=>?_;simp only [go_sem];(try simp (disch:=omega) only [zI])
 refine xcall_mut (insertion_ok lt c f caps l (by omega) hlt hcc) [(1000,1000)] rfl (by simp only [go_sem,i64,ints,hv0]) (by simp only [go_sem,i64,ints,hv0]) (by rfl) (by rfl) ?_
 (try simp only [go_sem,hv0]);(try simp (disch:=omega) only [zI]);repeat first | intro _ | refine ⟨by omega,?_⟩
 refine hK _ ?_;clear hK K
 try simp only [go_sem]
 repeat refine zq ?_
 refine zd ?_
 refine awp_upto0 (n:=63) 0 (fun i vs=>[(1,.r (i64 l.length)),(6,.r (i64 20))])
  (fun i=>[(1000,.arr 285 3 (idx (sortN lt l)))]) (fun i=>True) 0 (fit0_of [] hv ?_ ?_) (Nat.zero_le _) trivial ?_
 · try simp only [go_sem]
 · try simp only [go_sem]
 intro i vs hv _ _
 repeat refine zq ?_
 refine zb fun K hK=>?_;simp only [go_sem];(try simp (disch:=omega) only [zI]);repeat first | intro _ | refine ⟨by omega,?_⟩
 refine hK _ ?_;clear hK K
 repeat refine zq ?_
 refine zc rfl (fun hc=>?_) (fun hc=>?_) <;> (try simp only [go_sem] at hc)
 · omega
 refine zf ?_;simp only [go_sem]
theorem sortStable_ok (lt : Bd → Bd → Bool) (c : Bd → Bd → Int) (f : Nat) (caps : List RV) (l : List Bd) (hl : l.length ≤ 19) (hlt : ∀ x y,lt x y = decide (c x y < 0))
 (hcc : ∀ x ∈ l,∀ y ∈ l,ACalls Try.prog f (bedV x :: bedV y :: caps) (i64 (c x y))) :
 MCalls Try.prog 181 [(1000,.arr 285 3 (idx l))] [(1000,.arr 285 3 (idx (sortN lt l)))] [.os 1000 0 3 0 l.length,.r (.fn f caps)] (.tu []):=by
 refine mcalls_st (n:=9) (rs:=[]) _ _ [] Try.func181 rfl (by kernel_rfl) Try.ntmps181 rfl (by simp) rfl rfl fun C=>?_
 repeat refine zq ?_
 refine zb fun K hK=>?_;simp only [go_sem];(try simp (disch:=omega) only [zI])
 intro _
 refine xcall_mut (stable_ok lt c f caps l (by omega) hlt hcc) [(1000,1000)] rfl (by simp only [go_sem,i64,ints]) (by simp only [go_sem,i64,ints]) (by rfl) (by rfl) ?_
 (try simp only [go_sem]);(try simp (disch:=omega) only [zI]);repeat first | intro _ | refine ⟨by omega,?_⟩
 refine hK _ ?_;clear hK K
 try simp only [go_sem]
theorem relV_unmap {w : World} {p : Plan} {ver : Nat → Nat} : ∀ {xs : List RV} {vs : List Value},AV.relV w p ver (xs.map .r) vs → RV.relV w p.R xs vs
 | [],_,h=>by simpa only [List.map_nil,AV.relV,RV.relV] using h
 | x :: xs, vs, h => by
   simp only [List.map_cons,AV.relV,AV.rel] at h
   simp only [RV.relV]
   obtain ⟨u,us,h1,h2,h3⟩:=h
   exact ⟨u,us,h1,h2,relV_unmap h3⟩
theorem mcalls_fn {F : Nat} {L L' : List (Nat × RowC)} {x r : AV} {f : Nat} {caps : List RV} (h : MCalls Try.prog F L L' [x,.r (.fn f caps)] r) : MCalls Try.prog F L L' [x,.fn f (caps.map .r)] r :=
 ⟨h.1,fun w p vs h1 h2 h3 h4 h5 h6 hV=>h.2 w p vs h1 h2 h3 h4 h5 h6 (by
  simp only [AV.relV] at hV ⊢
  obtain ⟨u,us,e1,k1,u',us',e2,k2,e3⟩:=hV
  refine ⟨u,us,e1,k1,u',us',e2,?_,e3⟩
  simp only [AV.rel,RV.rel] at k2 ⊢
  obtain ⟨ws,k3,k4⟩:=k2
  exact ⟨ws,k3,relV_unmap k4⟩)⟩
abbrev tabR (T : List (List Int)) : RV:=.sl 1 (T.map fun row=>[ints row])
abbrev sideC (r : Ru) (most : Bool) (T : List (List Int)) : List RV:=[i64 r.d,aimsR r.aims,i64 r.start,i64 r.out,spansR r.ends,.bo most,tabR T]
abbrev sideP (r : Ru) (most : Bool) (T : List (List Int)) : RV:=.rp (sideC r most T)
def overD (most : Bool) (n by_ : Int) : Int:=if most then (n + (by_ - 1)) / by_ else n / by_
theorem overD_le {most : Bool} {n by_ m : Int} (h0 : 0 ≤ n) (hb : 1 ≤ by_) (hm : n ≤ m * by_) : 0 ≤ overD most n by_ ∧ overD most n by_ ≤ m:=by
 unfold overD
 split
 · refine ⟨Int.ediv_nonneg (by omega) (by omega),?_⟩
   have : (n + (by_ - 1)) / by_ < m + 1:=Int.ediv_lt_of_lt_mul (by omega) (by rw [Int.add_mul]; omega)
   omega
 · refine ⟨Int.ediv_nonneg h0 (by omega),?_⟩
   have : n / by_ < m + 1:=Int.ediv_lt_of_lt_mul (by omega) (by rw [Int.add_mul]; omega)
   omega
theorem over_ok (r : Ru) (most : Bool) (T : List (List Int)) (n by_ : Int) (h0 : 0 ≤ n) (h1 : n ≤ 1000000000000000) (b0 : 1 ≤ by_) (b1 : by_ ≤ 1000000) : ACalls Try.prog 91 [sideP r most T,i64 n,i64 by_] (i64 (overD most n by_)):=by
 have hd : ∀ m : Int,0 ≤ m → m ≤ 2000000000000000 → IntKind.i64.wrap (m.tdiv by_) = m / by_:=fun m hm0 hm1=>by
  rw [Int.tdiv_eq_ediv_of_nonneg hm0]
  have:=Int.ediv_nonneg hm0 (b:=by_) (by omega)
  have h2 : m / by_ ≤ m:=Int.ediv_le_self _ hm0
  rw [zI] <;> omega
 have q1:=hd n h0 (by omega)
 have q2:=hd (n + (by_ - 1)) (by omega) (by omega)
 refine acalls_st (rs:=[i64 (overD most n by_)]) [.tmp 6] Try.func91 rfl (by kernel_rfl) Try.ntmps91 rfl (by simp) rfl fun C vs=>?_
 repeat refine zq ?_
 refine zb fun K hK=>?_;simp only [go_sem];(try simp (disch:=omega) only [zI]);repeat first | intro _ | refine ⟨by omega,?_⟩
 refine hK _ ?_;clear hK K;refine zw (zk [0,1,2]) ?_;simp only [go_sem]
 repeat refine zq ?_
 refine zb fun K hK=>?_;simp only [go_sem];(try simp (disch:=omega) only [zI]);repeat first | intro _ | refine ⟨by omega,?_⟩
 refine hK _ ?_;clear hK K;refine zw (zk [0,1,2,10]) ?_;simp only [go_sem]
 cases most
 · repeat refine zq ?_
   refine zc rfl (fun hc=>?_) (fun hc=>?_) <;> (try simp only [go_sem] at hc)
   refine zx ?_
   try simp only [go_sem]
   repeat refine zq ?_
   refine zb fun K hK=>?_;simp only [go_sem,q1];(try simp (disch:=omega) only [zI])
   refine ⟨by omega,?_⟩
   repeat first | intro _ | refine ⟨by omega,?_⟩
   refine hK _ ?_;clear hK K;refine zw (zk [6]) ?_;simp only [go_sem];refine ze ?_;simp only [go_sem]
   simp [overD,q1]
 · repeat refine zq ?_
   refine zc rfl (fun hc=>?_) (fun hc=>?_) <;> (try simp only [go_sem] at hc)
   repeat refine zq ?_
   refine zb fun K hK=>?_;simp only [go_sem];(try simp (disch:=omega) only [zI]);repeat first | intro _ | refine ⟨by omega,?_⟩
   refine hK _ ?_;clear hK K
   try simp only [go_sem]
   repeat refine zq ?_
   refine zb fun K hK=>?_;simp only [go_sem,q2];(try simp (disch:=omega) only [zI])
   refine ⟨by omega,?_⟩
   repeat first | intro _ | refine ⟨by omega,?_⟩
   refine hK _ ?_;clear hK K;refine zw (zk [6]) ?_;simp only [go_sem];refine ze ?_;simp only [go_sem]
   simp [overD,q2]
theorem last_ok (r : Ru) (h : r.ends.length ≤ 1000) : ACalls Try.prog 90 [ruV r] (i64 ((r.ends.length : Int) - 1)):=by
 refine acalls_st (rs:=[i64 ((r.ends.length : Int) - 1)]) [.tmp 2] Try.func90 rfl (by kernel_rfl) Try.ntmps90 rfl (by simp) rfl fun C vs=>?_
 repeat refine zq ?_
 refine zb fun K hK=>?_;simp only [go_sem];(try simp (disch:=omega) only [zI]);repeat first | intro _ | refine ⟨by omega,?_⟩
 refine hK _ ?_;clear hK K;refine zw (sub_frzP 1 1 (ruC r) (by omega) rfl rfl) ?_;refine zw (zk [1]) ?_;simp only [go_sem]
 repeat refine zq ?_
 refine zb fun K hK=>?_;simp only [go_sem];(try simp (disch:=omega) only [zI])
 intros
 repeat first | intro _ | refine ⟨by omega,?_⟩
 refine hK _ ?_;clear hK K;refine zw (zk [2]) ?_;simp only [go_sem];refine ze ?_;simp only [go_sem]
theorem cmp_ok (r : Ru) (most : Bool) (T : List (List Int)) (x y : Bd) (hx : 0 ≤ x.b ∧ x.b ≤ 1000000) (hy : 0 ≤ y.b ∧ y.b ≤ 1000000) : ACalls Try.prog 182 [bedV x,bedV y,.rp [sideP r most T]] (i64 (if most then y.b - x.b else x.b - y.b)):=by
 refine acalls_st (rs:=[i64 (if most then y.b - x.b else x.b - y.b)]) [.tmp 5] Try.func182 rfl (by kernel_rfl) Try.ntmps182 rfl (by simp) rfl fun C vs=>?_
 repeat refine zq ?_
 refine zb fun K hK=>?_;simp only [go_sem];(try simp (disch:=omega) only [zI]);repeat first | intro _ | refine ⟨by omega,?_⟩
 refine hK _ ?_;clear hK K;refine zw (zk [2,3,4]) ?_;simp only [go_sem]
 repeat refine zq ?_
 refine zb fun K hK=>?_;simp only [go_sem];(try simp (disch:=omega) only [zI]);repeat first | intro _ | refine ⟨by omega,?_⟩
 refine hK _ ?_;clear hK K;refine zw (zk [3,4,9]) ?_;simp only [go_sem]
 cases most
 · repeat refine zq ?_
   refine zc rfl (fun hc=>?_) (fun hc=>?_) <;> (try simp only [go_sem] at hc)
   refine zx ?_
   try simp only [go_sem]
   repeat refine zq ?_
   refine zb fun K hK=>?_;simp only [go_sem];(try simp (disch:=omega) only [zI]);repeat first | intro _ | refine ⟨by omega,?_⟩
   refine hK _ ?_;clear hK K;refine zw (zk [5]) ?_;simp only [go_sem];refine ze ?_;simp only [go_sem]
 · repeat refine zq ?_
   refine zc rfl (fun hc=>?_) (fun hc=>?_) <;> (try simp only [go_sem] at hc)
   repeat refine zq ?_
   refine zb fun K hK=>?_;simp only [go_sem];(try simp (disch:=omega) only [zI]);repeat first | intro _ | refine ⟨by omega,?_⟩
   refine hK _ ?_;clear hK K
   try simp only [go_sem]
   repeat refine zq ?_
   refine zb fun K hK=>?_;simp only [go_sem];(try simp (disch:=omega) only [zI]);repeat first | intro _ | refine ⟨by omega,?_⟩
   refine hK _ ?_;clear hK K;refine zw (zk [5]) ?_;simp only [go_sem];refine ze ?_;simp only [go_sem]
def endsD (most : Bool) (e : Int × Int) : Int:=if most then e.1 else e.2
def afterD (r : Ru) (most : Bool) (T : List (List Int)) (k left : Nat) : Int :=
 if k + 1 = r.ends.length then 0 else overD most (((T.getD (k + 1) []).getD left 0) * (1000000 - endsD most (r.ends.getD k (0,0)))) 1000000
theorem endOk_le {x : Int × Int} (h : endOk x = true) : 0 ≤ x.1 ∧ x.1 ≤ x.2 ∧ x.2 ≤ 1000000:=by
 simp only [endOk,withinL,List.all_cons,List.all_nil,Bool.and_true,Bool.and_eq_true,decide_eq_true_eq] at h
 omega
theorem after_ok (r : Ru) (most : Bool) (T : List (List Int)) (k left : Nat) (row : List Int) (v : Int) (hk : k < r.ends.length) (h10 : r.ends.length ≤ 10) (he : ∀ x ∈ r.ends,endOk x = true)
 (hT : k + 1 < r.ends.length → T[k + 1]? = some row ∧ row[left]? = some v ∧ 0 ≤ v ∧ v ≤ 1000000) : ACalls Try.prog 45 [sideP r most T,i64 k,i64 left] (i64 (afterD r most T k left)):=by
 obtain ⟨e,hek⟩:=opt_of_lt hk
 obtain ⟨g1,g2,g3⟩:=endOk_le (he e (mem_of_opt hek))
 have hl:=last_ok r (by omega)
 refine acalls_st (rs:=[i64 (afterD r most T k left)]) [.tmp 6] Try.func45 rfl (by kernel_rfl) Try.ntmps45 rfl (by simp) rfl fun C vs=>?_
 repeat refine zq ?_
 refine zb fun K hK=>?_;simp only [go_sem];(try simp (disch:=omega) only [zI]);repeat first | intro _ | refine ⟨by omega,?_⟩
 refine hK _ ?_;clear hK K;refine zw (zk [0,1,2]) ?_;simp only [go_sem]
 by_cases hlast : k + 1 = r.ends.length
 · have c : ((k : Int) == (r.ends.length : Int) - 1) = true:=by simp; omega
   repeat refine zq ?_
   refine zb fun K hK=>?_;simp only [go_sem,c];(try simp (disch:=omega) only [zI])
   refine zh (hl) rfl (by simp only [go_sem,i64,ints,c]) (by simp only [go_sem,i64,ints,c]) (by first | exact .inl rfl | exact .inr rfl) ?_
   (try simp only [go_sem,c]);(try simp (disch:=omega) only [zI]);repeat first | intro _ | refine ⟨by omega,?_⟩
   refine hK _ ?_;clear hK K;refine zw (zk [0,1,2,14]) ?_;simp only [go_sem]
   repeat refine zq ?_
   refine zc rfl (fun hc=>?_) (fun hc=>?_) <;> (try simp only [go_sem] at hc)
   repeat refine zq ?_
   refine zb fun K hK=>?_;simp only [go_sem];(try simp (disch:=omega) only [zI]);repeat first | intro _ | refine ⟨by omega,?_⟩
   refine hK _ ?_;clear hK K;refine zw (zk [6]) ?_;simp only [go_sem];refine ze ?_;simp only [go_sem]
   simp [afterD,hlast]
 have c : ((k : Int) == (r.ends.length : Int) - 1) = false:=by simp; omega
 obtain ⟨t1,t2,t3,t4⟩:=hT (by omega)
 have hk1 : k + 1 < T.length:=(List.getElem?_eq_some_iff.1 t1).1
 have hlf : left < row.length:=(List.getElem?_eq_some_iff.1 t2).1
 have hA : afterD r most T k left = overD most (v * (1000000 - endsD most e)) 1000000:=by
  simp [afterD,hlast,List.getD_eq_getElem?_getD,t1,t2,hek]
 rw [hA]
 have hm0 : ∀ q : Int,0 ≤ q → q ≤ 1000000 → 0 ≤ v * (1000000 - q) ∧ v * (1000000 - q) ≤ 1000000 * 1000000:=fun q h1 h2 =>
  ⟨Int.mul_nonneg t3 (by omega),Int.mul_le_mul t4 (by omega) (by omega) (by omega)⟩
 have htn : ((k : Int) + 1).toNat = k + 1:=by omega
 have hkw : IntKind.i64.wrap ((k : Int) + 1) = ((k + 1 : Nat) : Int):=by rw [zI] <;> omega
 repeat refine zq ?_
 refine zb fun K hK=>?_;simp only [go_sem,c];(try simp (disch:=omega) only [zI])
 refine zh (hl) rfl (by simp only [go_sem,i64,ints,c]) (by simp only [go_sem,i64,ints,c]) (by first | exact .inl rfl | exact .inr rfl) ?_
 (try simp only [go_sem,c]);(try simp (disch:=omega) only [zI]);repeat first | intro _ | refine ⟨by omega,?_⟩
 refine hK _ ?_;clear hK K;refine zw (zk [0,1,2,14]) ?_;simp only [go_sem]
 repeat refine zq ?_
 refine zc rfl (fun hc=>?_) (fun hc=>?_) <;> (try simp only [go_sem] at hc)
 refine zx ?_
 try simp only [go_sem]
 repeat refine zq ?_
 refine zb fun K hK=>?_;simp only [go_sem,hek,hk,spanR];(try simp (disch:=omega) only [zI]);repeat first | intro _ | refine ⟨by omega,?_⟩
 refine hK _ ?_;clear hK K;refine zw (zk [0,1,2,7]) ?_;simp only [go_sem]
 repeat refine zq ?_
 refine zb fun K hK=>?_;simp only [go_sem];(try simp (disch:=omega) only [zI]);repeat first | intro _ | refine ⟨by omega,?_⟩
 refine hK _ ?_;clear hK K;refine zw (zk [0,1,2,7,28]) ?_;simp only [go_sem]
 cases most
 · obtain ⟨m1,m2⟩:=hm0 e.2 (by omega) (by omega)
   have hov:=over_ok r false T (v * (1000000 - e.2)) 1000000 m1 (by omega) (by omega) (by omega)
   have hmw : IntKind.i64.wrap (v * (1000000 - e.2)) = v * (1000000 - e.2):=by rw [zI] <;> omega
   repeat refine zq ?_
   refine zc rfl (fun hc=>?_) (fun hc=>?_) <;> (try simp only [go_sem] at hc)
   refine zx ?_
   try simp only [go_sem]
   repeat refine zq ?_
   refine zb fun K hK=>?_;simp only [go_sem,hkw,t1,t2,hk1,hlf,htn,hmw];(try simp (disch:=omega) only [zI]);repeat first | intro _ | refine ⟨by omega,?_⟩
   refine zh (hov) rfl (by simp only [go_sem,i64,ints,hmw]) (by simp only [go_sem,i64,ints,hmw]) (by first | exact .inl rfl | exact .inr rfl) ?_
   (try simp only [go_sem,hmw]);(try simp (disch:=omega) only [zI]);repeat first | intro _ | refine ⟨by omega,?_⟩
   refine hK _ ?_;clear hK K;refine zw (zk [6]) ?_;simp only [go_sem];refine ze ?_;simp only [go_sem]
   simp [endsD]
 · obtain ⟨m1,m2⟩:=hm0 e.1 (by omega) (by omega)
   have hov:=over_ok r true T (v * (1000000 - e.1)) 1000000 m1 (by omega) (by omega) (by omega)
   have hmw : IntKind.i64.wrap (v * (1000000 - e.1)) = v * (1000000 - e.1):=by rw [zI] <;> omega
   repeat refine zq ?_
   refine zc rfl (fun hc=>?_) (fun hc=>?_) <;> (try simp only [go_sem] at hc)
   repeat refine zq ?_
   refine zb fun K hK=>?_;simp only [go_sem,hek,hk,spanR];(try simp (disch:=omega) only [zI]);repeat first | intro _ | refine ⟨by omega,?_⟩
   refine hK _ ?_;clear hK K
   try simp only [go_sem]
   repeat refine zq ?_
   refine zb fun K hK=>?_;simp only [go_sem,hkw,t1,t2,hk1,hlf,htn,hmw];(try simp (disch:=omega) only [zI]);repeat first | intro _ | refine ⟨by omega,?_⟩
   refine zh (hov) rfl (by simp only [go_sem,i64,ints,hmw]) (by simp only [go_sem,i64,ints,hmw]) (by first | exact .inl rfl | exact .inr rfl) ?_
   (try simp only [go_sem,hmw]);(try simp (disch:=omega) only [zI]);repeat first | intro _ | refine ⟨by omega,?_⟩
   refine hK _ ?_;clear hK K;refine zw (zk [6]) ?_;simp only [go_sem];refine ze ?_;simp only [go_sem]
   simp [endsD]
def opensD (out b : Int) : Bool:=if out = 1 then decide (b / 100 = 2) else if out = 2 then decide (2 ≤ b / 100) else true
theorem div100 {b : Int} (h0 : 0 ≤ b) (h1 : b ≤ 499) : IntKind.i64.wrap (b.tdiv 100) = b / 100 ∧ 0 ≤ b / 100 ∧ b / 100 ≤ 4:=by
 rw [Int.tdiv_eq_ediv_of_nonneg h0]
 refine ⟨?_,by omega,by omega⟩
 rw [zI] <;> omega
theorem opens_ok (r : Ru) (b : Int) (h0 : 0 ≤ b) (h1 : b ≤ 499) : ACalls Try.prog 179 [ruV r,i64 b] (.bo (opensD r.out b)):=by
 obtain ⟨hd,_,_⟩:=div100 h0 h1
 refine acalls_st (rs:=[.bo (opensD r.out b)]) [.tmp 4] Try.func179 rfl (by kernel_rfl) Try.ntmps179 rfl (by simp) rfl fun C vs=>?_
 repeat refine zq ?_
 refine zb fun K hK=>?_;simp only [go_sem];(try simp (disch:=omega) only [zI]);repeat first | intro _ | refine ⟨by omega,?_⟩
 refine hK _ ?_;clear hK K;refine zw (sub_frzP 2 2 (ruC r) (by omega) rfl rfl) ?_;refine zw (zk [1,2]) ?_;simp only [go_sem]
 repeat refine zq ?_
 refine zb fun K hK=>?_;simp only [go_sem,hd];(try simp (disch:=omega) only [zI]);repeat first | intro _ | refine ⟨by omega,?_⟩
 refine hK _ ?_;clear hK K;refine zw (zk [2,5]) ?_;simp only [go_sem]
 repeat refine zq ?_
 refine zb fun K hK=>?_;simp only [go_sem];(try simp (disch:=omega) only [zI]);repeat first | intro _ | refine ⟨by omega,?_⟩
 refine hK _ ?_;clear hK K;refine zw (zk [5,10]) ?_;simp only [go_sem]
 repeat refine zq ?_
 refine zd ?_
 by_cases c1 : r.out = 1
 · have e1 : (r.out == 1) = true:=by simpa using c1
   repeat refine zq ?_
   refine zb fun K hK=>?_;simp only [go_sem,e1];(try simp (disch:=omega) only [zI]);repeat first | intro _ | refine ⟨by omega,?_⟩
   refine hK _ ?_;clear hK K;refine zw (zk [5,10,11]) ?_;simp only [go_sem]
   repeat refine zq ?_
   refine zc rfl (fun hc=>?_) (fun hc=>?_) <;> (try simp only [go_sem] at hc)
   repeat refine zq ?_
   refine zb fun K hK=>?_;simp only [go_sem];(try simp (disch:=omega) only [zI]);repeat first | intro _ | refine ⟨by omega,?_⟩
   refine hK _ ?_;clear hK K;refine zw (zk [4]) ?_;simp only [go_sem];refine ze ?_;simp only [go_sem];simp only [opensD,c1,if_true]
   rfl
 have e1 : (r.out == 1) = false:=by simpa using c1
 repeat refine zq ?_
 refine zb fun K hK=>?_;simp only [go_sem,e1];(try simp (disch:=omega) only [zI]);repeat first | intro _ | refine ⟨by omega,?_⟩
 refine hK _ ?_;clear hK K;refine zw (zk [5,10,11]) ?_;simp only [go_sem]
 repeat refine zq ?_
 refine zc rfl (fun hc=>?_) (fun hc=>?_) <;> (try simp only [go_sem] at hc)
 by_cases c2 : r.out = 2
 · have e2 : (r.out == 2) = true:=by simpa using c2
   repeat refine zq ?_
   refine zb fun K hK=>?_;simp only [go_sem,e2];(try simp (disch:=omega) only [zI]);repeat first | intro _ | refine ⟨by omega,?_⟩
   refine hK _ ?_;clear hK K;refine zw (zk [5,15]) ?_;simp only [go_sem]
   repeat refine zq ?_
   refine zc rfl (fun hc=>?_) (fun hc=>?_) <;> (try simp only [go_sem] at hc)
   repeat refine zq ?_
   refine zb fun K hK=>?_;simp only [go_sem];(try simp (disch:=omega) only [zI]);repeat first | intro _ | refine ⟨by omega,?_⟩
   refine hK _ ?_;clear hK K;refine zw (zk [4]) ?_;simp only [go_sem];refine ze ?_;simp only [go_sem]
   simp [opensD,c2]
 have e2 : (r.out == 2) = false:=by simpa using c2
 repeat refine zq ?_
 refine zb fun K hK=>?_;simp only [go_sem,e2];(try simp (disch:=omega) only [zI]);repeat first | intro _ | refine ⟨by omega,?_⟩
 refine hK _ ?_;clear hK K;refine zw (zk [5,15]) ?_;simp only [go_sem]
 repeat refine zq ?_
 refine zc rfl (fun hc=>?_) (fun hc=>?_) <;> (try simp only [go_sem] at hc)
 refine zx ?_
 try simp only [go_sem]
 repeat refine zq ?_
 refine zb fun K hK=>?_;simp only [go_sem];(try simp (disch:=omega) only [zI]);repeat first | intro _ | refine ⟨by omega,?_⟩
 refine hK _ ?_;clear hK K;refine zw (zk [4]) ?_;simp only [go_sem];refine ze ?_;simp only [go_sem]
 simp [opensD,c1,c2]
def ltD (most : Bool) (x y : Bd) : Bool:=decide ((if most then y.b - x.b else x.b - y.b) < 0)
def loV (l : List Bd) : Int:=(l.map fun c=>c.lo * c.b).sum
theorem loV_snoc (l : List Bd) (x : Bd) : loV (l ++ [x]) = loV l + x.lo * x.b:=by simp [loV]
def fillG : List Bd → Int × Int → Int × Int
 | [],x=>x
 | c :: cs,x=>fillG cs (x.1 - min x.1 (c.hi - c.lo),x.2 + min x.1 (c.hi - c.lo) * c.b)
theorem fillG_snoc : ∀ (l : List Bd) (c : Bd) (x : Int × Int),fillG (l ++ [c]) x = ((fillG l x).1 - min (fillG l x).1 (c.hi - c.lo),(fillG l x).2 + min (fillG l x).1 (c.hi - c.lo) * c.b)
 | [],_,_=>rfl
 | d :: l,c,x=>by simp only [List.cons_append,fillG]; exact fillG_snoc l c _
def meanD (most : Bool) (den : Int) (l : List Bd) : Int:=overD most (fillG (sortN (ltD most) l) (den - loS (sortN (ltD most) l),loV (sortN (ltD most) l))).2 den
structure ChG (den : Int) (l : List Bd) : Prop where
 len : l.length ≤ 19
 den0 : 1 ≤ den
 den1 : den ≤ 3000
 low : loS l ≤ den
 each : ∀ c ∈ l,(0 ≤ c.b ∧ c.b ≤ 1000000) ∧ 0 ≤ c.lo ∧ c.lo ≤ c.hi ∧ c.hi ≤ 3000
theorem loV_le {l : List Bd} (h : ∀ c ∈ l,(0 ≤ c.b ∧ c.b ≤ 1000000) ∧ 0 ≤ c.lo ∧ c.lo ≤ c.hi ∧ c.hi ≤ 3000) : 0 ≤ loV l ∧ loV l ≤ 3000000000 * l.length:=by
 induction l with
 | nil=>simp [loV]
 | cons c l ih =>
   obtain ⟨h1,h2⟩:=ih fun x hx=>h x (by simp [hx])
   obtain ⟨⟨b0,b1⟩,g0,g1,g2⟩:=h c (by simp)
   have m0:=Int.mul_nonneg g0 b0
   have m1 : c.lo * c.b ≤ 3000 * 1000000:=Int.mul_le_mul (by omega) b1 b0 (by omega)
   simp only [loV,List.map_cons,List.sum_cons,List.length_cons] at h1 h2 ⊢
   omega
theorem insB_perm (lt : Bd → Bd → Bool) (x : Bd) : ∀ R,(insB lt x R).Perm (x :: R)
 | []=>List.Perm.refl _
 | y :: R => by
   unfold insB
   split
   · exact ((insB_perm lt x R).cons y).trans (List.Perm.swap _ _ _)
   · exact List.Perm.refl _
theorem sortB_perm (lt : Bd → Bd → Bool) : ∀ l R,(sortB lt l R).Perm (l ++ R)
 | [],R=>List.Perm.refl _
 | x :: l, R => by
   rw [sortB]
   refine (sortB_perm lt l _).trans ?_
   exact ((insB_perm lt x R).append_left l).trans List.perm_middle
theorem sortN_perm (lt : Bd → Bd → Bool) (l : List Bd) : (sortN lt l).Perm l:=by
 unfold sortN
 have:=sortB_perm lt l []
 rw [List.append_nil] at this
 exact (List.reverse_perm _).trans this
theorem perm_sum {α : Type} {f : α → Int} {l m : List α} (h : l.Perm m) : (l.map f).sum = (m.map f).sum:=by
 induction h with
 | nil=>rfl
 | cons x _ ih=>simp only [List.map_cons,List.sum_cons,ih]
 | swap x y l=>simp only [List.map_cons,List.sum_cons]; omega
 | trans _ _ h1 h2=>exact h1.trans h2
def GOk (x : Int × Int) : Prop:=(0 ≤ x.1 ∧ x.1 ≤ 3000) ∧ 0 ≤ x.2 ∧ x.2 ≤ 57000000000 + 1000000 * (3000 - x.1)
theorem gOk_step {c : Bd} {x : Int × Int} (h : GOk x) (hc : (0 ≤ c.b ∧ c.b ≤ 1000000) ∧ 0 ≤ c.lo ∧ c.lo ≤ c.hi ∧ c.hi ≤ 3000) :
 (0 ≤ min x.1 (c.hi - c.lo) ∧ min x.1 (c.hi - c.lo) ≤ x.1) ∧ (0 ≤ min x.1 (c.hi - c.lo) * c.b ∧ min x.1 (c.hi - c.lo) * c.b ≤ 3000000000) ∧ GOk (x.1 - min x.1 (c.hi - c.lo),x.2 + min x.1 (c.hi - c.lo) * c.b):=by
 obtain ⟨⟨h1,h2⟩,h3,h4⟩:=h
 obtain ⟨⟨b0,b1⟩,g0,g1,g2⟩:=hc
 generalize hm : min x.1 (c.hi - c.lo) = m
 have m0 : 0 ≤ m:=by omega
 have m1 : m ≤ x.1:=by omega
 have p0:=Int.mul_nonneg m0 b0
 have p1 : m * c.b ≤ m * 1000000:=Int.mul_le_mul_of_nonneg_left b1 m0
 refine ⟨⟨m0,m1⟩,⟨p0,by omega⟩,⟨by simp only; omega,by simp only; omega⟩,by simp only; omega,by simp only; omega⟩
theorem gOk_all {l : List Bd} : ∀ {x : Int × Int},(∀ c ∈ l,(0 ≤ c.b ∧ c.b ≤ 1000000) ∧ 0 ≤ c.lo ∧ c.lo ≤ c.hi ∧ c.hi ≤ 3000) → GOk x → GOk (fillG l x):=by
 induction l with
 | nil=>intro x _ h; exact h
 | cons c l ih =>
   intro x hc h
   exact ih (fun y hy=>hc y (by simp [hy])) (gOk_step h (hc c (by simp))).2.2
theorem mean_ok (r : Ru) (most : Bool) (T : List (List Int)) (l : List Bd) (h : ChG r.d l) :
 MCalls Try.prog 121 [(1000,.arr 285 3 (idx l))] [(1000,.arr 285 3 (idx (sortN (ltD most) l)))] [.r (sideP r most T),.os 1000 0 3 0 l.length] (.r (i64 (meanD most r.d l))):=by
 have hsort:=sortStable_ok (ltD most) (fun x y=>if most then y.b - x.b else x.b - y.b) 182 [.rp [sideP r most T]] l h.len (fun _ _=>rfl) (fun x hx y hy=>cmp_ok r most T x y (h.each x hx).1 (h.each y hy).1)
 obtain ⟨S,hS⟩ : ∃ S,S = sortN (ltD most) l:=⟨_,rfl⟩
 have hperm : S.Perm l:=hS ▸ sortN_perm _ _
 have hSl : S.length = l.length:=hperm.length_eq
 have hSe : ∀ c ∈ S,(0 ≤ c.b ∧ c.b ≤ 1000000) ∧ 0 ≤ c.lo ∧ c.lo ≤ c.hi ∧ c.hi ≤ 3000:=fun c hc=>h.each c (hperm.mem_iff.1 hc)
 have hlo : loS S = loS l:=perm_sum hperm
 have hl19:=h.len
 have hd0:=h.den0
 have hd1:=h.den1
 have hlow:=h.low
 rw [show meanD most r.d l = overD most (fillG S (r.d - loS S,loV S)).2 r.d by rw [meanD,← hS]]
 rw [← hS] at hsort ⊢
 have hsub : ∀ i,(0 ≤ loS (S.take i) ∧ loS (S.take i) ≤ 57000) ∧ 0 ≤ loV (S.take i) ∧ loV (S.take i) ≤ 57000000000:=fun i=>by
  have hm : ∀ c ∈ S.take i,(0 ≤ c.b ∧ c.b ≤ 1000000) ∧ 0 ≤ c.lo ∧ c.lo ≤ c.hi ∧ c.hi ≤ 3000:=fun c hc=>hSe c (List.mem_of_mem_take hc)
  have h1:=loV_le hm
  have h2 : 0 ≤ loS (S.take i) ∧ loS (S.take i) ≤ 3000 * (S.take i).length:=by
   generalize S.take i = L at hm
   clear h1
   induction L with
   | nil=>simp [loS]
   | cons c L ih =>
     obtain ⟨i1,i2⟩:=ih fun x hx=>hm x (by simp [hx])
     have:=hm c (by simp)
     simp only [loS,List.map_cons,List.sum_cons,List.length_cons] at i1 i2 ⊢
     omega
  have h3 : (S.take i).length ≤ 19:=by rw [List.length_take]; omega
  omega
 have hall:=hsub S.length
 rw [List.take_length] at hall
 have hG0 : GOk (r.d - loS S,loV S):=⟨⟨by simp only; omega,by simp only; omega⟩,by simp only; omega,by simp only; omega⟩
 refine mcalls_st (n:=77) (rs:=[.r (i64 (overD most (fillG S (r.d - loS S,loV S)).2 r.d))]) _ _ [.tmp 4] Try.func121 rfl (by kernel_rfl) Try.ntmps121 rfl (by simp) rfl rfl fun C=>?_
 repeat refine zq ?_
 refine zb fun K hK=>?_;simp only [go_sem];(try simp (disch:=omega) only [zI]);repeat first | intro _ | refine ⟨by omega,?_⟩
 refine hK _ ?_;clear hK K;refine zw (sub_frzP 2 2 [sideP r most T] (by omega) rfl rfl) ?_;refine zw (zk [1,2]) ?_;simp only [go_sem]
 repeat refine zq ?_
 refine zb fun K hK=>?_;simp only [go_sem];(try simp (disch:=omega) only [zI])
 refine xcall_mut (mcalls_fn hsort) [(1000,1000)] rfl (by simp only [go_sem,i64,ints]) (by simp only [go_sem,i64,ints]) (by rfl) (by rfl) ?_
 (try simp only [go_sem]);(try simp (disch:=omega) only [zI]);repeat first | intro _ | refine ⟨by omega,?_⟩
 refine hK _ ?_;clear hK K;refine zw (zk [1,2]) ?_;simp only [go_sem]
 repeat refine zq ?_
 refine zb fun K hK=>?_;simp only [go_sem];(try simp (disch:=omega) only [zI]);repeat first | intro _ | refine ⟨by omega,?_⟩
 refine hK _ ?_;clear hK K;refine zw (zk [1,2,5,6]) ?_;simp only [go_sem]
 repeat refine zq ?_
 refine zb fun K hK=>?_;simp only [go_sem];(try simp (disch:=omega) only [zI]);repeat first | intro _ | refine ⟨by omega,?_⟩
 refine hK _ ?_;clear hK K;refine zw (zk [1,2,5,6,22,23,24]) ?_;simp only [go_sem]
 repeat refine zq ?_
 refine zd ?_
 refine awp_uptoV (n:=77) l.length (fun i vs=>[(1,.os 1000 (vs 1000) 3 0 l.length),(2,.r (.rp [sideP r most T])),(5,.r (i64 (r.d - loS (S.take i)))),(6,.r (i64 (loV (S.take i)))),(22,.os 1000 (vs 1000) 3 0 l.length),(23,.r (i64 l.length)),(24,.r (i64 i))])
  (fun i vs=>[(1000,.arr 285 3 (idx S))]) (fun _=>True) 0 (zj [] ?_ ?_) (Nat.zero_le _) trivial ?_
 · try simp only [go_sem]
   simp [loS,loV]
 · try simp only [go_sem]
 · intro i vs hi _
   repeat refine zq ?_
   refine zb fun K hK=>?_;simp only [go_sem];(try simp (disch:=omega) only [zI]);repeat first | intro _ | refine ⟨by omega,?_⟩
   refine hK _ ?_;clear hK K;refine zw (zk [1,2,5,6,22,23,24,25]) ?_;simp only [go_sem]
   repeat refine zq ?_
   refine zc rfl (fun hc=>?_) (fun hc=>?_) <;> (try simp only [go_sem] at hc)
   · have hci : i < S.length:=by omega
     obtain ⟨c,hx⟩:=opt_of_lt hci
     obtain ⟨⟨b0,b1⟩,g0,g1,g2⟩:=hSe c (mem_of_opt hx)
     have m0:=Int.mul_nonneg g0 b0
     have m1 : c.lo * c.b ≤ 3000 * 1000000:=Int.mul_le_mul (by omega) b1 b0 (by omega)
     have hmw : IntKind.i64.wrap (c.lo * c.b) = c.lo * c.b:=by rw [zI] <;> omega
     have hs1:=hsub i
     have hlS : loS (S.take (i + 1)) = loS (S.take i) + c.lo:=by rw [take_of_opt hx,loS_snoc]
     have hlV : loV (S.take (i + 1)) = loV (S.take i) + c.lo * c.b:=by rw [take_of_opt hx,loV_snoc]
     refine zx ?_
     try simp only [go_sem]
     repeat refine zq ?_
     refine zd ?_
     repeat refine zq ?_
     refine zb fun K hK=>?_;simp only [go_sem,hx,hci,hSl,bedR];(try simp (disch:=omega) only [zI]);repeat first | intro _ | refine ⟨by omega,?_⟩
     repeat first | intro _ | refine ⟨by omega,?_⟩
     refine hK _ ?_;clear hK K;refine zw (sub_frzP 8 8 (bedR c) (by omega) rfl rfl) ?_;simp only [go_sem,bedR];refine zw (zk [1,2,5,6,8,22,23,24]) ?_;simp only [go_sem]
     repeat refine zq ?_
     refine zg follows (by decide +kernel) (by kernel_rfl) fun K hK=>?_;simp only [go_sem,hmw];(try simp (disch:=omega) only [zI]);repeat first | intro _ | refine ⟨by omega,?_⟩
     refine hK _ ?_;clear hK K;refine zw (zk [1,2,5,6,22,23,24]) ?_;simp only [go_sem]
     repeat refine zq ?_
     refine zb fun K hK=>?_;simp only [go_sem];(try simp (disch:=omega) only [zI]);repeat first | intro _ | refine ⟨by omega,?_⟩
     refine hK _ ?_;clear hK K
     try simp only [go_sem]
     refine ⟨by omega,zj [] ?_ ?_⟩
     · try simp only [go_sem]
       rw [hlS,hlV]
       exact ⟨by rw [Int.sub_sub],rfl⟩
     · try simp only [go_sem]
   · have hil : i = S.length:=by omega
     subst hil
     rw [List.take_length]
     refine zf ?_;simp only [go_sem]
     repeat refine zq ?_
     refine zb fun K hK=>?_;simp only [go_sem];(try simp (disch:=omega) only [zI]);repeat first | intro _ | refine ⟨by omega,?_⟩
     refine hK _ ?_;clear hK K;refine zw (zk [2,5,6,42,43,44]) ?_;simp only [go_sem]
     repeat refine zq ?_
     refine zd ?_
     refine awp_uptoV (n:=77) l.length (fun i vs=>[(2,.r (.rp [sideP r most T])),(5,.r (i64 (fillG (S.take i) (r.d - loS S,loV S)).1)),(6,.r (i64 (fillG (S.take i) (r.d - loS S,loV S)).2)),(42,.os 1000 (vs 1000) 3 0 l.length),(43,.r (i64 l.length)),(44,.r (i64 i))])
      (fun i vs=>[(1000,.arr 285 3 (idx S))]) (fun _=>True) 0 (zj [] ?_ ?_) (Nat.zero_le _) trivial ?_
     · try simp only [go_sem]
       simp [fillG]
     · try simp only [go_sem]
     · intro i vs hi2 _
       have hG : GOk (fillG (S.take i) (r.d - loS S,loV S)):=gOk_all (fun c hc=>hSe c (List.mem_of_mem_take hc)) hG0
       repeat refine zq ?_
       refine zb fun K hK=>?_;simp only [go_sem];(try simp (disch:=omega) only [zI]);repeat first | intro _ | refine ⟨by omega,?_⟩
       refine hK _ ?_;clear hK K;refine zw (zk [2,5,6,42,43,44,45]) ?_;simp only [go_sem]
       repeat refine zq ?_
       refine zc rfl (fun hc=>?_) (fun hc=>?_) <;> (try simp only [go_sem] at hc)
       · have hci : i < S.length:=by omega
         obtain ⟨c,hx⟩:=opt_of_lt hci
         obtain ⟨⟨b0,b1⟩,g0,g1,g2⟩:=hSe c (mem_of_opt hx)
         obtain ⟨⟨k0,k1⟩,⟨k2,k3⟩,k4⟩:=gOk_step hG (hSe c (mem_of_opt hx))
         rw [take_of_opt hx,fillG_snoc]
         obtain ⟨⟨q1,q2⟩,q3,q4⟩:=hG
         generalize fillG (S.take i) (r.d - loS S,loV S) = X at *
         obtain ⟨lf,sm⟩:=X
         simp only at *
         have hsw : IntKind.i64.wrap (c.hi - c.lo) = c.hi - c.lo:=by rw [zI] <;> omega
         generalize hmm : min lf (c.hi - c.lo) = m at *
         have hmw : IntKind.i64.wrap (m * c.b) = m * c.b:=by rw [zI] <;> omega
         refine zx ?_
         try simp only [go_sem]
         repeat refine zq ?_
         refine zd ?_
         repeat refine zq ?_
         refine zb fun K hK=>?_;simp only [go_sem,hx,hci,hSl,bedR];(try simp (disch:=omega) only [zI]);repeat first | intro _ | refine ⟨by omega,?_⟩
         repeat first | intro _ | refine ⟨by omega,?_⟩
         refine hK _ ?_;clear hK K;refine zw (sub_frzP 10 10 (bedR c) (by omega) rfl rfl) ?_;simp only [go_sem,bedR];refine zw (zk [2,5,6,10,42,43,44]) ?_;simp only [go_sem]
         repeat refine zq ?_
         refine zb fun K hK=>?_;simp only [go_sem,hsw,hmm];(try simp (disch:=omega) only [zI]);repeat first | intro _ | refine ⟨by omega,?_⟩
         refine hK _ ?_;clear hK K;refine zw (zk [2,5,6,10,11,42,43,44]) ?_;simp only [go_sem]
         repeat refine zq ?_
         refine zg follows (by decide +kernel) (by kernel_rfl) fun K hK=>?_;simp only [go_sem,hmw];(try simp (disch:=omega) only [zI]);repeat first | intro _ | refine ⟨by omega,?_⟩
         refine hK _ ?_;clear hK K;refine zw (zk [2,5,6,42,43,44]) ?_;simp only [go_sem]
         repeat refine zq ?_
         refine zb fun K hK=>?_;simp only [go_sem];(try simp (disch:=omega) only [zI]);repeat first | intro _ | refine ⟨by omega,?_⟩
         refine hK _ ?_;clear hK K
         try simp only [go_sem]
         refine ⟨by omega,zj [] ?_ ?_⟩
         · try simp only [go_sem]
         · try simp only [go_sem]
       · have hil : i = S.length:=by omega
         subst hil
         rw [List.take_length] at hG ⊢
         have hov:=over_ok r most T (fillG S (r.d - loS S,loV S)).2 r.d hG.2.1 (by have:=hG.1; have:=hG.2.2; omega) (by omega) (by omega)
         refine zf ?_;simp only [go_sem]
         repeat refine zq ?_
         refine zg follows (by decide +kernel) (by kernel_rfl) fun K hK=>?_;simp only [go_sem];(try simp (disch:=omega) only [zI])
         refine zh (hov) rfl (by simp only [go_sem,i64,ints]) (by simp only [go_sem,i64,ints]) (by first | exact .inl rfl | exact .inr rfl) ?_
         (try simp only [go_sem]);(try simp (disch:=omega) only [zI]);repeat first | intro _ | refine ⟨by omega,?_⟩
         refine hK _ ?_;clear hK K;refine zw (zk [4]) ?_;simp only [go_sem];refine ze ?_;simp only [go_sem]
abbrev visC (r : Ru) (most : Bool) (T : List (List Int)) (k st : Int) (m v : Nat) : List AV:=[.r (sideP r most T),.r (i64 k),.r (i64 st),.mp m v]
theorem newVisit_ok (r : Ru) (most : Bool) (T : List (List Int)) (k st : Int) :
 NCalls Try.prog 68 [sideP r most T,i64 k,i64 st] [(12,.box (visC r most T k st 10 0)),(10,.mp [])] (.pt 12 0 0):=by
 refine ncalls_st (n:=13) _ _ (.tmp 6) Try.func68 rfl (by kernel_rfl) Try.ntmps68 rfl (by simp) rfl rfl fun C hC=>?_
 repeat refine zq ?_
 refine zb fun K hK=>?_;simp only [go_sem];(try simp (disch:=omega) only [zI]);repeat first | intro _ | refine ⟨by omega,?_⟩
 refine hK _ ?_;clear hK K;refine zw (zk [0,1,2]) ?_;simp only [go_sem]
 repeat refine zq ?_
 refine zb fun K hK=>?_;simp only [go_sem];(try simp (disch:=omega) only [zI]);repeat first | intro _ | refine ⟨by omega,?_⟩
 refine hK _ ?_;clear hK K;refine zw (zk [6]) ?_;simp only [go_sem];refine ze ?_
 try simp only [go_sem]
def nextV (r : Ru) (most : Bool) (T : List (List Int)) (k st : Nat) (val : Nat → Int) (last : Bool) (left : Nat) (b : Int) : Int :=
 if decide (0 < scoreOf b) && (decide ((left : Int) - scoreOf b = 0) && opensD r.out b) then 1000000
 else if decide (0 < scoreOf b) && decide ((left : Int) - scoreOf b < lowestR r) then afterD r most T k st
 else if last then afterD r most T k ((left : Int) - scoreOf b).toNat
 else val ((left : Int) - scoreOf b).toNat
def maxL (l : List Int) : Int:=l.foldl max (l.headD 0)
def chW (f : Int → Int) (l : List Bd) : List Bd:=l.map fun c=>⟨f c.b,c.lo,c.hi⟩
def meansV (r : Ru) (most : Bool) (f : Int → Int) : List Int:=r.aims.map fun a=>meanD most r.d (chW f a.beds)
def valV (r : Ru) (most : Bool) (T : List (List Int)) (k st : Nat) : Nat → Nat → Int
 | 0,_=>0
 | n + 1,left=>maxL (meansV r most (nextV r most T k st (valV r most T k st n) (decide (n = 0)) left))
def memoV (r : Ru) (most : Bool) (T : List (List Int)) (k st : Nat) (m : List (RV × RV)) : Prop :=
 ∀ e ∈ m,∃ n left : Nat,e = (.ag [i64 (left : Int),i64 (n : Int)],i64 (valV r most T k st n left))
theorem memo_find {r : Ru} {most : Bool} {T : List (List Int)} {k st n left : Nat} : ∀ {m : List (RV × RV)} {i : Nat},memoV r most T k st m →
 findK (.ag [i64 (left : Int),i64 (n : Int)]) m i = some none ∨ ∃ j,findK (.ag [i64 (left : Int),i64 (n : Int)]) m i = some (some (j,i64 (valV r most T k st n left)))
 | [],i,_=>.inl rfl
 | e :: m, i, h => by
   obtain ⟨n',left',rfl⟩:=h e (by simp)
   have ih:=memo_find (n:=n) (left:=left) (m:=m) (i:=i + 1) fun x hx=>h x (by simp [hx])
   by_cases he : left = left' ∧ n = n'
   · obtain ⟨rfl,rfl⟩:=he
     exact .inr ⟨i,by simp [findK,sameK,cmpL,i64]⟩
   · have hf : sameK (.ag [i64 (left : Int),i64 (n : Int)]) (.ag [i64 (left' : Int),i64 (n' : Int)]) = some false:=by
      simp only [sameK,cmpL,i64,if_true,Option.some.injEq,Bool.and_true,Bool.and_eq_false_iff,beq_eq_false_iff_ne]
      omega
     simp only [findK,hf];exact ih
theorem memo_set {r : Ru} {most : Bool} {T : List (List Int)} {k st n left : Nat} {m : List (RV × RV)} (h : memoV r most T k st m) (i : Nat) : memoV r most T k st (m.set i (.ag [i64 (left : Int),i64 (n : Int)],i64 (valV r most T k st n left))):=fun e he=>by
 rcases List.mem_or_eq_of_mem_set he with he | rfl
 · exact h e he
 · exact ⟨n,left,rfl⟩
theorem memo_app {r : Ru} {most : Bool} {T : List (List Int)} {k st n left : Nat} {m : List (RV × RV)} (h : memoV r most T k st m) : memoV r most T k st (m ++ [(.ag [i64 (left : Int),i64 (n : Int)],i64 (valV r most T k st n left))]):=fun e he=>by
 rcases List.mem_append.1 he with he | he
 · exact h e he
 · rw [List.mem_singleton] at he; exact ⟨n,left,he⟩
abbrev visL (r : Ru) (most : Bool) (T : List (List Int)) (k st : Nat) : List (Nat × RowC):=[(1000,.box (visC r most T (k : Int) (st : Int) 1001 0)),(1001,.mem (memoV r most T k st))]
end Go.Proofs.Ytlljkgiomkmjbaa.Du
