/- Part 8 of the texts of this claim. -/
import Derived.Test.YtlljkgiomkmjbaaVE7
import Derived.Test.YtlljkgiomkmjbaaVE6
namespace Go.Proofs.Ytlljkgiomkmjbaa.Du
open Go Go.Oc
set_option linter.unusedSimpArgs false
set_option linter.unusedVariables false
set_option maxRecDepth 8000
set_option maxHeartbeats 4000000
def totO (cs : List (List Int)) (s : Nat) : Int:=((cs.drop 1).map fun r=>r.getD s 0).sum
theorem total_ok (bs : List Int) (g : Int) (cs : List (List Int)) (s n : Nat) (h1 : 1 ≤ cs.length ∧ cs.length ≤ 10) (hr : ∀ r ∈ cs,r.length = n ∧ ∀ x ∈ r,0 ≤ x ∧ x ≤ 1000000000000) (hs : s < n) :
 ACalls Try.prog 58 [brdP bs g cs,i64 (s : Int)] (i64 (totO cs s)):=by
 obtain ⟨ds,hds⟩ : ∃ ds,ds = cs.drop 1:=⟨_,rfl⟩
 have hdl : ds.length ≤ 9:=by rw [hds,List.length_drop]; omega
 have hdr : ∀ r ∈ ds,r.length = n ∧ ∀ x ∈ r,0 ≤ x ∧ x ≤ 1000000000000:=fun r hr'=>hr r (by rw [hds] at hr'; exact List.mem_of_mem_drop hr')
 have hto : totO cs s = (ds.map fun r=>r.getD s 0).sum:=by rw [hds]; rfl
 have hdm : List.drop 1 (cs.map fun r=>[ints r]) = ds.map fun r=>[ints r]:=by rw [hds,List.map_drop]
 rw [hto]
 refine acalls_st (rs:=[i64 ((ds.map fun r=>r.getD s 0).sum)]) [.tmp 4] Try.func58 rfl (by kernel_rfl) Try.ntmps58 rfl (by simp) rfl fun C vs=>?_
 repeat refine zq ?_
 refine zb fun K hK=>?_;simp only [go_sem];(try simp (disch:=omega) only [zI]);repeat first | intro _ | refine ⟨by omega,?_⟩
 refine hK _ ?_;clear hK K;refine zw (zk [0,1,4]) ?_;simp only [go_sem]
 repeat refine zq ?_
 refine zb fun K hK=>?_;simp only [go_sem,hdm,List.length_map];(try simp (disch:=omega) only [zI]);repeat first | intro _ | refine ⟨by omega,?_⟩
 repeat first | intro _ | refine ⟨by omega,?_⟩
 refine hK _ ?_;clear hK K;refine zw (zk [1,4,11,12,13]) ?_;simp only [go_sem]
 repeat refine zq ?_
 refine zd ?_
 refine awp_upto (n:=25) ds.length (fun i vs=>[(1,.r (i64 (s : Int))),(4,.r (i64 (((ds.take i).map fun r=>r.getD s 0).sum))),(11,.r (tabR ds)),(12,.r (i64 (ds.length : Int))),(13,.r (i64 (i : Int)))])
  (fun i=>[]) (fun _=>True) 0 (fit_of [] ?_ ?_) (Nat.zero_le _) trivial ?_
 · try simp only [go_sem]
   try rfl
 · try simp only [go_sem]
 · intro i vs hi _
   by_cases hin : i < ds.length
   · obtain ⟨r,hri⟩:=opt_of_lt hin
     obtain ⟨r1,r2⟩:=hdr r (mem_of_opt hri)
     obtain ⟨v,hv⟩:=opt_of_lt (l:=r) (i:=s) (by omega)
     have hvM:=r2 v (mem_of_opt hv)
     have hsr : s < r.length:=by omega
     have hsum : ∀ j,j ≤ ds.length → 0 ≤ ((ds.take j).map fun r=>r.getD s 0).sum ∧ ((ds.take j).map fun r=>r.getD s 0).sum ≤ 1000000000000 * j:=by
      intro j
      induction j with
      | zero=>intro _; simp
      | succ j ih =>
        intro hj
        obtain ⟨q,hq⟩:=opt_of_lt (l:=ds) (i:=j) (by omega)
        obtain ⟨q1,q2⟩:=hdr q (mem_of_opt hq)
        obtain ⟨y,hy⟩:=opt_of_lt (l:=q) (i:=s) (by omega)
        have hyM:=q2 y (mem_of_opt hy)
        have:=ih (by omega)
        rw [take_of_opt hq,List.map_append,List.sum_append]
        simp only [List.map_cons,List.map_nil,List.sum_cons,List.sum_nil,List.getD_eq_getElem?_getD,hy,Option.getD_some] at *
        omega
     have hsi:=hsum i (by omega)
     rw [take_of_opt hri,List.map_append,List.sum_append]
     have hgv : ([r].map fun r=>r.getD s 0).sum = v:=by simp [hv]
     rw [hgv]
     generalize ((ds.take i).map fun r=>r.getD s 0).sum = Z at *
     have wz : IntKind.i64.wrap (Z + v) = Z + v:=by rw [zI] <;> omega
     repeat refine zq ?_
     refine zb fun K hK=>?_;simp only [go_sem,hin];(try simp (disch:=omega) only [zI]);repeat first | intro _ | refine ⟨by omega,?_⟩
     refine hK _ ?_;clear hK K;refine zw (zk [1,4,11,12,13,14]) ?_;simp only [go_sem]
     repeat refine zq ?_
     refine zc rfl (fun hc=>?_) (fun hc=>?_) <;> (try simp only [go_sem] at hc)
     refine zx ?_
     try simp only [go_sem]
     repeat refine zq ?_
     refine zd ?_
     repeat refine zq ?_
     refine zb fun K hK=>?_;simp only [go_sem,hri,hin,List.length_map];(try simp (disch:=omega) only [zI]);repeat first | intro _ | refine ⟨by omega,?_⟩
     refine hK _ ?_;clear hK K;refine zw (zk [1,4,6,11,12,13]) ?_;simp only [go_sem]
     repeat refine zq ?_
     refine zb fun K hK=>?_;simp only [go_sem,hv,hsr,wz,List.length_map];(try simp (disch:=omega) only [zI]);repeat first | intro _ | refine ⟨by omega,?_⟩
     repeat first | intro _ | refine ⟨by omega,?_⟩
     refine hK _ ?_;clear hK K;refine zw (zk [1,4,11,12,13]) ?_;simp only [go_sem]
     repeat refine zq ?_
     refine zb fun K hK=>?_;simp only [go_sem];(try simp (disch:=omega) only [zI]);repeat first | intro _ | refine ⟨by omega,?_⟩
     refine hK _ ?_;clear hK K
     try simp only [go_sem]
     refine ⟨by omega,fit_of [] ?_ ?_⟩
     · try simp only [go_sem]
     · try simp only [go_sem]
   · have hie : i = ds.length:=by omega
     subst hie
     rw [List.take_length]
     repeat refine zq ?_
     refine zb fun K hK=>?_;simp only [go_sem,Nat.lt_irrefl];(try simp (disch:=omega) only [zI]);repeat first | intro _ | refine ⟨by omega,?_⟩
     refine hK _ ?_;clear hK K;refine zw (zk [4,14]) ?_;simp only [go_sem]
     repeat refine zq ?_
     refine zc rfl (fun hc=>?_) (fun hc=>?_) <;> (try simp only [go_sem] at hc)
     refine zf ?_;simp only [go_sem]
     repeat refine zq ?_
     refine zb fun K hK=>?_;simp only [go_sem];(try simp (disch:=omega) only [zI]);repeat first | intro _ | refine ⟨by omega,?_⟩
     refine hK _ ?_;clear hK K;refine zw (zk [4]) ?_;simp only [go_sem];refine ze ?_;simp only [go_sem]
def stepB (l : List Int) (b : Int) (x : Int × Int) : Int:=if l.getD x.2.toNat 0 ≠ -1 ∧ (b = -1 ∨ l.getD x.2.toNat 0 + 1 < b) then l.getD x.2.toNat 0 + 1 else b
def bestF (l : List Int) (T : List (Int × Int)) : Int:=T.foldl (stepB l) (-1)
def fewO (g : Int) (bs : List Int) : Nat → List Int
 | 0=>[0]
 | n + 1=>fewO g bs n ++ [bestF (fewO g bs n) (throwsO g ((n + 1 : Nat) : Int) bs)]
theorem few_len (g : Int) (bs : List Int) : ∀ n,(fewO g bs n).length = n + 1
 | 0=>rfl
 | n + 1=>by simp [fewO,few_len g bs n]
theorem best_snoc (l : List Int) (T : List (Int × Int)) (x : Int × Int) : bestF l (T ++ [x]) = stepB l (bestF l T) x:=by simp [bestF]
theorem best_le {l : List Int} {M : Int} (h : ∀ x ∈ l,-1 ≤ x ∧ x ≤ M) (h0 : 0 ≤ M) : ∀ T : List (Int × Int),∀ b : Int,-1 ≤ b ∧ b ≤ M + 1 → -1 ≤ T.foldl (stepB l) b ∧ T.foldl (stepB l) b ≤ M + 1
 | [],b,hb=>hb
 | x :: T, b, hb => by
   rw [List.foldl_cons]
   refine best_le h h0 T _ ?_
   have hx : -1 ≤ l.getD x.2.toNat 0 ∧ l.getD x.2.toNat 0 ≤ M:=by
    rw [List.getD_eq_getElem?_getD]
    cases e : l[x.2.toNat]? with
    | none=>simp; omega
    | some y=>exact h y (mem_of_opt e)
   unfold stepB
   split <;> omega
theorem few_le (g : Int) (bs : List Int) : ∀ n,∀ x ∈ fewO g bs n,-1 ≤ x ∧ x ≤ n
 | 0,x,hx=>by simp [fewO] at hx; omega
 | n + 1, x, hx => by
   unfold fewO at hx
   rw [List.mem_append,List.mem_singleton] at hx
   rcases hx with hx | rfl
   · have:=few_le g bs n x hx; omega
   · have:=best_le (few_le g bs n) (by omega) (throwsO g ((n + 1 : Nat) : Int) bs) (-1) (by omega)
     unfold bestF; omega
theorem fewest_ok (bs : List Int) (g k : Int) (m : Nat) (h : BdsO bs) (hg : 0 ≤ g ∧ g ≤ 2) (hk : 1 ≤ k ∧ k ≤ 9) (hm : m ≤ 1000) :
 ACalls Try.prog 20 [ouR bs g k,i64 (m : Int)] (.tu [ints (fewO g bs m),i64 0]):=by
 have hcm:=checkMost_ok bs g k m h hg hk (by omega)
 have hB : ∀ b ∈ bs,bedOk b = true:=fun b hb=>(h.bed b hb).1
 have hbd:=board_ok bs g 0 0 (fun b hb=>h.bed b hb) h.len (by omega) (by omega)
 have hz0 : ((0 : Int) != 0) = false:=rfl
 generalize cntO g bs 0 0 = cs at *
 have hth:=throws_ok bs g cs
 refine acalls_stR (rs:=[ints (fewO g bs m),i64 0]) [.cell 4 41,.tmp 5] Try.func20 rfl (by kernel_rfl) Try.ntmps20 rfl (by simp) rfl fun C hC vs=>?_
 repeat refine zq ?_
 refine zb fun K hK=>?_;simp only [go_sem];(try simp (disch:=omega) only [zI]);repeat first | intro _ | refine ⟨by omega,?_⟩
 refine hK _ ?_;clear hK K;refine zw (sub_frzP 2 2 [ints bs,i64 g,i64 k] (by omega) rfl rfl) ?_;refine zw (zk [1,2,4,5]) ?_;simp only [go_sem]
 repeat refine zq ?_
 refine zb fun K hK=>?_;simp only [go_sem];(try simp (disch:=omega) only [zI])
 refine zh (hcm) rfl (by simp only [go_sem,i64,ints]) (by simp only [go_sem,i64,ints]) (by first | exact .inl rfl | exact .inr rfl) ?_
 (try simp only [go_sem]);(try simp (disch:=omega) only [zI]);repeat first | intro _ | refine ⟨by omega,?_⟩
 refine hK _ ?_;clear hK K;refine zw (zk [1,2,4,5,6]) ?_;simp only [go_sem]
 repeat refine zq ?_
 refine zb fun K hK=>?_;simp only [go_sem,hz0];(try simp (disch:=omega) only [zI]);repeat first | intro _ | refine ⟨by omega,?_⟩
 refine hK _ ?_;clear hK K;refine zw (zk [1,2,4,5,17]) ?_;simp only [go_sem]
 repeat refine zq ?_
 refine zc rfl (fun hc=>?_) (fun hc=>?_) <;> (try simp only [go_sem] at hc)
 refine zx ?_
 try simp only [go_sem]
 repeat refine zq ?_
 refine zb fun K hK=>?_;simp only [go_sem];(try simp (disch:=omega) only [zI])
 refine zh (hbd) rfl (by simp only [go_sem,i64,ints]) (by simp only [go_sem,i64,ints]) (by first | exact .inl rfl | exact .inr rfl) ?_
 (try simp only [go_sem]);(try simp (disch:=omega) only [zI]);repeat first | intro _ | refine ⟨by omega,?_⟩
 refine hK _ ?_;clear hK K;refine zw (sub_ownB 4 0 304 3 1 (by omega) (by omega) rfl (by simp only [go_sem,List.getElem?_cons_succ,List.getElem?_cons_zero])) ?_;refine zw (zk [1,4,7]) ?_;simp only [go_sem]
 repeat refine zq ?_
 refine zb fun K hK=>?_;simp only [go_sem];(try simp (disch:=omega) only [zI]);repeat first | intro _ | refine ⟨by omega,?_⟩
 refine hK _ ?_;clear hK K;refine zw (zk [1,4,7]) ?_;simp only [go_sem]
 repeat refine zq ?_
 refine zb fun K hK=>?_;simp only [go_sem];(try simp (disch:=omega) only [zI]);repeat first | intro _ | refine ⟨by omega,?_⟩
 refine hK _ ?_;clear hK K;refine zw (zk [4,7,27,28]) ?_;simp only [go_sem]
 repeat refine zq ?_
 refine zd ?_
 refine awp_uptoV (n:=61) m (fun i vs=>[(4,.pt 4 (vs 4) 0),(7,.r (brdP bs g cs)),(27,.r (i64 (m : Int))),(28,.r (i64 (i : Int)))])
  (fun i vs=>[(4,.box [.os 304 (vs 304) 1 0 (i + 1)]),(304,.arr 3 1 (arrN (fewO g bs i)))]) (fun _=>True) 0 (zj [] ?_ ?_) (Nat.zero_le _) trivial ?_
 · try simp only [go_sem]
   try rfl
 · try simp only [go_sem]
   try rfl
 · intro i vs hi _
   by_cases hin : i < m
   · have hfl:=few_len g bs i
     have hfe:=few_le g bs i
     have hfs : fewO g bs (i + 1) = fewO g bs i ++ [bestF (fewO g bs i) (throwsO g ((i + 1 : Nat) : Int) bs)]:=rfl
     have hmem:=fun x (hx : x ∈ throwsO g ((i + 1 : Nat) : Int) bs)=>throws_mem hB hx
     have hit:=throws1_ok bs g cs ((i + 1 : Nat) : Int) (by omega) (fun b hb=>(h.bed b hb).2)
     have hti:=hth ((i + 1 : Nat) : Int)
     have wi : IntKind.i64.wrap ((i : Int) + 1) = ((i + 1 : Nat) : Int):=by rw [zI] <;> omega
     rw [hfs]
     generalize hL : fewO g bs i = L at *
     generalize hT : throwsO g ((i + 1 : Nat) : Int) bs = T at *
     have hbsn:=best_snoc L
     have hble:=fun U=>best_le hfe (by omega) U (-1) (by omega)
     repeat refine zq ?_
     refine zb fun K hK=>?_;simp only [go_sem,hin];(try simp (disch:=omega) only [zI]);repeat first | intro _ | refine ⟨by omega,?_⟩
     refine hK _ ?_;clear hK K;refine zw (zk [4,7,27,28,29]) ?_;simp only [go_sem]
     repeat refine zq ?_
     refine zc rfl (fun hc=>?_) (fun hc=>?_) <;> (try simp only [go_sem] at hc)
     refine zx ?_
     try simp only [go_sem]
     repeat refine zq ?_
     refine zd ?_
     repeat refine zq ?_
     refine zb fun K hK=>?_;simp only [go_sem];(try simp (disch:=omega) only [zI]);repeat first | intro _ | refine ⟨by omega,?_⟩
     refine hK _ ?_;clear hK K;refine zw (zk [4,7,8,27,28]) ?_;simp only [go_sem]
     repeat refine zq ?_
     refine zb fun K hK=>?_;simp only [go_sem];(try simp (disch:=omega) only [zI]);repeat first | intro _ | refine ⟨by omega,?_⟩
     refine hK _ ?_;clear hK K;refine zw (zk [4,7,8,9,27,28]) ?_;simp only [go_sem]
     repeat refine zq ?_
     refine zb fun K hK=>?_;simp only [go_sem,wi];(try simp (disch:=omega) only [zI])
     refine zh (hti) rfl (by simp only [go_sem,i64,ints,wi]) (by simp only [go_sem,i64,ints,wi]) (by first | exact .inl rfl | exact .inr rfl) ?_
     (try simp only [go_sem,wi]);(try simp (disch:=omega) only [zI]);repeat first | intro _ | refine ⟨by omega,?_⟩
     repeat first | intro _ | refine ⟨by omega,?_⟩
     refine hK _ ?_;clear hK K;refine zw (zk [4,7,9,27,28,34]) ?_;simp only [go_sem]
     repeat refine zq ?_
     refine zd ?_
     refine awp_rangeF hC (T.map thrR) hit [4,7,9,27,28,34] (by decide) (fun vs=>[(4,.pt 4 (vs 4) 0),(7,.r (brdP bs g cs)),(9,.pt 9 (vs 9) 0),(27,.r (i64 (m : Int))),(28,.r (i64 (i : Int))),(34,.r (.fn 106 [.rp [brdP bs g cs],.rp [i64 ((i + 1 : Nat) : Int)]]))])
      (fun j vs=>[(4,.box [.os 304 (vs 304) 1 0 (i + 1)]),(9,.box [.r (i64 (bestF L (T.take j)))]),(304,.arr 3 1 (arrN L))]) (fun _=>True) (zj [] ?_ ?_) trivial (fun _=>rfl) (fun _=>rfl) (fun _ _=>rfl) (by simp) (fun e he=>by obtain ⟨x,_,rfl⟩:=List.mem_map.1 he; rfl) ?_ ?_
     · try simp only [go_sem]
       try rfl
     · try simp only [go_sem]
       try rfl
     · intro j e vs us C' he _
       rw [List.getElem?_map] at he
       obtain ⟨x,hx,rfl⟩:=Option.map_eq_some_iff.1 he
       obtain ⟨m1,m2,m3,m4⟩:=hmem x (mem_of_opt hx)
       have hj:=(List.getElem?_eq_some_iff.1 hx).1
       repeat refine zq ?_
       refine zb fun K hK=>?_;simp only [go_sem];(try simp (disch:=omega) only [zI]);repeat first | intro _ | refine ⟨by omega,?_⟩
       refine hK _ ?_;clear hK K
       refine ⟨rfl,fun C'=>?_⟩
       refine zw (zk [4,7,9,11,27,28,34]) ?_;simp only [go_sem];rw [take_of_opt hx,hbsn]
       have hv : -1 ≤ bestF L (T.take j) ∧ bestF L (T.take j) ≤ (i : Int) + 1:=hble (T.take j)
       have hx2 : x.2 = ((x.2.toNat : Nat) : Int):=by omega
       have hx3 : x.2.toNat < i + 1:=by omega
       obtain ⟨y,hy⟩:=opt_of_lt (l:=L) (i:=x.2.toNat) (by omega)
       have hyM:=hfe y (mem_of_opt hy)
       have hst : stepB L (bestF L (T.take j)) x = if y ≠ -1 ∧ (bestF L (T.take j) = -1 ∨ y + 1 < bestF L (T.take j)) then y + 1 else bestF L (T.take j):=by
        unfold stepB
        rw [List.getD_eq_getElem?_getD,hy]; rfl
       rw [hst]
       generalize bestF L (T.take j) = B at *
       rw [hx2]
       generalize x.2.toNat = q at *
       have hqL : q < L.length:=by omega
       have wy : IntKind.i64.wrap (y + 1) = y + 1:=by rw [zI] <;> omega
       repeat refine zq ?_
       refine zd ?_
       repeat refine zq ?_
       refine zb fun K hK=>?_;simp only [go_sem,hy,hqL,hx3,hfl,List.length_map];(try simp (disch:=omega) only [zI]);repeat first | intro _ | refine ⟨by omega,?_⟩
       repeat first | intro _ | refine ⟨by omega,?_⟩
       refine hK _ ?_;clear hK K;refine zw (zk [4,7,9,12,27,28,34]) ?_;simp only [go_sem]
       by_cases c0 : y = -1
       · have e0 : (y != -1) = false:=by simp [c0]
         rw [if_neg (fun hh=>hh.1 c0)]
         repeat refine zq ?_
         refine zb fun K hK=>?_;simp only [go_sem,e0];(try simp (disch:=omega) only [zI]);repeat first | intro _ | refine ⟨by omega,?_⟩
         refine hK _ ?_;clear hK K;refine zw (zk [4,7,9,12,27,28,34,52]) ?_;simp only [go_sem]
         repeat refine zq ?_
         refine zc rfl (fun hc=>?_) (fun hc=>?_) <;> (try simp only [go_sem] at hc)
         refine zx ?_
         try simp only [go_sem]
         refine zj (F:=fun _=>[]) [] ?_ ?_
         · try simp only [go_sem]
         · try simp only [go_sem]
       · have e0 : (y != -1) = true:=by simp [c0]
         by_cases c1 : B = -1
         · have e1 : (B == -1) = true:=by simp [c1]
           rw [if_pos ⟨c0,.inl c1⟩]
           repeat refine zq ?_
           refine zb fun K hK=>?_;simp only [go_sem,e0,e1];(try simp (disch:=omega) only [zI]);repeat first | intro _ | refine ⟨by omega,?_⟩
           refine hK _ ?_;clear hK K;refine zw (zk [4,7,9,12,27,28,34,52]) ?_;simp only [go_sem]
           repeat refine zq ?_
           refine zc rfl (fun hc=>?_) (fun hc=>?_) <;> (try simp only [go_sem] at hc)
           repeat refine zq ?_
           refine zb fun K hK=>?_;simp only [go_sem,wy];(try simp (disch:=omega) only [zI]);repeat first | intro _ | refine ⟨by omega,?_⟩
           repeat first | intro _ | refine ⟨by omega,?_⟩
           refine hK _ ?_;clear hK K
           try simp only [go_sem]
           refine zj (F:=fun _=>[]) [] ?_ ?_
           · try simp only [go_sem]
           · try simp only [go_sem]
         · have e1 : (B == -1) = false:=by simp [c1]
           by_cases c2 : y + 1 < B
           · have e2 : decide (y + 1 < B) = true:=decide_eq_true c2
             rw [if_pos ⟨c0,.inr c2⟩]
             repeat refine zq ?_
             refine zb fun K hK=>?_;simp only [go_sem,e0,e1,wy,e2];(try simp (disch:=omega) only [zI]);repeat first | intro _ | refine ⟨by omega,?_⟩
             repeat first | intro _ | refine ⟨by omega,?_⟩
             refine hK _ ?_;clear hK K;refine zw (zk [4,7,9,12,27,28,34,52]) ?_;simp only [go_sem]
             repeat refine zq ?_
             refine zc rfl (fun hc=>?_) (fun hc=>?_) <;> (try simp only [go_sem] at hc)
             repeat refine zq ?_
             refine zb fun K hK=>?_;simp only [go_sem,wy];(try simp (disch:=omega) only [zI]);repeat first | intro _ | refine ⟨by omega,?_⟩
             repeat first | intro _ | refine ⟨by omega,?_⟩
             refine hK _ ?_;clear hK K
             try simp only [go_sem]
             refine zj (F:=fun _=>[]) [] ?_ ?_
             · try simp only [go_sem]
             · try simp only [go_sem]
           · have e2 : decide (y + 1 < B) = false:=decide_eq_false c2
             rw [if_neg (fun hh=>hh.2.elim c1 c2)]
             repeat refine zq ?_
             refine zb fun K hK=>?_;simp only [go_sem,e0,e1,wy,e2];(try simp (disch:=omega) only [zI]);repeat first | intro _ | refine ⟨by omega,?_⟩
             repeat first | intro _ | refine ⟨by omega,?_⟩
             refine hK _ ?_;clear hK K;refine zw (zk [4,7,9,12,27,28,34,52]) ?_;simp only [go_sem]
             repeat refine zq ?_
             refine zc rfl (fun hc=>?_) (fun hc=>?_) <;> (try simp only [go_sem] at hc)
             refine zx ?_
             try simp only [go_sem]
             refine zj (F:=fun _=>[]) [] ?_ ?_
             · try simp only [go_sem]
             · try simp only [go_sem]
     · intro vs us _
       try simp only [go_sem]
       refine zw (sub_wake rfl) ?_
       try simp only [List.length_map,List.take_length]
       repeat refine zq ?_
       refine zb fun K hK=>?_;simp only [go_sem,hfl,List.length_map];(try simp (disch:=omega) only [zI]);repeat first | intro _ | refine ⟨by omega,?_⟩
       refine hK _ ?_;clear hK K;refine zw (zk [4,7,27,28]) ?_;simp only [go_sem]
       repeat refine zq ?_
       refine zb fun K hK=>?_;simp only [go_sem];(try simp (disch:=omega) only [zI]);repeat first | intro _ | refine ⟨by omega,?_⟩
       refine hK _ ?_;clear hK K
       try simp only [go_sem]
       refine ⟨by omega,zj [9] ?_ ?_⟩
       · try simp only [go_sem]
       · try simp only [go_sem]
         try simp
   · have hie : i = m:=by omega
     subst hie
     have hfl:=few_len g bs i
     generalize fewO g bs i = L at *
     repeat refine zq ?_
     refine zb fun K hK=>?_;simp only [go_sem,Nat.lt_irrefl];(try simp (disch:=omega) only [zI]);repeat first | intro _ | refine ⟨by omega,?_⟩
     refine hK _ ?_;clear hK K;refine zw (zk [4,29]) ?_;simp only [go_sem]
     repeat refine zq ?_
     refine zc rfl (fun hc=>?_) (fun hc=>?_) <;> (try simp only [go_sem] at hc)
     refine zf ?_;simp only [go_sem];refine zw (sub_frzB 4 0 304 (ty:=3) (sz:=1) (off:=0) (m:=i + 1) (es:=arrN L) (by omega) (by omega) rfl (by simp only [go_sem,List.getElem?_cons_succ,List.getElem?_cons_zero]) (by rfl) (by simp [hfl])) ?_
     have tk1 : List.take (i + 1) (arrN L) = arrN L:=List.take_of_length_le (by simp [hfl])
     simp only [go_sem,List.drop_zero,tk1,List.set_cons_succ,List.set_cons_zero]
     repeat refine zq ?_
     refine zb fun K hK=>?_;simp only [go_sem];(try simp (disch:=omega) only [zI]);repeat first | intro _ | refine ⟨by omega,?_⟩
     refine hK _ ?_;clear hK K;refine zw (zk [4,5]) ?_;simp only [go_sem];refine ze ?_;simp only [go_sem]
abbrev finC (bs : List Int) (g k : Int) (dn s : Nat) : List RV:=[brdP bs g (cntO g bs s dn),ints bs,i64 g,i64 k,i64 (s : Int)]
theorem newFinish_ok (bs : List Int) (g : Int) (dn s : Nat) (h : BdsO bs) (hg : 0 ≤ g ∧ g ≤ 2) (hk : 1 ≤ dn ∧ dn ≤ 6) (hs : 1 ≤ s ∧ s ≤ 1000) :
 ACalls Try.prog 65 [ouR bs g (dn : Int),i64 (s : Int)] (.tu [.ag (finC bs g (dn : Int) dn s),i64 0]):=by
 have hch:=ocheck_ok bs g (dn : Int) h hg (by omega)
 have w1 : withinL 1 1001 [(s : Int)] = true:=by simp [withinL]; omega
 have c1:=owithin_ok 1 1001 [(s : Int)]
 rw [w1] at c1
 have hbd:=board_ok bs g dn s (fun b hb=>h.bed b hb) h.len (by omega) (by omega)
 have z0 : ((0 : Int) != 0) = false:=rfl
 refine acalls_st (rs:=[.ag (finC bs g (dn : Int) dn s),i64 0]) [.cell 4 192,.tmp 5] Try.func65 rfl (by kernel_rfl) Try.ntmps65 rfl (by simp) rfl fun C vs=>?_
 repeat refine zq ?_
 refine zb fun K hK=>?_;simp only [go_sem];(try simp (disch:=omega) only [zI]);repeat first | intro _ | refine ⟨by omega,?_⟩
 refine hK _ ?_;clear hK K;refine zw (sub_frzP 2 2 [ints bs,i64 g,i64 (dn : Int)] (by omega) rfl rfl) ?_;refine zw (zk [1,2,4]) ?_;simp only [go_sem]
 repeat refine zq ?_
 refine zd ?_
 repeat refine zq ?_
 refine zb fun K hK=>?_;simp only [go_sem];(try simp (disch:=omega) only [zI])
 refine zh (hch) rfl (by simp only [go_sem,i64,ints,z0]) (by simp only [go_sem,i64,ints,z0]) (by first | exact .inl rfl | exact .inr rfl) ?_
 (try simp only [go_sem,z0]);(try simp (disch:=omega) only [zI]);repeat first | intro _ | refine ⟨by omega,?_⟩
 refine hK _ ?_;clear hK K;refine zw (zk [1,2,4,6]) ?_;simp only [go_sem]
 repeat refine zq ?_
 refine zc rfl (fun hc=>?_) (fun hc=>?_) <;> (try simp only [go_sem] at hc)
 repeat refine zq ?_
 refine zb fun K hK=>?_;simp only [go_sem];(try simp (disch:=omega) only [zI])
 refine zh (c1) rfl (by simp only [go_sem,i64,ints]) (by simp only [go_sem,i64,ints]) (by first | exact .inl rfl | exact .inr rfl) ?_
 (try simp only [go_sem]);(try simp (disch:=omega) only [zI]);repeat first | intro _ | refine ⟨by omega,?_⟩
 refine hK _ ?_;clear hK K;refine zw (zk [1,2,4,11]) ?_;simp only [go_sem]
 repeat refine zq ?_
 refine zc rfl (fun hc=>?_) (fun hc=>?_) <;> (try simp only [go_sem] at hc)
 refine zx ?_
 try simp only [go_sem]
 repeat refine zq ?_
 refine awp_dreg2 [(2,none),(4,some 4)] follows (by decide +kernel) (by kernel_rfl) (by simp only [keysOk,List.mem_cons,List.not_mem_nil,forall_eq_or_imp,Oc.keyOf,go_sem]; simp) fun K hK=>?_
 simp only [go_sem];(try simp (disch:=omega) only [zI])
 refine zh (hbd) rfl (by simp only [go_sem,i64,ints]) (by simp only [go_sem,i64,ints]) (by first | exact .inl rfl | exact .inr rfl) ?_
 (try simp only [go_sem]);(try simp (disch:=omega) only [zI]);repeat first | intro _ | refine ⟨by omega,?_⟩
 refine hK _ ?_;clear hK K;refine zw (zk [4,5]) ?_;simp only [go_sem];refine ze ?_;simp only [go_sem]
 try exact rv_le _
theorem number_ok2 (bs : List Int) (g : Int) (dn s : Nat) (h : BdsO bs) (hg : 0 ≤ g ∧ g ≤ 2) (hk : 1 ≤ dn ∧ dn ≤ 6) (hs : 1 ≤ s ∧ s ≤ 1000) :
 ACalls Try.prog 59 [ouR bs g (dn : Int),i64 (s : Int)] (.tu [i64 (totO (cntO g bs s dn) s),i64 0]):=by
 have hnf:=newFinish_ok bs g dn s h hg hk hs
 have hcl:=cnt_len g bs s dn
 have hto:=total_ok bs g (cntO g bs s dn) s (s + 1) (by omega) (fun r hr=>by
  obtain ⟨j,hj,rfl⟩:=List.mem_map.1 hr
  have hj:=List.mem_range.1 hj
  exact ⟨rowN_len g bs s j,rowN_le6 g bs h.len s (by omega)⟩) (by omega)
 have z0 : ((0 : Int) != 0) = false:=rfl
 generalize totO (cntO g bs s dn) s = T at *
 refine acalls_st (rs:=[i64 T,i64 0]) [.tmp 4,.tmp 5] Try.func59 rfl (by kernel_rfl) Try.ntmps59 rfl (by simp) rfl fun C vs=>?_
 repeat refine zq ?_
 refine zb fun K hK=>?_;simp only [go_sem];(try simp (disch:=omega) only [zI]);repeat first | intro _ | refine ⟨by omega,?_⟩
 refine hK _ ?_;clear hK K;refine zw (sub_frzP 2 2 [ints bs,i64 g,i64 (dn : Int)] (by omega) rfl rfl) ?_;refine zw (zk [1,2]) ?_;simp only [go_sem]
 repeat refine zq ?_
 refine zb fun K hK=>?_;simp only [go_sem];(try simp (disch:=omega) only [zI])
 refine zh (hnf) rfl (by simp only [go_sem,i64,ints]) (by simp only [go_sem,i64,ints]) (by first | exact .inl rfl | exact .inr rfl) ?_
 (try simp only [go_sem]);(try simp (disch:=omega) only [zI]);repeat first | intro _ | refine ⟨by omega,?_⟩
 refine hK _ ?_;clear hK K;refine zw (sub_frzP 6 6 (finC bs g (dn : Int) dn s) (by omega) rfl rfl) ?_;refine zw (zk [1,6,7]) ?_;simp only [go_sem]
 repeat refine zq ?_
 refine zb fun K hK=>?_;simp only [go_sem,z0];(try simp (disch:=omega) only [zI]);repeat first | intro _ | refine ⟨by omega,?_⟩
 refine hK _ ?_;clear hK K;refine zw (zk [1,6,15]) ?_;simp only [go_sem]
 repeat refine zq ?_
 refine zc rfl (fun hc=>?_) (fun hc=>?_) <;> (try simp only [go_sem] at hc)
 refine zx ?_
 try simp only [go_sem]
 repeat refine zq ?_
 refine zb fun K hK=>?_;simp only [go_sem];(try simp (disch:=omega) only [zI])
 refine zh (hto) rfl (by simp only [go_sem,i64,ints]) (by simp only [go_sem,i64,ints]) (by first | exact .inl rfl | exact .inr rfl) ?_
 (try simp only [go_sem]);(try simp (disch:=omega) only [zI]);repeat first | intro _ | refine ⟨by omega,?_⟩
 refine hK _ ?_;clear hK K;refine zw (zk [4,5]) ?_;simp only [go_sem];refine ze ?_;simp only [go_sem]
def sixO : List Int:=[120,125,205,220,225,320]
theorem sixO_ok : BdsO sixO:=⟨by decide,by decide,by decide,by decide⟩
theorem pubOut_ok : ACalls Try.prog 22 [] (.bo true):=by
 have h1:=number_ok2 sixO 1 2 60 sixO_ok (by omega) (by omega) (by omega)
 have h2:=fewest_ok sixO 1 2 40 sixO_ok (by omega) (by omega) (by omega)
 have e1 : totO (cntO 1 sixO 60 2) 60 = 3:=by decide +kernel
 have e2 : (fewO 1 sixO 40)[35]? = some 2:=by decide +kernel
 have e3 : (fewO 1 sixO 40)[25]? = some (-1):=by decide +kernel
 have e4:=few_len 1 sixO 40
 rw [e1] at h1
 generalize fewO 1 sixO 40 = F at *
 have z0 : ((0 : Int) == 0) = true:=rfl
 have l35 : 35 < F.length:=by omega
 have l25 : 25 < F.length:=by omega
 refine acalls_st (rs:=[.bo true]) [.tmp 0] Try.func22 rfl (by kernel_rfl) Try.ntmps22 rfl (by simp) rfl fun C vs=>?_
 repeat refine zq ?_
 refine zb fun K hK=>?_;simp only [go_sem];(try simp (disch:=omega) only [zI]);repeat first | intro _ | refine ⟨by omega,?_⟩
 refine hK _ ?_;clear hK K;refine zw (zk [0]) ?_;simp only [go_sem]
 repeat refine zq ?_
 refine zb fun K hK=>?_;simp only [go_sem];(try simp (disch:=omega) only [zI]);repeat first | intro _ | refine ⟨by omega,?_⟩
 refine hK _ ?_;clear hK K;refine zw (sub_frzP 1 1 [ints sixO,i64 1,i64 2] (by omega) rfl rfl) ?_;refine zw (zk [0,1]) ?_;simp only [go_sem]
 repeat refine zq ?_
 refine zb fun K hK=>?_;simp only [go_sem];(try simp (disch:=omega) only [zI])
 refine zh (h1) rfl (by simp only [go_sem,i64,ints]) (by simp only [go_sem,i64,ints]) (by first | exact .inl rfl | exact .inr rfl) ?_
 (try simp only [go_sem]);(try simp (disch:=omega) only [zI]);repeat first | intro _ | refine ⟨by omega,?_⟩
 refine hK _ ?_;clear hK K;refine zw (zk [0,1,2,3]) ?_;simp only [go_sem]
 repeat refine zq ?_
 refine zb fun K hK=>?_;simp only [go_sem];(try simp (disch:=omega) only [zI])
 refine zh (h2) rfl (by simp only [go_sem,i64,ints]) (by simp only [go_sem,i64,ints]) (by first | exact .inl rfl | exact .inr rfl) ?_
 (try simp only [go_sem]);(try simp (disch:=omega) only [zI]);repeat first | intro _ | refine ⟨by omega,?_⟩
 refine hK _ ?_;clear hK K;refine zw (zk [0,2,3,4,5]) ?_;simp only [go_sem]
 repeat refine zq ?_
 refine zb fun K hK=>?_;simp only [go_sem,z0,e2,e3,e4,l35,l25,List.length_map,beq_self_eq_true];(try simp (disch:=omega) only [zI]);repeat first | intro _ | refine ⟨by omega,?_⟩
 repeat first | intro _ | refine ⟨by omega,?_⟩
 refine hK _ ?_;clear hK K;refine zw (zk [0]) ?_;simp only [go_sem];refine ze ?_;simp only [go_sem]
 try rfl
theorem tables_ok (A B : List (List Int)) (n st : Nat) (hn : n ≤ 1000) (hs : st ≤ 1000) (h1 : A.length = n ∧ ∀ r ∈ A,r.length = st + 1) (h2 : B.length = n ∧ ∀ r ∈ B,r.length = st + 1) :
 ACalls Try.prog 35 [tabR A,tabR B,i64 (n : Int),i64 (st : Int)] (.bo true):=by
 have w1 : IntKind.i64.wrap ((st : Int) + 1) = (st : Int) + 1:=by rw [zI] <;> omega
 refine acalls_st (rs:=[.bo true]) [.tmp 8] Try.func35 rfl (by kernel_rfl) Try.ntmps35 rfl (by simp) rfl fun C vs=>?_
 repeat refine zq ?_
 refine zb fun K hK=>?_;simp only [go_sem];(try simp (disch:=omega) only [zI]);repeat first | intro _ | refine ⟨by omega,?_⟩
 refine hK _ ?_;clear hK K;refine zw (zk [0,1,2,3]) ?_;simp only [go_sem]
 repeat refine zq ?_
 refine zb fun K hK=>?_;simp only [go_sem,h1.1,h2.1,List.length_map,bne_self_eq_false];(try simp (disch:=omega) only [zI]);repeat first | intro _ | refine ⟨by omega,?_⟩
 refine hK _ ?_;clear hK K;refine zw (zk [0,1,2,3,19]) ?_;simp only [go_sem]
 repeat refine zq ?_
 refine zc rfl (fun hc=>?_) (fun hc=>?_) <;> (try simp only [go_sem] at hc)
 refine zx ?_
 try simp only [go_sem]
 repeat refine zq ?_
 refine zb fun K hK=>?_;simp only [go_sem];(try simp (disch:=omega) only [zI]);repeat first | intro _ | refine ⟨by omega,?_⟩
 refine hK _ ?_;clear hK K;refine zw (zk [0,1,2,3,9]) ?_;simp only [go_sem]
 repeat refine zq ?_
 refine zd ?_
 refine awp_upto (n:=43) n (fun i vs=>[(0,.r (tabR A)),(1,.r (tabR B)),(2,.r (i64 (n : Int))),(3,.r (i64 (st : Int))),(9,.r (i64 (i : Int)))])
  (fun i=>[]) (fun _=>True) 0 (fit_of [] ?_ ?_) (Nat.zero_le _) trivial ?_
 · try simp only [go_sem]
 · try simp only [go_sem]
 · intro i vs hi _
   by_cases hin : i < n
   · obtain ⟨ra,hra⟩:=opt_of_lt (l:=A) (i:=i) (by omega)
     obtain ⟨rb,hrb⟩:=opt_of_lt (l:=B) (i:=i) (by omega)
     have la:=h1.2 ra (mem_of_opt hra)
     have lb:=h2.2 rb (mem_of_opt hrb)
     have hiA : i < A.length:=by omega
     have hiB : i < B.length:=by omega
     have g1 : decide ((i : Int) < (n : Int)) = true:=decide_eq_true (by omega)
     have e1 : (((st + 1 : Nat) : Int) != (st : Int) + 1) = false:=by simp
     repeat refine zq ?_
     refine zb fun K hK=>?_;simp only [go_sem,hin];(try simp (disch:=omega) only [zI]);repeat first | intro _ | refine ⟨by omega,?_⟩
     refine hK _ ?_;clear hK K;refine zw (zk [0,1,2,3,9,22]) ?_;simp only [go_sem]
     repeat refine zq ?_
     refine zc rfl (fun hc=>?_) (fun hc=>?_) <;> (try simp only [go_sem] at hc)
     refine zx ?_
     try simp only [go_sem]
     repeat refine zq ?_
     refine zd ?_
     repeat refine zq ?_
     refine zb fun K hK=>?_;simp only [go_sem,hra,hrb,la,lb,hiA,hiB,w1,e1,List.length_map,bne_self_eq_false];(try simp (disch:=omega) only [zI]);repeat first | intro _ | refine ⟨by omega,?_⟩
     repeat first | intro _ | refine ⟨by omega,?_⟩
     refine hK _ ?_;clear hK K;refine zw (zk [0,1,2,3,9,42]) ?_;simp only [go_sem]
     repeat refine zq ?_
     refine zc rfl (fun hc=>?_) (fun hc=>?_) <;> (try simp only [go_sem] at hc)
     refine zx ?_
     try simp only [go_sem]
     repeat refine zq ?_
     refine zb fun K hK=>?_;simp only [go_sem];(try simp (disch:=omega) only [zI]);repeat first | intro _ | refine ⟨by omega,?_⟩
     refine hK _ ?_;clear hK K
     try simp only [go_sem]
     refine ⟨by omega,fit_of [] ?_ ?_⟩
     · try simp only [go_sem]
     · try simp only [go_sem]
   · have hie : i = n:=by omega
     subst hie
     repeat refine zq ?_
     refine zb fun K hK=>?_;simp only [go_sem,Nat.lt_irrefl];(try simp (disch:=omega) only [zI]);repeat first | intro _ | refine ⟨by omega,?_⟩
     refine hK _ ?_;clear hK K;refine zw (zk [22]) ?_;simp only [go_sem]
     repeat refine zq ?_
     refine zc rfl (fun hc=>?_) (fun hc=>?_) <;> (try simp only [go_sem] at hc)
     refine zf ?_;simp only [go_sem]
     repeat refine zq ?_
     refine zb fun K hK=>?_;simp only [go_sem];(try simp (disch:=omega) only [zI]);repeat first | intro _ | refine ⟨by omega,?_⟩
     refine hK _ ?_;clear hK K;refine zw (zk [8]) ?_;simp only [go_sem];refine ze ?_;simp only [go_sem]
theorem tab_rows {r : Ru} (h : ruE r = 0) (most : Bool) : (tabF r most).length = r.ends.length ∧ ∀ row ∈ tabF r most,row.length = r.start.toNat + 1:=by
 have hl : (tabF r most).length = r.ends.length:=tabI_len r most _
 refine ⟨hl,fun row hr=>?_⟩
 obtain ⟨j,hj⟩:=List.getElem?_of_mem hr
 have hjl:=(List.getElem?_eq_some_iff.1 hj).1
 have:=tabI_get r most r.ends.length (Nat.le_refl _) j (by omega) (by omega)
 unfold tabF at hj
 rw [hj] at this
 injection this with this
 rw [this]
 simp [rowV]
abbrev Pv:=Int × Int
def fillP : List Pv → Int × Int → Int × Int
 | [],x=>x
 | c :: cs,x=>fillP cs (x.1 - min x.1 c.1,x.2 + min x.1 c.1 * c.2)
theorem fillG_P : ∀ (l : List Bd) (x : Int × Int),fillG l x = fillP (l.map fun c=>(c.hi - c.lo,c.b)) x
 | [],_=>rfl
 | c :: l,x=>by simp only [fillG,List.map_cons,fillP]; exact fillG_P l _
def leD (most : Bool) (x y : Int) : Prop:=if most then y ≤ x else x ≤ y
theorem leD_trans {most : Bool} {x y z : Int} (h : leD most x y) (g : leD most y z) : leD most x z:=by
 unfold leD at *; split at h <;> simp_all <;> omega
abbrev SortP (most : Bool) (S : List Pv) : Prop:=S.Pairwise fun a b=>leD most a.2 b.2
theorem fillP_done : ∀ {S : List Pv} {y : Int},(∀ a ∈ S,0 ≤ a.1) → fillP S (0,y) = (0,y)
 | [],_,_=>rfl
 | c :: S, y, h => by
   have h0:=h c (by simp)
   have e : min 0 c.1 = 0:=by omega
   simp only [fillP,e]
   simpa using fillP_done fun a ha=>h a (by simp [ha])
theorem insB_pw {most : Bool} {x : Bd} : ∀ {R : List Bd},R.Pairwise (fun y z=>leD most z.b y.b) → (insB (ltD most) x R).Pairwise (fun y z=>leD most z.b y.b)
 | [],_=>by simp [insB]
 | y :: R, h => by
   obtain ⟨h1,h2⟩:=List.pairwise_cons.1 h
   unfold insB
   split
   · rename_i hlt
     refine List.pairwise_cons.2 ⟨fun z hz=>?_,insB_pw h2⟩
     rcases (mem_insB _ _ _ _).1 hz with rfl | hz
     · unfold ltD at hlt; unfold leD; cases most <;> simp at hlt ⊢ <;> omega
     · exact h1 z hz
   · rename_i hlt
     have hyx : leD most y.b x.b:=by unfold ltD at hlt; unfold leD; cases most <;> simp at hlt ⊢ <;> omega
     refine List.pairwise_cons.2 ⟨fun z hz=>?_,h⟩
     rcases List.mem_cons.1 hz with rfl | hz
     · exact hyx
     · exact leD_trans (h1 z hz) hyx
theorem sortB_pw {most : Bool} : ∀ {l R : List Bd},R.Pairwise (fun y z=>leD most z.b y.b) → (sortB (ltD most) l R).Pairwise (fun y z=>leD most z.b y.b)
 | [],_,h=>h
 | x :: l,R,h=>by rw [sortB]; exact sortB_pw (insB_pw h)
theorem sortN_pw {most : Bool} (l : List Bd) : (sortN (ltD most) l).Pairwise (fun y z=>leD most y.b z.b):=by
 unfold sortN
 rw [List.pairwise_reverse]
 exact sortB_pw List.Pairwise.nil
def beats (most : Bool) (x y : Int) : Bool:=if most then decide (y < x) else decide (x < y)
def bestI (most : Bool) (M V : List Int) : Nat → Int
 | 0=>-1
 | i + 1=>if decide (0 < M.getD i 0) && (decide (bestI most M V i < 0) || beats most (V.getD i 0) (V.getD (bestI most M V i).toNat 0)) then i else bestI most M V i
structure RefI (most : Bool) (V : List Int) (target : Int) (M : List Int) (left sum : Int) : Prop where
 len : M.length = V.length
 l19 : V.length ≤ 19
 vals : ∀ v ∈ V,0 ≤ v ∧ v ≤ 1000000
 mores : ∀ m ∈ M,0 ≤ m ∧ m ≤ 3000
 ok : GOk (left,sum)
 enough : left ≤ M.sum
 same : ∃ S : List Pv,S.Perm (M.zip V) ∧ SortP most S ∧ (fillP S (left,sum)).2 = target
theorem RefI.done {most : Bool} {V M : List Int} {target left sum : Int} (h : RefI most V target M left sum) (h0 : ¬ 0 < left) : sum = target:=by
 obtain ⟨S,h1,_,h3⟩:=h.same
 have:=h.ok.1.1
 have e : left = 0:=by simp only at this; omega
 rw [e,fillP_done] at h3
 · exact h3
 · intro a ha
   have:=h1.mem_iff.1 ha
   exact (h.mores a.1 (List.of_mem_zip this).1).1
theorem RefI.start {most : Bool} {den : Int} {l : List Bd} (h : ChG den l) (hh : den ≤ hiS l) :
 RefI most (l.map (·.b)) (fillG (sortN (ltD most) l) (den - loS (sortN (ltD most) l),loV (sortN (ltD most) l))).2 (l.map fun c=>c.hi - c.lo) (den - loS l) (loV l):=by
 have hp:=sortN_perm (ltD most) l
 have e1 : loS (sortN (ltD most) l) = loS l:=perm_sum hp
 have e2 : loV (sortN (ltD most) l) = loV l:=perm_sum hp
 have hl:=h.low
 have hd:=h.den1
 have hv:=loV_le h.each
 have hlen:=h.len
 have hlo0 : 0 ≤ loS l:=by
  have : ∀ m : List Bd,(∀ c ∈ m,0 ≤ c.lo) → 0 ≤ loS m:=by
   intro m
   induction m with
   | nil=>intro _; simp [loS]
   | cons c m ih=>intro hc; have h1:=hc c (by simp); have h2:=ih fun x hx=>hc x (by simp [hx]); simp only [loS,List.map_cons,List.sum_cons] at h2 ⊢; omega
  exact this l fun c hc=>(h.each c hc).2.1
 refine ⟨by simp,by simpa using hlen,?_,?_,?_,?_,?_⟩
 · intro v hv
   obtain ⟨c,hc,rfl⟩:=List.mem_map.1 hv
   exact (h.each c hc).1
 · intro m hm
   obtain ⟨c,hc,rfl⟩:=List.mem_map.1 hm
   obtain ⟨_,g0,g1,g2⟩:=h.each c hc
   omega
 · refine ⟨⟨by simp only; omega,by simp only; omega⟩,by simp only; omega,by simp only; omega⟩
 · have : (l.map fun c=>c.hi - c.lo).sum = hiS l - loS l:=by
    clear hh hp e1 e2 hl hv hlen hlo0 h
    induction l with
    | nil=>simp [hiS,loS]
    | cons c l ih=>simp only [hiS,loS,List.map_cons,List.sum_cons] at ih ⊢; omega
   omega
 · refine ⟨(sortN (ltD most) l).map fun c=>(c.hi - c.lo,c.b),?_,?_,?_⟩
   · have : (l.map fun c=>c.hi - c.lo).zip (l.map (·.b)) = l.map fun c=>(c.hi - c.lo,c.b):=by
      rw [List.zip_map',]
     rw [this]
     exact hp.map _
   · exact List.Pairwise.map _ (fun a b h=>h) (sortN_pw l)
   · rw [← fillG_P,e1,e2]
def dotP : List Pv → List Int → Int
 | c :: S,y :: ys=>y * c.2 + dotP S ys
 | _,_=>0
inductive FeasP : List Pv → List Int → Prop where
 | nil : FeasP [] []
 | cons {c : Pv} {S : List Pv} {y : Int} {ys : List Int} (h : 0 ≤ y ∧ y ≤ c.1) (t : FeasP S ys) : FeasP (c :: S) (y :: ys)
def negP (S : List Pv) : List Pv:=S.map fun c=>(c.1,-c.2)
def insN (lt : Nat → Nat → Bool) (x : Nat) : List Nat → List Nat
 | []=>[x]
 | y :: ys=>if lt x y then y :: insN lt x ys else x :: y :: ys
def sortBN (lt : Nat → Nat → Bool) : List Nat → List Nat → List Nat
 | [],R=>R
 | x :: xs,R=>sortBN lt xs (insN lt x R)
def sortI (lt : Nat → Nat → Bool) (l : List Nat) : List Nat:=(sortBN lt l []).reverse
theorem overD_mono {m1 m2 : Bool} (hm : m1 = true → m2 = true) {a b den : Int} (hd : 1 ≤ den) (hab : a ≤ b) : overD m1 a den ≤ overD m2 b den:=by
 have h1 : ∀ x y : Int,x ≤ y → x / den ≤ y / den:=fun x y h=>Int.ediv_le_ediv (by omega) h
 cases m1 <;> cases m2 <;> simp only [overD,if_true,Bool.false_eq_true,if_false]
 · exact h1 _ _ hab
 · exact h1 _ _ (by omega)
 · simp at hm
 · exact h1 _ _ (by omega)
set_option maxHeartbeats 2000000
def posOk (r : Ru) (p : Pos) : Bool:=inB p.round 0 ((r.ends.length : Int) - 1) && (inB p.start (lowestR r) r.start && (inB p.left (lowestR r) p.start && (inB p.darts 1 3 && (decide (p.darts < 3) || (p.left == p.start)))))
def bestS (l : List Sp) : Nat → Int
 | 0=>0
 | i + 1=>if (l.getD (bestS l i).toNat (0,0)).1 < (l.getD i (0,0)).1 then i else bestS l i
abbrev pos (k s left d : Nat) : Pos:=⟨k,s,left,(d : Int) + 1⟩
def vB (b : Nat → Bool) (j : Nat) (v : AV) : AV:=if b j then v else .r .un
def odF (r : Ru) (T0 T1 : List (List Int)) (k s left d : Nat) (b : Nat → Bool) (vs : Nat → Nat) : List (Nat × AV) :=
 [(3,.r (.rp (posC (pos k s left d)))),(4,.r .ns),(6,.r (.rp [sideP r false T0,sideP r true T1])),(7,.r (.rp [i64 (left : Int),i64 ((d : Int) + 1)])),
  (34,vB b 0 (.r (.rp [sideP r false T0,sideP r true T1]))),
  (35,vB b 1 (.r (sideP r false T0))),
  (36,vB b 2 (.r (.rp (posC (pos k s left d))))),
  (37,vB b 3 (.r (i64 (k : Int)))),
  (38,vB b 4 (.r (.rp [i64 (s : Int),i64 (left : Int),i64 ((d : Int) + 1)]))),
  (39,vB b 5 (.r (i64 (s : Int)))),
  (40,vB b 6 (.pt 940 (vs 940) 0)),
  (41,vB b 7 (.r (.ag [i64 (left : Int),i64 ((d : Int) + 1)]))),
  (42,vB b 8 (.r (ints (oddsV r false T0 k s left d)))),
  (43,vB b 9 (.r (.rp [sideP r true T1]))),
  (44,vB b 10 (.r (sideP r true T1))),
  (45,vB b 11 (.r (.rp (posC (pos k s left d))))),
  (46,vB b 12 (.r (i64 (k : Int)))),
  (47,vB b 13 (.r (.rp [i64 (s : Int),i64 (left : Int),i64 ((d : Int) + 1)]))),
  (48,vB b 14 (.r (i64 (s : Int)))),
  (49,vB b 15 (.pt 942 (vs 942) 0)),
  (50,vB b 16 (.r (.ag [i64 (left : Int),i64 ((d : Int) + 1)]))),
  (51,vB b 17 (.r (ints (oddsV r true T1 k s left d)))),
  (8,vB b 18 (.r (ints (oddsV r false T0 k s left d)))),
  (9,vB b 19 (.r (ints (oddsV r true T1 k s left d))))]
def odR (r : Ru) (T0 T1 : List (List Int)) (k s left d : Nat) (b : Nat → Bool) (vs : Nat → Nat) : List (Nat × RowC) :=
 bif b 15 then [(940,.box (visC r false T0 (k : Int) (s : Int) 941 (vs 941))),(941,.mem (memoV r false T0 k s)),(942,.box (visC r true T1 (k : Int) (s : Int) 943 (vs 943))),(943,.mem (memoV r true T1 k s))]
 else bif b 6 then [(940,.box (visC r false T0 (k : Int) (s : Int) 941 (vs 941))),(941,.mem (memoV r false T0 k s))]
 else []
theorem dn {ops : Array Oper} {b : Nat → Bool} (h : ∀ j e,j < ops.size → (deps ops j).contains e = true → b j = true → b e = true) (j e : Nat) (h1 : j < ops.size) (h2 : (deps ops j).contains e = true) (he : b e = false) : b j = false:=by
 cases hb : b j
 · rfl
 · rw [h j e h1 h2 hb] at he; cases he
def oddsS (r : Ru) (k s left d : Nat) : List Sp:=(oddsV r false (tabF r false) k s left d).zip (oddsV r true (tabF r true) k s left d)
def oddsE (r : Ru) (p : Pos) : Int:=if ruE r = 0 then (if posOk r p = true then 0 else 2) else ruE r
def oddsR (r : Ru) (p : Pos) : RV:=if ruE r = 0 then (if posOk r p = true then spansR (oddsS r p.round.toNat p.start.toNat p.left.toNat (p.darts - 1).toNat) else .ns) else .ns
theorem foldl_max_ge : ∀ {l : List Int} {x : Int},x ≤ l.foldl max x ∧ ∀ y ∈ l,y ≤ l.foldl max x
 | [],x=>by simp
 | z :: l, x => by
   obtain ⟨h1,h2⟩:=foldl_max_ge (l:=l) (x:=max x z)
   simp only [List.foldl_cons]
   refine ⟨by omega,fun y hy=>?_⟩
   rcases List.mem_cons.1 hy with rfl | hy
   · omega
   · exact h2 y hy
theorem foldl_max_mem : ∀ {l : List Int} {x : Int},l.foldl max x = x ∨ l.foldl max x ∈ l
 | [],x=>by simp
 | z :: l, x => by
   rcases foldl_max_mem (l:=l) (x:=max x z) with h | h
   · simp only [List.foldl_cons,h]
     by_cases hz : z ≤ x
     · left; omega
     · right; rw [show max x z = z by omega]; simp
   · right; simp [h]
theorem le_maxL {l : List Int} {x : Int} (h : x ∈ l) : x ≤ maxL l:=foldl_max_ge.2 x h
theorem maxL_mem {l : List Int} (h : l ≠ []) : maxL l ∈ l:=by
 cases l with
 | nil=>exact absurd rfl h
 | cons x l =>
   unfold maxL
   simp only [List.headD_cons]
   rcases foldl_max_mem (l:=x :: l) (x:=x) with h | h
   · rw [h]; simp
   · exact h
theorem after_mono {r : Ru} {m1 m2 : Bool} (hm : m1 = true → m2 = true) {T T' : List (List Int)} {k y : Nat} (hk : k < r.ends.length) (he : ∀ x ∈ r.ends,endOk x = true)
 (hT : k + 1 < r.ends.length → 0 ≤ (T.getD (k + 1) []).getD y 0 ∧ (T.getD (k + 1) []).getD y 0 ≤ (T'.getD (k + 1) []).getD y 0) : afterD r m1 T k y ≤ afterD r m2 T' k y:=by
 unfold afterD
 split
 · omega
 · rename_i hn
   obtain ⟨h0,h1⟩:=hT (by omega)
   obtain ⟨e,hek⟩:=opt_of_lt hk
   obtain ⟨g1,g2,g3⟩:=endOk_le (he e (mem_of_opt hek))
   have e2 : r.ends.getD k (0,0) = e:=by simp [List.getD_eq_getElem?_getD,hek]
   rw [e2]
   refine overD_mono hm (by omega) ?_
   have hd : endsD m2 e ≤ endsD m1 e ∧ 0 ≤ 1000000 - endsD m1 e:=by unfold endsD; cases m1 <;> cases m2 <;> simp at hm ⊢ <;> omega
   exact Int.mul_le_mul h1 (by omega) hd.2 (by omega)
def RowLe (r : Ru) (T T' : List (List Int)) (k : Nat) : Prop:=k + 1 < r.ends.length → ∀ y : Nat,(y : Int) ≤ r.start → (T.getD (k + 1) []).getD y 0 ≤ (T'.getD (k + 1) []).getD y 0
theorem VisG.row0 {r : Ru} {T : List (List Int)} {k st : Nat} (h : VisG r T k st) {y : Nat} (hy : (y : Int) ≤ r.start) (hk : k + 1 < r.ends.length) : 0 ≤ (T.getD (k + 1) []).getD y 0:=by
 obtain ⟨row,v,hv⟩:=h.tab y hy
 obtain ⟨t1,t2,t3,t4⟩:=hv hk
 simp [List.getD_eq_getElem?_getD,t1,t2,t3]
theorem VisG.after_mono {r : Ru} {m1 m2 : Bool} (hm : m1 = true → m2 = true) {T T' : List (List Int)} {k st : Nat} (h : VisG r T k st) (hT : RowLe r T T' k) (y : Nat) (hy : (y : Int) ≤ r.start) : afterD r m1 T k y ≤ afterD r m2 T' k y :=
 Go.Proofs.Ytlljkgiomkmjbaa.Du.after_mono hm h.kk h.ends fun hk=>⟨h.row0 hy hk,hT hk y hy⟩
theorem rowV_getD (r : Ru) (most : Bool) (T : List (List Int)) (k y : Nat) (h : (y : Int) ≤ r.start) : (rowV r most T k).getD y 0 = if (y : Int) < lowestR r then 0 else valV r most T k y 3 y:=by
 rw [List.getD_eq_getElem?_getD,rowV_get r most T k y h]; rfl
abbrev bAt (l : List Bd) (i : Nat) : Bd:=l.getD i ⟨0,0,0⟩
def dotF (l : List Bd) (x : Nat → Int) : Int:=((List.range l.length).map fun i=>x i * (bAt l i).b).sum
structure TruthN (den : Int) (l : List Bd) (x : Nat → Int) : Prop where
 each : ∀ i,i < l.length → (bAt l i).lo ≤ x i ∧ x i ≤ (bAt l i).hi
 sum : ((List.range l.length).map x).sum = den
theorem bAt_chW (f : Int → Int) (l : List Bd) {i : Nat} (hi : i < l.length) : bAt (chW f l) i = ⟨f (bAt l i).b,(bAt l i).lo,(bAt l i).hi⟩:=by simp [chW,bAt,List.getD,List.getElem?_eq_getElem hi]
theorem chW_len (f : Int → Int) (l : List Bd) : (chW f l).length = l.length:=by simp [chW]
theorem TruthN.chW {den : Int} {l : List Bd} {x : Nat → Int} {f g : Int → Int} (h : TruthN den (chW f l) x) : TruthN den (chW g l) x:=by
 refine ⟨fun i hi=>?_,?_⟩
 · rw [chW_len] at hi
   have:=h.each i (by rw [chW_len]; exact hi)
   rw [bAt_chW f l hi] at this
   rw [bAt_chW g l hi]
   exact this
 · have:=h.sum
   rw [chW_len] at this ⊢
   exact this
theorem lowest_eq {r1 r2 : Ru} (h : r1.out = r2.out) : lowestR r1 = lowestR r2:=by unfold lowestR; rw [h]
structure LeR (r1 r2 : Ru) (m : Bool) : Prop where
 start : r1.start = r2.start
 out : r1.out = r2.out
 n : r1.ends.length = r2.ends.length
 aims : ∀ a1 ∈ r1.aims,∃ a2 ∈ r2.aims,∀ f g : Int → Int,(∀ b,0 ≤ b → b ≤ 499 → 0 ≤ f b ∧ f b ≤ 1000000) → (∀ b,0 ≤ b → b ≤ 499 → 0 ≤ g b ∧ g b ≤ 1000000) → (∀ b,0 ≤ b → b ≤ 499 → f b ≤ g b) → meanD m r1.d (chW f a1.beds) ≤ meanD m r2.d (chW g a2.beds)
 ends : ∀ k,k < r1.ends.length → endsD m (r2.ends.getD k (0,0)) ≤ endsD m (r1.ends.getD k (0,0))
theorem LeR.means {r1 r2 : Ru} {m : Bool} (h : LeR r1 r2 m) (hne : r1.aims ≠ []) {f g : Int → Int} (hf : ∀ b,0 ≤ b → b ≤ 499 → 0 ≤ f b ∧ f b ≤ 1000000) (hg : ∀ b,0 ≤ b → b ≤ 499 → 0 ≤ g b ∧ g b ≤ 1000000) (hfg : ∀ b,0 ≤ b → b ≤ 499 → f b ≤ g b) :
 maxL (meansV r1 m f) ≤ maxL (meansV r2 m g):=by
 obtain ⟨a,ha,e⟩:=List.mem_map.1 (maxL_mem (l:=meansV r1 m f) (by simpa [meansV] using hne))
 obtain ⟨a2,h2,h3⟩:=h.aims a ha
 rw [← e]
 exact Int.le_trans (h3 f g hf hg hfg) (le_maxL (List.mem_map.2 ⟨a2,h2,rfl⟩))
theorem LeR.after {r1 r2 : Ru} {m : Bool} (h : LeR r1 r2 m) (he : ∀ x ∈ r1.ends,endOk x = true) {T T' : List (List Int)} {k y : Nat} (hk : k < r1.ends.length)
 (hT : k + 1 < r1.ends.length → 0 ≤ (T.getD (k + 1) []).getD y 0 ∧ (T.getD (k + 1) []).getD y 0 ≤ (T'.getD (k + 1) []).getD y 0) : afterD r1 m T k y ≤ afterD r2 m T' k y:=by
 unfold afterD
 rw [← h.n]
 split
 · omega
 · rename_i hn
   obtain ⟨h0,h1⟩:=hT (by omega)
   have hm : r1.ends.getD k (0,0) ∈ r1.ends:=by
    rw [List.getD_eq_getElem?_getD,List.getElem?_eq_getElem hk]; exact List.getElem_mem _
   obtain ⟨g1,g2,g3⟩:=endOk_le (he _ hm)
   have hd:=h.ends k hk
   refine overD_mono (fun h=>h) (by omega) ?_
   have h3 : 0 ≤ 1000000 - endsD m (r1.ends.getD k (0,0)):=by unfold endsD; split <;> omega
   exact Int.mul_le_mul h1 (by omega) h3 (by omega)
theorem next_le2 {r1 r2 : Ru} {m : Bool} {T T' : List (List Int)} {k st left : Nat} {val val' : Nat → Int} {last : Bool} {b : Int} (ho : r1.out = r2.out) (b0 : 0 ≤ b) (b1 : b ≤ 499) (hst : (st : Int) ≤ r1.start) (hl : (left : Int) ≤ r1.start)
 (hA : ∀ y : Nat,(y : Int) ≤ r1.start → afterD r1 m T k y ≤ afterD r2 m T' k y) (hv : last = false → ∀ y : Nat,(y : Int) ≤ r1.start → val y ≤ val' y) :
 nextV r1 m T k st val last left b ≤ nextV r2 m T' k st val' last left b:=by
 obtain ⟨s0,s1⟩:=score_le b0 b1
 unfold nextV
 rw [lowest_eq ho,ho]
 split
 · omega
 · split
   · exact hA st hst
   · split
     · exact hA _ (by omega)
     · rename_i hn
       exact hv (by simpa using hn) _ (by omega)
theorem LeR.val {r1 r2 : Ru} {m : Bool} (hL : LeR r1 r2 m) (hA : AimsG r1) (hA2 : AimsG r2) {T T' : List (List Int)} {k st : Nat} (h : VisG r1 T k st) (h' : VisG r2 T' k st) (hT : RowLe r1 T T' k) :
 ∀ n left : Nat,(left : Int) ≤ r1.start → valV r1 m T k st n left ≤ valV r2 m T' k st n left
 | 0,_,_=>by simp only [valV]; omega
 | n + 1, left, hl => by
   simp only [valV]
   have hl2 : (left : Int) ≤ r2.start:=by rw [← hL.start]; exact hl
   exact hL.means hA.ne (fun b b0 b1=>nextV_le h hl b0 b1 fun _ x hx=>valV_le h hA n x hx) (fun b b0 b1=>nextV_le h' hl2 b0 b1 fun _ x hx=>valV_le h' hA2 n x hx)
    fun b b0 b1=>next_le2 hL.out b0 b1 h.st40 hl (fun y hy=>hL.after h.ends h.kk fun hk=>⟨h.row0 hy hk,hT hk y hy⟩) fun _ y hy=>hL.val hA hA2 h h' hT n y hy
theorem LeR.tab {r1 r2 : Ru} {m : Bool} (hL : LeR r1 r2 m) (h1 : RuG r1) (h2 : RuG r2) : ∀ i,i ≤ r1.ends.length → ∀ j y : Nat,(y : Int) ≤ r1.start → ((tabI r1 m i).getD j []).getD y 0 ≤ ((tabI r2 m i).getD j []).getD y 0
 | 0,_,j,y,_=>by simp only [tabI,hL.n]; omega
 | i + 1, hi, j, y, hy => by
   have ih:=hL.tab h1 h2 i (by omega)
   have hy2 : (y : Int) ≤ r2.start:=by rw [← hL.start]; exact hy
   have hn:=hL.n
   simp only [tabI];rw [← hn]
   by_cases e : j = r1.ends.length - 1 - i
   · subst e
     have g0 : ((tabI r1 m i).set (r1.ends.length - 1 - i) (rowV r1 m (tabI r1 m i) (r1.ends.length - 1 - i))).getD (r1.ends.length - 1 - i) [] = rowV r1 m (tabI r1 m i) (r1.ends.length - 1 - i):=by
      rw [List.getD_eq_getElem?_getD,List.getElem?_set_self (by rw [tabI_len]; omega)]; rfl
     have g1 : ((tabI r2 m i).set (r1.ends.length - 1 - i) (rowV r2 m (tabI r2 m i) (r1.ends.length - 1 - i))).getD (r1.ends.length - 1 - i) [] = rowV r2 m (tabI r2 m i) (r1.ends.length - 1 - i):=by
      rw [List.getD_eq_getElem?_getD,List.getElem?_set_self (by rw [tabI_len]; omega)]; rfl
     rw [g0,g1,rowV_getD _ _ _ _ _ hy,rowV_getD _ _ _ _ _ hy2,lowest_eq hL.out]
     split
     · omega
     · have v2:=vis_at h2 m i (by omega) y hy2
       rw [← hn] at v2
       exact hL.val h1.aims h2.aims (vis_at h1 m i (by omega) y hy) v2 (fun _ z hz=>ih _ z hz) 3 y hy
   · have g0 : ∀ (A : List (List Int)) (x : List Int),(A.set (r1.ends.length - 1 - i) x).getD j [] = A.getD j []:=fun A x=>by
      rw [List.getD_eq_getElem?_getD,List.getD_eq_getElem?_getD,List.getElem?_set_ne (fun h=>e h.symm)]
     rw [g0,g0]
     exact ih j y hy
theorem LeR.tabF {r1 r2 : Ru} {m : Bool} (hL : LeR r1 r2 m) (h1 : RuG r1) (h2 : RuG r2) {j y : Nat} (hy : (y : Int) ≤ r1.start) : ((Go.Proofs.Ytlljkgiomkmjbaa.Du.tabF r1 m).getD j []).getD y 0 ≤ ((Go.Proofs.Ytlljkgiomkmjbaa.Du.tabF r2 m).getD j []).getD y 0:=by
 unfold Go.Proofs.Ytlljkgiomkmjbaa.Du.tabF
 rw [← hL.n]
 exact hL.tab h1 h2 _ (Nat.le_refl _) j y hy
structure NarB (l l' : List Bd) : Prop where
 len : l'.length = l.length
 each : ∀ i,i < l.length → (bAt l' i).b = (bAt l i).b ∧ (bAt l i).lo ≤ (bAt l' i).lo ∧ (bAt l' i).hi ≤ (bAt l i).hi
theorem TruthN.wide {den : Int} {l l' : List Bd} {x : Nat → Int} {f g : Int → Int} (hN : NarB l l') (h : TruthN den (Go.Proofs.Ytlljkgiomkmjbaa.Du.chW f l') x) : TruthN den (Go.Proofs.Ytlljkgiomkmjbaa.Du.chW g l) x:=by
 refine ⟨fun i hi=>?_,?_⟩
 · rw [chW_len] at hi
   have h1:=h.each i (by rw [chW_len,hN.len]; exact hi)
   rw [bAt_chW f l' (by rw [hN.len]; exact hi)] at h1
   rw [bAt_chW g l hi]
   have h2:=hN.each i hi
   simp only at h1 ⊢
   omega
 · have:=h.sum
   rw [chW_len,hN.len] at this
   rw [chW_len]; exact this
theorem ruE_of {r : Ru} (hc : checkV r.d r.aims = 0) (hs : 2 ≤ r.start ∧ r.start ≤ 40) (ho : 0 ≤ r.out ∧ r.out ≤ 2) (hn : 1 ≤ r.ends.length ∧ r.ends.length ≤ 10) (he : ∀ x ∈ r.ends,endOk x = true) (hl : lastE r = 1000000) : ruE r = 0:=by
 have he':=List.all_eq_true.2 he
 simp [ruE,hc,he',hl,hs,ho,hn]
theorem aims_all {r : Ru} (h : checkV r.d r.aims = 0) : ∀ a ∈ r.aims,aimOk r.d a = true:=by
 unfold checkV at h
 split at h
 · cases h
 · split at h
   · cases h
   · split at h
     · rename_i h3; exact List.all_eq_true.1 h3
     · cases h
theorem aimOk_parts {d : Int} {a : Am} (h : aimOk d a = true) : bedOk a.at_ = true ∧ a.beds ≠ [] ∧ seqOk none a.beds = true ∧ (∀ x ∈ a.beds,0 ≤ x.lo ∧ x.lo ≤ x.hi ∧ x.hi ≤ d) ∧ loS a.beds ≤ d ∧ d ≤ hiS a.beds:=by
 simp only [aimOk,Bool.and_eq_true,decide_eq_true_eq] at h
 obtain ⟨⟨⟨⟨⟨h1,h2⟩,h3⟩,h4⟩,h5⟩,h6⟩:=h
 refine ⟨h1,fun e=>by rw [e] at h2; simp at h2,h3,fun x hx=>?_,h5,h6⟩
 simp only [chOk,List.all_eq_true,Bool.and_eq_true,decide_eq_true_eq] at h4
 have:=h4 x hx
 omega
end Go.Proofs.Ytlljkgiomkmjbaa.Du

namespace Go.Oc
open Go Go.RowKit
set_option linter.unusedVariables false
set_option linter.unusedSimpArgs false
def sAppB (P : Program) (s : AS) (d : Nat) (t t' : TypeId) (x y : AV) : Res :=
 match tyq P t,decide (t = t'),x,y with
 | some ⟨.slice e esz eb _, _, _, _⟩, true, .os k n sz off m, .os j n2 sz2 off2 m2 =>
   match s.rows k,s.rows j with
   | ⟨n',.ara e' sz' cs⟩,⟨n2',.ara e2 sz2' ds⟩=>⟨(n = n' ∧ n2 = n2') ∧ (e' = e ∧ e2 = e) ∧ (sz = esz ∧ sz' = esz ∧ sz2 = esz ∧ sz2' = esz) ∧ (off = 0 ∧ off2 = 0) ∧ (cs.length = m * esz ∧ ds.length = m2 * esz) ∧ (0 < m ∧ 0 < m2 ∧ 0 < esz) ∧ (m + m2) * eb ≤ 140737488355328 ∧ m + m2 ≤ 9223372036854775807 ∧ k < 1000,True,
    ⟨.os k (n' + 1) esz 0 (m + m2),[(k,⟨n' + 1,.ara e esz (cs ++ ds)⟩)]⟩⟩
   | _,_=>.bad
 | some ⟨.slice e esz eb _, _, _, _⟩, true, .r .ns, .os j n2 sz2 off2 m2 =>
   match s.rows j with
   | ⟨n2',.ara e2 sz2' ds⟩=>⟨n2 = n2' ∧ e2 = e ∧ (sz2 = esz ∧ sz2' = esz) ∧ off2 = 0 ∧ ds.length = m2 * esz ∧ (0 < m2 ∧ 0 < esz) ∧ m2 * eb ≤ 140737488355328 ∧ m2 ≤ 9223372036854775807 ∧ d < 1000,True,
    ⟨.os d ((s.rows d).ver + 1) esz 0 m2,[(d,⟨(s.rows d).ver + 1,.ara e esz ds⟩)]⟩⟩
   | _=>.bad
 | _,_,_,_=>.bad
section
variable {P : Program} {C : Ctx} {p : Plan} {s : AS} {a : Act} {w : World} {o : Oper}
variable {Q : Exit → AS → Prop} {ops : Array Oper}
end
end Go.Oc

namespace Go.Proofs.Ytlljkgiomkmjbaa.Du
open Go Go.Oc
set_option linter.unusedSimpArgs false
set_option linter.unusedVariables false
set_option maxRecDepth 8000
set_option maxHeartbeats 4000000
abbrev u8Q (n : Nat) : RV:=.it .u8 (n : Int)
def bedN (v : Nat) : Nat:=if v % 16 = 0 then 0 else 100 * (1 + v % 3) + 1 + v / 3 % 10
def posN (b : Int) : List Bd → Nat
 | []=>0
 | x :: L=>if x.b ≤ b then posN b L + 1 else 0
def seenB (b : Int) (L : List Bd) (k : Nat) : Bool:=(L.take k).any fun x=>x.b == b
def scN (d left : Int) (v : Nat × Nat × Nat) : Bd:=⟨bedN v.1,left * v.2.1 / 512,min d (left * v.2.1 / 512 + ((v.2.2 % 20 : Nat) : Int))⟩
def scS (d : Int) (s : List Bd × Int) (v : Nat × Nat × Nat) : List Bd × Int :=
 if seenB (bedN v.1) s.1 (posN (bedN v.1) s.1) then s
 else (s.1.take (posN (bedN v.1) s.1) ++ [scN d s.2 v] ++ s.1.drop (posN (bedN v.1) s.1),s.2 - s.2 * v.2.1 / 512)
def triK (a : List Nat) (k : Nat) : Nat × Nat × Nat:=(a.getD (3 * k) 0,a.getD (3 * k + 1) 0,a.getD (3 * k + 2) 0)
def scF (d : Int) (a : List Nat) : Nat → List Bd × Int
 | 0=>([],d)
 | k + 1=>scS d (scF d a k) (triK a k)
def headD (d : Int) : List Bd → List Bd
 | []=>[⟨201,0,d⟩]
 | x :: L=>⟨x.b,x.lo,d⟩ :: L
def scA (d : Int) (a : List Nat) : Am:=⟨201,headD d (scF d a 4).1⟩
def scL (d : Int) (as_ : List (List Nat)) : List Am:=if as_.length = 0 then [⟨201,headD d []⟩] else (as_.take 3).map (scA d)
structure ScI (d : Int) (s : List Bd × Int) : Prop where
 left : 0 ≤ s.2 ∧ s.2 ≤ d
 lo : loS s.1 + s.2 = d
 ok : ∀ x ∈ s.1,0 ≤ x.lo ∧ x.lo ≤ x.hi ∧ x.hi ≤ d ∧ (x.b = 0 ∨ bedOk x.b = true)
 asc : s.1.Pairwise fun x y=>x.b < y.b
end Go.Proofs.Ytlljkgiomkmjbaa.Du
