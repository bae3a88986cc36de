/- Part 7 of the texts of this claim. -/
import Derived.Test.YtgkejinoaommeaaVC6
import Derived.Test.YtgkejinoaommeaaVC5
namespace Go.Proofs.Ytgkejinoaommeaa
open Go Go.Oc
set_option linter.unusedSimpArgs false
set_option linter.unusedVariables false
set_option maxRecDepth 8000
def shA (beds le mo : List Int) : List AV:=(sheetR beds le mo).map AV.r
theorem shA_len (beds le mo : List Int) : (shA beds le mo).length = 1 + le.length + mo.length:=by simp [shA,sheetR]; omega
theorem shA_eq (beds le mo : List Int) : shA beds le mo = AV.r (ints beds) :: (tA le ++ tA mo):=by simp [shA,sheetR]
theorem shA_drop1 {beds le mo : List Int} {k : Nat} {a : Int} (h : le[k]? = some a) : (shA beds le mo).drop (1 + k) = .r (RV.it .i64 a) :: (shA beds le mo).drop (1 + k + 1):=by
 refine drop_of_opt ?_
 have hk:=(List.getElem?_eq_some_iff.1 h).1
 rw [shA_eq,Nat.add_comm 1 k,List.getElem?_cons_succ,List.getElem?_append_left (by simpa using hk)]
 simp [h]
theorem shA_drop2 {beds le mo : List Int} {k : Nat} {a : Int} (hl : le.length = 10) (h : mo[k]? = some a) : (shA beds le mo).drop (11 + k) = .r (RV.it .i64 a) :: (shA beds le mo).drop (11 + k + 1):=by
 refine drop_of_opt ?_
 rw [shA_eq,show 11 + k = (10 + k) + 1 by omega,List.getElem?_cons_succ,List.getElem?_append_right (by simp; omega)]
 have : 10 + k - (tA le).length = k:=by rw [tA_len,hl]; omega
 rw [this]
 simp [h]
theorem set_split {α : Type} {l : List α} {i : Nat} {y : α} (h : i < l.length) : l.take i ++ (y :: l.drop (i + 1)) = l.set i y:=by
 rw [List.set_eq_take_append_cons_drop,if_pos h]
theorem shA_set1 {beds le mo : List Int} {k : Nat} {y : Int} (h : k < le.length) : (shA beds le mo).take (1 + k) ++ (AV.r (RV.it .i64 y) :: (shA beds le mo).drop (1 + k + 1)) = shA beds (le.set k y) mo:=by
 rw [set_split (by rw [shA_len]; omega),shA_eq,shA_eq,Nat.add_comm 1 k,List.set_cons_succ,List.set_append_left _ _ (by rw [tA_len]; exact h)]
 simp [List.map_set]
theorem shA_set2 {beds le mo : List Int} {k : Nat} {y : Int} (hl : le.length = 10) (h : k < mo.length) : (shA beds le mo).take (11 + k) ++ (AV.r (RV.it .i64 y) :: (shA beds le mo).drop (11 + k + 1)) = shA beds le (mo.set k y):=by
 rw [set_split (by rw [shA_len]; omega),shA_eq,shA_eq,show 11 + k = (10 + k) + 1 by omega,List.set_cons_succ,List.set_append_right _ _ (by rw [tA_len]; omega)]
 have : 10 + k - (tA le).length = k:=by rw [tA_len,hl]; omega
 rw [this]
 simp [List.map_set]
def leastT (b : Bool) (le t : List Int) : List Int:=if b then List.zipWith min le t else t
def mostT (mo t : List Int) : List Int:=List.zipWith max mo t
def accT (s : Bool × List Int × List Int) (t : List Int) : Bool × List Int × List Int:=(true,leastT s.1 s.2.1 t,mostT s.2.2 t)
def accL (xs : List (List Int)) : Bool × List Int × List Int:=xs.foldl accT (false,zeroT,zeroT)
def mixT (new old : List Int) (k : Nat) : List Int:=new.take k ++ old.drop k
theorem mix_get {new old : List Int} {k : Nat} (hn : new.length = 10) (ho : old.length = 10) (hk : k < 10) : (mixT new old k)[k]? = old[k]?:=by
 unfold mixT
 rw [List.getElem?_append_right (by rw [List.length_take]; omega),List.length_take,hn,show k - min k 10 = 0 by omega,List.getElem?_drop,Nat.add_zero]
theorem mix_set {new old : List Int} {k : Nat} {y : Int} (hn : new[k]? = some y) (hnl : new.length = 10) (ho : old.length = 10) (hk : k < 10) : (mixT new old k).set k y = mixT new old (k + 1):=by
 unfold mixT
 rw [List.set_append_right _ _ (by rw [List.length_take]; omega),List.length_take,hnl,show k - min k 10 = 0 by omega]
 obtain ⟨z,hz⟩:=opt_of_lt (l:=old) (i:=k) (by omega)
 rw [drop_of_opt hz,List.set_cons_zero,take_of_opt hn]
 simp
theorem mix_len {new old : List Int} {k : Nat} (hn : new.length = 10) (ho : old.length = 10) (hk : k ≤ 10) : (mixT new old k).length = 10:=by
 unfold mixT
 rw [List.length_append,List.length_take,List.length_drop]; omega
theorem leastT_len {b : Bool} {le t : List Int} (h1 : le.length = 10) (h2 : t.length = 10) : (leastT b le t).length = 10:=by
 unfold leastT; split
 · rw [List.length_zipWith]; omega
 · exact h2
theorem mostT_len {mo t : List Int} (h1 : mo.length = 10) (h2 : t.length = 10) : (mostT mo t).length = 10:=by
 unfold mostT; rw [List.length_zipWith]; omega
theorem mem_zipW {f : Int → Int → Int} {x : Int} : ∀ {l m : List Int},x ∈ List.zipWith f l m → ∃ a,a ∈ l ∧ ∃ b,b ∈ m ∧ x = f a b
 | [],_,h=>by simp at h
 | _ :: _,[],h=>by simp at h
 | a :: l, b :: m, h => by
   rw [List.zipWith_cons_cons] at h
   rcases List.mem_cons.1 h with h | h
   · exact ⟨a,by simp,b,by simp,h⟩
   · obtain ⟨a',h1,b',h2,h3⟩:=mem_zipW h
     exact ⟨a',by simp [h1],b',by simp [h2],h3⟩
theorem accL_snoc (xs : List (List Int)) (t : List Int) : accL (xs ++ [t]) = accT (accL xs) t:=by simp [accL]
theorem accT_small {b : Int} {s : Bool × List Int × List Int} {t : List Int} (ht : SmallT b t) (h1 : SmallT b s.2.1) (h2 : SmallT b s.2.2) : SmallT b (accT s t).2.1 ∧ SmallT b (accT s t).2.2:=by
 refine ⟨⟨leastT_len h1.1 ht.1,fun x hx=>?_⟩,mostT_len h2.1 ht.1,fun x hx=>?_⟩
 · simp only [accT,leastT] at hx
   split at hx
   · obtain ⟨y,hy,z,hz,rfl⟩:=mem_zipW hx
     have:=h1.2 y hy
     have:=ht.2 z hz
     omega
   · exact ht.2 x hx
 · simp only [accT,mostT] at hx
   obtain ⟨y,hy,z,hz,rfl⟩:=mem_zipW hx
   have:=h2.2 y hy
   have:=ht.2 z hz
   omega
theorem zeroT_small {b : Int} (hb : 0 ≤ b) : SmallT b zeroT:=⟨rfl,fun x hx=>by
 have : x = 0:=by simpa using hx
 omega⟩
theorem accL_small {b : Int} (hb : 0 ≤ b) : ∀ (xs : List (List Int)),(∀ t ∈ xs,SmallT b t) → SmallT b (accL xs).2.1 ∧ SmallT b (accL xs).2.2:=by
 have gen : ∀ (xs : List (List Int)) (s : Bool × List Int × List Int),(∀ t ∈ xs,SmallT b t) → SmallT b s.2.1 → SmallT b s.2.2 → SmallT b (xs.foldl accT s).2.1 ∧ SmallT b (xs.foldl accT s).2.2:=by
  intro xs
  induction xs with
  | nil=>intro s _ h1 h2; exact ⟨h1,h2⟩
  | cons t xs ih =>
    intro s h h1 h2
    obtain ⟨g1,g2⟩:=accT_small (s:=s) (h t (by simp)) h1 h2
    exact ih (accT s t) (fun y hy=>h y (by simp [hy])) g1 g2
 exact fun xs h=>gen xs _ h (zeroT_small hb) (zeroT_small hb)
theorem accL_some (xs : List (List Int)) : (accL xs).1 = !xs.isEmpty:=by
 rcases List.eq_nil_or_concat xs with rfl | ⟨l,x,rfl⟩
 · rfl
 · rw [List.concat_eq_append,accL_snoc]; simp [accT]
theorem frzPL_r (ks : List (Nat × RowC)) (rows : Nat → Row) : ∀ l : List RV,frzPL ks rows (l.map AV.r)
 | []=>trivial
 | x :: l=>⟨trivial,frzPL_r ks rows l⟩
theorem frzL_r (ks : List (Nat × RowC)) (rows : Nat → Row) : ∀ l : List RV,frzL ks rows (l.map AV.r) = l.map AV.r
 | []=>rfl
 | x :: l=>by simp only [List.map_cons,frzL,frz1,frzL_r ks rows l]
def addT (a b : List Int) : List Int:=List.zipWith (· + ·) a b
set_option maxHeartbeats 1000000
theorem add_ok (u : Addr) (beds le mo : List Int) (f : Nat) (caps args : List RV) (xs : List (List Int)) (hle : SmallT 3000 le) (hmo : SmallT 3000 mo) (hxs : ∀ t ∈ xs,SmallT 3 t)
 (hI : ICalls Try.prog true f args (xs.map fun t=>[.ag (tR t)]))
 (hcap : ∀ (w : World) (p : Plan) (ver : Nat → Nat) (R' : Nat → Prop) (vals : List Value),AV.relV w p ver (caps.map .r) vals → RV.rel w R' (.rp (sheetR beds le mo)) (.pointer (some u)) → (∀ b,p.R b → R' b) → RV.relV w R' args vals) :
 MCalls Try.prog 84 [(1000,.box (shA beds le mo))] [(1000,.box (shA beds (addT le (accL xs).2.1) (addT mo (accL xs).2.2)))] [.pu 1000 0 u,.r (.fn f caps)] (.r (.bo (!xs.isEmpty))):=by
 refine mcalls_stO (n:=73) (rs:=[.r (.bo (!xs.isEmpty))]) _ _ [.cell 4 4] Try.func84 rfl (by kernel_rfl) Try.ntmps84 rfl (by simp) rfl rfl fun C hC=>?_
 repeat refine zq ?_
 refine zb (by kernel_rfl) fun K hK=>?_
 simp only [go_sem]
 (try simp (disch:=omega) only [zI])
 repeat first | intro _ | refine ⟨by omega,?_⟩ | refine ⟨⟨by omega,by omega⟩,?_⟩
 refine hK _ ?_
 clear hK K
 refine zw (zk [0,1,4]) ?_
 simp only [go_sem]
 repeat refine zq ?_
 refine zb (by kernel_rfl) fun K hK=>?_
 simp only [go_sem]
 (try simp (disch:=omega) only [zI])
 repeat first | intro _ | refine ⟨by omega,?_⟩ | refine ⟨⟨by omega,by omega⟩,?_⟩
 refine hK _ ?_
 clear hK K
 refine zw (zk [0,1,4,5,6]) ?_
 simp only [go_sem]
 repeat refine zq ?_
 refine zb (by kernel_rfl) fun K hK=>?_
 simp only [go_sem]
 (try simp (disch:=omega) only [zI])
 repeat first | intro _ | refine ⟨by omega,?_⟩ | refine ⟨⟨by omega,by omega⟩,?_⟩
 refine hK _ ?_
 clear hK K
 refine zw (zk [0,4,5,6,11]) ?_
 simp only [go_sem]
 repeat refine zq ?_
 refine zd ?_
 repeat refine zq ?_
 refine awp_rangeK ⟨hC.1,hC.2.1⟩ 1000 0 u rfl (by omega) (hC.2.2 1000 rfl) (sheetR beds le mo) (by intro j hj; simp only [upd]; (repeat' split); all_goals first | rfl | omega) rfl (cf:=caps.map .r) (xs.map fun t=>[.ag (tR t)]) hI [0,4,5,6,11] (by decide)
  (fun vs=>[(0,.r (.vl u)),(4,.pt 4 (vs 4) 0),(5,.pt 5 (vs 5) 0),(6,.pt 6 (vs 6) 0),(11,.r (.fn f caps))])
  (fun i vs=>[(4,.box [.r (.bo (!(xs.take i).isEmpty))]),(5,.box (tA (accL (xs.take i)).2.1)),(6,.box (tA (accL (xs.take i)).2.2))]) (fun _=>True) (fun us=>?_) trivial (fun _=>rfl) (fun _=>rfl) (fun _=>rfl) hcap (fun _ _=>rfl) (by simp) ?_ ?_ ?_
 · refine fitW_of (n:=73) (F:=fun vs=>[(0,.r (.vl u)),(4,.pt 4 (vs 4) 0),(5,.pt 5 (vs 5) 0),(6,.pt 6 (vs 6) 0),(11,.r (.fn f caps))])
    (R:=fun vs=>insc [(4,.box [.r (.bo (!(xs.take 0).isEmpty))]),(5,.box (tA (accL (xs.take 0)).2.1)),(6,.box (tA (accL (xs.take 0)).2.2))] 1000 (.sus ((sheetR beds le mo).map .r) us)) [] (by intro j hj; simp only [upd]; (repeat' split); all_goals first | rfl | omega) ?_ ?_
   · simp only [List.map_cons,List.map_nil,AV.park,AV.parkL,if_true,if_false,Nat.reduceEqDiff]
     try simp only [go_sem]
   · simp only [List.map_cons,List.map_nil,RowC.park,AV.park,AV.parkL]
     try simp only [go_sem]
     rfl
 · intro e he
   obtain ⟨t,_,rfl⟩:=List.mem_map.1 he
   rfl
 · intro i e vs us usp C' he _ hvl
   obtain ⟨t,ht,rfl⟩ : ∃ t,xs[i]? = some t ∧ e = [.ag (tR t)]:=by
    rw [List.getElem?_map] at he
    cases hx : xs[i]? with
    | none=>rw [hx] at he; cases he
    | some t=>rw [hx] at he; injection he with he; exact ⟨t,rfl,he.symm⟩
   have hts:=hxs t (mem_of_opt ht)
   obtain ⟨al,am⟩:=accL_small (b:=3) (by omega) (xs.take i) (fun t ht=>hxs t (List.mem_of_mem_take ht))
   have hsn : xs.take (i + 1) = xs.take i ++ [t]:=take_of_opt ht
   have hacc : accL (xs.take (i + 1)) = accT (accL (xs.take i)) t:=by rw [hsn,accL_snoc]
   have hsm:=accL_some (xs.take i)
   have hne : (xs.take (i + 1)).isEmpty = false:=by rw [hsn]; simp
   rw [hacc,hne]
   rw [← hsm]
   generalize accL (xs.take i) = S at *
   obtain ⟨b,ol,om⟩:=S
   simp only [accT] at *
   have htk : List.take 10 (tR t) = tR t:=List.take_of_length_le (by rw [List.length_map,hts.1]; exact Nat.le_refl _)
   have htl : (tR t).length = 10:=by rw [List.length_map,hts.1]
   have hol : ol.length = 10:=al.1
   have hom : om.length = 10:=am.1
   have hll : (leastT b ol t).length = 10:=leastT_len hol hts.1
   have hml : (mostT om t).length = 10:=mostT_len hom hts.1
   try simp only [go_sem]
   repeat refine zq ?_
   refine zb (by kernel_rfl) fun K hK=>?_
   simp only [go_sem]
   (try simp (disch:=omega) only [zI])
   refine ⟨hts.1,?_⟩
   repeat first | intro _ | refine ⟨by omega,?_⟩ | refine ⟨⟨by omega,by omega⟩,?_⟩
   refine hK _ ?_
   clear hK K
   refine ⟨rfl,fun C''=>?_⟩
   refine zw (sub_frzP 7 7 (tR t) (by omega) rfl rfl) ?_
   refine zw (zk [4,5,6,7]) ?_
   simp only [go_sem]
   repeat refine zq ?_
   refine zd ?_
   repeat refine zq ?_
   refine zb (by kernel_rfl) fun K hK=>?_
   simp only [go_sem,htk,htl,Nat.le_refl]
   (try simp (disch:=omega) only [zI])
   repeat first | intro _ | refine ⟨by omega,?_⟩ | refine ⟨⟨by omega,by omega⟩,?_⟩
   refine hK _ ?_
   clear hK K
   refine zw (zk [4,5,6,13,14]) ?_
   simp only [go_sem]
   repeat refine zq ?_
   refine zd ?_
   refine awp_uptoW (n:=73) 10 (fun k vs=>[(4,.pt 4 (vs 4) 0),(5,.pt 5 (vs 5) 0),(6,.pt 6 (vs 6) 0),(13,.r (.ag (tR t))),(14,.r (i64 k))])
    (fun k vs=>[(0,.sus [.r (.vl u),.pt 4 (vs 4) 0,.pt 5 (vs 5) 0,.pt 6 (vs 6) 0,.r (.fn f caps)] us),(4,.box [.r (.bo b)]),(5,.box (tA (mixT (leastT b ol t) ol k))),(6,.box (tA (mixT (mostT om t) om k))),(1000,.sus (AV.r (ints beds) :: List.map AV.r (tR le ++ tR mo)) usp)])
    (fun _=>True) 0 (fitW_of [7] (by intro j hj; simp only [upd]; (repeat' split); all_goals first | rfl | omega | exact hvl _ hj) ?_ ?_) (Nat.zero_le _) trivial ?_
   · try simp only [go_sem]
   · try simp only [go_sem]
     simp [mixT,killC,delc]
   · intro k vs hvl hk _
     repeat refine zq ?_
     refine zb (by kernel_rfl) fun K hK=>?_
     simp only [go_sem]
     (try simp (disch:=omega) only [zI])
     repeat first | intro _ | refine ⟨by omega,?_⟩ | refine ⟨⟨by omega,by omega⟩,?_⟩
     refine hK _ ?_
     clear hK K
     refine zw (zk [4,5,6,13,14,15]) ?_
     simp only [go_sem]
     repeat refine zq ?_
     refine zc rfl (fun hc=>?_) (fun hc=>?_) <;> (try simp only [go_sem] at hc)
     · have hck : k < 10:=by first | exact hc | omega
       obtain ⟨x,hx⟩:=opt_of_lt (l:=t) (i:=k) (by rw [hts.1]; omega)
       obtain ⟨y,hy⟩:=opt_of_lt (l:=ol) (i:=k) (by omega)
       obtain ⟨z,hz⟩:=opt_of_lt (l:=om) (i:=k) (by omega)
       have hxs1:=hts.2 x (mem_of_opt hx)
       have hys1:=al.2 y (mem_of_opt hy)
       have hzs1:=am.2 z (mem_of_opt hz)
       have hnm : (mostT om t)[k]? = some (max z x):=by simp [mostT,List.getElem?_zipWith,hz,hx]
       have hMg : (mixT (mostT om t) om k)[k]? = some z:=(mix_get hml hom hck).trans hz
       have hMl : (mixT (mostT om t) om k).length = 10:=mix_len hml hom hk
       have hMs:=mix_set hnm hml hom hck
       have hLg : (mixT (leastT b ol t) ol k)[k]? = some y:=(mix_get hll hol hck).trans hy
       have hLl : (mixT (leastT b ol t) ol k).length = 10:=mix_len hll hol hk
       have hdr : List.drop k (tR t) = i64 x :: List.drop (k + 1) (tR t):=drop_of_opt (by simp [hx])
       have hk10 : (k : Int) < 10:=by omega
       have hdM:=tA_drop hMg
       have hsM:=tA_set (t:=mixT (mostT om t) om k) (i:=k) (y:=max z x) (by omega)
       rw [hMs] at hsM
       have htl2 : (tR t).length = 10:=htl
       generalize hM : mixT (mostT om t) om k = MK at *
       have hMA:=tA_len MK
       have hns : (leastT b ol t)[k]? = some (if b then min y x else x):=by
        cases b
        · simpa [leastT] using hx
        · simp [leastT,List.getElem?_zipWith,hy,hx]
       have hLs:=mix_set hns hll hol hck
       generalize hL : mixT (leastT b ol t) ol k = LK at *
       have hdL:=tA_drop hLg
       have hLA:=tA_len LK
       refine zx ?_
       try simp only [go_sem]
       repeat refine zq ?_
       refine zd ?_
       repeat refine zq ?_
       refine zb (by kernel_rfl) fun K hK=>?_
       simp only [go_sem,Nat.mul_one,hdr,htl,List.headD_cons]
       (try simp (disch:=omega) only [zI])
       repeat first | intro _ | refine ⟨by omega,?_⟩ | refine ⟨⟨by omega,by omega⟩,?_⟩
       refine hK _ ?_
       clear hK K
       refine zw (zk [4,5,6,8,9,13,14]) ?_
       simp only [go_sem]
       repeat refine zq ?_
       refine zb (by kernel_rfl) fun K hK=>?_
       simp only [go_sem]
       (try simp (disch:=omega) only [zI])
       repeat first | intro _ | refine ⟨by omega,?_⟩ | refine ⟨⟨by omega,by omega⟩,?_⟩
       refine hK _ ?_
       clear hK K
       refine zw (zk [4,5,6,8,9,13,14,19]) ?_
       simp only [go_sem]
       cases b
       · have hLx:=hLs
         simp only [Bool.false_eq_true,if_false] at hLx
         have hs0:=tA_set (t:=LK) (i:=k) (y:=x) (by omega)
         have hg2 : (LK.set k x)[k]? = some x:=by rw [List.getElem?_set,if_pos rfl,if_pos (by omega)]
         have hd2:=tA_drop hg2
         have hl2:=tA_len (LK.set k x)
         have hl3 : (LK.set k x).length = 10:=by rw [List.length_set]; exact hLl
         have hs2:=tA_set (t:=LK.set k x) (i:=k) (y:=x) (by omega)
         rw [List.set_set,hLx] at hs2
         repeat refine zq ?_
         refine zc rfl (fun hc=>?_) (fun hc=>?_) <;> (try simp only [go_sem] at hc)
         repeat refine zq ?_
         refine zb (by kernel_rfl) fun K hK=>?_
         simp only [go_sem,Nat.mul_one,hLA]
         (try simp (disch:=omega) only [zI])
         repeat first | intro _ | refine ⟨by omega,?_⟩ | refine ⟨⟨by omega,by omega⟩,?_⟩
         refine hK _ ?_
         clear hK K
         rw [hs0]
         refine zw (zk [4,5,6,8,9,13,14]) ?_
         simp only [go_sem]
         repeat refine zq ?_
         refine awp_dreg2 [(5,some 5),(6,some 6)] follows (by decide +kernel) (by kernel_rfl) (by simp only [keysOk,List.mem_cons,List.not_mem_nil,forall_eq_or_imp,Oc.keyOf,go_sem]; simp) fun K hK=>?_
         simp only [go_sem,Nat.mul_one,hd2,hdM,hl2,hMA,List.headD_cons,List.length_cons,Int.min_self]
         (try simp (disch:=omega) only [zI])
         repeat first | intro _ | refine ⟨by omega,?_⟩ | refine ⟨⟨by omega,by omega⟩,?_⟩
         refine hK _ ?_
         clear hK K
         rw [hLx,hs2,hsM]
         refine zw (zk [4,5,6,13,14]) ?_
         simp only [go_sem]
         repeat refine zq ?_
         refine zb (by kernel_rfl) fun K hK=>?_
         simp only [go_sem]
         (try simp (disch:=omega) only [zI])
         repeat first | intro _ | refine ⟨by omega,?_⟩ | refine ⟨⟨by omega,by omega⟩,?_⟩
         refine hK _ ?_
         clear hK K
         try simp only [go_sem]
         refine ⟨hck,fitW_of [] (by first | exact hvl | (intro j hj; simp only [upd]; (repeat' split); all_goals first | rfl | omega | exact hvl _ hj)) ?_ ?_⟩
         · try simp only [go_sem]
         · try simp only [go_sem]
       · have hLx:=hLs
         simp only [if_true] at hLx
         have hs2:=tA_set (t:=LK) (i:=k) (y:=min y x) (by omega)
         rw [hLx] at hs2
         repeat refine zq ?_
         refine zc rfl (fun hc=>?_) (fun hc=>?_) <;> (try simp only [go_sem] at hc)
         refine zx ?_
         try simp only [go_sem]
         repeat refine zq ?_
         refine awp_dreg2 [(5,some 5),(6,some 6)] follows (by decide +kernel) (by kernel_rfl) (by simp only [keysOk,List.mem_cons,List.not_mem_nil,forall_eq_or_imp,Oc.keyOf,go_sem]; simp) fun K hK=>?_
         simp only [go_sem,Nat.mul_one,hdL,hdM,hLA,hMA,List.headD_cons,List.length_cons]
         (try simp (disch:=omega) only [zI])
         repeat first | intro _ | refine ⟨by omega,?_⟩ | refine ⟨⟨by omega,by omega⟩,?_⟩
         refine hK _ ?_
         clear hK K
         rw [hs2,hsM]
         refine zw (zk [4,5,6,13,14]) ?_
         simp only [go_sem]
         repeat refine zq ?_
         refine zb (by kernel_rfl) fun K hK=>?_
         simp only [go_sem]
         (try simp (disch:=omega) only [zI])
         repeat first | intro _ | refine ⟨by omega,?_⟩ | refine ⟨⟨by omega,by omega⟩,?_⟩
         refine hK _ ?_
         clear hK K
         try simp only [go_sem]
         refine ⟨hck,fitW_of [] (by first | exact hvl | (intro j hj; simp only [upd]; (repeat' split); all_goals first | rfl | omega | exact hvl _ hj)) ?_ ?_⟩
         · try simp only [go_sem]
         · try simp only [go_sem]
     · have hk10 : k = 10:=by omega
       subst hk10
       have e1 : mixT (leastT b ol t) ol 10 = leastT b ol t:=by
        unfold mixT
        rw [List.take_of_length_le (by omega),List.drop_of_length_le (by omega),List.append_nil]
       have e2 : mixT (mostT om t) om 10 = mostT om t:=by
        unfold mixT
        rw [List.take_of_length_le (by omega),List.drop_of_length_le (by omega),List.append_nil]
       rw [e1,e2]
       refine zf ?_
       simp only [go_sem]
       repeat refine zq ?_
       refine zb (by kernel_rfl) fun K hK=>?_
       simp only [go_sem]
       (try simp (disch:=omega) only [zI])
       repeat first | intro _ | refine ⟨by omega,?_⟩ | refine ⟨⟨by omega,by omega⟩,?_⟩
       refine hK _ ?_
       clear hK K
       try simp only [go_sem]
       refine ⟨vs,hvl,?_⟩
       exact sub_look _ (allEq_mem (by simp only [go_sem]))
 · intro vs us hvl _
   have e0 : (AV.r (ints beds) :: List.map AV.r (tR le ++ tR mo)) = shA beds le mo:=(shA_eq beds le mo ▸ by simp)
   have hlen : (xs.map fun t=>[RV.ag (tR t)]).length = xs.length:=List.length_map _
   obtain ⟨al,am⟩:=accL_small (b:=3) (by omega) xs hxs
   have hsm:=accL_some xs
   rw [hlen,List.take_length]
   generalize accL xs = S at *
   obtain ⟨b,ol,om⟩:=S
   simp only at *
   rw [← hsm]
   try simp only [go_sem]
   rw [e0]
   refine zw (sub_wake rfl) ?_
   refine zw (sub_unname 0 rfl) ?_
   refine zw (sub_frzP 5 5 (tR ol) (by omega) rfl rfl) ?_
   refine zw (sub_frzP 6 6 (tR om) (by omega) rfl rfl) ?_
   refine zw (zk [0,4,5,6]) ?_
   simp only [go_sem]
   repeat refine zq ?_
   refine zb (by kernel_rfl) fun K hK=>?_
   simp only [go_sem]
   (try simp (disch:=omega) only [zI])
   repeat first | intro _ | refine ⟨by omega,?_⟩ | refine ⟨⟨by omega,by omega⟩,?_⟩
   refine hK _ ?_
   clear hK K
   refine zw (zk [0,4,5,6,38]) ?_
   simp only [go_sem]
   repeat refine zq ?_
   refine zd ?_
   have hol : ol.length = 10:=al.1
   have hom : om.length = 10:=am.1
   have hlel : le.length = 10:=hle.1
   have hmol : mo.length = 10:=hmo.1
   have hal : (addT le ol).length = 10:=by unfold addT; rw [List.length_zipWith]; omega
   have haml : (addT mo om).length = 10:=by unfold addT; rw [List.length_zipWith]; omega
   refine awp_upto0 (n:=73) 10 (fun k vs=>[(0,.pt 1000 0 0),(4,.pt 4 (vs 4) 0),(5,.r (.rp (tR ol))),(6,.r (.rp (tR om))),(38,.r (i64 k))])
    (fun k=>[(4,.box [.r (.bo b)]),(1000,.box (shA beds (mixT (addT le ol) le k) (mixT (addT mo om) mo k)))]) (fun _=>True) 0 (fit0_of [] (by intro j hj; simp only [upd]; (repeat' split); all_goals first | rfl | omega | exact hvl _ hj) ?_ ?_) (Nat.zero_le _) trivial ?_
   · try simp only [go_sem]
   · try simp only [go_sem]
     simp [mixT]
   · intro k vs hvl hk _
     have hv0:=hvl 1000 (by omega)
     repeat refine zq ?_
     refine zb (by kernel_rfl) fun K hK=>?_
     simp only [go_sem]
     (try simp (disch:=omega) only [zI])
     repeat first | intro _ | refine ⟨by omega,?_⟩ | refine ⟨⟨by omega,by omega⟩,?_⟩
     refine hK _ ?_
     clear hK K
     refine zw (zk [0,4,5,6,38,39]) ?_
     simp only [go_sem]
     repeat refine zq ?_
     refine zc rfl (fun hc=>?_) (fun hc=>?_) <;> (try simp only [go_sem] at hc)
     · have hck : k < 10:=by first | exact hc | omega
       obtain ⟨x,hx⟩:=opt_of_lt (l:=ol) (i:=k) (by omega)
       obtain ⟨y,hy⟩:=opt_of_lt (l:=om) (i:=k) (by omega)
       obtain ⟨a,ha⟩:=opt_of_lt (l:=le) (i:=k) (by omega)
       obtain ⟨c,hcc⟩:=opt_of_lt (l:=mo) (i:=k) (by omega)
       have b1:=al.2 x (mem_of_opt hx)
       have b2:=am.2 y (mem_of_opt hy)
       have b3:=hle.2 a (mem_of_opt ha)
       have b4:=hmo.2 c (mem_of_opt hcc)
       have hk10 : (k : Int) < 10:=by omega
       have n1 : (addT le ol)[k]? = some (a + x):=by simp [addT,List.getElem?_zipWith,ha,hx]
       have n2 : (addT mo om)[k]? = some (c + y):=by simp [addT,List.getElem?_zipWith,hcc,hy]
       have g1 : (mixT (addT le ol) le k)[k]? = some a:=(mix_get hal hlel hck).trans ha
       have g2 : (mixT (addT mo om) mo k)[k]? = some c:=(mix_get haml hmol hck).trans hcc
       have l1 : (mixT (addT le ol) le k).length = 10:=mix_len hal hlel hk
       have l2 : (mixT (addT mo om) mo k).length = 10:=mix_len haml hmol hk
       have s1:=mix_set n1 hal hlel hck
       have s2:=mix_set n2 haml hmol hck
       generalize mixT (addT le ol) le k = LK at *
       generalize mixT (addT mo om) mo k = MK at *
       have d1:=shA_drop1 (beds:=beds) (mo:=MK) g1
       have d2:=shA_drop2 (beds:=beds) l1 g2
       have t1:=shA_set1 (beds:=beds) (mo:=MK) (y:=a + x) (show k < LK.length by omega)
       rw [s1] at t1
       have l3 : (mixT (addT le ol) le (k + 1)).length = 10:=mix_len hal hlel (by omega)
       have d3:=shA_drop2 (beds:=beds) l3 g2
       have t2:=shA_set2 (beds:=beds) (le:=mixT (addT le ol) le (k + 1)) (mo:=MK) (k:=k) (y:=c + y) l3 (by omega)
       rw [s2] at t2
       have dx : List.drop k (tR ol) = i64 x :: List.drop (k + 1) (tR ol):=drop_of_opt (by simp [hx])
       have dy : List.drop k (tR om) = i64 y :: List.drop (k + 1) (tR om):=drop_of_opt (by simp [hy])
       have hL1:=shA_len beds LK MK
       have hL2:=shA_len beds (mixT (addT le ol) le (k + 1)) MK
       refine zx ?_
       try simp only [go_sem]
       repeat refine zq ?_
       refine zd ?_
       repeat refine zq ?_
       refine zb (by kernel_rfl) fun K hK=>?_
       simp only [go_sem]
       (try simp (disch:=omega) only [zI])
       repeat first | intro _ | refine ⟨by omega,?_⟩ | refine ⟨⟨by omega,by omega⟩,?_⟩
       refine hK _ ?_
       clear hK K
       refine zw (zk [0,4,5,6,10,38]) ?_
       simp only [go_sem]
       repeat refine zq ?_
       refine awp_dreg2 [(0,some 1000),(5,none),(6,none)] follows (by decide +kernel) (by kernel_rfl) (by simp only [keysOk,List.mem_cons,List.not_mem_nil,forall_eq_or_imp,Oc.keyOf,go_sem]; simp) fun K hK=>?_
       simp only [go_sem,Nat.mul_one,hv0,d1,d2,d3,dx,dy,t1,t2,hL1,hL2,l1,l2,l3,List.headD_cons,List.length_cons,Nat.zero_add]
       (try simp (disch:=omega) only [zI])
       simp only [t1,t2,hL2,l3,l2]
       repeat first | intro _ | refine ⟨by omega,?_⟩ | refine ⟨⟨by omega,by omega⟩,?_⟩
       refine hK _ ?_
       clear hK K
       refine zw (zk [0,4,5,6,38]) ?_
       simp only [go_sem]
       repeat refine zq ?_
       refine zb (by kernel_rfl) fun K hK=>?_
       simp only [go_sem]
       (try simp (disch:=omega) only [zI])
       repeat first | intro _ | refine ⟨by omega,?_⟩ | refine ⟨⟨by omega,by omega⟩,?_⟩
       refine hK _ ?_
       clear hK K
       try simp only [go_sem]
       refine ⟨hck,fit0_of [] (by first | exact hvl | (intro j hj; simp only [upd]; (repeat' split); all_goals first | rfl | omega | exact hvl _ hj)) ?_ ?_⟩
       · try simp only [go_sem]
       · try simp only [go_sem]
     · have hk10 : k = 10:=by omega
       subst hk10
       have e1 : mixT (addT le ol) le 10 = addT le ol:=by
        unfold mixT
        rw [List.take_of_length_le (by omega),List.drop_of_length_le (by omega),List.append_nil]
       have e2 : mixT (addT mo om) mo 10 = addT mo om:=by
        unfold mixT
        rw [List.take_of_length_le (by omega),List.drop_of_length_le (by omega),List.append_nil]
       rw [e1,e2]
       refine zf ?_
       simp only [go_sem]
       repeat refine zq ?_
       refine zb (by kernel_rfl) fun K hK=>?_
       simp only [go_sem]
       (try simp (disch:=omega) only [zI])
       repeat first | intro _ | refine ⟨by omega,?_⟩ | refine ⟨⟨by omega,by omega⟩,?_⟩
       refine hK _ ?_
       clear hK K
       refine ze ?_
       simp only [go_sem]
       exact ⟨frzPL_r _ _ _,congrArg RowC.box (frzL_r _ _ _)⟩
end Go.Proofs.Ytgkejinoaommeaa

namespace Go.Proofs.Ytgkejinoaommeaa
open Go Go.Oc
set_option linter.unusedSimpArgs false
set_option linter.unusedVariables false
set_option maxRecDepth 8000
def BedsOk (beds : List Int) : Prop:=beds.length ≤ 10 ∧ ∀ b ∈ beds,0 ≤ b ∧ b ≤ 499
def tally3 (i k m : Nat) : List Int:=incT (incT (incT zeroT i) k) m
def cell3 (beds : List Int) (n : Int) (i k m : Nat) : List (List Int) :=
 if scoreOf (beds.getD i 0) + scoreOf (beds.getD k 0) + scoreOf (beds.getD m 0) = n then [tally3 i k m] else []
def rowM (beds : List Int) (n : Int) (i k m : Nat) : List (List Int):=((List.range beds.length).drop m).flatMap (cell3 beds n i k)
def rowK (beds : List Int) (n : Int) (i k : Nat) : List (List Int):=((List.range beds.length).drop k).flatMap fun k=>rowM beds n i k k
def rowI (beds : List Int) (n : Int) (i : Nat) : List (List Int):=((List.range beds.length).drop i).flatMap fun i=>rowK beds n i i
def threeT (beds : List Int) (n : Int) : List (List Int):=rowI beds n 0
theorem range_drop {N m : Nat} (h : m < N) : (List.range N).drop m = m :: (List.range N).drop (m + 1):=drop_of_opt (by simp [h])
theorem rowM_step {beds : List Int} {n : Int} {i k m : Nat} (h : m < beds.length) : rowM beds n i k m = cell3 beds n i k m ++ rowM beds n i k (m + 1):=by
 unfold rowM; rw [range_drop h,List.flatMap_cons]
theorem rowK_step {beds : List Int} {n : Int} {i k : Nat} (h : k < beds.length) : rowK beds n i k = rowM beds n i k k ++ rowK beds n i (k + 1):=by
 unfold rowK; rw [range_drop h,List.flatMap_cons]
theorem rowI_step {beds : List Int} {n : Int} {i : Nat} (h : i < beds.length) : rowI beds n i = rowK beds n i i ++ rowI beds n (i + 1):=by
 unfold rowI; rw [range_drop h,List.flatMap_cons]
theorem rowM_end {beds : List Int} {n : Int} {i k m : Nat} (h : beds.length ≤ m) : rowM beds n i k m = []:=by
 unfold rowM; rw [List.drop_of_length_le (by simpa using h)]; rfl
theorem rowK_end {beds : List Int} {n : Int} {i k : Nat} (h : beds.length ≤ k) : rowK beds n i k = []:=by
 unfold rowK; rw [List.drop_of_length_le (by simpa using h)]; rfl
theorem rowI_end {beds : List Int} {n : Int} {i : Nat} (h : beds.length ≤ i) : rowI beds n i = []:=by
 unfold rowI; rw [List.drop_of_length_le (by simpa using h)]; rfl
theorem incT_eq {t : List Int} {i : Nat} {x : Int} (h : t[i]? = some x) : incT t i = t.set i (x + 1):=by simp [incT,List.getD_eq_getElem?_getD,h]
theorem tally3_small (i k m : Nat) : SmallT 3 (tally3 i k m):=by
 have h0 : SmallT 0 zeroT:=zeroT_small (by omega)
 have h1:=incT_small (i:=i) h0 (by omega)
 have h2:=incT_small (i:=k) h1 (by omega)
 exact incT_small (i:=m) h2 (by omega)
theorem threeT_small {beds : List Int} {n : Int} : ∀ t ∈ threeT beds n,SmallT 3 t:=fun t ht=>by
 unfold threeT rowI at ht
 obtain ⟨i,_,ht⟩:=List.mem_flatMap.1 ht
 unfold rowK at ht
 obtain ⟨k,_,ht⟩:=List.mem_flatMap.1 ht
 unfold rowM at ht
 obtain ⟨m,_,ht⟩:=List.mem_flatMap.1 ht
 unfold cell3 at ht
 split at ht
 · rw [List.mem_singleton.1 ht]; exact tally3_small i k m
 · cases ht
abbrev yl1 (l : List (List Int)) : List (List RV):=l.map fun t=>[.ag (tR t)]
theorem three1_ok (beds le mo : List Int) (n : Int) (hb : BedsOk beds) : ICalls Try.prog true 94 [.rp [.rp (sheetR beds le mo)],.rp [i64 n]] (yl1 (threeT beds n)):=by
 have hlen:=hb.1
 refine icalls_st Try.func94 rfl (by kernel_rfl) Try.ntmps94 rfl (by simp) fun C ll=>?_
 repeat refine zq ?_
 refine zb (by kernel_rfl) fun K hK=>?_
 simp only [go_sem,argL]
 (try simp (disch:=omega) only [zI])
 intros
 repeat first | intro _ | refine ⟨by omega,?_⟩ | refine ⟨⟨by omega,by omega⟩,?_⟩
 refine hK _ ?_
 clear hK K
 refine zw (zk [0,1,2,14,15,16]) ?_
 simp only [go_sem]
 repeat refine zq ?_
 refine zd ?_
 refine awp_upto (n:=85) beds.length (fun i vs=>[(0,.r (.yl ll)),(1,.r (.rp [.rp (sheetR beds le mo)])),(2,.r (.rp [i64 n])),(14,.r (ints beds)),(15,.r (i64 beds.length)),(16,.r (i64 i))])
  (fun i=>[(999,.gh Try.prog ll true (some (yl1 (rowI beds n i))))]) (fun _=>True) 0 (fit_of [] ?_ ?_) (Nat.zero_le _) trivial ?_
 · try simp only [go_sem]
 · try simp only [go_sem]
   rfl
 · intro i vs hi _
   repeat refine zq ?_
   refine zb (by kernel_rfl) fun K hK=>?_
   simp only [go_sem]
   (try simp (disch:=omega) only [zI])
   repeat first | intro _ | refine ⟨by omega,?_⟩ | refine ⟨⟨by omega,by omega⟩,?_⟩
   refine hK _ ?_
   clear hK K
   refine zw (zk [0,1,2,14,15,16,17]) ?_
   simp only [go_sem]
   repeat refine zq ?_
   refine zc rfl (fun hc=>?_) (fun hc=>?_) <;> (try simp only [go_sem] at hc)
   · have hci:=hc
     obtain ⟨a,ha⟩:=opt_of_lt hci
     have hs1:=rowI_step (n:=n) hci
     refine zx ?_
     try simp only [go_sem]
     repeat refine zq ?_
     refine zd ?_
     repeat refine zq ?_
     refine zb (by kernel_rfl) fun K hK=>?_
     simp only [go_sem,ha,hci]
     (try simp (disch:=omega) only [zI])
     repeat first | intro _ | refine ⟨by omega,?_⟩ | refine ⟨⟨by omega,by omega⟩,?_⟩
     refine hK _ ?_
     clear hK K
     refine zw (zk [0,1,2,4,5,14,15,16]) ?_
     simp only [go_sem]
     repeat refine zq ?_
     refine zb (by kernel_rfl) fun K hK=>?_
     simp only [go_sem]
     (try simp (disch:=omega) only [zI])
     intros
     refine ⟨by omega,?_⟩
     repeat first | intro _ | refine ⟨by omega,?_⟩ | refine ⟨⟨by omega,by omega⟩,?_⟩
     refine hK _ ?_
     clear hK K
     refine zw (zk [0,1,2,4,5,14,15,16,26,27,28]) ?_
     simp only [go_sem]
     have hdm : List.drop i (beds.map fun x=>[RV.it IntKind.i64 x]) = (beds.drop i).map fun x=>[RV.it IntKind.i64 x]:=List.map_drop.symm
     have hdl : (beds.drop i).length = beds.length - i:=List.length_drop
     rw [hdm,hs1]
     repeat refine zq ?_
     refine zd ?_
     refine awp_upto (n:=85) (beds.length - i) (fun k vs=>[(0,.r (.yl ll)),(1,.r (.rp [.rp (sheetR beds le mo)])),(2,.r (.rp [i64 n])),(4,.r (i64 i)),(5,.r (i64 a)),(14,.r (ints beds)),(15,.r (i64 beds.length)),(16,.r (i64 i)),(26,.r (ints (beds.drop i))),(27,.r (i64 ((beds.length - i : Nat) : Int))),(28,.r (i64 k))])
      (fun k=>[(999,.gh Try.prog ll true (some (yl1 (rowK beds n i (i + k) ++ rowI beds n (i + 1)))))]) (fun _=>True) 0 (fit_of [] ?_ ?_) (Nat.zero_le _) trivial ?_
     · try simp only [go_sem]
     · try simp only [go_sem]
     · intro k vs hk _
       repeat refine zq ?_
       refine zb (by kernel_rfl) fun K hK=>?_
       simp only [go_sem]
       (try simp (disch:=omega) only [zI])
       repeat first | intro _ | refine ⟨by omega,?_⟩ | refine ⟨⟨by omega,by omega⟩,?_⟩
       refine hK _ ?_
       clear hK K
       refine zw (zk [0,1,2,4,5,14,15,16,26,27,28,29]) ?_
       simp only [go_sem]
       repeat refine zq ?_
       refine zc rfl (fun hc=>?_) (fun hc=>?_) <;> (try simp only [go_sem] at hc)
       · have hck : k < beds.length - i:=by first | exact hc | omega
         have hkl : i + k < beds.length:=by omega
         obtain ⟨b,hbx⟩:=opt_of_lt hkl
         have hbd : (beds.drop i)[k]? = some b:=by rw [List.getElem?_drop]; exact hbx
         have hkd : k < (beds.drop i).length:=by omega
         have hs2:=rowK_step (n:=n) (i:=i) hkl
         refine zx ?_
         try simp only [go_sem]
         repeat refine zq ?_
         refine zd ?_
         repeat refine zq ?_
         refine zb (by kernel_rfl) fun K hK=>?_
         simp only [go_sem,hbd,hkd]
         (try simp (disch:=omega) only [zI])
         repeat first | intro _ | refine ⟨by omega,?_⟩ | refine ⟨⟨by omega,by omega⟩,?_⟩
         refine hK _ ?_
         clear hK K
         refine zw (zk [0,1,2,4,5,6,7,14,15,16,26,27,28]) ?_
         simp only [go_sem]
         repeat refine zq ?_
         refine zb (by kernel_rfl) fun K hK=>?_
         simp only [go_sem]
         (try simp (disch:=omega) only [zI])
         intros
         refine ⟨by omega,?_⟩
         repeat first | intro _ | refine ⟨by omega,?_⟩ | refine ⟨⟨by omega,by omega⟩,?_⟩
         refine hK _ ?_
         clear hK K
         refine zw (zk [0,1,2,4,5,6,7,14,15,16,26,27,28,40,41,42]) ?_
         simp only [go_sem]
         have htn : ((i : Int) + (k : Int)).toNat = i + k:=by omega
         have hdm2 : List.drop (i + k) (beds.map fun x=>[RV.it IntKind.i64 x]) = (beds.drop (i + k)).map fun x=>[RV.it IntKind.i64 x]:=List.map_drop.symm
         have hdl2 : (beds.drop (i + k)).length = beds.length - (i + k):=List.length_drop
         rw [htn,hdm2,hs2]
         repeat refine zq ?_
         refine zd ?_
         refine awp_upto (n:=85) (beds.length - (i + k)) (fun m vs=>[(0,.r (.yl ll)),(1,.r (.rp [.rp (sheetR beds le mo)])),(2,.r (.rp [i64 n])),(4,.r (i64 i)),(5,.r (i64 a)),(6,.r (i64 k)),(7,.r (i64 b)),(14,.r (ints beds)),(15,.r (i64 beds.length)),(16,.r (i64 i)),(26,.r (ints (beds.drop i))),(27,.r (i64 ((beds.length - i : Nat) : Int))),(28,.r (i64 k)),(40,.r (ints (beds.drop (i + k)))),(41,.r (i64 ((beds.length - (i + k) : Nat) : Int))),(42,.r (i64 m))])
          (fun m=>[(999,.gh Try.prog ll true (some (yl1 (rowM beds n i (i + k) (i + k + m) ++ (rowK beds n i (i + k + 1) ++ rowI beds n (i + 1))))))]) (fun _=>True) 0 (fit_of [] ?_ ?_) (Nat.zero_le _) trivial ?_
         · try simp only [go_sem]
         · try simp only [go_sem]
           simp [List.append_assoc]
         · intro m vs hm _
           repeat refine zq ?_
           refine zb (by kernel_rfl) fun K hK=>?_
           simp only [go_sem]
           (try simp (disch:=omega) only [zI])
           repeat first | intro _ | refine ⟨by omega,?_⟩ | refine ⟨⟨by omega,by omega⟩,?_⟩
           refine hK _ ?_
           clear hK K
           refine zw (zk [0,1,2,4,5,6,7,14,15,16,26,27,28,40,41,42,43]) ?_
           simp only [go_sem]
           repeat refine zq ?_
           refine zc rfl (fun hc=>?_) (fun hc=>?_) <;> (try simp only [go_sem] at hc)
           · have hcm : m < beds.length - (i + k):=by first | exact hc | omega
             have hml : i + k + m < beds.length:=by omega
             obtain ⟨c,hcx⟩:=opt_of_lt hml
             have hcd : (beds.drop (i + k))[m]? = some c:=by rw [List.getElem?_drop]; exact hcx
             have hmd : m < (beds.drop (i + k)).length:=by omega
             have hs3:=rowM_step (n:=n) (i:=i) (k:=i + k) hml
             have ba:=hb.2 a (mem_of_opt ha)
             have bb:=hb.2 b (mem_of_opt hbx)
             have bc:=hb.2 c (mem_of_opt hcx)
             have sa:=score_le ba.1 ba.2
             have sb:=score_le bb.1 bb.2
             have sc:=score_le bc.1 bc.2
             have hcell : cell3 beds n i (i + k) (i + k + m) = if scoreOf a + scoreOf b + scoreOf c = n then [tally3 i (i + k) (i + k + m)] else []:=by
              unfold cell3
              simp only [List.getD_eq_getElem?_getD,ha,hbx,hcx,Option.getD_some]
             rw [hs3,hcell]
             refine zx ?_
             try simp only [go_sem]
             repeat refine zq ?_
             refine zd ?_
             repeat refine zq ?_
             refine zb (by kernel_rfl) fun K hK=>?_
             simp only [go_sem,hcd,hmd]
             (try simp (disch:=omega) only [zI])
             repeat first | intro _ | refine ⟨by omega,?_⟩ | refine ⟨⟨by omega,by omega⟩,?_⟩
             refine hK _ ?_
             clear hK K
             refine zw (zk [0,1,2,4,5,6,7,8,9,14,15,16,26,27,28,40,41,42]) ?_
             simp only [go_sem]
             repeat refine zq ?_
             refine zg follows (by decide +kernel) (by kernel_rfl) fun K hK=>?_
             simp only [go_sem]
             (try simp (disch:=omega) only [zI])
             refine zh (score_ok a ba.1 ba.2) rfl (by simp only [go_sem,i64,ints]) (by simp only [go_sem,i64,ints]) (by first | exact .inl rfl | exact .inr rfl) ?_
             (try simp only [go_sem])
             (try simp (disch:=omega) only [zI])
             refine zh (score_ok b bb.1 bb.2) rfl (by simp only [go_sem,i64,ints]) (by simp only [go_sem,i64,ints]) (by first | exact .inl rfl | exact .inr rfl) ?_
             (try simp only [go_sem])
             (try simp (disch:=omega) only [zI])
             refine zh (score_ok c bc.1 bc.2) rfl (by simp only [go_sem,i64,ints]) (by simp only [go_sem,i64,ints]) (by first | exact .inl rfl | exact .inr rfl) ?_
             (try simp only [go_sem])
             (try simp (disch:=omega) only [zI])
             repeat first | intro _ | refine ⟨by omega,?_⟩ | refine ⟨⟨by omega,by omega⟩,?_⟩
             refine hK _ ?_
             clear hK K
             refine zw (zk [0,1,2,4,5,6,7,8,9,14,15,16,26,27,28,40,41,42,56]) ?_
             simp only [go_sem]
             by_cases hsum : scoreOf a + scoreOf b + scoreOf c = n
             · have e1 : (scoreOf a + scoreOf b + scoreOf c != n) = false:=by simp [hsum]
               rw [e1,if_pos hsum]
               repeat refine zq ?_
               refine zc rfl (fun hc=>?_) (fun hc=>?_) <;> (try simp only [go_sem] at hc)
               refine zx ?_
               try simp only [go_sem]
               repeat refine zq ?_
               refine zb (by kernel_rfl) fun K hK=>?_
               simp only [go_sem]
               (try simp (disch:=omega) only [zI])
               repeat first | intro _ | refine ⟨by omega,?_⟩ | refine ⟨⟨by omega,by omega⟩,?_⟩
               refine hK _ ?_
               clear hK K
               refine zw (zk [0,1,2,4,5,6,7,8,9,10,14,15,16,26,27,28,40,41,42]) ?_
               simp only [go_sem]
               have ez : ([AV.r (RV.it IntKind.i64 0),AV.r (RV.it IntKind.i64 0),AV.r (RV.it IntKind.i64 0),AV.r (RV.it IntKind.i64 0),AV.r (RV.it IntKind.i64 0),AV.r (RV.it IntKind.i64 0),AV.r (RV.it IntKind.i64 0),AV.r (RV.it IntKind.i64 0),AV.r (RV.it IntKind.i64 0),AV.r (RV.it IntKind.i64 0)] : List AV) = tA zeroT:=rfl
               have smx : SmallT 0 zeroT:=zeroT_small (by omega)
               have smy : SmallT 1 (incT zeroT i):=incT_small smx (by omega)
               have smz : SmallT 2 (incT (incT zeroT i) (i + k)):=incT_small smy (by omega)
               have smw : SmallT 3 (tally3 i (i + k) (i + k + m)):=tally3_small _ _ _
               have q0:=smx.1
               have q1:=smy.1
               have q2:=smz.1
               have q3:=smw.1
               have htn3 : ((i : Int) + (k : Int) + (m : Int)).toNat = i + k + m:=by omega
               have wk1 : IntKind.i64.wrap ((i : Int) + (k : Int)) = ((i + k : Nat) : Int):=by rw [zI] <;> omega
               have wk2 : IntKind.i64.wrap (((i + k : Nat) : Int) + (m : Int)) = ((i + k + m : Nat) : Int):=by rw [zI] <;> omega
               rw [ez]
               obtain ⟨x,hx⟩:=opt_of_lt (l:=zeroT) (i:=i) (by omega)
               have ix : incT zeroT (i) = (zeroT).set (i) (x + 1):=incT_eq hx
               have gx:=smx.2 x (mem_of_opt hx)
               have dx:=tA_drop hx
               have sx:=tA_set (t:=zeroT) (i:=i) (y:=x + 1) (by omega)
               have lx:=tA_len (zeroT)
               rw [← ix] at sx
               repeat refine zq ?_
               refine zb (by kernel_rfl) fun K hK=>?_
               simp only [go_sem,Nat.mul_one,dx,lx,List.headD_cons,List.length_cons]
               (try simp (disch:=omega) only [zI])
               repeat first | intro _ | refine ⟨by omega,?_⟩ | refine ⟨⟨by omega,by omega⟩,?_⟩
               refine hK _ ?_
               clear hK K
               rw [sx]
               refine zw (zk [0,1,2,4,5,6,7,8,9,10,14,15,16,26,27,28,40,41,42]) ?_
               simp only [go_sem]
               obtain ⟨y,hy⟩:=opt_of_lt (l:=incT zeroT i) (i:=i + k) (by omega)
               have iy : incT (incT zeroT i) (i + k) = (incT zeroT i).set (i + k) (y + 1):=incT_eq hy
               have gy:=smy.2 y (mem_of_opt hy)
               have dy:=tA_drop hy
               have sy:=tA_set (t:=incT zeroT i) (i:=i + k) (y:=y + 1) (by omega)
               have ly:=tA_len (incT zeroT i)
               rw [← iy] at sy
               repeat refine zq ?_
               refine zb (by kernel_rfl) fun K hK=>?_
               simp only [go_sem,Nat.mul_one]
               (try simp (disch:=omega) only [zI])
               simp only [go_sem,Nat.mul_one,htn,dy,ly,List.headD_cons,List.length_cons]
               (try simp (disch:=omega) only [zI])
               (try simp only [go_sem,Nat.mul_one,htn,dy,ly,List.headD_cons,List.length_cons])
               repeat first | intro _ | refine ⟨by omega,?_⟩ | refine ⟨⟨by omega,by omega⟩,?_⟩
               refine hK _ ?_
               clear hK K
               rw [sy]
               refine zw (zk [0,1,2,4,5,6,7,8,9,10,14,15,16,26,27,28,40,41,42]) ?_
               simp only [go_sem]
               obtain ⟨z,hz⟩:=opt_of_lt (l:=incT (incT zeroT i) (i + k)) (i:=i + k + m) (by omega)
               have iz : incT (incT (incT zeroT i) (i + k)) (i + k + m) = (incT (incT zeroT i) (i + k)).set (i + k + m) (z + 1):=incT_eq hz
               have gz:=smz.2 z (mem_of_opt hz)
               have dz:=tA_drop hz
               have sz:=tA_set (t:=incT (incT zeroT i) (i + k)) (i:=i + k + m) (y:=z + 1) (by omega)
               have lz:=tA_len (incT (incT zeroT i) (i + k))
               rw [← iz] at sz
               repeat refine zq ?_
               refine zb (by kernel_rfl) fun K hK=>?_
               simp only [go_sem,Nat.mul_one]
               (try simp (disch:=omega) only [zI])
               simp only [go_sem,Nat.mul_one,htn3,dz,lz,List.headD_cons,List.length_cons]
               (try simp (disch:=omega) only [zI])
               (try simp only [go_sem,Nat.mul_one,htn3,dz,lz,List.headD_cons,List.length_cons])
               repeat first | intro _ | refine ⟨by omega,?_⟩ | refine ⟨⟨by omega,by omega⟩,?_⟩
               refine hK _ ?_
               clear hK K
               rw [sz]
               refine zw (zk [0,1,2,4,5,6,7,8,9,10,14,15,16,26,27,28,40,41,42]) ?_
               simp only [go_sem]
               have et : incT (incT (incT zeroT i) (i + k)) (i + k + m) = tally3 i (i + k) (i + k + m):=rfl
               rw [et]
               generalize hT : tally3 i (i + k) (i + k + m) = T at *
               have htk : List.take 10 (tR T) = tR T:=List.take_of_length_le (by rw [List.length_map,q3]; exact Nat.le_refl _)
               have htl : (tR T).length = 10:=by rw [List.length_map,q3]
               refine zw (sub_frzP 10 10 (tR T) (by omega) rfl rfl) ?_
               try simp only [go_sem]
               repeat refine zq ?_
               refine zb (by kernel_rfl) fun K hK=>?_
               simp only [go_sem,htk,htl,Nat.le_refl]
               (try simp (disch:=omega) only [zI])
               refine xcall_yield (z:=true) (e:=[.ag (tR T)]) (rest:=yl1 (rowM beds n i (i + k) (i + k + m + 1) ++ (rowK beds n i (i + k + 1) ++ rowI beds n (i + 1)))) (by simp only [go_sem]) rfl (by simp only [go_sem]) (.inl (by simp only [RV.flatL,RV.flatB,flat_tR,Bool.and_self])) ?_ ?_
               · simp only [go_sem]
                 repeat first | intro _ | refine ⟨by omega,?_⟩ | refine ⟨⟨by omega,by omega⟩,?_⟩
                 refine hK _ ?_
                 clear hK K
                 refine zw (zk [0,1,2,4,5,6,7,14,15,16,26,27,28,40,41,42,81]) ?_
                 simp only [go_sem]
                 repeat refine zq ?_
                 refine zc rfl (fun hc=>?_) (fun hc=>?_) <;> (try simp only [go_sem] at hc)
                 refine zx ?_
                 try simp only [go_sem]
                 repeat refine zq ?_
                 refine zb (by kernel_rfl) fun K hK=>?_
                 simp only [go_sem]
                 (try simp (disch:=omega) only [zI])
                 repeat first | intro _ | refine ⟨by omega,?_⟩ | refine ⟨⟨by omega,by omega⟩,?_⟩
                 refine hK _ ?_
                 clear hK K
                 try simp only [go_sem]
                 refine ⟨hcm,fit_of [] ?_ ?_⟩
                 · try simp only [go_sem]
                 · try simp only [go_sem]
                   simp [Nat.add_assoc]
               · simp only [go_sem]
                 repeat first | intro _ | refine ⟨by omega,?_⟩ | refine ⟨⟨by omega,by omega⟩,?_⟩
                 refine hK _ ?_
                 clear hK K
                 refine zw (zk [81]) ?_
                 simp only [go_sem]
                 repeat refine zq ?_
                 refine zc rfl (fun hc=>?_) (fun hc=>?_) <;> (try simp only [go_sem] at hc)
                 refine ze ?_
                 simp only [go_sem]
                 exact ⟨_,_,.inr rfl⟩
             · have e1 : (scoreOf a + scoreOf b + scoreOf c != n) = true:=by simp [hsum]
               rw [e1,if_neg hsum]
               repeat refine zq ?_
               refine zc rfl (fun hc=>?_) (fun hc=>?_) <;> (try simp only [go_sem] at hc)
               refine zf ?_
               simp only [go_sem]
               repeat refine zq ?_
               refine zb (by kernel_rfl) fun K hK=>?_
               simp only [go_sem]
               (try simp (disch:=omega) only [zI])
               repeat first | intro _ | refine ⟨by omega,?_⟩ | refine ⟨⟨by omega,by omega⟩,?_⟩
               refine hK _ ?_
               clear hK K
               try simp only [go_sem]
               refine ⟨hcm,fit_of [] ?_ ?_⟩
               · try simp only [go_sem]
               · try simp only [go_sem]
                 simp [Nat.add_assoc]
           · have hme : m = beds.length - (i + k):=by omega
             refine zf ?_
             simp only [go_sem]
             rw [rowM_end (m:=i + k + m) (by omega)]
             repeat refine zq ?_
             refine zb (by kernel_rfl) fun K hK=>?_
             simp only [go_sem]
             (try simp (disch:=omega) only [zI])
             repeat first | intro _ | refine ⟨by omega,?_⟩ | refine ⟨⟨by omega,by omega⟩,?_⟩
             refine hK _ ?_
             clear hK K
             try simp only [go_sem]
             refine ⟨hck,fit_of [] ?_ ?_⟩
             · try simp only [go_sem]
             · try simp only [go_sem]
               simp [Nat.add_assoc]
       · have hke : k = beds.length - i:=by omega
         refine zf ?_
         simp only [go_sem]
         rw [rowK_end (k:=i + k) (by omega)]
         repeat refine zq ?_
         refine zb (by kernel_rfl) fun K hK=>?_
         simp only [go_sem]
         (try simp (disch:=omega) only [zI])
         repeat first | intro _ | refine ⟨by omega,?_⟩ | refine ⟨⟨by omega,by omega⟩,?_⟩
         refine hK _ ?_
         clear hK K
         try simp only [go_sem]
         refine ⟨hci,fit_of [] ?_ ?_⟩
         · try simp only [go_sem]
         · try simp only [go_sem]
   · refine zf ?_
     simp only [go_sem]
     rw [rowI_end (by omega)]
     exact ⟨_,_,.inl rfl⟩
end Go.Proofs.Ytgkejinoaommeaa

namespace Go.Proofs.Ytgkejinoaommeaa
open Go Go.Oc
set_option linter.unusedSimpArgs false
set_option linter.unusedVariables false
set_option maxRecDepth 8000
def truthsK (beds ds : List Int) : List (List Int):=match tallyK beds zeroT ds with | some t=>[t] | none=>[]
theorem knownXs_eq (beds ds : List Int) : knownXs beds ds = yl1 (truthsK beds ds):=by
 unfold knownXs truthsK
 cases tallyK beds zeroT ds <;> rfl
theorem tallyK_small {beds : List Int} : ∀ {ds t r : List Int} {b : Int},tallyK beds t ds = some r → 0 ≤ b → SmallT b t → SmallT (b + ds.length) r
 | [], t, r, b, h, hb, hs => by
   simp only [tallyK,Option.some.injEq] at h
   subst h
   simpa using hs
 | d :: ds, t, r, b, h, hb, hs => by
   rw [tallyK] at h
   split at h
   · cases h
   · have:=tallyK_small h (by omega) (incT_small (i:=(atE beds d).toNat) hs hb)
     rw [List.length_cons]
     have e : b + 1 + (ds.length : Int) = b + ((ds.length + 1 : Nat) : Int):=by omega
     rwa [e] at this
theorem truthsK_small {beds ds : List Int} (h : ds.length = 3) : ∀ t ∈ truthsK beds ds,SmallT 3 t:=fun t ht=>by
 unfold truthsK at ht
 cases e : tallyK beds zeroT ds with
 | none=>rw [e] at ht; cases ht
 | some r =>
   rw [e] at ht
   rw [List.mem_singleton.1 ht]
   have:=tallyK_small e (by omega) (zeroT_small (b:=0) (by omega))
   rw [h] at this
   exact this
def truthsV (beds ds : List Int) (n : Int) : List (List Int):=if ds = [] then threeT beds n else truthsK beds ds
def visitE (beds ds : List Int) (n : Int) : Int :=
 if ds ≠ [] ∧ (ds.length ≠ 3 ∨ n ≠ 0) then 4 else if ¬ (0 ≤ n ∧ n ≤ 240) then 3 else if (truthsV beds ds n).isEmpty then 9 else 0
theorem lift_rp {w : World} {R R' : Nat → Prop} {u : Addr} {rs : List RV} {v : Value} (h : RV.rel w R (.rp [.vl u]) v) (hu : RV.rel w R' (.rp rs) (.pointer (some u))) (hR : ∀ b,R b → R' b) : RV.rel w R' (.rp [.rp rs]) v:=by
 simp only [RV.rel,RV.relC] at h ⊢
 obtain ⟨ad,hv,hr,⟨x,hx,h1,h2⟩,_⟩:=h
 subst h2
 refine ⟨ad,hv,hR _ hr,⟨_,hx,h1,?_⟩,trivial⟩
 simpa only [RV.rel] using hu
theorem cap_known {u : Addr} {ds : List Int} {rs : List RV} (w : World) (p : Plan) (ver : Nat → Nat) (R' : Nat → Prop) (vals : List Value) (h : AV.relV w p ver ([.rp [ints ds],.rp [.vl u]].map .r) vals) (hu : RV.rel w R' (.rp rs) (.pointer (some u))) (hR : ∀ b,p.R b → R' b) :
 RV.relV w R' [.rp [ints ds],.rp [.rp rs]] vals:=by
 simp only [List.map_cons,List.map_nil,AV.relV,AV.rel] at h
 obtain ⟨v1,vs,rfl,h1,v2,vs2,rfl,h2,rfl⟩:=h
 simp only [RV.relV]
 exact ⟨v1,[v2],rfl,RV.rel_mono hR (fun _ _=>rfl) _ _ h1,v2,[],rfl,lift_rp h2 hu hR,rfl⟩
theorem cap_three {u : Addr} {n : Int} {rs : List RV} (w : World) (p : Plan) (ver : Nat → Nat) (R' : Nat → Prop) (vals : List Value) (h : AV.relV w p ver ([.rp [.vl u],.rp [i64 n]].map .r) vals) (hu : RV.rel w R' (.rp rs) (.pointer (some u))) (hR : ∀ b,p.R b → R' b) :
 RV.relV w R' [.rp [.rp rs],.rp [i64 n]] vals:=by
 simp only [List.map_cons,List.map_nil,AV.relV,AV.rel] at h
 obtain ⟨v1,vs,rfl,h1,v2,vs2,rfl,h2,rfl⟩:=h
 simp only [RV.relV]
 exact ⟨v1,[v2],rfl,lift_rp h1 hu hR,v2,[],rfl,RV.rel_mono hR (fun _ _=>rfl) _ _ h2,rfl⟩
theorem addT_zero : ∀ (a z : List Int),a.length = z.length → (∀ x ∈ z,x = 0) → addT a z = a
 | [],[],_,_=>rfl
 | a :: l, z :: m, h, hz => by
   have h0:=hz z (by simp)
   simp only [List.length_cons] at h
   have ih:=addT_zero l m (by omega) fun x hx=>hz x (by simp [hx])
   unfold addT at ih ⊢
   rw [List.zipWith_cons_cons,ih,h0,Int.add_zero]
 | [],_ :: _,h,_=>by simp at h
 | _ :: _,[],h,_=>by simp at h
theorem backL_r (ρ : List (Nat × Nat)) (ver : Nat → Nat) : ∀ l : List RV,backL ρ ver (l.map AV.r) = l.map AV.r
 | []=>rfl
 | x :: l=>by simp only [List.map_cons,backL,backA,backL_r ρ ver l]
theorem shA_back (ρ : List (Nat × Nat)) (ver : Nat → Nat) (beds le mo : List Int) : backL ρ ver (shA beds le mo) = shA beds le mo:=backL_r ρ ver _
theorem lendL_r (ρ : List (Nat × Nat)) (ver : Nat → Nat) : ∀ l : List RV,lendL ρ ver (l.map AV.r) = some (l.map AV.r)
 | []=>rfl
 | x :: l=>by simp only [List.map_cons,lendL,lendA,lendL_r ρ ver l]
theorem shA_lend (ρ : List (Nat × Nat)) (ver : Nat → Nat) (beds le mo : List Int) : lendL ρ ver (shA beds le mo) = some (shA beds le mo):=lendL_r ρ ver _
theorem accL_nil : accL [] = (false,zeroT,zeroT):=rfl
def leV (beds le ds : List Int) (n : Int) : List Int:=if visitE beds ds n = 0 then addT le (accL (truthsV beds ds n)).2.1 else le
def moV (beds mo ds : List Int) (n : Int) : List Int:=if visitE beds ds n = 0 then addT mo (accL (truthsV beds ds n)).2.2 else mo
theorem visit_ok (beds le mo ds : List Int) (n : Int) (hb : BedsOk beds) (hle : SmallT 3000 le) (hmo : SmallT 3000 mo) :
 MCalls Try.prog 60 [(1000,.box (shA beds le mo))] [(1000,.box (shA beds (leV beds le ds n) (moV beds mo ds n)))] [.pt 1000 0 0,.ag [.r (ints ds),.r (i64 n)]] (.r (i64 (visitE beds ds n))):=by
 refine mcalls_stO (n:=45) (rs:=[.r (i64 (visitE beds ds n))]) _ _ [.tmp 4] Try.func60 rfl (by kernel_rfl) Try.ntmps60 rfl (by simp) rfl rfl fun C hC=>?_
 refine awp_name 0 rfl fun u=>?_
 have hbl:=hb.1
 have fin : ∀ l : List RV,frzPL [(1000,RowC.box (shA beds le mo))] (fun _=>⟨0,.dead⟩) (l.map AV.r):=fun l=>frzPL_r _ _ l
 repeat refine zq ?_
 refine zb (by kernel_rfl) fun K hK=>?_
 simp only [go_sem]
 (try simp (disch:=omega) only [zI])
 repeat first | intro _ | refine ⟨by omega,?_⟩ | refine ⟨⟨by omega,by omega⟩,?_⟩
 refine hK _ ?_
 clear hK K
 refine zw (sub_frzP 3 3 [ints ds,i64 n] (by omega) rfl rfl) ?_
 refine zw (zk [0,3,4]) ?_
 simp only [go_sem]
 repeat refine zq ?_
 refine zb (by kernel_rfl) fun K hK=>?_
 simp only [go_sem]
 (try simp (disch:=omega) only [zI])
 refine zh (known_ok u ds) rfl (by simp only [go_sem,i64,ints]) (by simp only [go_sem,i64,ints]) (by first | exact .inl rfl | exact .inr rfl) ?_
 (try simp only [go_sem])
 (try simp (disch:=omega) only [zI])
 repeat first | intro _ | refine ⟨by omega,?_⟩ | refine ⟨⟨by omega,by omega⟩,?_⟩
 refine hK _ ?_
 clear hK K
 refine zw (zk [0,3,5]) ?_
 simp only [go_sem]
 repeat refine zq ?_
 refine zd ?_
 by_cases hds : ds = []
 · subst hds
   have e0 : visitE beds [] n = if ¬ (0 ≤ n ∧ n ≤ 240) then 3 else if (threeT beds n).isEmpty then 9 else 0:=by simp [visitE,truthsV]
   have eL : ∀ e,visitE beds [] n = e → e ≠ 0 → leV beds le [] n = le ∧ moV beds mo [] n = mo:=fun e h1 h2=>by
    unfold leV moV
    rw [if_neg (by rw [h1]; exact h2),if_neg (by rw [h1]; exact h2)]
    exact ⟨rfl,rfl⟩
   repeat refine zq ?_
   refine zb (by kernel_rfl) fun K hK=>?_
   simp only [go_sem,List.length_nil,bne_self_eq_false]
   (try simp (disch:=omega) only [zI])
   intros
   repeat first | intro _ | refine ⟨by omega,?_⟩ | refine ⟨⟨by omega,by omega⟩,?_⟩
   refine hK _ ?_
   clear hK K
   refine zw (zk [0,3,5,10]) ?_
   simp only [go_sem]
   repeat refine zq ?_
   refine zc rfl (fun hc=>?_) (fun hc=>?_) <;> (try simp only [go_sem] at hc)
   by_cases hn : 0 ≤ n ∧ n ≤ 240
   · have w1 : withinL 0 240 [n] = true:=by simp [withinL]; omega
     rw [if_neg (by simpa using hn)] at e0
     repeat refine zq ?_
     refine zb (by kernel_rfl) fun K hK=>?_
     simp only [go_sem]
     (try simp (disch:=omega) only [zI])
     refine zh (within_ok 0 240 [n]) rfl (by simp only [go_sem,i64,ints,w1]) (by simp only [go_sem,i64,ints,w1]) (by first | exact .inl rfl | exact .inr rfl) ?_
     (try simp only [go_sem,w1])
     (try simp (disch:=omega) only [zI])
     repeat first | intro _ | refine ⟨by omega,?_⟩ | refine ⟨⟨by omega,by omega⟩,?_⟩
     refine hK _ ?_
     clear hK K
     refine zw (zk [0,3,5,26]) ?_
     simp only [go_sem]
     repeat refine zq ?_
     refine zc rfl (fun hc=>?_) (fun hc=>?_) <;> (try simp only [go_sem] at hc)
     repeat refine zq ?_
     refine zb (by kernel_rfl) fun K hK=>?_
     simp only [go_sem,List.length_nil,beq_self_eq_true]
     (try simp (disch:=omega) only [zI])
     intros
     repeat first | intro _ | refine ⟨by omega,?_⟩ | refine ⟨⟨by omega,by omega⟩,?_⟩
     refine hK _ ?_
     clear hK K
     refine zw (zk [0,3,5,32]) ?_
     simp only [go_sem]
     repeat refine zq ?_
     refine zc rfl (fun hc=>?_) (fun hc=>?_) <;> (try simp only [go_sem] at hc)
     repeat refine zq ?_
     refine zb (by kernel_rfl) fun K hK=>?_
     simp only [go_sem]
     (try simp (disch:=omega) only [zI])
     refine zh (three_ok u n) rfl (by simp only [go_sem,i64,ints]) (by simp only [go_sem,i64,ints]) (by first | exact .inl rfl | exact .inr rfl) ?_
     (try simp only [go_sem])
     (try simp (disch:=omega) only [zI])
     repeat first | intro _ | refine ⟨by omega,?_⟩ | refine ⟨⟨by omega,by omega⟩,?_⟩
     refine hK _ ?_
     clear hK K
     refine zw (zk [0,5]) ?_
     simp only [go_sem]
     have hmut:=add_ok u beds le mo 94 [.rp [.vl u],.rp [i64 n]] [.rp [.rp (sheetR beds le mo)],.rp [i64 n]] (threeT beds n) hle hmo threeT_small (three1_ok beds le mo n hb) cap_three
     repeat refine zq ?_
     refine zb (by kernel_rfl) fun K hK=>?_
     simp only [go_sem]
     (try simp (disch:=omega) only [zI])
     refine xcall_mut (hmut) [(1000,1000)] rfl (by simp only [go_sem,i64,ints,shA_lend,shA_back]) (by simp only [go_sem,i64,ints,shA_lend,shA_back]) (by rfl) (by rfl) ?_
     (try simp only [go_sem,shA_lend,shA_back])
     (try simp (disch:=omega) only [zI])
     repeat first | intro _ | refine ⟨by omega,?_⟩ | refine ⟨⟨by omega,by omega⟩,?_⟩
     refine hK _ ?_
     clear hK K
     try rw [shA_back]
     refine zw (zk [0,44]) ?_
     simp only [go_sem]
     cases he : (threeT beds n).isEmpty
     · have e1 : visitE beds [] n = 0:=by rw [e0,he]; simp
       have eq1 : leV beds le [] n = addT le (accL (threeT beds n)).2.1:=by unfold leV; rw [if_pos e1]; rfl
       have eq2 : moV beds mo [] n = addT mo (accL (threeT beds n)).2.2:=by unfold moV; rw [if_pos e1]; rfl
       rw [e1,eq1,eq2]
       repeat refine zq ?_
       refine zc rfl (fun hc=>?_) (fun hc=>?_) <;> (try simp only [go_sem] at hc)
       refine zx ?_
       try simp only [go_sem]
       repeat refine zq ?_
       refine zb (by kernel_rfl) fun K hK=>?_
       simp only [go_sem]
       (try simp (disch:=omega) only [zI])
       repeat first | intro _ | refine ⟨by omega,?_⟩ | refine ⟨⟨by omega,by omega⟩,?_⟩
       refine hK _ ?_
       clear hK K
       refine zw (zk [4]) ?_
       simp only [go_sem]
       refine ze ?_
       simp only [go_sem]
       exact ⟨frzPL_r _ _ _,congrArg RowC.box (frzL_r _ _ _)⟩
     · have e1 : visitE beds [] n = 9:=by rw [e0,he]; simp
       obtain ⟨eq1,eq2⟩:=eL 9 e1 (by decide)
       have hnil : threeT beds n = []:=List.isEmpty_iff.1 he
       rw [hnil,accL_nil,addT_zero le zeroT hle.1 (by decide),addT_zero mo zeroT hmo.1 (by decide),e1,eq1,eq2]
       repeat refine zq ?_
       refine zc rfl (fun hc=>?_) (fun hc=>?_) <;> (try simp only [go_sem] at hc)
       repeat refine zq ?_
       refine zb (by kernel_rfl) fun K hK=>?_
       simp only [go_sem]
       (try simp (disch:=omega) only [zI])
       repeat first | intro _ | refine ⟨by omega,?_⟩ | refine ⟨⟨by omega,by omega⟩,?_⟩
       refine hK _ ?_
       clear hK K
       refine zw (zk [4]) ?_
       simp only [go_sem]
       refine ze ?_
       simp only [go_sem]
       exact ⟨frzPL_r _ _ _,congrArg RowC.box (frzL_r _ _ _)⟩
   · have w1 : withinL 0 240 [n] = false:=by simp [withinL]; omega
     rw [if_pos hn] at e0
     obtain ⟨eq1,eq2⟩:=eL 3 e0 (by decide)
     rw [e0,eq1,eq2]
     repeat refine zq ?_
     refine zb (by kernel_rfl) fun K hK=>?_
     simp only [go_sem]
     (try simp (disch:=omega) only [zI])
     refine zh (within_ok 0 240 [n]) rfl (by simp only [go_sem,i64,ints,w1]) (by simp only [go_sem,i64,ints,w1]) (by first | exact .inl rfl | exact .inr rfl) ?_
     (try simp only [go_sem,w1])
     (try simp (disch:=omega) only [zI])
     repeat first | intro _ | refine ⟨by omega,?_⟩ | refine ⟨⟨by omega,by omega⟩,?_⟩
     refine hK _ ?_
     clear hK K
     refine zw (zk [0,3,5,26]) ?_
     simp only [go_sem]
     repeat refine zq ?_
     refine zc rfl (fun hc=>?_) (fun hc=>?_) <;> (try simp only [go_sem] at hc)
     repeat refine zq ?_
     refine zb (by kernel_rfl) fun K hK=>?_
     simp only [go_sem]
     (try simp (disch:=omega) only [zI])
     repeat first | intro _ | refine ⟨by omega,?_⟩ | refine ⟨⟨by omega,by omega⟩,?_⟩
     refine hK _ ?_
     clear hK K
     refine zw (zk [4]) ?_
     simp only [go_sem]
     refine ze ?_
     simp only [go_sem]
     exact ⟨frzPL_r _ _ _,congrArg RowC.box (frzL_r _ _ _)⟩
 · have hl0 : ((ds.length : Int) != 0) = true:=by
    have : ds.length ≠ 0:=fun e=>hds (List.eq_nil_of_length_eq_zero e)
    simpa using hds
   have eL : ∀ e,visitE beds ds n = e → e ≠ 0 → leV beds le ds n = le ∧ moV beds mo ds n = mo:=fun e h1 h2=>by
    unfold leV moV
    rw [if_neg (by rw [h1]; exact h2),if_neg (by rw [h1]; exact h2)]
    exact ⟨rfl,rfl⟩
   have hq0 : ((ds.length : Int) == 0) = false:=by simpa using hds
   by_cases h3 : ds.length = 3
   · have c3 : ((ds.length : Int) != 3) = false:=by simp [h3]
     by_cases hn0 : n = 0
     · subst hn0
       have e0 : visitE beds ds 0 = if (truthsK beds ds).isEmpty then 9 else 0:=by simp [visitE,truthsV,h3,hds]
       have w1 : withinL 0 240 [0] = true:=by decide
       repeat refine zq ?_
       refine zb (by kernel_rfl) fun K hK=>?_
       simp only [go_sem,hl0,c3,bne_self_eq_false]
       (try simp (disch:=omega) only [zI])
       intros
       repeat first | intro _ | refine ⟨by omega,?_⟩ | refine ⟨⟨by omega,by omega⟩,?_⟩
       refine hK _ ?_
       clear hK K
       refine zw (zk [0,3,5,10]) ?_
       simp only [go_sem]
       repeat refine zq ?_
       refine zc rfl (fun hc=>?_) (fun hc=>?_) <;> (try simp only [go_sem] at hc)
       repeat refine zq ?_
       refine zb (by kernel_rfl) fun K hK=>?_
       simp only [go_sem]
       (try simp (disch:=omega) only [zI])
       refine zh (within_ok 0 240 [0]) rfl (by simp only [go_sem,i64,ints,w1]) (by simp only [go_sem,i64,ints,w1]) (by first | exact .inl rfl | exact .inr rfl) ?_
       (try simp only [go_sem,w1])
       (try simp (disch:=omega) only [zI])
       repeat first | intro _ | refine ⟨by omega,?_⟩ | refine ⟨⟨by omega,by omega⟩,?_⟩
       refine hK _ ?_
       clear hK K
       refine zw (zk [0,3,5,26]) ?_
       simp only [go_sem]
       repeat refine zq ?_
       refine zc rfl (fun hc=>?_) (fun hc=>?_) <;> (try simp only [go_sem] at hc)
       repeat refine zq ?_
       refine zb (by kernel_rfl) fun K hK=>?_
       simp only [go_sem,hq0]
       (try simp (disch:=omega) only [zI])
       intros
       repeat first | intro _ | refine ⟨by omega,?_⟩ | refine ⟨⟨by omega,by omega⟩,?_⟩
       refine hK _ ?_
       clear hK K
       refine zw (zk [0,5,32]) ?_
       simp only [go_sem]
       repeat refine zq ?_
       refine zc rfl (fun hc=>?_) (fun hc=>?_) <;> (try simp only [go_sem] at hc)
       refine zx ?_
       try simp only [go_sem]
       have hmut:=add_ok u beds le mo 92 [.rp [ints ds],.rp [.vl u]] [.rp [ints ds],.rp [.rp (sheetR beds le mo)]] (truthsK beds ds) hle hmo (truthsK_small h3) (by have h:=known1_ok beds ds le mo hbl (by omega); rw [knownXs_eq] at h; exact h) cap_known
       repeat refine zq ?_
       refine zb (by kernel_rfl) fun K hK=>?_
       simp only [go_sem]
       (try simp (disch:=omega) only [zI])
       refine xcall_mut (hmut) [(1000,1000)] rfl (by simp only [go_sem,i64,ints,shA_lend,shA_back]) (by simp only [go_sem,i64,ints,shA_lend,shA_back]) (by rfl) (by rfl) ?_
       (try simp only [go_sem,shA_lend,shA_back])
       (try simp (disch:=omega) only [zI])
       repeat first | intro _ | refine ⟨by omega,?_⟩ | refine ⟨⟨by omega,by omega⟩,?_⟩
       refine hK _ ?_
       clear hK K
       try rw [shA_back]
       refine zw (zk [0,44]) ?_
       simp only [go_sem]
       cases he : (truthsK beds ds).isEmpty
       · have e1 : visitE beds ds 0 = 0:=by rw [e0,he]; simp
         have eq1 : leV beds le ds 0 = addT le (accL (truthsK beds ds)).2.1:=by unfold leV truthsV; rw [if_pos e1,if_neg hds]
         have eq2 : moV beds mo ds 0 = addT mo (accL (truthsK beds ds)).2.2:=by unfold moV truthsV; rw [if_pos e1,if_neg hds]
         rw [e1,eq1,eq2]
         repeat refine zq ?_
         refine zc rfl (fun hc=>?_) (fun hc=>?_) <;> (try simp only [go_sem] at hc)
         refine zx ?_
         try simp only [go_sem]
         repeat refine zq ?_
         refine zb (by kernel_rfl) fun K hK=>?_
         simp only [go_sem]
         (try simp (disch:=omega) only [zI])
         repeat first | intro _ | refine ⟨by omega,?_⟩ | refine ⟨⟨by omega,by omega⟩,?_⟩
         refine hK _ ?_
         clear hK K
         refine zw (zk [4]) ?_
         simp only [go_sem]
         refine ze ?_
         simp only [go_sem]
         exact ⟨frzPL_r _ _ _,congrArg RowC.box (frzL_r _ _ _)⟩
       · have e1 : visitE beds ds 0 = 9:=by rw [e0,he]; simp
         obtain ⟨eq1,eq2⟩:=eL 9 e1 (by decide)
         have hnil : truthsK beds ds = []:=List.isEmpty_iff.1 he
         rw [hnil,accL_nil,addT_zero le zeroT hle.1 (by decide),addT_zero mo zeroT hmo.1 (by decide),e1,eq1,eq2]
         repeat refine zq ?_
         refine zc rfl (fun hc=>?_) (fun hc=>?_) <;> (try simp only [go_sem] at hc)
         repeat refine zq ?_
         refine zb (by kernel_rfl) fun K hK=>?_
         simp only [go_sem]
         (try simp (disch:=omega) only [zI])
         repeat first | intro _ | refine ⟨by omega,?_⟩ | refine ⟨⟨by omega,by omega⟩,?_⟩
         refine hK _ ?_
         clear hK K
         refine zw (zk [4]) ?_
         simp only [go_sem]
         refine ze ?_
         simp only [go_sem]
         exact ⟨frzPL_r _ _ _,congrArg RowC.box (frzL_r _ _ _)⟩
     · have cn : (n != 0) = true:=by simpa using hn0
       have e0 : visitE beds ds n = 4:=by simp [visitE,hds,hn0]
       obtain ⟨eq1,eq2⟩:=eL 4 e0 (by decide)
       rw [e0,eq1,eq2]
       repeat refine zq ?_
       refine zb (by kernel_rfl) fun K hK=>?_
       simp only [go_sem,hl0,c3,cn]
       (try simp (disch:=omega) only [zI])
       intros
       repeat first | intro _ | refine ⟨by omega,?_⟩ | refine ⟨⟨by omega,by omega⟩,?_⟩
       refine hK _ ?_
       clear hK K
       refine zw (zk [0,3,5,10]) ?_
       simp only [go_sem]
       repeat refine zq ?_
       refine zc rfl (fun hc=>?_) (fun hc=>?_) <;> (try simp only [go_sem] at hc)
       repeat refine zq ?_
       refine zb (by kernel_rfl) fun K hK=>?_
       simp only [go_sem]
       (try simp (disch:=omega) only [zI])
       repeat first | intro _ | refine ⟨by omega,?_⟩ | refine ⟨⟨by omega,by omega⟩,?_⟩
       refine hK _ ?_
       clear hK K
       refine zw (zk [4]) ?_
       simp only [go_sem]
       refine ze ?_
       simp only [go_sem]
       exact ⟨frzPL_r _ _ _,congrArg RowC.box (frzL_r _ _ _)⟩
   · have c3 : ((ds.length : Int) != 3) = true:=by
      have : (ds.length : Int) ≠ 3:=by omega
      simpa using this
     have e0 : visitE beds ds n = 4:=by simp [visitE,hds,h3]
     obtain ⟨eq1,eq2⟩:=eL 4 e0 (by decide)
     rw [e0,eq1,eq2]
     repeat refine zq ?_
     refine zb (by kernel_rfl) fun K hK=>?_
     simp only [go_sem,hl0,c3]
     (try simp (disch:=omega) only [zI])
     intros
     repeat first | intro _ | refine ⟨by omega,?_⟩ | refine ⟨⟨by omega,by omega⟩,?_⟩
     refine hK _ ?_
     clear hK K
     refine zw (zk [0,3,5,10]) ?_
     simp only [go_sem]
     repeat refine zq ?_
     refine zc rfl (fun hc=>?_) (fun hc=>?_) <;> (try simp only [go_sem] at hc)
     repeat refine zq ?_
     refine zb (by kernel_rfl) fun K hK=>?_
     simp only [go_sem]
     (try simp (disch:=omega) only [zI])
     repeat first | intro _ | refine ⟨by omega,?_⟩ | refine ⟨⟨by omega,by omega⟩,?_⟩
     refine hK _ ?_
     clear hK K
     refine zw (zk [4]) ?_
     simp only [go_sem]
     refine ze ?_
     simp only [go_sem]
     exact ⟨frzPL_r _ _ _,congrArg RowC.box (frzL_r _ _ _)⟩
end Go.Proofs.Ytgkejinoaommeaa

namespace Go.Proofs.Ytgkejinoaommeaa
open Go Go.Oc
set_option linter.unusedSimpArgs false
set_option linter.unusedVariables false
set_option maxRecDepth 8000
set_option maxHeartbeats 1000000
structure Vi where
 ds : List Int
 n : Int
abbrev viC (v : Vi) : List RV:=[ints v.ds,i64 v.n]
abbrev visR (l : List Vi) : RV:=.sl 2 (l.map viC)
def runF (bs : List Int) : List Int → List Int → Nat → List Vi → List Int × List Int × Option (Nat × Int)
 | le,mo,_,[]=>(le,mo,none)
 | le,mo,i,v :: l=>if visitE bs v.ds v.n = 0 then runF bs (leV bs le v.ds v.n) (moV bs mo v.ds v.n) (i + 1) l else (le,mo,some (i,visitE bs v.ds v.n))
def bedAt (bs le mo : List Int) (i : Nat) : Bd:=⟨bs.getD i 0,le.getD i 0,mo.getD i 0⟩
def fitV (a : Am) (l : List Vi) : Am × Int × Int × Int :=
 if 10 < a.beds.length then (⟨0,[]⟩,0,0,5) else if (bedOk a.at_ && !a.beds.isEmpty && seqOk none a.beds) = false then (⟨0,[]⟩,0,0,2) else if l = [] then (⟨0,[]⟩,0,0,7) else if 1000 < l.length then (⟨0,[]⟩,0,0,5) else
 match runF (a.beds.map (·.b)) zeroT zeroT 0 l with
 | (_,_,some (i,e))=>(⟨0,[]⟩,0,i,e)
 | (le,mo,none)=>(⟨a.at_,(List.range a.beds.length).map (bedAt (a.beds.map (·.b)) le mo)⟩,3 * l.length,0,0)
theorem SmallT.mono {b c : Int} {t : List Int} (h : SmallT b t) (hc : b ≤ c) : SmallT c t:=⟨h.1,fun x hx=>by have:=h.2 x hx; omega⟩
theorem truthsV_small {bs ds : List Int} {n : Int} (h : visitE bs ds n = 0) : ∀ t ∈ truthsV bs ds n,SmallT 3 t:=by
 unfold truthsV
 split
 · exact threeT_small
 · rename_i hds
   refine truthsK_small ?_
   unfold visitE at h
   split at h
   · cases h
   · rename_i h1
     have : ¬ (ds.length ≠ 3):=fun h2=>h1 ⟨hds,.inl h2⟩
     omega
theorem addT_small {b c : Int} {s t : List Int} (h1 : SmallT b s) (h2 : SmallT c t) : SmallT (b + c) (addT s t):=by
 refine ⟨by unfold addT; rw [List.length_zipWith,h1.1,h2.1]; rfl,fun x hx=>?_⟩
 obtain ⟨y,hy,z,hz,rfl⟩:=mem_zipW hx
 have:=h1.2 y hy
 have:=h2.2 z hz
 omega
theorem leV_small {b : Int} {bs le ds : List Int} {n : Int} (h : SmallT b le) : SmallT (b + 3) (leV bs le ds n) ∧ True:=by
 refine ⟨?_,trivial⟩
 unfold leV
 split
 · rename_i h0
   exact addT_small h (accL_small (by omega) _ (truthsV_small h0)).1
 · exact h.mono (by omega)
theorem moV_small {b : Int} {bs mo ds : List Int} {n : Int} (h : SmallT b mo) : SmallT (b + 3) (moV bs mo ds n):=by
 unfold moV
 split
 · rename_i h0
   exact addT_small h (accL_small (by omega) _ (truthsV_small h0)).2
 · exact h.mono (by omega)
theorem bedOk_le {b : Int} (h : bedOk b = true) : 0 ≤ b ∧ b ≤ 499:=by
 simp only [bedOk,Bool.or_eq_true,Bool.and_eq_true,decide_eq_true_eq] at h
 omega
theorem seqOk_le : ∀ {l : List Bd} {p : Option Int},seqOk p l = true → ∀ x ∈ l,0 ≤ x.b ∧ x.b ≤ 499
 | [],_,_=>by simp
 | y :: l, p, h => by
   simp only [seqOk,Bool.and_eq_true,Bool.or_eq_true,decide_eq_true_eq] at h
   intro x hx
   rcases List.mem_cons.1 hx with rfl | hx
   · rcases h.1.1 with h1 | h1
     · omega
     · exact bedOk_le h1
   · exact seqOk_le h.2 x hx
theorem fit_ok (a : Am) (l : List Vi) (hw : WfA a) : ACalls Try.prog 28 [aimV a,visR l] (.tu [aimV (fitV a l).1,i64 (fitV a l).2.1,i64 (fitV a l).2.2.1,i64 (fitV a l).2.2.2]):=by
 refine acalls_st (rs:=[aimV (fitV a l).1,i64 (fitV a l).2.1,i64 (fitV a l).2.2.1,i64 (fitV a l).2.2.2]) [.cell 4 36,.tmp 5,.tmp 6,.tmp 7] Try.func28 rfl (by kernel_rfl) Try.ntmps28 rfl (by simp) rfl fun C vs=>?_
 repeat refine zq ?_
 refine zb (by kernel_rfl) fun K hK=>?_
 simp only [go_sem]
 (try simp (disch:=omega) only [zI])
 repeat first | intro _ | refine ⟨by omega,?_⟩ | refine ⟨⟨by omega,by omega⟩,?_⟩
 refine hK _ ?_
 clear hK K
 refine zw (sub_frzP 2 2 (aimR a) (by omega) rfl rfl) ?_
 refine zw (zk [1,2,4]) ?_
 simp only [go_sem]
 repeat refine zq ?_
 refine zb (by kernel_rfl) fun K hK=>?_
 simp only [go_sem,aimR]
 (try simp (disch:=omega) only [zI])
 repeat first | intro _ | refine ⟨by omega,?_⟩ | refine ⟨⟨by omega,by omega⟩,?_⟩
 refine hK _ ?_
 clear hK K
 refine zw (sub_frzP 8 8 [i64 a.at_,bedsR a.beds,i64 0] (by omega) rfl rfl) ?_
 refine zw (zk [1,2,4,8]) ?_
 simp only [go_sem]
 repeat refine zq ?_
 refine zd ?_
 by_cases h1 : 10 < a.beds.length
 · have c1 : decide ((10 : Int) < (a.beds.length : Int)) = true:=by simp; omega
   have hv : fitV a l = (⟨0,[]⟩,0,0,5):=by rw [fitV,if_pos h1]
   rw [hv]
   repeat refine zq ?_
   refine zb (by kernel_rfl) fun K hK=>?_
   simp only [go_sem,c1,aimR]
   (try simp (disch:=omega) only [zI])
   intros
   repeat first | intro _ | refine ⟨by omega,?_⟩ | refine ⟨⟨by omega,by omega⟩,?_⟩
   refine hK _ ?_
   clear hK K
   refine zw (zk [1,2,4,8,19]) ?_
   simp only [go_sem]
   repeat refine zq ?_
   refine zc rfl (fun hc=>?_) (fun hc=>?_) <;> (try simp only [go_sem] at hc)
   repeat refine zq ?_
   refine zb (by kernel_rfl) fun K hK=>?_
   simp only [go_sem]
   (try simp (disch:=omega) only [zI])
   repeat first | intro _ | refine ⟨by omega,?_⟩ | refine ⟨⟨by omega,by omega⟩,?_⟩
   refine hK _ ?_
   clear hK K
   refine zw (zk [4,5,6,7]) ?_
   simp only [go_sem]
   refine ze ?_
   simp only [go_sem]
 have c1 : decide ((10 : Int) < (a.beds.length : Int)) = false:=by simp; omega
 repeat refine zq ?_
 refine zb (by kernel_rfl) fun K hK=>?_
 simp only [go_sem,c1,aimR]
 (try simp (disch:=omega) only [zI])
 intros
 repeat first | intro _ | refine ⟨by omega,?_⟩ | refine ⟨⟨by omega,by omega⟩,?_⟩
 refine hK _ ?_
 clear hK K
 refine zw (zk [1,2,4,8,19]) ?_
 simp only [go_sem]
 repeat refine zq ?_
 refine zc rfl (fun hc=>?_) (fun hc=>?_) <;> (try simp only [go_sem] at hc)
 repeat refine zq ?_
 refine zb (by kernel_rfl) fun K hK=>?_
 simp only [go_sem]
 (try simp (disch:=omega) only [zI])
 refine zh (areBeds_ok a.at_ a.beds 0 hw.1 hw.2) rfl (by simp only [go_sem,i64,ints]) (by simp only [go_sem,i64,ints]) (by first | exact .inl rfl | exact .inr rfl) ?_
 (try simp only [go_sem])
 (try simp (disch:=omega) only [zI])
 repeat first | intro _ | refine ⟨by omega,?_⟩ | refine ⟨⟨by omega,by omega⟩,?_⟩
 refine hK _ ?_
 clear hK K
 refine zw (zk [1,2,4,25]) ?_
 simp only [go_sem]
 cases h2 : (bedOk a.at_ && !a.beds.isEmpty && seqOk none a.beds)
 · have hv : fitV a l = (⟨0,[]⟩,0,0,2):=by rw [fitV,if_neg h1,if_pos h2]
   rw [hv]
   repeat refine zq ?_
   refine zc rfl (fun hc=>?_) (fun hc=>?_) <;> (try simp only [go_sem] at hc)
   repeat refine zq ?_
   refine zb (by kernel_rfl) fun K hK=>?_
   simp only [go_sem]
   (try simp (disch:=omega) only [zI])
   repeat first | intro _ | refine ⟨by omega,?_⟩ | refine ⟨⟨by omega,by omega⟩,?_⟩
   refine hK _ ?_
   clear hK K
   refine zw (zk [4,5,6,7]) ?_
   simp only [go_sem]
   refine ze ?_
   simp only [go_sem]
 repeat refine zq ?_
 refine zc rfl (fun hc=>?_) (fun hc=>?_) <;> (try simp only [go_sem] at hc)
 by_cases h3 : l = []
 · have c3 : ((l.length : Int) == 0) = true:=by simp [h3]
   have hv : fitV a l = (⟨0,[]⟩,0,0,7):=by rw [fitV,if_neg h1,if_neg (by rw [h2]; decide),if_pos h3]
   rw [hv]
   repeat refine zq ?_
   refine zb (by kernel_rfl) fun K hK=>?_
   simp only [go_sem,c3]
   (try simp (disch:=omega) only [zI])
   intros
   repeat first | intro _ | refine ⟨by omega,?_⟩ | refine ⟨⟨by omega,by omega⟩,?_⟩
   refine hK _ ?_
   clear hK K
   refine zw (zk [1,2,4,30]) ?_
   simp only [go_sem]
   repeat refine zq ?_
   refine zc rfl (fun hc=>?_) (fun hc=>?_) <;> (try simp only [go_sem] at hc)
   repeat refine zq ?_
   refine zb (by kernel_rfl) fun K hK=>?_
   simp only [go_sem]
   (try simp (disch:=omega) only [zI])
   repeat first | intro _ | refine ⟨by omega,?_⟩ | refine ⟨⟨by omega,by omega⟩,?_⟩
   refine hK _ ?_
   clear hK K
   refine zw (zk [4,5,6,7]) ?_
   simp only [go_sem]
   refine ze ?_
   simp only [go_sem]
 have c3 : ((l.length : Int) == 0) = false:=by simpa using h3
 repeat refine zq ?_
 refine zb (by kernel_rfl) fun K hK=>?_
 simp only [go_sem,c3]
 (try simp (disch:=omega) only [zI])
 intros
 repeat first | intro _ | refine ⟨by omega,?_⟩ | refine ⟨⟨by omega,by omega⟩,?_⟩
 refine hK _ ?_
 clear hK K
 refine zw (zk [1,2,4,30]) ?_
 simp only [go_sem]
 repeat refine zq ?_
 refine zc rfl (fun hc=>?_) (fun hc=>?_) <;> (try simp only [go_sem] at hc)
 by_cases h4 : 1000 < l.length
 · have c4 : decide ((1000 : Int) < (l.length : Int)) = true:=by simp; omega
   have hv : fitV a l = (⟨0,[]⟩,0,0,5):=by rw [fitV,if_neg h1,if_neg (by rw [h2]; decide),if_neg h3,if_pos h4]
   rw [hv]
   repeat refine zq ?_
   refine zb (by kernel_rfl) fun K hK=>?_
   simp only [go_sem,c4]
   (try simp (disch:=omega) only [zI])
   intros
   repeat first | intro _ | refine ⟨by omega,?_⟩ | refine ⟨⟨by omega,by omega⟩,?_⟩
   refine hK _ ?_
   clear hK K
   refine zw (zk [1,2,4,35]) ?_
   simp only [go_sem]
   repeat refine zq ?_
   refine zc rfl (fun hc=>?_) (fun hc=>?_) <;> (try simp only [go_sem] at hc)
   repeat refine zq ?_
   refine zb (by kernel_rfl) fun K hK=>?_
   simp only [go_sem]
   (try simp (disch:=omega) only [zI])
   repeat first | intro _ | refine ⟨by omega,?_⟩ | refine ⟨⟨by omega,by omega⟩,?_⟩
   refine hK _ ?_
   clear hK K
   refine zw (zk [4,5,6,7]) ?_
   simp only [go_sem]
   refine ze ?_
   simp only [go_sem]
 have c4 : decide ((1000 : Int) < (l.length : Int)) = false:=by simp; omega
 repeat refine zq ?_
 refine zb (by kernel_rfl) fun K hK=>?_
 simp only [go_sem,c4]
 (try simp (disch:=omega) only [zI])
 intros
 repeat first | intro _ | refine ⟨by omega,?_⟩ | refine ⟨⟨by omega,by omega⟩,?_⟩
 refine hK _ ?_
 clear hK K
 refine zw (zk [1,2,4,35]) ?_
 simp only [go_sem]
 repeat refine zq ?_
 refine zc rfl (fun hc=>?_) (fun hc=>?_) <;> (try simp only [go_sem] at hc)
 refine zx ?_
 try simp only [go_sem]
 have hV : fitV a l = match runF (a.beds.map (·.b)) zeroT zeroT 0 l with
  | (_,_,some (i,e))=>(⟨0,[]⟩,0,i,e)
  | (le,mo,none)=>(⟨a.at_,(List.range a.beds.length).map (bedAt (a.beds.map (·.b)) le mo)⟩,3 * l.length,0,0):=by
  rw [fitV,if_neg h1,if_neg (by rw [h2]; decide),if_neg h3,if_neg h4]
 have hseq : seqOk none a.beds = true:=by
  simp only [Bool.and_eq_true] at h2
  exact h2.2
 have hle:=seqOk_le hseq
 obtain ⟨bs,hbs⟩ : ∃ bs,bs = a.beds.map (·.b):=⟨_,rfl⟩
 have hbl : bs.length = a.beds.length:=by rw [hbs]; simp
 have hbo : BedsOk bs:=⟨by omega,fun b hb=>by
  rw [hbs] at hb
  obtain ⟨x,hx,rfl⟩:=List.mem_map.1 hb
  exact hle x hx⟩
 rw [← hbs] at hV
 repeat refine zq ?_
 refine zb (by kernel_rfl) fun K hK=>?_
 simp only [go_sem]
 (try simp (disch:=omega) only [zI])
 repeat first | intro _ | refine ⟨by omega,?_⟩ | refine ⟨⟨by omega,by omega⟩,?_⟩
 refine hK _ ?_
 clear hK K
 refine zw (zk [1,2,4,9]) ?_
 simp only [go_sem]
 repeat refine zq ?_
 refine zb (by kernel_rfl) fun K hK=>?_
 simp only [go_sem,aimR]
 (try simp (disch:=omega) only [zI])
 intros
 repeat first | intro _ | refine ⟨by omega,?_⟩ | refine ⟨⟨by omega,by omega⟩,?_⟩
 refine hK _ ?_
 clear hK K
 refine zw (zk [1,2,4,9,43,44,45]) ?_
 simp only [go_sem]
 repeat refine zq ?_
 refine zd ?_
 refine zw (sub_ownB 41 0 57 33 1 (by omega) (by omega) rfl rfl) ?_
 try simp only [go_sem]
 refine awp_uptoV (n:=115) a.beds.length (fun i vs=>[(1,.r (visR l)),(2,.r (.rp [i64 a.at_,bedsR a.beds])),(4,.pt 4 (vs 4) 0),(9,.pt 41 (vs 41) 0),(43,.r (bedsR a.beds)),(44,.r (i64 a.beds.length)),(45,.r (i64 i))])
  (fun i vs=>[(4,.box [.r (i64 0),.r .ns]),(41,.box (.os 57 (vs 57) 1 0 i :: (tA zeroT ++ tA zeroT))),(57,.arr 33 1 ((bs.take i).map fun x=>[i64 x]))]) (fun _=>True) 0 (zj [8] ?_ ?_) (Nat.zero_le _) trivial ?_
 · try simp only [go_sem]
 · try simp only [go_sem]
   try simp
 · intro i vs hi _
   repeat refine zq ?_
   refine zb (by kernel_rfl) fun K hK=>?_
   simp only [go_sem]
   (try simp (disch:=omega) only [zI])
   repeat first | intro _ | refine ⟨by omega,?_⟩ | refine ⟨⟨by omega,by omega⟩,?_⟩
   refine hK _ ?_
   clear hK K
   refine zw (zk [1,2,4,9,43,44,45,46]) ?_
   simp only [go_sem]
   repeat refine zq ?_
   refine zc rfl (fun hc=>?_) (fun hc=>?_) <;> (try simp only [go_sem] at hc)
   · have hci:=hc
     obtain ⟨x,hx⟩:=opt_of_lt hci
     have hbx : bs[i]? = some x.b:=by rw [hbs,List.getElem?_map,hx]; rfl
     have htl : (bs.take i).length = i:=by rw [List.length_take]; omega
     refine zx ?_
     try simp only [go_sem]
     repeat refine zq ?_
     refine zd ?_
     repeat refine zq ?_
     refine zb (by kernel_rfl) fun K hK=>?_
     simp only [go_sem,hx,hci,bedR]
     (try simp (disch:=omega) only [zI])
     repeat first | intro _ | refine ⟨by omega,?_⟩ | refine ⟨⟨by omega,by omega⟩,?_⟩
     refine hK _ ?_
     clear hK K
     refine zw (zk [1,2,4,9,11,43,44,45]) ?_
     simp only [go_sem]
     repeat refine zq ?_
     refine awp_dreg3 [(9,some 41),(11,some 11)] [41,11] follows (by decide +kernel) (by kernel_rfl) (by simp only [keysOk,List.mem_cons,List.not_mem_nil,forall_eq_or_imp,Oc.keyOf,go_sem]; simp) (by intro k hk; simp only [List.mem_cons,List.not_mem_nil,or_false] at hk; first | (subst hk; exact ⟨_,rfl⟩) | (rcases hk with rfl | rfl <;> exact ⟨_,rfl⟩) | (rcases hk with rfl | rfl | rfl <;> exact ⟨_,rfl⟩)) fun K hK=>?_
     simp only [go_sem,htl,List.length_map]
     (try simp (disch:=omega) only [zI])
     refine ⟨⟨by omega,by omega⟩,?_⟩
     repeat first | intro _ | refine ⟨by omega,?_⟩ | refine ⟨⟨by omega,by omega⟩,?_⟩
     refine hK _ ?_
     clear hK K
     refine zw (zk [1,2,4,9,43,44,45]) ?_
     simp only [go_sem]
     repeat refine zq ?_
     refine zb (by kernel_rfl) fun K hK=>?_
     simp only [go_sem]
     (try simp (disch:=omega) only [zI])
     repeat first | intro _ | refine ⟨by omega,?_⟩ | refine ⟨⟨by omega,by omega⟩,?_⟩
     refine hK _ ?_
     clear hK K
     try simp only [go_sem]
     refine ⟨hci,zj [11] ?_ ?_⟩
     · try simp only [go_sem]
     · try simp only [go_sem]
       rw [take_of_opt hbx]
       simp
   · have hil : i = a.beds.length:=by omega
     subst hil
     have etk : bs.take a.beds.length = bs:=by rw [← hbl,List.take_length]
     have etl : List.take a.beds.length (bs.map fun x=>[i64 x]) = bs.map fun x=>[i64 x]:=List.take_of_length_le (by rw [List.length_map]; omega)
     rw [etk]
     refine zf ?_
     simp only [go_sem]
     refine zw (sub_frzB 41 0 57 (by omega) (by omega) rfl rfl rfl (by rw [List.length_map]; omega)) ?_
     simp only [go_sem,List.drop_zero,etl,List.set_cons_zero]
     have esh : (AV.r (RV.sl 1 (bs.map fun x=>[i64 x])) :: (tA zeroT ++ tA zeroT)) = shA bs zeroT zeroT:=(shA_eq bs zeroT zeroT).symm
     rw [esh]
     refine zw (zk [1,2,4,9]) ?_
     simp only [go_sem]
     repeat refine zq ?_
     refine zb (by kernel_rfl) fun K hK=>?_
     simp only [go_sem]
     (try simp (disch:=omega) only [zI])
     intros
     repeat first | intro _ | refine ⟨by omega,?_⟩ | refine ⟨⟨by omega,by omega⟩,?_⟩
     refine hK _ ?_
     clear hK K
     refine zw (zk [1,2,4,9,61,62,63]) ?_
     simp only [go_sem]
     repeat refine zq ?_
     refine zd ?_
     refine awp_whileV (n:=115) (fun (y : Nat × List Int × List Int) vs=>[(1,.r (visR l)),(2,.r (.rp [i64 a.at_,bedsR a.beds])),(4,.pt 4 (vs 4) 0),(9,.pt 41 (vs 41) 0),(61,.r (visR l)),(62,.r (i64 l.length)),(63,.r (i64 y.1))])
      (fun y vs=>[(4,.box [.r (i64 0),.r .ns]),(41,.box (shA bs y.2.1 y.2.2))])
      (fun y=>y.1 ≤ l.length ∧ SmallT (3 * (y.1 : Int)) y.2.1 ∧ SmallT (3 * (y.1 : Int)) y.2.2 ∧ runF bs zeroT zeroT 0 l = runF bs y.2.1 y.2.2 y.1 (l.drop y.1)) (fun y=>l.length - y.1) (0,zeroT,zeroT) (zj [] ?_ ?_) ⟨Nat.zero_le _,zeroT_small (by simp),zeroT_small (by simp),rfl⟩ ?_
     · try simp only [go_sem]
     · try simp only [go_sem]
     · rintro ⟨i,le,mo⟩ vs ⟨hi,hs1,hs2,hR⟩
       simp only at hi hs1 hs2 hR
       have hlel:=hs1.1
       have hmol:=hs2.1
       repeat refine zq ?_
       refine zb (by kernel_rfl) fun K hK=>?_
       simp only [go_sem]
       (try simp (disch:=omega) only [zI])
       repeat first | intro _ | refine ⟨by omega,?_⟩ | refine ⟨⟨by omega,by omega⟩,?_⟩
       refine hK _ ?_
       clear hK K
       refine zw (zk [1,2,4,9,61,62,63,64]) ?_
       simp only [go_sem]
       repeat refine zq ?_
       refine zc rfl (fun hc=>?_) (fun hc=>?_) <;> (try simp only [go_sem] at hc)
       · have hci : i < l.length:=by first | exact hc | omega
         obtain ⟨v,hx⟩:=opt_of_lt hci
         rw [drop_of_opt hx,runF] at hR
         refine zx ?_
         try simp only [go_sem]
         repeat refine zq ?_
         refine zd ?_
         repeat refine zq ?_
         refine zb (by kernel_rfl) fun K hK=>?_
         simp only [go_sem,hx,hci]
         (try simp (disch:=omega) only [zI])
         repeat first | intro _ | refine ⟨by omega,?_⟩ | refine ⟨⟨by omega,by omega⟩,?_⟩
         refine hK _ ?_
         clear hK K
         refine zw (zk [1,2,4,9,12,13,61,62,63]) ?_
         simp only [go_sem]
         repeat refine zq ?_
         refine zb (by kernel_rfl) fun K hK=>?_
         simp only [go_sem]
         (try simp (disch:=omega) only [zI])
         refine xcall_mut (visit_ok bs le mo v.ds v.n hbo (hs1.mono (by omega)) (hs2.mono (by omega))) [(1000,41)] rfl (by simp only [go_sem,i64,ints,shA_lend,shA_back]) (by simp only [go_sem,i64,ints,shA_lend,shA_back]) (by rfl) (by rfl) ?_
         (try simp only [go_sem,shA_lend,shA_back])
         (try simp (disch:=omega) only [zI])
         repeat first | intro _ | refine ⟨by omega,?_⟩ | refine ⟨⟨by omega,by omega⟩,?_⟩
         refine hK _ ?_
         clear hK K
         refine zw (zk [1,2,4,9,12,14,61,62,63]) ?_
         simp only [go_sem]
         by_cases hv0 : visitE bs v.ds v.n = 0
         · have c5 : (visitE bs v.ds v.n != 0) = false:=by simp [hv0]
           rw [if_pos hv0] at hR
           repeat refine zq ?_
           refine zb (by kernel_rfl) fun K hK=>?_
           simp only [go_sem,c5]
           (try simp (disch:=omega) only [zI])
           repeat first | intro _ | refine ⟨by omega,?_⟩ | refine ⟨⟨by omega,by omega⟩,?_⟩
           refine hK _ ?_
           clear hK K
           refine zw (zk [1,2,4,9,12,14,61,62,63,72]) ?_
           simp only [go_sem]
           repeat refine zq ?_
           refine zc rfl (fun hc=>?_) (fun hc=>?_) <;> (try simp only [go_sem] at hc)
           refine zx ?_
           try simp only [go_sem]
           repeat refine zq ?_
           refine zb (by kernel_rfl) fun K hK=>?_
           simp only [go_sem]
           (try simp (disch:=omega) only [zI])
           repeat first | intro _ | refine ⟨by omega,?_⟩ | refine ⟨⟨by omega,by omega⟩,?_⟩
           refine hK _ ?_
           clear hK K
           try simp only [go_sem]
           refine ⟨(i + 1,leV bs le v.ds v.n,moV bs mo v.ds v.n),⟨by omega,?_,?_,hR⟩,by simp only; omega,zj [13] ?_ ?_⟩
           · have:=(leV_small (bs:=bs) (ds:=v.ds) (n:=v.n) hs1).1
             simpa [Int.mul_add] using this
           · have:=moV_small (bs:=bs) (ds:=v.ds) (n:=v.n) hs2
             simpa [Int.mul_add] using this
           · try simp only [go_sem]
           · try simp only [go_sem]
         · have c5 : (visitE bs v.ds v.n != 0) = true:=by simpa using hv0
           rw [if_neg hv0] at hR
           have hv : fitV a l = (⟨0,[]⟩,0,(i : Int),visitE bs v.ds v.n):=by rw [hV,hR]
           rw [hv]
           repeat refine zq ?_
           refine zb (by kernel_rfl) fun K hK=>?_
           simp only [go_sem,c5]
           (try simp (disch:=omega) only [zI])
           repeat first | intro _ | refine ⟨by omega,?_⟩ | refine ⟨⟨by omega,by omega⟩,?_⟩
           refine hK _ ?_
           clear hK K
           refine zw (zk [1,2,4,9,12,14,61,62,63,72]) ?_
           simp only [go_sem]
           repeat refine zq ?_
           refine zc rfl (fun hc=>?_) (fun hc=>?_) <;> (try simp only [go_sem] at hc)
           repeat refine zq ?_
           refine zb (by kernel_rfl) fun K hK=>?_
           simp only [go_sem]
           (try simp (disch:=omega) only [zI])
           repeat first | intro _ | refine ⟨by omega,?_⟩ | refine ⟨⟨by omega,by omega⟩,?_⟩
           refine hK _ ?_
           clear hK K
           refine zw (zk [4,5,6,7]) ?_
           simp only [go_sem]
           refine ze ?_
           simp only [go_sem]
       · have hil : i = l.length:=by omega
         subst hil
         rw [List.drop_length,runF] at hR
         have hv : fitV a l = (⟨a.at_,(List.range a.beds.length).map (bedAt bs le mo)⟩,3 * (l.length : Int),0,0):=by rw [hV,hR]
         rw [hv]
         have hll : l.length ≤ 1000:=by omega
         refine zf ?_
         simp only [go_sem]
         refine zw (sub_frzP 9 41 (sheetR bs le mo) (by omega) rfl rfl) ?_
         try simp only [go_sem]
         refine zw (zk [1,2,4,9]) ?_
         simp only [go_sem]
         repeat refine zq ?_
         refine zb (by kernel_rfl) fun K hK=>?_
         simp only [go_sem]
         (try simp (disch:=omega) only [zI])
         repeat first | intro _ | refine ⟨by omega,?_⟩ | refine ⟨⟨by omega,by omega⟩,?_⟩
         refine hK _ ?_
         clear hK K
         refine zw (zk [1,4,9]) ?_
         simp only [go_sem]
         repeat refine zq ?_
         refine zb (by kernel_rfl) fun K hK=>?_
         simp only [go_sem,hbl]
         (try simp (disch:=omega) only [zI])
         intros
         repeat first | intro _ | refine ⟨by omega,?_⟩ | refine ⟨⟨by omega,by omega⟩,?_⟩
         refine hK _ ?_
         clear hK K
         refine zw (zk [1,4,9,83,84,85]) ?_
         simp only [go_sem]
         repeat refine zq ?_
         refine zd ?_
         refine zw (sub_ownB 4 1 108 67 3 (by omega) (by omega) rfl rfl) ?_
         try simp only [go_sem]
         refine awp_uptoV (n:=115) a.beds.length (fun k vs=>[(1,.r (visR l)),(4,.pt 4 (vs 4) 0),(9,.r (.rp (sheetR bs le mo))),(83,.r (ints bs)),(84,.r (i64 a.beds.length)),(85,.r (i64 k))])
          (fun k vs=>[(4,.box [.r (i64 a.at_),.os 108 (vs 108) 3 0 k]),(108,.arr 67 3 (((List.range k).map (bedAt bs le mo)).map bedR))]) (fun _=>True) 0 (zj [13] ?_ ?_) (Nat.zero_le _) trivial ?_
         · try simp only [go_sem]
         · try simp only [go_sem]
           try simp
         · intro k vs hk _
           repeat refine zq ?_
           refine zb (by kernel_rfl) fun K hK=>?_
           simp only [go_sem]
           (try simp (disch:=omega) only [zI])
           repeat first | intro _ | refine ⟨by omega,?_⟩ | refine ⟨⟨by omega,by omega⟩,?_⟩
           refine hK _ ?_
           clear hK K
           refine zw (zk [1,4,9,83,84,85,86]) ?_
           simp only [go_sem]
           repeat refine zq ?_
           refine zc rfl (fun hc=>?_) (fun hc=>?_) <;> (try simp only [go_sem] at hc)
           · have hck : k < a.beds.length:=by first | exact hc | omega
             have hkb : k < bs.length:=by omega
             obtain ⟨b,hbx⟩:=opt_of_lt hkb
             obtain ⟨x,hxl⟩:=opt_of_lt (l:=le) (i:=k) (by omega)
             obtain ⟨y,hyl⟩:=opt_of_lt (l:=mo) (i:=k) (by omega)
             have hat : bedAt bs le mo k = ⟨b,x,y⟩:=by simp [bedAt,List.getD_eq_getElem?_getD,hbx,hxl,hyl]
             have hrl : ((List.range k).map (bedAt bs le mo)).length = k:=by simp
             have hk10 : (k : Int) < 10:=by omega
             have d1 : List.drop k (tR le ++ tR mo) = i64 x :: List.drop (k + 1) (tR le ++ tR mo):=drop_of_opt (by
              rw [List.getElem?_append_left (by simp; omega)]
              simp [hxl])
             have d0 : List.drop 10 (tR le ++ tR mo) = tR mo:=by
              rw [List.drop_append_of_le_length (by simp; omega),List.drop_of_length_le (by simp; omega),List.nil_append]
             have d2 : List.drop k (tR mo) = i64 y :: List.drop (k + 1) (tR mo):=drop_of_opt (by simp [hyl])
             have hL20 : (tR le ++ tR mo).length = 20:=by simp; omega
             refine zx ?_
             try simp only [go_sem]
             repeat refine zq ?_
             refine zd ?_
             repeat refine zq ?_
             refine zb (by kernel_rfl) fun K hK=>?_
             simp only [go_sem,hbx,hkb]
             (try simp (disch:=omega) only [zI])
             repeat first | intro _ | refine ⟨by omega,?_⟩ | refine ⟨⟨by omega,by omega⟩,?_⟩
             refine hK _ ?_
             clear hK K
             refine zw (zk [1,4,9,15,16,83,84,85]) ?_
             simp only [go_sem]
             repeat refine zq ?_
             refine awp_dreg3 [(4,some 4),(9,none)] [4] follows (by decide +kernel) (by kernel_rfl) (by simp only [keysOk,List.mem_cons,List.not_mem_nil,forall_eq_or_imp,Oc.keyOf,go_sem]; simp) (by intro k hk; simp only [List.mem_cons,List.not_mem_nil,or_false] at hk; first | (subst hk; exact ⟨_,rfl⟩) | (rcases hk with rfl | rfl <;> exact ⟨_,rfl⟩) | (rcases hk with rfl | rfl | rfl <;> exact ⟨_,rfl⟩)) fun K hK=>?_
             simp only [go_sem,Nat.mul_one,hrl,List.length_map,d0,d1,d2,hL20,List.headD_cons,List.length_cons]
             (try simp (disch:=omega) only [zI])
             refine ⟨by omega,by omega,⟨by omega,by omega⟩,?_⟩
             repeat first | intro _ | refine ⟨by omega,?_⟩ | refine ⟨⟨by omega,by omega⟩,?_⟩
             refine hK _ ?_
             clear hK K
             refine zw (zk [1,4,9,83,84,85]) ?_
             simp only [go_sem]
             repeat refine zq ?_
             refine zb (by kernel_rfl) fun K hK=>?_
             simp only [go_sem]
             (try simp (disch:=omega) only [zI])
             repeat first | intro _ | refine ⟨by omega,?_⟩ | refine ⟨⟨by omega,by omega⟩,?_⟩
             refine hK _ ?_
             clear hK K
             try simp only [go_sem]
             refine ⟨hck,zj [] ?_ ?_⟩
             · try simp only [go_sem]
             · try simp only [go_sem]
               simp [List.range_succ,hat,bedR]
           · have hkl : k = a.beds.length:=by omega
             subst hkl
             have etl2 : List.take a.beds.length (((List.range a.beds.length).map (bedAt bs le mo)).map bedR) = ((List.range a.beds.length).map (bedAt bs le mo)).map bedR:=List.take_of_length_le (by simp)
             refine zf ?_
             simp only [go_sem]
             refine zw (sub_frzB 4 1 108 (by omega) (by omega) rfl rfl rfl (by simp)) ?_
             simp only [go_sem,List.drop_zero,etl2,List.set_cons_succ,List.set_cons_zero]
             refine zw (zk [1,4]) ?_
             simp only [go_sem]
             repeat refine zq ?_
             refine zb (by kernel_rfl) fun K hK=>?_
             simp only [go_sem]
             (try simp (disch:=omega) only [zI])
             intros
             repeat first | intro _ | refine ⟨by omega,?_⟩ | refine ⟨⟨by omega,by omega⟩,?_⟩
             refine hK _ ?_
             clear hK K
             refine zw (zk [4,5,6,7]) ?_
             simp only [go_sem]
             refine ze ?_
             simp only [go_sem]
             done
end Go.Proofs.Ytgkejinoaommeaa

namespace Go.Proofs.Ytgkejinoaommeaa
open Go Go.Oc
set_option linter.unusedSimpArgs false
set_option linter.unusedVariables false
set_option maxRecDepth 8000
def tightB (d L H : Int) (x : Bd) : Bd:=⟨x.b,max x.lo (d - (H - x.hi)),min x.hi (d - (L - x.lo))⟩
def tightL (d : Int) (l : List Bd) : List Bd:=l.map (tightB d (loS l) (hiS l))
theorem tight_ok (a d : Int) (l : List Bd) (hs : Small l) (hl : l.length ≤ 10) (hd : 0 ≤ d) (hd' : d ≤ 6000) : ACalls Try.prog 49 [.ag [i64 a,bedsR l,i64 d]] (bedsR (tightL d l)):=by
 have hb:=sums_le hs
 refine acalls_st (rs:=[bedsR (tightL d l)]) [.tmp 2] Try.func49 rfl (by kernel_rfl) Try.ntmps49 rfl (by simp) rfl fun C vs=>?_
 repeat refine zq ?_
 refine zb (by kernel_rfl) fun K hK=>?_
 simp only [go_sem]
 (try simp (disch:=omega) only [zI])
 repeat first | intro _ | refine ⟨by omega,?_⟩ | refine ⟨⟨by omega,by omega⟩,?_⟩
 refine hK _ ?_
 clear hK K
 repeat refine zq ?_
 refine zb (by kernel_rfl) fun K hK=>?_
 simp only [go_sem]
 (try simp (disch:=omega) only [zI])
 refine zh (sums_ok a l d hs (by omega)) rfl (by simp only [go_sem,i64,ints]) (by simp only [go_sem,i64,ints]) (by first | exact .inl rfl | exact .inr rfl) ?_
 (try simp only [go_sem])
 (try simp (disch:=omega) only [zI])
 repeat first | intro _ | refine ⟨by omega,?_⟩ | refine ⟨⟨by omega,by omega⟩,?_⟩
 refine hK _ ?_
 clear hK K
 refine zw (zk [1,2,3]) ?_
 simp only [go_sem]
 repeat refine zq ?_
 refine zb (by kernel_rfl) fun K hK=>?_
 simp only [go_sem]
 (try simp (disch:=omega) only [zI])
 intro _
 repeat first | intro _ | refine ⟨by omega,?_⟩ | refine ⟨⟨by omega,by omega⟩,?_⟩
 refine hK _ ?_
 clear hK K
 refine zw (zk [1,2,3,11,12,13]) ?_
 simp only [go_sem]
 repeat refine zq ?_
 refine zd ?_
 refine zw (sub_own 2 46 67 3 (by omega) rfl) ?_
 try simp only [go_sem]
 refine awp_upto (n:=49) l.length (fun i vs=>[(1,.pt 1 (vs 1) 0),(2,.os 46 (vs 46) 3 0 i),(3,.pt 3 (vs 3) 0),(11,.r (bedsR l)),(12,.r (i64 l.length)),(13,.r (i64 i))])
  (fun i=>[(1,.box [.r (i64 a),.r (bedsR l),.r (i64 d)]),(3,.box [.r (i64 (loS l)),.r (i64 (hiS l))]),(46,.arr 67 3 (((tightL d l).take i).map bedR))]) (fun _=>True) 0 (fit_of [] ?_ ?_) (Nat.zero_le _) trivial ?_
 · try simp only [go_sem]
 · try simp only [go_sem]
 · intro i vs hi _
   have hlt : ((tightL d l).take i).length = i:=by rw [List.length_take]; simp [tightL]; omega
   repeat refine zq ?_
   refine zb (by kernel_rfl) fun K hK=>?_
   simp only [go_sem]
   (try simp (disch:=omega) only [zI])
   repeat first | intro _ | refine ⟨by omega,?_⟩ | refine ⟨⟨by omega,by omega⟩,?_⟩
   refine hK _ ?_
   clear hK K
   repeat refine zq ?_
   refine zc rfl (fun hc=>?_) (fun hc=>?_) <;> (try simp only [go_sem] at hc)
   · have hci:=hc
     obtain ⟨x,hx⟩:=opt_of_lt hc
     obtain ⟨⟨x1,x2⟩,x3,x4⟩:=hs x (mem_of_opt hx)
     have htx : (tightL d l).take (i + 1) = (tightL d l).take i ++ [tightB d (loS l) (hiS l) x]:=take_of_opt (by simp [tightL,hx])
     refine zx ?_
     repeat refine zq ?_
     refine zd ?_
     repeat refine zq ?_
     refine zb (by kernel_rfl) fun K hK=>?_
     simp only [go_sem,hx,hc,bedR]
     (try simp (disch:=omega) only [zI])
     repeat first | intro _ | refine ⟨by omega,?_⟩ | refine ⟨⟨by omega,by omega⟩,?_⟩
     refine hK _ ?_
     clear hK K
     repeat refine zq ?_
     refine zb (by kernel_rfl) fun K hK=>?_
     simp only [go_sem]
     (try simp (disch:=omega) only [zI])
     repeat first | intro _ | refine ⟨by omega,?_⟩ | refine ⟨⟨by omega,by omega⟩,?_⟩
     refine hK _ ?_
     clear hK K
     repeat refine zq ?_
     refine zb (by kernel_rfl) fun K hK=>?_
     simp only [go_sem]
     (try simp (disch:=omega) only [zI])
     repeat first | intro _ | refine ⟨by omega,?_⟩ | refine ⟨⟨by omega,by omega⟩,?_⟩
     refine hK _ ?_
     clear hK K
     refine zw (zk [1,2,3,5,11,12,13]) ?_
     simp only [go_sem]
     repeat refine zq ?_
     refine zb (by kernel_rfl) fun K hK=>?_
     simp only [go_sem,hlt]
     (try simp (disch:=omega) only [zI])
     repeat first | intro _ | refine ⟨by omega,?_⟩ | refine ⟨⟨by omega,by omega⟩,?_⟩
     refine hK _ ?_
     clear hK K
     refine zw (zk [1,2,3,11,12,13]) ?_
     simp only [go_sem]
     repeat refine zq ?_
     refine zb (by kernel_rfl) fun K hK=>?_
     simp only [go_sem]
     (try simp (disch:=omega) only [zI])
     repeat first | intro _ | refine ⟨by omega,?_⟩ | refine ⟨⟨by omega,by omega⟩,?_⟩
     refine hK _ ?_
     clear hK K
     try simp only [go_sem]
     refine ⟨hci,fit_of [5,6] ?_ ?_⟩
     · try simp only [go_sem]
     · try simp only [go_sem]
       rw [htx]
       simp [bedR,tightB]
   · refine zf ?_
     simp only [go_sem]
     repeat refine zq ?_
     refine zb (by kernel_rfl) fun K hK=>?_
     simp only [go_sem]
     (try simp (disch:=omega) only [zI])
     repeat first | intro _ | refine ⟨by omega,?_⟩ | refine ⟨⟨by omega,by omega⟩,?_⟩
     refine hK _ ?_
     clear hK K
     refine ze ?_
     simp only [go_sem]
     have h1 : i = l.length:=by omega
     have h2 : (tightL d l).take i = tightL d l:=List.take_of_length_le (by simp [tightL]; omega)
     subst h1
     rw [h2]
     simp [tightL]
     exact List.take_of_length_le (by simp)
theorem aimOk_facts {d : Int} {a : Am} (h : aimOk d a = true) : bedOk a.at_ = true ∧ a.beds ≠ [] ∧ seqOk none a.beds = true ∧ chOk d a.beds = true ∧ loS a.beds ≤ d ∧ d ≤ hiS a.beds:=by
 simp only [aimOk,Bool.and_eq_true,decide_eq_true_eq,Bool.not_eq_true'] at h
 obtain ⟨⟨⟨⟨⟨h1,h2⟩,h3⟩,h4⟩,h5⟩,h6⟩:=h
 exact ⟨h1,fun e=>(by rw [e] at h2; cases h2),h3,h4,h5,h6⟩
theorem checkV_zero {d : Int} {l : List Am} (h : checkV d l = 0) : l.length ≤ 20 ∧ (∀ a ∈ l,a.beds.length ≤ 10) ∧ l ≠ [] ∧ (1 ≤ d ∧ d ≤ 3000) ∧ ∀ a ∈ l,aimOk d a = true:=by
 unfold checkV at h
 split at h
 · cases h
 rename_i h1
 split at h
 · cases h
 rename_i h2
 split at h
 · rename_i h3
   simp only [Bool.or_eq_true,decide_eq_true_eq,List.any_eq_true,not_or,not_exists,not_and,Nat.not_lt,Bool.not_eq_true,Bool.not_eq_false',Bool.and_eq_true] at h1 h2
   refine ⟨h1.1,h1.2,fun e=>?_,by simpa using h2.2,List.all_eq_true.1 h3⟩
   rw [e] at h2
   simp at h2
 · cases h
def tightA (d : Int) (a : Am) : Am:=⟨a.at_,tightL d a.beds⟩
theorem Tight_ok (d : Int) (l : List Am) (hw : WfL d l) : ACalls Try.prog 16 [lawV d l] (.tu [if checkV d l = 0 then lawV d (l.map (tightA d)) else .ag [i64 0,.ns],i64 (checkV d l)]):=by
 refine acalls_stR (rs:=[if checkV d l = 0 then lawV d (l.map (tightA d)) else .ag [i64 0,.ns],i64 (checkV d l)]) [.cell 2 24,.tmp 3] Try.func16 rfl (by kernel_rfl) Try.ntmps16 rfl (by simp) rfl fun C hC vs=>?_
 repeat refine zq ?_
 refine zb (by kernel_rfl) fun K hK=>?_
 simp only [go_sem]
 (try simp (disch:=omega) only [zI])
 repeat first | intro _ | refine ⟨by omega,?_⟩ | refine ⟨⟨by omega,by omega⟩,?_⟩
 refine hK _ ?_
 clear hK K
 repeat refine zq ?_
 refine zb (by kernel_rfl) fun K hK=>?_
 simp only [go_sem]
 (try simp (disch:=omega) only [zI])
 refine zh (check_ok d l hw) rfl (by simp only [go_sem,i64,ints]) (by simp only [go_sem,i64,ints]) (by first | exact .inl rfl | exact .inr rfl) ?_
 (try simp only [go_sem])
 (try simp (disch:=omega) only [zI])
 repeat first | intro _ | refine ⟨by omega,?_⟩ | refine ⟨⟨by omega,by omega⟩,?_⟩
 refine hK _ ?_
 clear hK K
 repeat refine zq ?_
 refine zb (by kernel_rfl) fun K hK=>?_
 simp only [go_sem]
 (try simp (disch:=omega) only [zI])
 cases hE : checkV d l != 0
 case true =>
  repeat first | intro _ | refine ⟨by omega,?_⟩ | refine ⟨⟨by omega,by omega⟩,?_⟩
  refine hK _ ?_
  clear hK K
  have hne : ¬ checkV d l = 0:=by simpa using hE
  repeat refine zq ?_
  refine zc rfl (fun hc=>?_) (fun hc=>?_) <;> (try simp only [go_sem] at hc)
  repeat refine zq ?_
  refine zb (by kernel_rfl) fun K hK=>?_
  simp only [go_sem]
  (try simp (disch:=omega) only [zI])
  repeat first | intro _ | refine ⟨by omega,?_⟩ | refine ⟨⟨by omega,by omega⟩,?_⟩
  refine hK _ ?_
  clear hK K
  refine ze ?_
  simp only [go_sem]
  simp [hne,leL_refl.le_refl]
 have h0 : checkV d l = 0:=by simpa using hE
 obtain ⟨c1,c2,c3,c4,c5⟩:=checkV_zero h0
 repeat first | intro _ | refine ⟨by omega,?_⟩ | refine ⟨⟨by omega,by omega⟩,?_⟩
 refine hK _ ?_
 clear hK K
 repeat refine zq ?_
 refine zc rfl (fun hc=>?_) (fun hc=>?_) <;> (try simp only [go_sem] at hc)
 refine zx ?_
 try simp only [go_sem]
 repeat refine zq ?_
 refine zb (by kernel_rfl) fun K hK=>?_
 simp only [go_sem]
 (try simp (disch:=omega) only [zI])
 repeat first | intro _ | refine ⟨by omega,?_⟩ | refine ⟨⟨by omega,by omega⟩,?_⟩
 refine hK _ ?_
 clear hK K
 repeat refine zq ?_
 refine zb (by kernel_rfl) fun K hK=>?_
 simp only [go_sem]
 (try simp (disch:=omega) only [zI])
 refine zh (all_ok d l) rfl (by simp only [go_sem,i64,ints]) (by simp only [go_sem,i64,ints]) (by first | exact .inl rfl | exact .inr rfl) ?_
 (try simp only [go_sem])
 (try simp (disch:=omega) only [zI])
 repeat first | intro _ | refine ⟨by omega,?_⟩ | refine ⟨⟨by omega,by omega⟩,?_⟩
 refine hK _ ?_
 clear hK K
 refine zw (zk [2,5,18]) ?_
 simp only [go_sem]
 repeat refine zq ?_
 refine zd ?_
 refine zw (sub_ownB 5 1 30 36 2 (by omega) (by omega) rfl rfl) ?_
 try simp only [go_sem]
 refine awp_rangeF hC (enumA d l) (all1_ok d l) [2,5,18] (by decide) (fun vs=>[(2,.pt 2 (vs 2) 0),(5,.pt 5 (vs 5) 0),(18,.r (.fn 73 [.rp [i64 d,aimsR l]]))])
  (fun i vs=>[(2,.box [.r (i64 0),.r .ns]),(5,.box [.r (i64 d),.os 30 (vs 30) 2 0 i]),(30,.arr 36 2 (((l.map (tightA d)).take i).map aimR))])
  (fun i=>True) (zj [1] ?_ ?_) trivial (fun _=>rfl) (fun _=>rfl) (fun _ _=>rfl) (by simp) (fun e he=>enumA_len he) ?_ ?_
 · try simp only [go_sem]
 · try simp only [go_sem]
 · intro i e vs us C he _
   obtain ⟨x,hx,rfl⟩:=enumA_get he
   obtain ⟨_,_,_,k4,_⟩:=aimOk_facts (c5 x (mem_of_opt hx))
   have hil : i < l.length:=(List.getElem?_eq_some_iff.1 hx).1
   have hlt : ((l.map (tightA d)).take i).length = i:=by rw [List.length_take]; simp; omega
   have htx : (l.map (tightA d)).take (i + 1) = (l.map (tightA d)).take i ++ [tightA d x]:=take_of_opt (by simp [hx])
   repeat refine zq ?_
   refine zb (by kernel_rfl) fun K hK=>?_
   simp only [go_sem]
   (try simp (disch:=omega) only [zI])
   repeat first | intro _ | refine ⟨by omega,?_⟩ | refine ⟨⟨by omega,by omega⟩,?_⟩
   refine hK _ ?_
   clear hK K
   refine ⟨rfl,fun C'=>?_⟩
   refine zw (zk [2,5,7,18]) ?_
   simp only [go_sem]
   repeat refine zq ?_
   refine zd ?_
   repeat refine zq ?_
   refine awp_dreg3 [(2,some 2),(5,some 5),(7,some 7)] [2,5,7] follows (by decide +kernel) (by kernel_rfl) (by simp only [keysOk,List.mem_cons,List.not_mem_nil,forall_eq_or_imp,Oc.keyOf,go_sem]; simp) (by intro k hk; simp only [List.mem_cons,List.not_mem_nil,or_false] at hk; first | (subst hk; exact ⟨_,rfl⟩) | (rcases hk with rfl | rfl <;> exact ⟨_,rfl⟩) | (rcases hk with rfl | rfl | rfl <;> exact ⟨_,rfl⟩)) fun K hK=>?_
   simp only [go_sem,hlt]
   (try simp (disch:=omega) only [zI])
   refine zh (tight_ok x.at_ d x.beds (chOk_small k4 (by omega)) (c2 x (mem_of_opt hx)) (by omega) (by omega)) rfl (by simp only [go_sem,i64,ints,hlt]) (by simp only [go_sem,i64,ints,hlt]) (by first | exact .inl rfl | exact .inr rfl) ?_
   (try simp only [go_sem,hlt])
   (try simp (disch:=omega) only [zI])
   repeat first | intro _ | refine ⟨by omega,?_⟩ | refine ⟨⟨by omega,by omega⟩,?_⟩
   refine hK _ ?_
   clear hK K
   try simp only [go_sem]
   refine zj (F:=fun _=>[]) [7] (by try simp only [go_sem]) ?_
   try simp only [go_sem]
   rw [htx]
   simp [aimR,tightA]
 · intro vs us _
   try simp only [go_sem]
   refine zw (sub_wake rfl) ?_
   repeat refine zq ?_
   refine zb (by kernel_rfl) fun K hK=>?_
   simp only [go_sem]
   (try simp (disch:=omega) only [zI])
   repeat first | intro _ | refine ⟨by omega,?_⟩ | refine ⟨⟨by omega,by omega⟩,?_⟩
   refine hK _ ?_
   clear hK K
   refine ze ?_
   simp only [go_sem]
   have hel : (enumA d l).length = l.length:=by simp [enumA]
   rw [hel,h0]
   refine ⟨⟨by simp,?_⟩,rfl⟩
   rw [if_pos rfl,List.take_of_length_le (l:=l.map (tightA d)) (by simp),List.take_of_length_le (by simp)]
   exact leL_refl.le_refl _
end Go.Proofs.Ytgkejinoaommeaa

namespace Go.Proofs.Ytgkejinoaommeaa
open Go Go.Oc
set_option linter.unusedSimpArgs false
set_option linter.unusedVariables false
set_option maxRecDepth 8000
def cmpI (x y : Int) : Int:=if x < y then -1 else if y < x then 1 else 0
theorem nan_ok (n : Int) : ACalls Try.prog 96 [i64 n] (.bo false):=by
 refine acalls_st (rs:=[.bo false]) [.tmp 2] Try.func96 rfl (by kernel_rfl) Try.ntmps96 rfl (by simp) rfl fun C vs=>?_
 repeat refine zq ?_
 refine zb (by kernel_rfl) fun K hK=>?_
 simp only [go_sem]
 (try simp (disch:=omega) only [zI])
 repeat first | intro _ | refine ⟨by omega,?_⟩ | refine ⟨⟨by omega,by omega⟩,?_⟩
 refine hK _ ?_
 clear hK K
 repeat refine zq ?_
 refine zb (by kernel_rfl) fun K hK=>?_
 simp only [go_sem]
 (try simp (disch:=omega) only [zI])
 repeat first | intro _ | refine ⟨by omega,?_⟩ | refine ⟨⟨by omega,by omega⟩,?_⟩
 refine hK _ ?_
 clear hK K
 refine ze ?_
 simp only [go_sem]
 simp
theorem compare_ok (x y : Int) : ACalls Try.prog 89 [i64 x,i64 y] (i64 (cmpI x y)):=by
 refine acalls_st (rs:=[i64 (cmpI x y)]) [.tmp 4] Try.func89 rfl (by kernel_rfl) Try.ntmps89 rfl (by simp) rfl fun C vs=>?_
 repeat refine zq ?_
 refine zb (by kernel_rfl) fun K hK=>?_
 simp only [go_sem]
 (try simp (disch:=omega) only [zI])
 repeat first | intro _ | refine ⟨by omega,?_⟩ | refine ⟨⟨by omega,by omega⟩,?_⟩
 refine hK _ ?_
 clear hK K
 repeat refine zq ?_
 refine zb (by kernel_rfl) fun K hK=>?_
 simp only [go_sem]
 (try simp (disch:=omega) only [zI])
 refine zh (nan_ok x) rfl (by simp only [go_sem,i64,ints]) (by simp only [go_sem,i64,ints]) (by first | exact .inl rfl | exact .inr rfl) ?_
 (try simp only [go_sem])
 (try simp (disch:=omega) only [zI])
 repeat first | intro _ | refine ⟨by omega,?_⟩ | refine ⟨⟨by omega,by omega⟩,?_⟩
 refine hK _ ?_
 clear hK K
 repeat refine zq ?_
 refine zb (by kernel_rfl) fun K hK=>?_
 simp only [go_sem]
 (try simp (disch:=omega) only [zI])
 refine zh (nan_ok y) rfl (by simp only [go_sem,i64,ints]) (by simp only [go_sem,i64,ints]) (by first | exact .inl rfl | exact .inr rfl) ?_
 (try simp only [go_sem])
 (try simp (disch:=omega) only [zI])
 repeat first | intro _ | refine ⟨by omega,?_⟩ | refine ⟨⟨by omega,by omega⟩,?_⟩
 refine hK _ ?_
 clear hK K
 repeat refine zq ?_
 refine zb (by kernel_rfl) fun K hK=>?_
 simp only [go_sem]
 (try simp (disch:=omega) only [zI])
 repeat first | intro _ | refine ⟨by omega,?_⟩ | refine ⟨⟨by omega,by omega⟩,?_⟩
 refine hK _ ?_
 clear hK K
 repeat refine zq ?_
 refine zc rfl (fun hc=>?_) (fun hc=>?_) <;> (try simp only [go_sem] at hc)
 refine zx ?_
 try simp only [go_sem]
 repeat refine zq ?_
 refine zb (by kernel_rfl) fun K hK=>?_
 simp only [go_sem]
 (try simp (disch:=omega) only [zI])
 repeat first | intro _ | refine ⟨by omega,?_⟩ | refine ⟨⟨by omega,by omega⟩,?_⟩
 refine hK _ ?_
 clear hK K
 repeat refine zq ?_
 refine zc rfl (fun hc=>?_) (fun hc=>?_) <;> (try simp only [go_sem] at hc)
 refine zx ?_
 try simp only [go_sem]
 repeat refine zq ?_
 refine zb (by kernel_rfl) fun K hK=>?_
 simp only [go_sem]
 (try simp (disch:=omega) only [zI])
 repeat first | intro _ | refine ⟨by omega,?_⟩ | refine ⟨⟨by omega,by omega⟩,?_⟩
 refine hK _ ?_
 clear hK K
 repeat refine zq ?_
 refine zc rfl (fun hc=>?_) (fun hc=>?_) <;> (try simp only [go_sem] at hc)
 · repeat refine zq ?_
   refine zb (by kernel_rfl) fun K hK=>?_
   simp only [go_sem]
   (try simp (disch:=omega) only [zI])
   repeat first | intro _ | refine ⟨by omega,?_⟩ | refine ⟨⟨by omega,by omega⟩,?_⟩
   refine hK _ ?_
   clear hK K
   refine ze ?_
   simp only [go_sem]
   simp [cmpI,hc]
 refine zx ?_
 try simp only [go_sem]
 repeat refine zq ?_
 refine zb (by kernel_rfl) fun K hK=>?_
 simp only [go_sem]
 (try simp (disch:=omega) only [zI])
 repeat first | intro _ | refine ⟨by omega,?_⟩ | refine ⟨⟨by omega,by omega⟩,?_⟩
 refine hK _ ?_
 clear hK K
 have h1:=hc
 repeat refine zq ?_
 refine zc rfl (fun hc=>?_) (fun hc=>?_) <;> (try simp only [go_sem] at hc)
 · repeat refine zq ?_
   refine zb (by kernel_rfl) fun K hK=>?_
   simp only [go_sem]
   (try simp (disch:=omega) only [zI])
   repeat first | intro _ | refine ⟨by omega,?_⟩ | refine ⟨⟨by omega,by omega⟩,?_⟩
   refine hK _ ?_
   clear hK K
   refine ze ?_
   simp only [go_sem]
   have : ¬ x < y:=by omega
   simp [cmpI,hc,this]
 refine zx ?_
 try simp only [go_sem]
 repeat refine zq ?_
 refine zb (by kernel_rfl) fun K hK=>?_
 simp only [go_sem]
 (try simp (disch:=omega) only [zI])
 repeat first | intro _ | refine ⟨by omega,?_⟩ | refine ⟨⟨by omega,by omega⟩,?_⟩
 refine hK _ ?_
 clear hK K
 refine ze ?_
 simp only [go_sem]
 have h2 : ¬ x < y:=by omega
 have h3 : ¬ y < x:=by omega
 simp [cmpI,h2,h3]
theorem rising_ok (x y : Int) : ACalls Try.prog 67 [i64 x,i64 y] (i64 (cmpI x y)):=by
 refine acalls_st (rs:=[i64 (cmpI x y)]) [.tmp 4] Try.func67 rfl (by kernel_rfl) Try.ntmps67 rfl (by simp) rfl fun C vs=>?_
 repeat refine zq ?_
 refine zb (by kernel_rfl) fun K hK=>?_
 simp only [go_sem]
 (try simp (disch:=omega) only [zI])
 repeat first | intro _ | refine ⟨by omega,?_⟩ | refine ⟨⟨by omega,by omega⟩,?_⟩
 refine hK _ ?_
 clear hK K
 repeat refine zq ?_
 refine zb (by kernel_rfl) fun K hK=>?_
 simp only [go_sem]
 (try simp (disch:=omega) only [zI])
 refine zh (compare_ok x y) rfl (by simp only [go_sem,i64,ints]) (by simp only [go_sem,i64,ints]) (by first | exact .inl rfl | exact .inr rfl) ?_
 (try simp only [go_sem])
 (try simp (disch:=omega) only [zI])
 repeat first | intro _ | refine ⟨by omega,?_⟩ | refine ⟨⟨by omega,by omega⟩,?_⟩
 refine hK _ ?_
 clear hK K
 refine ze ?_
 simp only [go_sem]
theorem falling_ok (x y : Int) : ACalls Try.prog 66 [i64 x,i64 y] (i64 (cmpI y x)):=by
 refine acalls_st (rs:=[i64 (cmpI y x)]) [.tmp 4] Try.func66 rfl (by kernel_rfl) Try.ntmps66 rfl (by simp) rfl fun C vs=>?_
 repeat refine zq ?_
 refine zb (by kernel_rfl) fun K hK=>?_
 simp only [go_sem]
 (try simp (disch:=omega) only [zI])
 repeat first | intro _ | refine ⟨by omega,?_⟩ | refine ⟨⟨by omega,by omega⟩,?_⟩
 refine hK _ ?_
 clear hK K
 repeat refine zq ?_
 refine zb (by kernel_rfl) fun K hK=>?_
 simp only [go_sem]
 (try simp (disch:=omega) only [zI])
 refine zh (compare_ok y x) rfl (by simp only [go_sem,i64,ints]) (by simp only [go_sem,i64,ints]) (by first | exact .inl rfl | exact .inr rfl) ?_
 (try simp only [go_sem])
 (try simp (disch:=omega) only [zI])
 repeat first | intro _ | refine ⟨by omega,?_⟩ | refine ⟨⟨by omega,by omega⟩,?_⟩
 refine hK _ ?_
 clear hK K
 refine ze ?_
 simp only [go_sem]
theorem filled1_ok (i k : Nat) (vals : List Int) (f : Nat) (cm : Int → Int → Int) (hf : ∀ x y,ACalls Try.prog f [i64 x,i64 y] (i64 (cm x y))) {x y : Int} (hx : vals[i]? = some x) (hy : vals[k]? = some y) :
 ACalls Try.prog 88 [i64 i,i64 k,.rp [.fn f []],.rp [ints vals]] (i64 (cm x y)):=by
 have hi:=(List.getElem?_eq_some_iff.1 hx).1
 have hk:=(List.getElem?_eq_some_iff.1 hy).1
 refine acalls_st (rs:=[i64 (cm x y)]) [.tmp 6] Try.func88 rfl (by kernel_rfl) Try.ntmps88 rfl (by simp) rfl fun C vs=>?_
 repeat refine zq ?_
 refine zb (by kernel_rfl) fun K hK=>?_
 simp only [go_sem]
 (try simp (disch:=omega) only [zI])
 repeat first | intro _ | refine ⟨by omega,?_⟩ | refine ⟨⟨by omega,by omega⟩,?_⟩
 refine hK _ ?_
 clear hK K
 repeat refine zq ?_
 refine zg follows (by decide +kernel) (by kernel_rfl) fun K hK=>?_
 simp only [go_sem,hx,hy,hi,hk]
 (try simp (disch:=omega) only [zI])
 refine zh (hf x y) rfl (by simp only [go_sem,i64,ints]) (by simp only [go_sem,i64,ints]) (by first | exact .inl rfl | exact .inr rfl) ?_
 (try simp only [go_sem])
 (try simp (disch:=omega) only [zI])
 repeat first | intro _ | refine ⟨by omega,?_⟩ | refine ⟨⟨by omega,by omega⟩,?_⟩
 refine hK _ ?_
 clear hK K
 refine ze ?_
 simp only [go_sem]
def insB (lt : Nat → Nat → Bool) (x : Nat) : List Nat → List Nat
 | []=>[x]
 | y :: ys=>if lt x y then y :: insB lt x ys else x :: y :: ys
def sortB (lt : Nat → Nat → Bool) : List Nat → List Nat → List Nat
 | [],R=>R
 | x :: xs,R=>sortB lt xs (insB lt x R)
def sortN (lt : Nat → Nat → Bool) (l : List Nat) : List Nat:=(sortB lt l []).reverse
theorem insB_len (lt : Nat → Nat → Bool) (x : Nat) : ∀ R,(insB lt x R).length = R.length + 1
 | []=>rfl
 | y :: R => by
   unfold insB
   split
   · simp [insB_len lt x R]
   · rfl
theorem insB_skip (lt : Nat → Nat → Bool) (x : Nat) : ∀ (R : List Nat) (k : Nat),(∀ y ∈ R.take k,lt x y = true) → insB lt x R = R.take k ++ insB lt x (R.drop k)
 | R,0,_=>by simp
 | [],k + 1,_=>by simp
 | y :: R, k + 1, h => by
   have hy : lt x y = true:=h y (by simp)
   have ih:=insB_skip lt x R k fun z hz=>h z (by simp [hz])
   simp only [List.take_succ_cons,List.drop_succ_cons,List.cons_append]
   rw [← ih]
   simp [insB,hy]
theorem sortB_snoc (lt : Nat → Nat → Bool) : ∀ (l : List Nat) (x : Nat) (R : List Nat),sortB lt (l ++ [x]) R = insB lt x (sortB lt l R)
 | [],_,_=>rfl
 | y :: l,x,R=>by simp only [List.cons_append,sortB]; exact sortB_snoc lt l x _
theorem sortB_len (lt : Nat → Nat → Bool) : ∀ (l R : List Nat),(sortB lt l R).length = l.length + R.length
 | [],R=>by simp [sortB]
 | x :: l,R=>by simp only [sortB]; rw [sortB_len lt l,insB_len]; simp; omega
theorem mem_insB (lt : Nat → Nat → Bool) (x z : Nat) : ∀ R,z ∈ insB lt x R ↔ z = x ∨ z ∈ R
 | []=>by simp [insB]
 | y :: R => by
   unfold insB
   split
   · simp only [List.mem_cons,mem_insB lt x z R]
     constructor
     · rintro (h | h | h) <;> simp [h]
     · rintro (h | h | h) <;> simp [h]
   · simp
theorem mem_sortB (lt : Nat → Nat → Bool) (z : Nat) : ∀ l R,z ∈ sortB lt l R ↔ z ∈ l ∨ z ∈ R
 | [],R=>by simp [sortB]
 | x :: l, R => by
   simp only [sortB]
   rw [mem_sortB lt z l,mem_insB]
   simp only [List.mem_cons]
   constructor
   · rintro (h | h | h) <;> simp [h]
   · rintro ((h | h) | h) <;> simp [h]
def holeL (R : List Nat) (x k : Nat) (rest : List Nat) : List Nat:=(R.drop k).reverse ++ x :: ((R.take k).reverse ++ rest)
theorem hole_len (R : List Nat) (x k : Nat) (rest : List Nat) (hk : k ≤ R.length) : (holeL R x k rest).length = R.length + 1 + rest.length:=by
 simp [holeL]; omega
theorem hole_at (R : List Nat) (x k : Nat) (rest : List Nat) (hk : k ≤ R.length) : (holeL R x k rest)[R.length - k]? = some x:=by
 unfold holeL
 rw [List.getElem?_append_right (by simp)]
 simp
theorem hole_next {R : List Nat} {x k y : Nat} {rest : List Nat} (hy : R[k]? = some y) : (holeL R x k rest)[R.length - k - 1]? = some y ∧ (holeL R x k rest) = (R.drop (k + 1)).reverse ++ y :: x :: ((R.take k).reverse ++ rest) ∧ holeL R x (k + 1) rest = (R.drop (k + 1)).reverse ++ x :: y :: ((R.take k).reverse ++ rest):=by
 have hk:=(List.getElem?_eq_some_iff.1 hy).1
 have hd:=drop_of_opt hy
 have ht:=take_of_opt hy
 have e1 : (holeL R x k rest) = (R.drop (k + 1)).reverse ++ y :: x :: ((R.take k).reverse ++ rest):=by
  unfold holeL; rw [hd]; simp
 refine ⟨?_,e1,by unfold holeL; rw [ht]; simp⟩
 rw [e1,List.getElem?_append_right (by simp; omega)]
 have : R.length - k - 1 - (R.drop (k + 1)).reverse.length = 0:=by simp; omega
 rw [this]; rfl
theorem hole_swap {α : Type} (g : Nat → α) {R : List Nat} {x k y : Nat} {rest : List Nat} (hy : R[k]? = some y) :
 (((holeL R x k rest).map g).set (R.length - k) (g y)).set (R.length - k - 1) (g x) = (holeL R x (k + 1) rest).map g:=by
 obtain ⟨_,e1,e2⟩:=hole_next (x:=x) (rest:=rest) hy
 have hk:=(List.getElem?_eq_some_iff.1 hy).1
 rw [e1,e2,← List.map_set,← List.map_set]
 congr 1
 have hl : (R.drop (k + 1)).reverse.length = R.length - k - 1:=by simp; omega
 generalize (R.drop (k + 1)).reverse = A at hl
 generalize (R.take k).reverse ++ rest = B
 have e3 : R.length - k = A.length + 1:=by omega
 rw [e3,Nat.add_sub_cancel]
 rw [List.set_append_right _ _ (by omega)]
 simp only [Nat.add_sub_cancel_left,List.set_cons_succ,List.set_cons_zero]
 rw [List.set_append_right _ _ (by omega)]
 simp
theorem lent_put {vs : Nat → Nat} {k : Nat} (h : Lent vs) : Lent (upd vs k 0):=fun j hj=>by
 unfold upd; split
 · rfl
 · exact h j hj
abbrev idx (l : List Nat) : List (List RV):=l.map fun (x : Nat)=>[i64 (x : Int)]
theorem insertion_ok (lt : Nat → Nat → Bool) (c : Nat → Nat → Int) (f : Nat) (caps : List RV) (l : List Nat) (hl : l.length ≤ 1000) (hlt : ∀ x y,lt x y = decide (c x y < 0))
 (hcc : ∀ x ∈ l,∀ y ∈ l,ACalls Try.prog f (i64 (x : Int) :: i64 (y : Int) :: caps) (i64 (c x y))) :
 MCalls Try.prog 97 [(1000,.arr 3 1 (idx l))] [(1000,.arr 3 1 (idx (sortN lt l)))] [.os 1000 0 1 0 l.length,.r (i64 0),.r (i64 l.length),.r (.fn f caps)] (.tu []):=by
 refine mcalls_st (n:=53) (rs:=[]) _ _ [] Try.func97 rfl (by kernel_rfl) Try.ntmps97 rfl (by simp) rfl rfl fun C=>?_
 have hmem : ∀ i z,z ∈ sortB lt (l.take i) [] → z ∈ l:=fun i z hz=>by
  rw [mem_sortB] at hz
  rcases hz with hz | hz
  · exact List.mem_of_mem_take hz
  · cases hz
 repeat refine zq ?_
 refine zb (by kernel_rfl) fun K hK=>?_
 simp only [go_sem]
 (try simp (disch:=omega) only [zI])
 repeat first | intro _ | refine ⟨by omega,?_⟩ | refine ⟨⟨by omega,by omega⟩,?_⟩
 refine hK _ ?_
 clear hK K
 refine zw (zk [0,1,2,3,8]) ?_
 simp only [go_sem]
 repeat refine zq ?_
 refine zd ?_
 refine awp_upto0 (n:=53) (max l.length 1) (fun i vs=>[(0,.os 1000 0 1 0 l.length),(1,.r (i64 0)),(2,.r (i64 l.length)),(3,.r (.fn f caps)),(8,.r (i64 i))])
  (fun i=>[(1000,.arr 3 1 (idx ((sortB lt (l.take i) []).reverse ++ l.drop i)))]) (fun i=>1 ≤ i) 1 (fit0_of [] lent_zero ?_ ?_) (by omega) (Nat.le_refl _) ?_
 · try simp only [go_sem]
 · simp only [go_sem]
   cases l with
   | nil=>rfl
   | cons x l=>simp [sortB,insB]
 · intro i vs hv hi hi1
   have hv0:=hv 1000 (by omega)
   repeat refine zq ?_
   refine zb (by kernel_rfl) fun K hK=>?_
   simp only [go_sem]
   (try simp (disch:=omega) only [zI])
   repeat first | intro _ | refine ⟨by omega,?_⟩ | refine ⟨⟨by omega,by omega⟩,?_⟩
   refine hK _ ?_
   clear hK K
   refine zw (zk [0,1,2,3,8,14]) ?_
   simp only [go_sem]
   repeat refine zq ?_
   refine zc rfl (fun hc=>?_) (fun hc=>?_) <;> (try simp only [go_sem] at hc)
   · have hci : i < l.length:=by omega
     obtain ⟨x,hx⟩:=opt_of_lt hci
     obtain ⟨R,hR⟩ : ∃ R,R = sortB lt (l.take i) []:=⟨_,rfl⟩
     have hRl : R.length = i:=by rw [hR,sortB_len]; simp; omega
     have hRm : ∀ z ∈ R,z ∈ l:=fun z hz=>hmem i z (hR ▸ hz)
     have hnx : sortB lt (l.take (i + 1)) [] = insB lt x R:=by rw [take_of_opt hx,sortB_snoc,hR]
     have hst : (sortB lt (l.take i) []).reverse ++ l.drop i = holeL R x 0 (l.drop (i + 1)):=by rw [← hR,drop_of_opt hx]; simp [holeL]
     rw [hst]
     refine zx ?_
     repeat refine zq ?_
     refine zd ?_
     repeat refine zq ?_
     refine zb (by kernel_rfl) fun K hK=>?_
     simp only [go_sem]
     (try simp (disch:=omega) only [zI])
     repeat first | intro _ | refine ⟨by omega,?_⟩ | refine ⟨⟨by omega,by omega⟩,?_⟩
     refine hK _ ?_
     clear hK K
     refine zw (zk [0,1,2,3,8,9]) ?_
     simp only [go_sem]
     repeat refine zq ?_
     refine zd ?_
     refine awp_upto0 (n:=53) i (fun k vs=>[(0,.os 1000 0 1 0 l.length),(1,.r (i64 0)),(2,.r (i64 l.length)),(3,.r (.fn f caps)),(8,.r (i64 i)),(9,.r (i64 (i - k : Nat)))])
      (fun k=>[(1000,.arr 3 1 (idx (holeL R x k (l.drop (i + 1)))))]) (fun k=>∀ y ∈ R.take k,lt x y = true) 0 (fit0_of [] hv ?_ ?_) (Nat.zero_le _) (by simp) ?_
     · try simp only [go_sem]
     · try simp only [go_sem]
     · intro k vs hv hk hI
       have hv0:=hv 1000 (by omega)
       have hins:=insB_skip lt x R k hI
       have done : insB lt x (R.drop k) = x :: R.drop k → sortB lt (l.take (i + 1)) [] = R.take k ++ x :: R.drop k:=fun h=>by rw [hnx,hins,h]
       by_cases hk0 : k = i
       · have e0 : i - k = 0:=by omega
         repeat refine zq ?_
         refine awp_dreg2 [(0,some 1000)] follows (by decide +kernel) (by kernel_rfl) (by simp only [keysOk,List.mem_cons,List.not_mem_nil,forall_eq_or_imp,Oc.keyOf,go_sem]; simp) fun K hK=>?_
         simp only [go_sem,hv0,e0]
         (try simp (disch:=omega) only [zI])
         repeat first | intro _ | refine ⟨by omega,?_⟩ | refine ⟨⟨by omega,by omega⟩,?_⟩
         refine hK _ ?_
         clear hK K
         refine zw (zk [0,1,2,3,8,9,34]) ?_
         simp only [go_sem]
         repeat refine zq ?_
         refine zc rfl (fun hc=>?_) (fun hc=>?_) <;> (try simp only [go_sem] at hc)
         refine zf ?_
         simp only [go_sem]
         repeat refine zq ?_
         refine zb (by kernel_rfl) fun K hK=>?_
         simp only [go_sem]
         (try simp (disch:=omega) only [zI])
         repeat first | intro _ | refine ⟨by omega,?_⟩ | refine ⟨⟨by omega,by omega⟩,?_⟩
         refine hK _ ?_
         clear hK K
         try simp only [go_sem]
         refine ⟨by omega,fit0_of [] hv ?_ ?_⟩
         · try simp only [go_sem]
         · have hd0 : R.drop k = []:=List.drop_eq_nil_of_le (by omega)
           have:=done (by rw [hd0]; rfl)
           simp only [go_sem,this]
           simp [holeL]
       · obtain ⟨y,hy⟩:=opt_of_lt (l:=R) (i:=k) (by omega)
         obtain ⟨j,hj⟩ : ∃ j,i - k = j + 1:=⟨i - k - 1,by omega⟩
         have hjs : IntKind.i64.wrap ((j : Int) + 1 - 1) = j:=by rw [zI] <;> omega
         have hlen : (holeL R x k (l.drop (i + 1))).length = l.length:=by rw [hole_len _ _ _ _ (by omega),List.length_drop]; omega
         have hxa : (holeL R x k (l.drop (i + 1)))[j + 1]? = some x:=by rw [← hj,← hRl]; exact hole_at R x k _ (by omega)
         have hya : (holeL R x k (l.drop (i + 1)))[j]? = some y:=by
          have:=(hole_next (x:=x) (rest:=l.drop (i + 1)) hy).1
          rw [hRl,hj] at this
          exact this
         have hcall:=hcc x (mem_of_opt hx) y (hRm y (mem_of_opt hy))
         have hpos : (0 < (j : Int) + 1) = True:=by simp
         have hlxy:=hlt x y
         repeat refine zq ?_
         refine awp_dreg2 [(0,some 1000)] follows (by decide +kernel) (by kernel_rfl) (by simp only [keysOk,List.mem_cons,List.not_mem_nil,forall_eq_or_imp,Oc.keyOf,go_sem]; simp) fun K hK=>?_
         simp only [go_sem,hv0,hj,hjs,hxa,hya,hlen,hpos]
         (try simp (disch:=omega) only [zI])
         refine ⟨by omega,by omega,?_⟩
         refine zh (hcall) rfl (by simp only [go_sem,i64,ints,hv0]) (by simp only [go_sem,i64,ints,hv0]) (by first | exact .inl rfl | exact .inr rfl) ?_
         (try simp only [go_sem,hv0])
         (try simp (disch:=omega) only [zI])
         repeat first | intro _ | refine ⟨by omega,?_⟩ | refine ⟨⟨by omega,by omega⟩,?_⟩
         refine hK _ ?_
         clear hK K
         refine zw (zk [0,1,2,3,8,9,34]) ?_
         simp only [go_sem]
         cases hcx : decide (c x y < 0)
         · repeat refine zq ?_
           refine zc rfl (fun hc=>?_) (fun hc=>?_) <;> (try simp only [go_sem] at hc)
           refine zf ?_
           simp only [go_sem]
           repeat refine zq ?_
           refine zb (by kernel_rfl) fun K hK=>?_
           simp only [go_sem]
           (try simp (disch:=omega) only [zI])
           repeat first | intro _ | refine ⟨by omega,?_⟩ | refine ⟨⟨by omega,by omega⟩,?_⟩
           refine hK _ ?_
           clear hK K
           try simp only [go_sem]
           refine ⟨by omega,fit0_of [] hv ?_ ?_⟩
           · try simp only [go_sem]
           · have:=done (by rw [drop_of_opt hy]; simp [insB,hlxy,hcx])
             simp only [go_sem,this]
             simp [holeL]
         · repeat refine zq ?_
           refine zc rfl (fun hc=>?_) (fun hc=>?_) <;> (try simp only [go_sem] at hc)
           refine zx ?_
           try simp only [go_sem]
           repeat refine zq ?_
           refine zd ?_
           have hset : ((idx (holeL R x k (l.drop (i + 1)))).set (j + 1) [i64 (y : Int)]).getD j [] = [i64 (y : Int)]:=by
            rw [List.getD_eq_getElem?_getD,List.getElem?_set_ne (by omega),List.getElem?_map,hya]; rfl
           have hsw:=hole_swap (fun (x : Nat)=>[i64 (x : Int)]) (x:=x) (rest:=l.drop (i + 1)) hy
           rw [hRl,hj] at hsw
           simp only [Nat.add_sub_cancel] at hsw
           repeat refine zq ?_
           refine awp_dreg2 [(0,some 1000)] follows (by decide +kernel) (by kernel_rfl) (by simp only [keysOk,List.mem_cons,List.not_mem_nil,forall_eq_or_imp,Oc.keyOf,go_sem]; simp) fun K hK=>?_
           simp only [go_sem,hv0,hj,hjs,hxa,hya,hlen,hset,List.length_set]
           (try simp (disch:=omega) only [zI])
           repeat' first | intro _ | refine And.intro ?_ ?_
           all_goals first | omega | skip
           all_goals (refine hK _ ?_; clear hK K)
           refine zw (zk [0,1,2,3,8,9]) ?_
           simp only [go_sem]
           repeat refine zq ?_
           refine zb (by kernel_rfl) fun K hK=>?_
           simp only [go_sem,hjs]
           (try simp (disch:=omega) only [zI])
           repeat first | intro _ | refine ⟨by omega,?_⟩ | refine ⟨⟨by omega,by omega⟩,?_⟩
           refine hK _ ?_
           clear hK K
           try simp only [go_sem]
           have hj2 : i - (k + 1) = j:=by omega
           refine ⟨by omega,?_,fit0_of [] (lent_put (lent_put hv)) ?_ ?_⟩
           · rw [take_of_opt hy]
             intro z hz
             rcases List.mem_append.1 hz with hz | hz
             · exact hI z hz
             · simp only [List.mem_singleton] at hz
               subst hz
               rw [hlxy,hcx]
           · simp only [go_sem,hj2]
           · simp only [go_sem]
             exact congrArg (fun z=>[(1000,RowC.arr 3 1 z)]) hsw
   · refine zf ?_
     simp only [go_sem]
     have h1 : l.take i = l:=List.take_of_length_le (by omega)
     have h2 : l.drop i = []:=List.drop_eq_nil_of_le (by omega)
     rw [h1,h2,List.append_nil]
     rfl
end Go.Proofs.Ytgkejinoaommeaa

namespace Go.Proofs.Ytgkejinoaommeaa
open Go Go.Oc
set_option linter.unusedSimpArgs false
set_option linter.unusedVariables false
set_option maxRecDepth 8000
theorem stable_ok (lt : Nat → Nat → Bool) (c : Nat → Nat → Int) (f : Nat) (caps : List RV) (l : List Nat) (hl : l.length ≤ 19) (hlt : ∀ x y,lt x y = decide (c x y < 0))
 (hcc : ∀ x ∈ l,∀ y ∈ l,ACalls Try.prog f (i64 (x : Int) :: i64 (y : Int) :: caps) (i64 (c x y))) :
 MCalls Try.prog 95 [(1000,.arr 3 1 (idx l))] [(1000,.arr 3 1 (idx (sortN lt l)))] [.os 1000 0 1 0 l.length,.r (i64 l.length),.r (.fn f caps)] (.tu []):=by
 refine mcalls_st (n:=63) (rs:=[]) _ _ [] Try.func95 rfl (by kernel_rfl) Try.ntmps95 rfl (by simp) rfl rfl fun C=>?_
 repeat refine zq ?_
 refine zb (by kernel_rfl) fun K hK=>?_
 simp only [go_sem]
 (try simp (disch:=omega) only [zI])
 repeat first | intro _ | refine ⟨by omega,?_⟩ | refine ⟨⟨by omega,by omega⟩,?_⟩
 refine hK _ ?_
 clear hK K
 repeat refine zq ?_
 refine zb (by kernel_rfl) fun K hK=>?_
 simp only [go_sem]
 (try simp (disch:=omega) only [zI])
 repeat first | intro _ | refine ⟨by omega,?_⟩ | refine ⟨⟨by omega,by omega⟩,?_⟩
 refine hK _ ?_
 clear hK K
 refine zw (zk [0,1,2,6,7,8]) ?_
 simp only [go_sem]
 repeat refine zq ?_
 refine zd ?_
 refine awp_upto0 (n:=63) 0 (fun i vs=>[(0,.os 1000 0 1 0 l.length),(1,.r (i64 l.length)),(2,.r (.fn f caps)),(6,.r (i64 20)),(7,.r (i64 0)),(8,.r (i64 20))])
  (fun i=>[(1000,.arr 3 1 (idx l))]) (fun i=>True) 0 (fit0_of [] lent_zero ?_ ?_) (Nat.zero_le _) trivial ?_
 · try simp only [go_sem]
 · try simp only [go_sem]
 intro i vs hv _ _
 have hv0:=hv 1000 (by omega)
 repeat refine zq ?_
 refine zb (by kernel_rfl) fun K hK=>?_
 simp only [go_sem]
 (try simp (disch:=omega) only [zI])
 repeat first | intro _ | refine ⟨by omega,?_⟩ | refine ⟨⟨by omega,by omega⟩,?_⟩
 refine hK _ ?_
 clear hK K
 repeat refine zq ?_
 refine zc rfl (fun hc=>?_) (fun hc=>?_) <;> (try simp only [go_sem] at hc)
 · omega
 refine zf ?_
 simp only [go_sem]
 repeat refine zq ?_
 refine zb (by kernel_rfl) fun K hK=>?_
 simp only [go_sem]
 (try simp (disch:=omega) only [zI])
 refine xcall_mut (insertion_ok lt c f caps l (by omega) hlt hcc) [(1000,1000)] rfl (by simp only [go_sem,i64,ints,hv0]) (by simp only [go_sem,i64,ints,hv0]) (by rfl) (by rfl) ?_
 (try simp only [go_sem,hv0])
 (try simp (disch:=omega) only [zI])
 repeat first | intro _ | refine ⟨by omega,?_⟩ | refine ⟨⟨by omega,by omega⟩,?_⟩
 refine hK _ ?_
 clear hK K
 try simp only [go_sem]
 repeat refine zq ?_
 refine zd ?_
 refine awp_upto0 (n:=63) 0 (fun i vs=>[(1,.r (i64 l.length)),(6,.r (i64 20))])
  (fun i=>[(1000,.arr 3 1 (idx (sortN lt l)))]) (fun i=>True) 0 (fit0_of [] hv ?_ ?_) (Nat.zero_le _) trivial ?_
 · try simp only [go_sem]
 · try simp only [go_sem]
 intro i vs hv _ _
 repeat refine zq ?_
 refine zb (by kernel_rfl) fun K hK=>?_
 simp only [go_sem]
 (try simp (disch:=omega) only [zI])
 repeat first | intro _ | refine ⟨by omega,?_⟩ | refine ⟨⟨by omega,by omega⟩,?_⟩
 refine hK _ ?_
 clear hK K
 repeat refine zq ?_
 refine zc rfl (fun hc=>?_) (fun hc=>?_) <;> (try simp only [go_sem] at hc)
 · omega
 refine zf ?_
 simp only [go_sem]
theorem sortStable_ok (lt : Nat → Nat → Bool) (c : Nat → Nat → Int) (f : Nat) (caps : List RV) (l : List Nat) (hl : l.length ≤ 19) (hlt : ∀ x y,lt x y = decide (c x y < 0))
 (hcc : ∀ x ∈ l,∀ y ∈ l,ACalls Try.prog f (i64 (x : Int) :: i64 (y : Int) :: caps) (i64 (c x y))) :
 MCalls Try.prog 87 [(1000,.arr 3 1 (idx l))] [(1000,.arr 3 1 (idx (sortN lt l)))] [.os 1000 0 1 0 l.length,.r (.fn f caps)] (.tu []):=by
 refine mcalls_st (n:=9) (rs:=[]) _ _ [] Try.func87 rfl (by kernel_rfl) Try.ntmps87 rfl (by simp) rfl rfl fun C=>?_
 repeat refine zq ?_
 refine zb (by kernel_rfl) fun K hK=>?_
 simp only [go_sem]
 (try simp (disch:=omega) only [zI])
 intro _
 refine xcall_mut (stable_ok lt c f caps l (by omega) hlt hcc) [(1000,1000)] rfl (by simp only [go_sem,i64,ints]) (by simp only [go_sem,i64,ints]) (by rfl) (by rfl) ?_
 (try simp only [go_sem])
 (try simp (disch:=omega) only [zI])
 repeat first | intro _ | refine ⟨by omega,?_⟩ | refine ⟨⟨by omega,by omega⟩,?_⟩
 refine hK _ ?_
 clear hK K
 try simp only [go_sem]
theorem relV_unmap {w : World} {p : Plan} {ver : Nat → Nat} : ∀ {xs : List RV} {vs : List Value},AV.relV w p ver (xs.map .r) vs → RV.relV w p.R xs vs
 | [],_,h=>by simpa only [List.map_nil,AV.relV,RV.relV] using h
 | x :: xs, vs, h => by
   simp only [List.map_cons,AV.relV,AV.rel] at h
   simp only [RV.relV]
   obtain ⟨u,us,h1,h2,h3⟩:=h
   exact ⟨u,us,h1,h2,relV_unmap h3⟩
theorem mcalls_fn {F : Nat} {L L' : List (Nat × RowC)} {x r : AV} {f : Nat} {caps : List RV} (h : MCalls Try.prog F L L' [x,.r (.fn f caps)] r) : MCalls Try.prog F L L' [x,.fn f (caps.map .r)] r :=
 ⟨h.1,fun w p vs h1 h2 h3 h4 h5 h6 hV=>h.2 w p vs h1 h2 h3 h4 h5 h6 (by
  simp only [AV.relV] at hV ⊢
  obtain ⟨u,us,e1,k1,u',us',e2,k2,e3⟩:=hV
  refine ⟨u,us,e1,k1,u',us',e2,?_,e3⟩
  simp only [AV.rel,RV.rel] at k2 ⊢
  obtain ⟨ws,k3,k4⟩:=k2
  exact ⟨ws,k3,relV_unmap k4⟩)⟩
def moreS (l : List Bd) (o : List Int) (m : Int) (i : Nat) : Int:=min m ((l[i]?.map (·.hi)).getD 0 - (o[i]?).getD 0)
def fillS (l : List Bd) : List Nat → List Int × Int → List Int × Int
 | [],x=>x
 | i :: is,x=>fillS l is (x.1.set i ((x.1[i]?).getD 0 + moreS l x.1 x.2 i),x.2 - moreS l x.1 x.2 i)
theorem fillS_snoc (l : List Bd) : ∀ (is : List Nat) (i : Nat) (x : List Int × Int),fillS l (is ++ [i]) x = ((fillS l is x).1.set i (((fillS l is x).1[i]?).getD 0 + moreS l (fillS l is x).1 (fillS l is x).2 i),(fillS l is x).2 - moreS l (fillS l is x).1 (fillS l is x).2 i)
 | [],_,_=>rfl
 | j :: is,i,x=>by simp only [List.cons_append,fillS]; exact fillS_snoc l is i _
def FillOk (l : List Bd) (x : List Int × Int) : Prop:=x.1.length = l.length ∧ (0 ≤ x.2 ∧ x.2 ≤ 6000) ∧ ∀ (i : Nat) (b : Bd) (o : Int),l[i]? = some b → x.1[i]? = some o → b.lo ≤ o ∧ o ≤ b.hi
theorem fillOk_step {l : List Bd} {x : List Int × Int} (h : FillOk l x) {i : Nat} {b : Bd} {o : Int} (hb : l[i]? = some b) (ho : x.1[i]? = some o) :
 moreS l x.1 x.2 i = min x.2 (b.hi - o) ∧ 0 ≤ moreS l x.1 x.2 i ∧ FillOk l (x.1.set i ((x.1[i]?).getD 0 + moreS l x.1 x.2 i),x.2 - moreS l x.1 x.2 i):=by
 obtain ⟨h1,h2,h3⟩:=h
 obtain ⟨h4,h5⟩:=h3 i b o hb ho
 have hm : moreS l x.1 x.2 i = min x.2 (b.hi - o):=by simp [moreS,hb,ho]
 refine ⟨hm,by omega,by simp [h1],by simp only; omega,fun k b' o' hb' ho'=>?_⟩
 simp only [ho,Option.getD_some] at ho'
 by_cases e : i = k
 · subst e
   rw [List.getElem?_set_self (by have:=(List.getElem?_eq_some_iff.1 ho).1; exact this)] at ho'
   injection ho' with ho'
   rw [hb] at hb'
   injection hb' with hb'
   subst hb'
   omega
 · rw [List.getElem?_set_ne e] at ho'
   exact h3 k b' o' hb' ho'
theorem fillOk_all {l : List Bd} : ∀ (is : List Nat) (x : List Int × Int),(∀ i ∈ is,i < l.length) → FillOk l x → FillOk l (fillS l is x)
 | [],_,_,h=>h
 | i :: is, x, hi, h => by
   obtain ⟨b,hb⟩:=opt_of_lt (hi i (by simp))
   obtain ⟨o,ho⟩:=opt_of_lt (l:=x.1) (i:=i) (by have:=hi i (by simp); have:=h.1; omega)
   exact fillOk_all is _ (fun j hj=>hi j (by simp [hj])) (fillOk_step h hb ho).2.2
def startF (d : Int) (l : List Bd) : List Int × Int:=(l.map (·.lo),d - loS l)
def keyLt (cm : Int → Int → Int) (vals : List Int) (i k : Nat) : Bool:=decide (cm ((vals[i]?).getD 0) ((vals[k]?).getD 0) < 0)
def filledV (cm : Int → Int → Int) (d : Int) (l : List Bd) (vals : List Int) : List Int:=(fillS l (sortN (keyLt cm vals) (List.range l.length)) (startF d l)).1
theorem startF_ok {d : Int} {l : List Bd} (hc : chOk d l = true) (hd : d ≤ 3000) (h1 : loS l ≤ d) (h0 : 0 ≤ loS l) : FillOk l (startF d l):=by
 refine ⟨by simp [startF],by simp only [startF]; omega,fun i b o hb ho=>?_⟩
 simp only [startF,List.getElem?_map,hb,Option.map_some,Option.some.injEq] at ho
 have:=List.all_eq_true.1 hc b (mem_of_opt hb)
 simp only [Bool.and_eq_true,decide_eq_true_eq] at this
 omega
theorem mem_sortN {lt : Nat → Nat → Bool} {l : List Nat} {z : Nat} : z ∈ sortN lt l ↔ z ∈ l:=by
 unfold sortN
 rw [List.mem_reverse,mem_sortB]
 simp
theorem sortN_len (lt : Nat → Nat → Bool) (l : List Nat) : (sortN lt l).length = l.length:=by
 unfold sortN
 rw [List.length_reverse,sortB_len]
 simp
theorem rep_at {g : List (List RV)} {z : List RV} {n i : Nat} (hg : g.length = i) (hi : i < n) : (g ++ List.replicate (n - i) z).getD i [] = z:=by
 rw [List.getD_eq_getElem?_getD,List.getElem?_append_right (by omega),hg,Nat.sub_self,List.getElem?_replicate,if_pos (by omega)]
 rfl
theorem rep_len {g : List (List RV)} {z : List RV} {n i : Nat} (hg : g.length = i) (hi : i < n) : (g ++ List.replicate (n - i) z).length = n:=by simp; omega
theorem rep_set {g : List (List RV)} {z v : List RV} {n i : Nat} (hg : g.length = i) (hi : i < n) : (g ++ List.replicate (n - i) z).set i v = (g ++ [v]) ++ List.replicate (n - (i + 1)) z:=by
 rw [List.set_append_right _ _ (by omega),hg,Nat.sub_self]
 have : n - i = (n - (i + 1)) + 1:=by omega
 rw [this,List.replicate_succ,List.set_cons_zero]
 simp
theorem filled_ok (a : Int) (l : List Bd) (d : Int) (vals : List Int) (f : Nat) (cm : Int → Int → Int) (hf : ∀ x y,ACalls Try.prog f [i64 x,i64 y] (i64 (cm x y))) (hv : vals.length = l.length) (hl : l.length ≤ 19) (hch : chOk d l = true) (hd : d ≤ 3000) (h1 : loS l ≤ d) :
 ACalls Try.prog 65 [.ag [i64 a,bedsR l,i64 d],ints vals,.fn f []] (ints (filledV cm d l vals)):=by
 have hs:=chOk_small hch (by omega)
 have hsm:=sums_le hs
 refine acalls_st (rs:=[ints (filledV cm d l vals)]) [.tmp 6] Try.func65 rfl (by kernel_rfl) Try.ntmps65 rfl (by simp) rfl fun C vs=>?_
 repeat refine zq ?_
 refine zb (by kernel_rfl) fun K hK=>?_
 simp only [go_sem]
 (try simp (disch:=omega) only [zI])
 repeat first | intro _ | refine ⟨by omega,?_⟩ | refine ⟨⟨by omega,by omega⟩,?_⟩
 refine hK _ ?_
 clear hK K
 refine zw (sub_frzP 3 3 [i64 a,bedsR l,i64 d] (by omega) rfl rfl) ?_
 refine zw (sub_frzP 4 4 [ints vals] (by omega) rfl rfl) ?_
 refine zw (sub_frzP 5 5 [.fn f []] (by omega) rfl rfl) ?_
 refine zw (zk [3,4,5]) ?_
 simp only [go_sem]
 repeat refine zq ?_
 refine awp_dreg2 [(3,none)] follows (by decide +kernel) (by kernel_rfl) (by simp only [keysOk,List.mem_cons,List.not_mem_nil,forall_eq_or_imp,Oc.keyOf,go_sem]; simp) fun K hK=>?_
 simp only [go_sem]
 (try simp (disch:=omega) only [zI])
 intro _
 refine ⟨⟨by omega,by omega⟩,fun _=>⟨⟨by omega,by omega⟩,?_⟩⟩
 repeat first | intro _ | refine ⟨by omega,?_⟩ | refine ⟨⟨by omega,by omega⟩,?_⟩
 refine hK _ ?_
 clear hK K
 refine zw (zk [3,4,5,7,8,9]) ?_
 simp only [go_sem]
 repeat refine zq ?_
 refine zb (by kernel_rfl) fun K hK=>?_
 simp only [go_sem]
 (try simp (disch:=omega) only [zI])
 intro _
 repeat first | intro _ | refine ⟨by omega,?_⟩ | refine ⟨⟨by omega,by omega⟩,?_⟩
 refine hK _ ?_
 clear hK K
 refine zw (zk [3,4,5,7,8,9,29,30,31]) ?_
 simp only [go_sem]
 repeat refine zq ?_
 refine zd ?_
 refine awp_upto (n:=90) l.length (fun i vs=>[(3,.r (.rp [i64 a,bedsR l,i64 d])),(4,.r (.rp [ints vals])),(5,.r (.rp [.fn f []])),(7,.os 19 (vs 19) 1 0 l.length),(8,.os 24 (vs 24) 1 0 l.length),(9,.r (i64 (d - loS (l.take i)))),(29,.r (bedsR l)),(30,.r (i64 l.length)),(31,.r (i64 i))])
  (fun i=>[(19,.arr 3 1 (idx (List.range i) ++ List.replicate (l.length - i) [i64 0])),(24,.arr 3 1 (((l.take i).map fun x=>[i64 x.lo]) ++ List.replicate (l.length - i) [i64 0]))]) (fun _=>True) 0 (fit_of [3,4,5] ?_ ?_) (Nat.zero_le _) trivial ?_
 · try simp only [go_sem]
   simp [loS]
 · try simp only [go_sem]
   simp
 · intro i vs hi _
   repeat refine zq ?_
   refine zb (by kernel_rfl) fun K hK=>?_
   simp only [go_sem]
   (try simp (disch:=omega) only [zI])
   repeat first | intro _ | refine ⟨by omega,?_⟩ | refine ⟨⟨by omega,by omega⟩,?_⟩
   refine hK _ ?_
   clear hK K
   repeat refine zq ?_
   refine zc rfl (fun hc=>?_) (fun hc=>?_) <;> (try simp only [go_sem] at hc)
   · have hci:=hc
     obtain ⟨x,hx⟩:=opt_of_lt hci
     obtain ⟨⟨x1,x2⟩,x3,x4⟩:=hs x (mem_of_opt hx)
     have hsub:=sums_le (hs.take (i + 1))
     have hsub0:=sums_le (hs.take i)
     have htl : ((l.take (i + 1)).length : Int) ≤ 20:=by rw [List.length_take]; omega
     have htl0 : ((l.take i).length : Int) ≤ 20:=by rw [List.length_take]; omega
     have hlo : loS (l.take (i + 1)) = loS (l.take i) + x.lo:=by rw [take_of_opt hx,loS_snoc]
     rw [hlo] at hsub
     refine zx ?_
     repeat refine zq ?_
     refine zd ?_
     repeat refine zq ?_
     refine zb (by kernel_rfl) fun K hK=>?_
     simp only [go_sem,hx,hci,bedR]
     (try simp (disch:=omega) only [zI])
     repeat first | intro _ | refine ⟨by omega,?_⟩ | refine ⟨⟨by omega,by omega⟩,?_⟩
     refine hK _ ?_
     clear hK K
     refine zw (zk [3,4,5,7,8,9,10,11,29,30,31]) ?_
     simp only [go_sem]
     have g1 : (idx (List.range i)).length = i:=by simp
     have g2 : ((l.take i).map fun x=>[i64 x.lo]).length = i:=by simp; omega
     have r1:=rep_at (z:=[i64 0]) g1 hci
     have r2:=rep_at (z:=[i64 0]) g2 hci
     have r3:=rep_len (z:=[i64 0]) g1 hci
     have r4:=rep_len (z:=[i64 0]) g2 hci
     have r5:=fun v=>rep_set (z:=[i64 0]) (v:=v) g1 hci
     have r6:=fun v=>rep_set (z:=[i64 0]) (v:=v) g2 hci
     repeat refine zq ?_
     refine awp_dreg2 [(7,some 19),(8,some 24),(10,none),(11,some 11)] follows (by decide +kernel) (by kernel_rfl) (by simp only [keysOk,List.mem_cons,List.not_mem_nil,forall_eq_or_imp,Oc.keyOf,go_sem]; simp) fun K hK=>?_
     simp only [go_sem,hci,r1,r2,r3,r4,r5,r6]
     (try simp (disch:=omega) only [zI])
     repeat first | intro _ | refine ⟨by omega,?_⟩ | refine ⟨⟨by omega,by omega⟩,?_⟩
     refine hK _ ?_
     clear hK K
     refine zw (zk [3,4,5,7,8,9,10,11,29,30,31]) ?_
     simp only [go_sem]
     repeat refine zq ?_
     refine zb (by kernel_rfl) fun K hK=>?_
     simp only [go_sem]
     (try simp (disch:=omega) only [zI])
     repeat first | intro _ | refine ⟨by omega,?_⟩ | refine ⟨⟨by omega,by omega⟩,?_⟩
     refine hK _ ?_
     clear hK K
     refine zw (zk [3,4,5,7,8,9,29,30,31]) ?_
     simp only [go_sem]
     repeat refine zq ?_
     refine zb (by kernel_rfl) fun K hK=>?_
     simp only [go_sem]
     (try simp (disch:=omega) only [zI])
     repeat first | intro _ | refine ⟨by omega,?_⟩ | refine ⟨⟨by omega,by omega⟩,?_⟩
     refine hK _ ?_
     clear hK K
     try simp only [go_sem]
     refine ⟨hci,fit_of [11] ?_ ?_⟩
     · simp only [go_sem,hlo]
       omega
     · try simp only [go_sem]
       have hr : List.range (i + 1) = List.range i ++ [i]:=List.range_succ
       simp only [take_of_opt hx,hr,List.map_append,List.map_cons,List.map_nil]
   · refine zf ?_
     simp only [go_sem]
     have hii : i = l.length:=by omega
     subst hii
     have e1 : idx (List.range l.length) ++ List.replicate (l.length - l.length) [i64 0] = idx (List.range l.length):=by simp
     have e2 : ((l.take l.length).map fun x=>[i64 x.lo]) ++ List.replicate (l.length - l.length) [i64 0] = (l.map (·.lo)).map fun x=>[i64 x]:=by simp
     have e3 : l.take l.length = l:=List.take_length
     rw [e1,e2,e3]
     have hmem : ∀ i ∈ List.range l.length,i < vals.length:=fun i hi=>by rw [hv]; exact List.mem_range.1 hi
     have hsort:=sortStable_ok (keyLt cm vals) (fun i k=>cm ((vals[i]?).getD 0) ((vals[k]?).getD 0)) 88 [.rp [.fn f []],.rp [ints vals]] (List.range l.length) (by simpa using hl) (fun _ _=>rfl) (fun i hi k hk=>by
      obtain ⟨x,hx⟩:=opt_of_lt (hmem i hi)
      obtain ⟨y,hy⟩:=opt_of_lt (hmem k hk)
      have:=filled1_ok i k vals f cm hf hx hy
      simpa [hx,hy] using this)
     rw [List.length_range] at hsort
     repeat refine zq ?_
     refine zb (by kernel_rfl) fun K hK=>?_
     simp only [go_sem]
     (try simp (disch:=omega) only [zI])
     refine xcall_mut (mcalls_fn hsort) [(1000,19)] rfl (by simp only [go_sem,i64,ints]) (by simp only [go_sem,i64,ints]) (by rfl) (by rfl) ?_
     (try simp only [go_sem])
     (try simp (disch:=omega) only [zI])
     repeat first | intro _ | refine ⟨by omega,?_⟩ | refine ⟨⟨by omega,by omega⟩,?_⟩
     refine hK _ ?_
     clear hK K
     refine zw (zk [3,4,5,7,8,9]) ?_
     simp only [go_sem]
     obtain ⟨S,hS⟩ : ∃ S,S = sortN (keyLt cm vals) (List.range l.length):=⟨_,rfl⟩
     have hSl : S.length = l.length:=by rw [hS,sortN_len,List.length_range]
     have hSm : ∀ i ∈ S,i < l.length:=fun i hi=>by rw [hS,mem_sortN,List.mem_range] at hi; exact hi
     rw [← hS]
     repeat refine zq ?_
     refine zb (by kernel_rfl) fun K hK=>?_
     simp only [go_sem]
     (try simp (disch:=omega) only [zI])
     intro _
     repeat first | intro _ | refine ⟨by omega,?_⟩ | refine ⟨⟨by omega,by omega⟩,?_⟩
     refine hK _ ?_
     clear hK K
     refine zw (zk [3,4,5,7,8,9,55,56,57]) ?_
     simp only [go_sem]
     repeat refine zq ?_
     refine zd ?_
     have hst:=startF_ok hch hd h1 hsm.1.1
     refine awp_upto (n:=90) l.length (fun i vs=>[(3,.r (.rp [i64 a,bedsR l,i64 d])),(8,.os 24 (vs 24) 1 0 l.length),(9,.r (i64 (fillS l (S.take i) (startF d l)).2)),(55,.os 19 (vs 19) 1 0 l.length),(56,.r (i64 l.length)),(57,.r (i64 i))])
      (fun i=>[(19,.arr 3 1 (idx S)),(24,.arr 3 1 ((fillS l (S.take i) (startF d l)).1.map fun x=>[i64 x]))]) (fun _=>True) 0 (fit_of [] ?_ ?_) (Nat.zero_le _) trivial ?_
     · try simp only [go_sem]
       simp [fillS,startF]
     · try simp only [go_sem]
       simp [fillS,startF]
     · intro q vs hq _
       repeat refine zq ?_
       refine zb (by kernel_rfl) fun K hK=>?_
       simp only [go_sem]
       (try simp (disch:=omega) only [zI])
       repeat first | intro _ | refine ⟨by omega,?_⟩ | refine ⟨⟨by omega,by omega⟩,?_⟩
       refine hK _ ?_
       clear hK K
       repeat refine zq ?_
       refine zc rfl (fun hc=>?_) (fun hc=>?_) <;> (try simp only [go_sem] at hc)
       · have hci:=hc
         obtain ⟨i,hi⟩:=opt_of_lt (l:=S) (i:=q) (by omega)
         have hil:=hSm i (mem_of_opt hi)
         obtain ⟨x,hx⟩:=opt_of_lt hil
         obtain ⟨F,hF⟩ : ∃ F,F = fillS l (S.take q) (startF d l):=⟨_,rfl⟩
         have hFo : FillOk l F:=hF ▸ fillOk_all _ _ (fun j hj=>hSm j (List.mem_of_mem_take hj)) hst
         obtain ⟨o,ho⟩:=opt_of_lt (l:=F.1) (i:=i) (by have:=hFo.1; omega)
         obtain ⟨s1,s2,s3⟩:=fillOk_step hFo hx ho
         have hnx : fillS l (S.take (q + 1)) (startF d l) = (F.1.set i (o + moreS l F.1 F.2 i),F.2 - moreS l F.1 F.2 i):=by
          rw [take_of_opt hi,fillS_snoc,← hF]
          simp [ho]
         obtain ⟨⟨x1,x2⟩,x3,x4⟩:=hs x (mem_of_opt hx)
         obtain ⟨f1,f2,f3⟩:=hFo
         have f4:=f3 i x o hx ho
         rw [← hF]
         refine zx ?_
         repeat refine zq ?_
         refine zd ?_
         repeat refine zq ?_
         refine zb (by kernel_rfl) fun K hK=>?_
         simp only [go_sem,hi,hci]
         (try simp (disch:=omega) only [zI])
         repeat first | intro _ | refine ⟨by omega,?_⟩ | refine ⟨⟨by omega,by omega⟩,?_⟩
         refine hK _ ?_
         clear hK K
         refine zw (zk [3,8,9,13,55,56,57]) ?_
         simp only [go_sem]
         repeat refine zq ?_
         refine awp_dreg2 [(3,none),(8,some 24),(9,none),(13,none)] follows (by decide +kernel) (by kernel_rfl) (by simp only [keysOk,List.mem_cons,List.not_mem_nil,forall_eq_or_imp,Oc.keyOf,go_sem]; simp) fun K hK=>?_
         simp only [go_sem,hx,ho,hil,bedR,f1]
         (try simp (disch:=omega) only [zI])
         repeat first | intro _ | refine ⟨by omega,?_⟩ | refine ⟨⟨by omega,by omega⟩,?_⟩
         refine hK _ ?_
         clear hK K
         refine zw (zk [3,8,9,13,14,55,56,57]) ?_
         simp only [go_sem]
         repeat refine zq ?_
         refine zb (by kernel_rfl) fun K hK=>?_
         simp only [go_sem,ho,hil,f1]
         (try simp (disch:=omega) only [zI])
         have hwr : IntKind.i64.wrap (o + min F.2 (x.hi - o)) = o + min F.2 (x.hi - o):=by rw [zI] <;> omega
         repeat first | intro _ | refine ⟨by omega,?_⟩ | refine ⟨⟨by omega,by omega⟩,?_⟩
         refine hK _ ?_
         clear hK K
         refine zw (zk [3,8,9,55,56,57]) ?_
         simp only [go_sem]
         repeat refine zq ?_
         refine zb (by kernel_rfl) fun K hK=>?_
         simp only [go_sem]
         (try simp (disch:=omega) only [zI])
         repeat first | intro _ | refine ⟨by omega,?_⟩ | refine ⟨⟨by omega,by omega⟩,?_⟩
         refine hK _ ?_
         clear hK K
         try simp only [go_sem]
         refine ⟨hci,fit_of [] ?_ ?_⟩
         · simp only [go_sem,hnx,s1]
         · simp only [go_sem,hnx,s1]
           rw [List.map_set]
       · refine zf ?_
         simp only [go_sem]
         repeat refine zq ?_
         refine zb (by kernel_rfl) fun K hK=>?_
         simp only [go_sem]
         (try simp (disch:=omega) only [zI])
         repeat first | intro _ | refine ⟨by omega,?_⟩ | refine ⟨⟨by omega,by omega⟩,?_⟩
         refine hK _ ?_
         clear hK K
         refine ze ?_
         simp only [go_sem]
         have e4 : S.take q = S:=List.take_of_length_le (by omega)
         rw [e4]
         have hfin:=fillOk_all S (startF d l) hSm hst
         refine ⟨by have:=hfin.1; omega,?_⟩
         rw [List.take_of_length_le (by simp; have:=hfin.1; omega),filledV,← hS]
end Go.Proofs.Ytgkejinoaommeaa

namespace Go.Proofs.Ytgkejinoaommeaa
open Go Go.Oc
set_option linter.unusedSimpArgs false
set_option linter.unusedVariables false
set_option maxRecDepth 8000
def dotV : List Int → List Int → Int
 | x :: xs,y :: ys=>x * y + dotV xs ys
 | _,_=>0
theorem dotV_snoc : ∀ {xs ys : List Int} {x y : Int},xs.length = ys.length → dotV (xs ++ [x]) (ys ++ [y]) = dotV xs ys + x * y
 | [],[],x,y,_=>by simp [dotV]
 | _ :: xs,_ :: ys,x,y,h=>by simp only [List.cons_append,dotV]; rw [dotV_snoc (by simpa using h)]; omega
 | [],_ :: _,_,_,h=>by simp at h
 | _ :: _,[],_,_,h=>by simp at h
def Vals (l : List Int) : Prop:=∀ x ∈ l,-1000000000000 ≤ x ∧ x ≤ 1000000000000
theorem mul_bound {x y : Int} (h0 : 0 ≤ x) (h1 : x ≤ 6000) (h2 : -1000000000000 ≤ y) (h3 : y ≤ 1000000000000) : -6000000000000000 ≤ x * y ∧ x * y ≤ 6000000000000000:=by
 constructor
 · have h4 : x * -1000000000000 ≤ x * y:=Int.mul_le_mul_of_nonneg_left h2 h0
   omega
 · have h4 : x * y ≤ x * 1000000000000:=Int.mul_le_mul_of_nonneg_left h3 h0
   omega
theorem dotV_bound : ∀ {xs ys : List Int},(∀ x ∈ xs,0 ≤ x ∧ x ≤ 6000) → Vals ys → -6000000000000000 * (xs.length : Int) ≤ dotV xs ys ∧ dotV xs ys ≤ 6000000000000000 * xs.length
 | [],_,_,_=>by simp [dotV]
 | _ :: _,[],_,_=>by simp only [dotV,List.length_cons]; omega
 | x :: xs, y :: ys, h, hv => by
   have h1:=dotV_bound (xs:=xs) (ys:=ys) (fun z hz=>h z (by simp [hz])) fun z hz=>hv z (by simp [hz])
   have h2:=h x (by simp)
   have h3:=hv y (by simp)
   have h4:=mul_bound h2.1 h2.2 h3.1 h3.2
   simp only [dotV,List.length_cons]
   omega
theorem filled_facts {cm : Int → Int → Int} {d : Int} {l : List Bd} {vals : List Int} (hch : chOk d l = true) (hd : d ≤ 3000) (h1 : loS l ≤ d) : (filledV cm d l vals).length = l.length ∧ ∀ x ∈ filledV cm d l vals,0 ≤ x ∧ x ≤ 3000:=by
 have hs:=chOk_small hch (by omega)
 have hsm:=sums_le hs
 have hst:=startF_ok hch hd h1 hsm.1.1
 have hfin:=fillOk_all (sortN (keyLt cm vals) (List.range l.length)) (startF d l) (fun i hi=>by rw [mem_sortN,List.mem_range] at hi; exact hi) hst
 refine ⟨hfin.1,fun x hx=>?_⟩
 obtain ⟨i,hi⟩:=List.getElem?_of_mem hx
 obtain ⟨b,hb⟩:=opt_of_lt (l:=l) (i:=i) (by have:=(List.getElem?_eq_some_iff.1 hi).1; have:=hfin.1; unfold filledV at *; omega)
 have h2:=hfin.2.2 i b x hb hi
 have:=List.all_eq_true.1 hch b (mem_of_opt hb)
 simp only [Bool.and_eq_true,decide_eq_true_eq] at this
 omega
theorem mean1_ok (a : Int) (l : List Bd) (d : Int) (vals : List Int) (f : Nat) (cm : Int → Int → Int) (hf : ∀ x y,ACalls Try.prog f [i64 x,i64 y] (i64 (cm x y))) (hv : vals.length = l.length) (hl : l.length ≤ 19) (hch : chOk d l = true) (hd : d ≤ 3000) (h1 : loS l ≤ d) (hvs : Vals vals) :
 ACalls Try.prog 80 [.fn f [],.rp [i64 a,bedsR l,i64 d],.rp [ints vals]] (i64 (dotV (filledV cm d l vals) vals)):=by
 obtain ⟨q1,q2⟩:=filled_facts (cm:=cm) (vals:=vals) hch hd h1
 obtain ⟨F,hF⟩ : ∃ F,F = filledV cm d l vals:=⟨_,rfl⟩
 have hfl:=filled_ok a l d vals f cm hf hv hl hch hd h1
 rw [← hF] at q1 q2 hfl ⊢
 refine acalls_st (rs:=[i64 (dotV F vals)]) [.tmp 4] Try.func80 rfl (by kernel_rfl) Try.ntmps80 rfl (by simp) rfl fun C vs=>?_
 repeat refine zq ?_
 refine zb (by kernel_rfl) fun K hK=>?_
 simp only [go_sem]
 (try simp (disch:=omega) only [zI])
 repeat first | intro _ | refine ⟨by omega,?_⟩ | refine ⟨⟨by omega,by omega⟩,?_⟩
 refine hK _ ?_
 clear hK K
 repeat refine zq ?_
 refine zb (by kernel_rfl) fun K hK=>?_
 simp only [go_sem]
 (try simp (disch:=omega) only [zI])
 refine zh (hfl) rfl (by simp only [go_sem,i64,ints]) (by simp only [go_sem,i64,ints]) (by first | exact .inl rfl | exact .inr rfl) ?_
 (try simp only [go_sem])
 (try simp (disch:=omega) only [zI])
 intro _
 repeat first | intro _ | refine ⟨by omega,?_⟩ | refine ⟨⟨by omega,by omega⟩,?_⟩
 refine hK _ ?_
 clear hK K
 refine zw (zk [2,4,10,11,12]) ?_
 simp only [go_sem]
 repeat refine zq ?_
 refine zd ?_
 refine awp_upto (n:=27) F.length (fun i vs=>[(2,.r (.rp [ints vals])),(4,.r (i64 (dotV (F.take i) (vals.take i)))),(10,.r (ints F)),(11,.r (i64 F.length)),(12,.r (i64 i))]) (fun _=>[]) (fun _=>True) 0 (fit_of [] ?_ ?_) (Nat.zero_le _) trivial ?_
 · try simp only [go_sem]
   simp [dotV]
 · try simp only [go_sem]
 · intro i vs hi _
   repeat refine zq ?_
   refine zb (by kernel_rfl) fun K hK=>?_
   simp only [go_sem]
   (try simp (disch:=omega) only [zI])
   repeat first | intro _ | refine ⟨by omega,?_⟩ | refine ⟨⟨by omega,by omega⟩,?_⟩
   refine hK _ ?_
   clear hK K
   repeat refine zq ?_
   refine zc rfl (fun hc=>?_) (fun hc=>?_) <;> (try simp only [go_sem] at hc)
   · have hci:=hc
     have hcv : i < vals.length:=by omega
     obtain ⟨x,hx⟩:=opt_of_lt hci
     obtain ⟨y,hy⟩:=opt_of_lt hcv
     have b1:=q2 x (mem_of_opt hx)
     have b2:=hvs y (mem_of_opt hy)
     have b3:=mul_bound b1.1 (by omega) b2.1 b2.2
     have b4:=dotV_bound (xs:=F.take i) (ys:=vals.take i) (fun z hz=>by have:=q2 z (List.mem_of_mem_take hz); omega) (fun z hz=>hvs z (List.mem_of_mem_take hz))
     have b5 : ((F.take i).length : Int) ≤ 19:=by rw [List.length_take]; omega
     have hsn : dotV (F.take (i + 1)) (vals.take (i + 1)) = dotV (F.take i) (vals.take i) + x * y:=by
      rw [take_of_opt hx,take_of_opt hy,dotV_snoc (by simp; omega)]
     have hw1 : IntKind.i64.wrap (x * y) = x * y:=by rw [zI] <;> omega
     refine zx ?_
     repeat refine zq ?_
     refine zd ?_
     repeat refine zq ?_
     refine zb (by kernel_rfl) fun K hK=>?_
     simp only [go_sem,hx,hci]
     (try simp (disch:=omega) only [zI])
     repeat first | intro _ | refine ⟨by omega,?_⟩ | refine ⟨⟨by omega,by omega⟩,?_⟩
     refine hK _ ?_
     clear hK K
     repeat refine zq ?_
     refine zb (by kernel_rfl) fun K hK=>?_
     simp only [go_sem,hy,hcv,hw1]
     (try simp (disch:=omega) only [zI])
     repeat first | intro _ | refine ⟨by omega,?_⟩ | refine ⟨⟨by omega,by omega⟩,?_⟩
     refine hK _ ?_
     clear hK K
     refine zw (zk [2,4,10,11,12]) ?_
     simp only [go_sem]
     repeat refine zq ?_
     refine zb (by kernel_rfl) fun K hK=>?_
     simp only [go_sem]
     (try simp (disch:=omega) only [zI])
     repeat first | intro _ | refine ⟨by omega,?_⟩ | refine ⟨⟨by omega,by omega⟩,?_⟩
     refine hK _ ?_
     clear hK K
     try simp only [go_sem]
     refine ⟨hci,fit_of [] ?_ ?_⟩
     · simp only [go_sem,hsn]
     · try simp only [go_sem]
   · refine zf ?_
     simp only [go_sem]
     repeat refine zq ?_
     refine zb (by kernel_rfl) fun K hK=>?_
     simp only [go_sem]
     (try simp (disch:=omega) only [zI])
     repeat first | intro _ | refine ⟨by omega,?_⟩ | refine ⟨⟨by omega,by omega⟩,?_⟩
     refine hK _ ?_
     clear hK K
     refine ze ?_
     simp only [go_sem]
     rw [List.take_of_length_le (by omega),List.take_of_length_le (by omega)]
def meanLo (d : Int) (l : List Bd) (vals : List Int) : Int:=dotV (filledV cmpI d l vals) vals
def meanHi (d : Int) (l : List Bd) (vals : List Int) : Int:=dotV (filledV (fun x y=>cmpI y x) d l vals) vals
theorem mean_ok (a : Int) (l : List Bd) (d : Int) (vals : List Int) (hv : vals.length = l.length) (hl : l.length ≤ 19) (hch : chOk d l = true) (hd : d ≤ 3000) (h1 : loS l ≤ d) (hvs : Vals vals) :
 ACalls Try.prog 57 [.ag [i64 a,bedsR l,i64 d],ints vals] (.ag [i64 (meanLo d l vals),i64 (meanHi d l vals)]):=by
 refine acalls_st (rs:=[.ag [i64 (meanLo d l vals),i64 (meanHi d l vals)]]) [.cell 4 46] Try.func57 rfl (by kernel_rfl) Try.ntmps57 rfl (by simp) rfl fun C vs=>?_
 repeat refine zq ?_
 refine zb (by kernel_rfl) fun K hK=>?_
 simp only [go_sem]
 (try simp (disch:=omega) only [zI])
 repeat first | intro _ | refine ⟨by omega,?_⟩ | refine ⟨⟨by omega,by omega⟩,?_⟩
 refine hK _ ?_
 clear hK K
 repeat refine zq ?_
 refine zb (by kernel_rfl) fun K hK=>?_
 simp only [go_sem]
 (try simp (disch:=omega) only [zI])
 repeat first | intro _ | refine ⟨by omega,?_⟩ | refine ⟨⟨by omega,by omega⟩,?_⟩
 refine hK _ ?_
 clear hK K
 repeat refine zq ?_
 refine zb (by kernel_rfl) fun K hK=>?_
 simp only [go_sem]
 (try simp (disch:=omega) only [zI])
 refine zh (mean1_ok a l d vals 67 cmpI rising_ok hv hl hch hd h1 hvs) rfl (by simp only [go_sem,i64,ints]) (by simp only [go_sem,i64,ints]) (by first | exact .inl rfl | exact .inr rfl) ?_
 (try simp only [go_sem])
 (try simp (disch:=omega) only [zI])
 refine zh (mean1_ok a l d vals 66 (fun x y=>cmpI y x) falling_ok hv hl hch hd h1 hvs) rfl (by simp only [go_sem,i64,ints]) (by simp only [go_sem,i64,ints]) (by first | exact .inl rfl | exact .inr rfl) ?_
 (try simp only [go_sem])
 (try simp (disch:=omega) only [zI])
 repeat first | intro _ | refine ⟨by omega,?_⟩ | refine ⟨⟨by omega,by omega⟩,?_⟩
 refine hK _ ?_
 clear hK K
 refine ze ?_
 simp only [go_sem]
 simp [meanLo,meanHi]
end Go.Proofs.Ytgkejinoaommeaa
