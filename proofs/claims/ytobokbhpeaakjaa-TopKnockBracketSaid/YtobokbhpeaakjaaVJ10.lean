/- For all bytes, the given function TopKnockBracket returns true: the first round of a knock-out without byes is that of a play-off; if the better one wins each match, the best one wins all, and if the worse one does, the best one has lost its first match and the last one wins. No conditions beyond those of the given statement. -/
import Derived.Test.YtobokbhpeaakjaaVJ9
import Derived.Test.YtobokbhpeaakjaaVJ5
import Derived.ChangeShapes
import Derived.WideShapes
import Derived.OpenShut
import Derived.ShutString
import Derived.ChangeOld
import Derived.Carry
import Derived.Below
import Derived.Test.YtobokbhpeaakjaaRows
import Derived.JoinedOf
namespace Go.Proofs.Ytobokbhpeaakjaa
open Go Go.Oc
set_option linter.unusedSimpArgs false
set_option linter.unusedVariables false
set_option maxRecDepth 8000
set_option maxHeartbeats 4000000
def forV (r : Tr) (res : List Int) (k : Nat) (f : Int) : Int:=if res[k]? = some 0 then r.legs else if res[k]? = some 1 then r.legs / 2 else f
def putM (r : Tr) (res : List Int) (k : Nat) (m : Mt) : Mt:=⟨m.h,m.a,true,forV r res k m.f,r.legs - forV r res k m.f⟩
def fillL (r : Tr) (res : List Int) : Nat → List Mt → List Mt
 | _,[]=>[]
 | k,m :: ms=>if m.p then m :: fillL r res k ms else putM r res k m :: fillL r res (k + 1) ms
theorem fillL_len (r : Tr) (res : List Int) : ∀ (l : List Mt) (k : Nat),(fillL r res k l).length = l.length
 | [],k=>rfl
 | m :: ms,k=>by unfold fillL; split <;> simp [fillL_len r res ms]
theorem leftV_snoc (l : List Mt) (m : Mt) : leftV (l ++ [m]) = leftV l ++ (if m.p then [] else [m]):=by
 unfold leftV; rw [List.filter_append]; cases h : m.p <;> simp [h]
theorem fillL_snoc (r : Tr) (res : List Int) (m : Mt) : ∀ (l : List Mt) (k : Nat),fillL r res k (l ++ [m]) = fillL r res k l ++ [if m.p then m else putM r res (k + (leftV l).length) m]
 | [], k => by
   simp only [List.nil_append,fillL,leftV,List.filter_nil,List.length_nil,Nat.add_zero]
   split <;> rfl
 | x :: l, k => by
   rw [List.cons_append]
   unfold fillL
   have hl : leftV (x :: l) = (if x.p then [] else [x]) ++ leftV l:=by unfold leftV; rw [List.filter_cons]; cases h : x.p <;> simp [h]
   rw [hl]
   cases h : x.p
   · simp only [Bool.false_eq_true,if_false];rw [fillL_snoc r res m l (k + 1),List.cons_append]
     simp only [List.length_append,List.length_cons,List.length_nil];rw [show k + 1 + (leftV l).length = k + (0 + 1 + (leftV l).length) by omega]
   · simp only [if_true];rw [fillL_snoc r res m l k,List.cons_append]
     simp
def mixL (r : Tr) (res : List Int) (l : List Mt) (i : Nat) : List Mt:=fillL r res 0 (l.take i) ++ l.drop i
theorem mixL_len (r : Tr) (res : List Int) (l : List Mt) (i : Nat) : (mixL r res l i).length = l.length:=by
 unfold mixL; rw [List.length_append,fillL_len,List.length_take,List.length_drop]; omega
theorem mixL_get {r : Tr} {res : List Int} {l : List Mt} {i : Nat} {m : Mt} (h : l[i]? = some m) : (mixL r res l i)[i]? = some m:=by
 have hi:=(List.getElem?_eq_some_iff.1 h).1
 unfold mixL
 rw [List.getElem?_append_right (by rw [fillL_len,List.length_take]; omega),fillL_len,List.length_take,drop_of_opt h,show i - min i l.length = 0 by omega]
 rfl
theorem mixL_set {r : Tr} {res : List Int} {l : List Mt} {i : Nat} {m : Mt} (h : l[i]? = some m) : mixL r res l (i + 1) = (mixL r res l i).set i (if m.p then m else putM r res (leftV (l.take i)).length m):=by
 have hi:=(List.getElem?_eq_some_iff.1 h).1
 unfold mixL
 rw [take_of_opt h,fillL_snoc,drop_of_opt h,List.set_append_right _ _ (by rw [fillL_len,List.length_take]; omega),fillL_len,List.length_take,show i - min i l.length = 0 by omega,List.set_cons_zero,List.append_assoc,Nat.zero_add]
 rfl
theorem set_same {α : Type} {l : List α} {i : Nat} {x : α} (h : l[i]? = some x) : l.set i x = l:=by
 refine List.ext_getElem? fun q=>?_
 by_cases e : q = i
 · subst e; rw [List.getElem?_set_self (List.getElem?_eq_some_iff.1 h).1,h]
 · rw [List.getElem?_set_ne (fun e'=>e e'.symm)]
theorem copied_own (l : List Mt) (hl : l.length ≤ 1000) : OCalls Try.prog 22 [mtsR l] 70 5 (l.map mtR) l.length:=by
 refine ocalls_st (n:=6) (.tmp 2) Try.func22 rfl (by kernel_rfl) Try.ntmps22 rfl (by simp) (fun e he=>by obtain ⟨x,_,rfl⟩:=List.mem_map.1 he; rfl) fun C vs=>?_
 refine zq ?_
 refine zb fun K hK=>?_;simp only [go_sem];refine hK _ ?_;clear hK K;refine zw (zk [0,2]) ?_;simp only [go_sem]
 refine zq ?_
 refine zb fun K hK=>?_;simp only [go_sem]
 refine ⟨by omega,?_⟩
 refine hK _ ?_;clear hK K;refine zw (zk [2]) ?_;simp only [go_sem];refine ze ?_
 try simp only [go_sem]
 refine ⟨5,vs 5 + 1,rfl,?_⟩
 simp
theorem fill_ok (r : Tr) (hr : RulesI r) (l : List Mt) (hl : ∀ m ∈ l,MatchI r m) (hll : l.length ≤ 1000) (res : List Int) : ACalls Try.prog 38 [trV r,mtsR l,ints res] (mtsR (fillL r res 0 l)):=by
 have hco:=copied_own l hll
 have hleg:=hr.legs
 have hlen:=mixL_len r res l
 refine acalls_st (rs:=[mtsR (fillL r res 0 l)]) [.tmp 6] Try.func38 rfl (by kernel_rfl) Try.ntmps38 rfl (by simp) rfl fun C vs=>?_
 refine zq ?_
 refine zb fun K hK=>?_;simp only [go_sem];refine hK _ ?_;clear hK K;refine zw (sub_frzP 3 3 (trC r) (by omega) rfl rfl) ?_;refine zw (zk [1,2,3]) ?_;simp only [go_sem]
 refine zq ?_
 refine zb fun K hK=>?_;simp only [go_sem]
 refine xcall_own (hco) rfl (by simp only [go_sem,i64,ints]) (by simp only [go_sem,i64,ints]) (by decide) (by intro h; first | (cases h; done) | rfl) ?_
 (try simp only [go_sem]);refine hK _ ?_;clear hK K;refine zw (zk [2,3,7,8]) ?_;simp only [go_sem]
 repeat refine zq ?_
 refine zb fun K hK=>?_;simp only [go_sem];refine hK _ ?_;clear hK K;refine zw (zk [2,3,7,8,9]) ?_;simp only [go_sem];refine zd ?_
 have hm0 : mixL r res l 0 = l:=by unfold mixL; simp [fillL]
 refine awp_uptoV (n:=79) l.length (fun i vs=>[(2,.r (ints res)),(3,.r (.rp (trC r))),(7,.os 11 (vs 11) 5 0 l.length),(8,.r (i64 ((leftV (l.take i)).length : Int))),(9,.r (i64 (i : Int)))])
  (fun i vs=>[(11,.arr 70 5 ((mixL r res l i).map mtR))]) (fun _=>True) 0 (zj [] ?_ ?_) (Nat.zero_le _) trivial ?_
 · try simp only [go_sem]
   try rfl
 · try simp only [go_sem]
   rw [hm0]
 · intro i vs hi _
   have hE:=hlen i
   repeat refine zq ?_
   refine zb fun K hK=>?_;simp only [go_sem]
   intro _
   refine hK _ ?_;clear hK K;refine zw (zk [2,3,7,8,9,15]) ?_;simp only [go_sem]
   refine zc rfl (fun hc=>?_) (fun hc=>?_) <;> (try simp only [go_sem] at hc)
   · have hil : i < l.length:=by omega
     obtain ⟨m,hm⟩:=opt_of_lt hil
     have hmi:=hl m (mem_of_opt hm)
     have hge:=mixL_get (r:=r) (res:=res) hm
     have hse:=mixL_set (r:=r) (res:=res) hm
     have hls:=left_step hm
     have hlk : (leftV (l.take i)).length ≤ i:=by have:=left_len (l.take i); rw [List.length_take] at this; omega
     have hE2:=hlen (i + 1)
     generalize mixL r res l i = E at *
     generalize mixL r res l (i + 1) = E' at *
     generalize (leftV (l.take i)) = K at *
     refine zx ?_
     try simp only [go_sem]
     refine zq ?_
     refine zd ?_
     repeat refine zq ?_
     refine zb fun K hK=>?_;simp only [go_sem,hge,hE]
     refine ⟨by omega,?_⟩
     refine hK _ ?_;clear hK K;refine zw (zk [2,3,7,8,9,22]) ?_;simp only [go_sem]
     cases hp : m.p with
     | true =>
       rw [hp,if_pos rfl] at hse
       rw [hp,if_pos rfl,List.append_nil] at hls
       have hee : E' = E:=by rw [hse,set_same hge]
       rw [hls,hee]
       refine zc rfl (fun hc=>?_) (fun hc=>?_) <;> (try simp only [go_sem] at hc)
       refine zf ?_;simp only [go_sem];refine zb fun K hK=>?_;simp only [go_sem];(try simp (disch:=omega) only [zI]);refine hK _ ?_;clear hK K
       try simp only [go_sem]
       refine ⟨by omega,zj [] ?_ ?_⟩
       · try simp only [go_sem]
       · try simp only [go_sem]
     | false =>
       rw [hp] at hse hls
       simp only [Bool.false_eq_true,if_false] at hse hls
       have hlg : legsOf r m = 0:=by unfold legsOf; rw [hp]; rfl
       have hmf:=hmi.f
       rw [hlg] at hmf
       have hgd : ∀ X,((E.map mtR).set i X).getD i [] = X:=fun X=>by rw [List.getD_eq_getElem?_getD,List.getElem?_set_self (by rw [List.length_map]; omega)]; rfl
       have hgo : ∀ X,((E.map mtR).set i X)[i]? = some X:=fun X=>List.getElem?_set_self (by rw [List.length_map]; omega)
       obtain ⟨F,hF⟩ : ∃ F,F = forV r res K.length m.f:=⟨_,rfl⟩
       have htd : Int.tdiv r.legs 2 = r.legs / 2:=Int.tdiv_eq_ediv_of_nonneg (by omega)
       have hFb : 0 ≤ F ∧ F ≤ 25:=by rw [hF]; unfold forV; split <;> (try split) <;> omega
       refine zc rfl (fun hc=>?_) (fun hc=>?_) <;> (try simp only [go_sem] at hc)
       refine zx ?_
       try simp only [go_sem]
       refine zq ?_
       refine zb fun K hK=>?_;simp only [go_sem,hge,hE,hgd,hgo,List.length_set]
       repeat refine ⟨by omega,?_⟩
       refine hK _ ?_;clear hK K;refine zw (zk [2,3,7,8,9]) ?_;simp only [go_sem]
       refine zq ?_
       refine awp_joinV (n:=79) (fun (_ : Unit) vs=>[(2,.r (ints res)),(3,.r (.rp (trC r))),(7,.os 11 (vs 11) 5 0 l.length),(8,.r (i64 (K.length : Int))),(9,.r (i64 (i : Int)))])
        (fun _ vs=>[(11,.arr 70 5 ((E.map mtR).set i [i64 m.h,i64 m.a,.bo true,i64 F,i64 m.g]))]) (fun _=>True) (fun _ h=>h) ?_ ?_
       · skip
         refine zd ?_
         cases hk : res[K.length]? with
         | none =>
           have hkl : ¬ K.length < res.length:=fun h=>by rw [List.getElem?_eq_getElem h] at hk; cases hk
           have hF2 : F = m.f:=by rw [hF]; unfold forV; rw [hk]; simp
           rw [hF2]
           refine zq ?_
           refine zb fun K hK=>?_;simp only [go_sem,hkl]
           intro _
           refine hK _ ?_;clear hK K;refine zw (zk [2,3,7,8,9,27]) ?_;simp only [go_sem]
           refine zc rfl (fun hc=>?_) (fun hc=>?_) <;> (try simp only [go_sem] at hc)
           refine zq ?_
           refine zb fun K hK=>?_;simp only [go_sem,hkl]
           intro _
           refine hK _ ?_;clear hK K;refine zw (zk [2,3,7,8,9,45]) ?_;simp only [go_sem]
           refine zc rfl (fun hc=>?_) (fun hc=>?_) <;> (try simp only [go_sem] at hc)
           refine zx ?_
           try simp only [go_sem]
           refine ⟨(),zj [] ?_ ?_⟩
           · try simp only [go_sem]
           · try simp only [go_sem]
         | some v =>
           have hkl : K.length < res.length:=(List.getElem?_eq_some_iff.1 hk).1
           by_cases v0 : v = 0
           · subst v0
             have hF2 : F = r.legs:=by rw [hF]; unfold forV; rw [hk]; simp
             rw [hF2]
             refine zq ?_
             refine zb fun K hK=>?_;simp only [go_sem,hk,hkl]
             intro _
             refine hK _ ?_;clear hK K;refine zw (zk [2,3,7,8,9,27]) ?_;simp only [go_sem]
             refine zc rfl (fun hc=>?_) (fun hc=>?_) <;> (try simp only [go_sem] at hc)
             refine zb fun K hK=>?_;simp only [go_sem,hge,hE,hgd,hgo,List.length_set,List.set_set]
             repeat refine ⟨by omega,?_⟩
             refine hK _ ?_;clear hK K
             refine ⟨(),zj [] ?_ ?_⟩
             · try simp only [go_sem]
             · try simp only [go_sem]
           have c0 : (v == 0) = false:=by simpa using v0
           by_cases v1 : v = 1
           · subst v1
             have hF2 : F = r.legs / 2:=by rw [hF]; unfold forV; rw [hk]; simp
             rw [hF2]
             refine zq ?_
             refine zb fun K hK=>?_;simp only [go_sem,hk,hkl,c0]
             intro _
             refine hK _ ?_;clear hK K;refine zw (zk [2,3,7,8,9,27]) ?_;simp only [go_sem]
             refine zc rfl (fun hc=>?_) (fun hc=>?_) <;> (try simp only [go_sem] at hc)
             refine zq ?_
             refine zb fun K hK=>?_;simp only [go_sem,hk,hkl]
             intro _
             refine hK _ ?_;clear hK K;refine zw (zk [2,3,7,8,9,45]) ?_;simp only [go_sem]
             refine zc rfl (fun hc=>?_) (fun hc=>?_) <;> (try simp only [go_sem] at hc)
             refine zb fun K hK=>?_;simp only [go_sem,hge,hE,hgd,hgo,htd,List.length_set,List.set_set];(try simp (disch:=omega) only [zI])
             repeat refine ⟨by omega,?_⟩
             refine hK _ ?_;clear hK K
             refine ⟨(),zj [] ?_ ?_⟩
             · try simp only [go_sem]
             · try simp only [go_sem]
           have c1 : (v == 1) = false:=by simpa using v1
           have hF2 : F = m.f:=by rw [hF]; unfold forV; rw [hk]; simp [v0,v1]
           rw [hF2]
           refine zq ?_
           refine zb fun K hK=>?_;simp only [go_sem,hk,hkl,c0]
           intro _
           refine hK _ ?_;clear hK K;refine zw (zk [2,3,7,8,9,27]) ?_;simp only [go_sem]
           refine zc rfl (fun hc=>?_) (fun hc=>?_) <;> (try simp only [go_sem] at hc)
           refine zq ?_
           refine zb fun K hK=>?_;simp only [go_sem,hk,hkl,c1]
           intro _
           refine hK _ ?_;clear hK K;refine zw (zk [2,3,7,8,9,45]) ?_;simp only [go_sem]
           refine zc rfl (fun hc=>?_) (fun hc=>?_) <;> (try simp only [go_sem] at hc)
           refine zx ?_
           try simp only [go_sem]
           refine ⟨(),zj [] ?_ ?_⟩
           · try simp only [go_sem]
           · try simp only [go_sem]
       intro _ vs _
       refine zq ?_
       refine awp_dreg2 [(7,some 11),(3,none),(9,none)] follows (by decide +kernel) (by kernel_rfl) (by simp only [keysOk,List.mem_cons,List.not_mem_nil,forall_eq_or_imp,Oc.keyOf,go_sem]; simp) fun K hK=>?_
       simp only [go_sem,hge,hE,hgd,hgo,List.length_set,List.set_set];(try simp (disch:=omega) only [zI])
       repeat refine ⟨by omega,?_⟩
       refine hK _ ?_;clear hK K;refine zw (zk [2,3,7,8,9]) ?_;simp only [go_sem]
       have hse2 : (E.map mtR).set i [i64 m.h,i64 m.a,.bo true,i64 F,i64 (r.legs - F)] = E'.map mtR:=by
        rw [hse,List.map_set,hF]; rfl
       rw [hse2]
       refine zb fun K hK=>?_;simp only [go_sem];(try simp (disch:=omega) only [zI]);refine hK _ ?_;clear hK K;refine zw (zk [2,3,7,8,9]) ?_;simp only [go_sem];refine zb fun K hK=>?_;simp only [go_sem];(try simp (disch:=omega) only [zI]);refine hK _ ?_;clear hK K
       try simp only [go_sem]
       refine ⟨by omega,zj [] ?_ ?_⟩
       · try simp only [go_sem]
         rw [hls]
         simp
       · try simp only [go_sem]
   · have hil : i = l.length:=by omega
     subst hil
     have hmx : mixL r res l l.length = fillL r res 0 l:=by unfold mixL; rw [List.take_length,List.drop_length,List.append_nil]
     rw [hmx]
     refine zf ?_;simp only [go_sem]
     refine zq ?_
     refine zb fun K hK=>?_;simp only [go_sem];refine hK _ ?_;clear hK K;refine zw (zk [6]) ?_;simp only [go_sem];refine zw (sub_frz 6 11 (by omega) rfl rfl (by simp [fillL_len])) ?_;refine ze ?_;simp only [go_sem];exact List.take_of_length_le (by simp [fillL_len])
abbrev u8 (n : Nat) : RV:=.it .u8 (n : Int)
abbrev bytesR (l : List Nat) : RV:=.sl 1 (l.map fun n=>[u8 n])
def rawB (bs : List Nat) (k : Nat) : Nat:=if bs = [] then 0 else bs.getD (k % bs.length) 0 % 3
def someN (r : Tr) (bs : List Nat) (k : Nat) : Int:=if rawB bs k = 1 ∧ r.legs % 2 = 1 then 2 else (rawB bs k : Int)
def someV (r : Tr) (l : List Mt) (bs : List Nat) : List Int:=(List.range (leftV l).length).map (someN r bs)
theorem rawB_lt (bs : List Nat) (k : Nat) : rawB bs k < 3:=by unfold rawB; split <;> omega
theorem some_ok (r : Tr) (hr : RulesI r) (l : List Mt) (hll : l.length ≤ 1000) (bs : List Nat) (hb : ∀ n ∈ bs,n < 256) : ACalls Try.prog 39 [trV r,mtsR l,bytesR bs] (ints (someV r l bs)):=by
 have hleg:=hr.legs
 have hrem : r.legs.tmod 2 = r.legs % 2:=Int.tmod_eq_emod_of_nonneg (by omega)
 refine acalls_st (rs:=[ints (someV r l bs)]) [.tmp 6] Try.func39 rfl (by kernel_rfl) Try.ntmps39 rfl (by simp) rfl fun C vs=>?_
 refine zq ?_
 refine zb fun K hK=>?_;simp only [go_sem];refine hK _ ?_;clear hK K;refine zw (sub_frzP 3 3 (trC r) (by omega) rfl rfl) ?_;refine zw (zk [1,2,3]) ?_;simp only [go_sem]
 refine zq ?_
 refine zb fun K hK=>?_;simp only [go_sem];refine hK _ ?_;clear hK K;refine zw (sub_own 7 46 3 1 (by omega) rfl) ?_;refine zw (zk [1,2,3,7]) ?_;simp only [go_sem]
 repeat refine zq ?_
 refine zb fun K hK=>?_;simp only [go_sem];refine hK _ ?_;clear hK K;refine zw (zk [1,2,3,7,8]) ?_;simp only [go_sem];refine zd ?_
 refine awp_uptoV (n:=48) l.length (fun i vs=>[(1,.r (mtsR l)),(2,.r (bytesR bs)),(3,.r (.rp (trC r))),(7,.os 46 (vs 46) 1 0 (leftV (l.take i)).length),(8,.r (i64 (i : Int)))])
  (fun i vs=>[(46,.arr 3 1 ((someV r (l.take i) bs).map fun x=>[i64 x]))]) (fun _=>True) 0 (zj [] ?_ ?_) (Nat.zero_le _) trivial ?_
 · try simp only [go_sem]
   try rfl
 · try simp only [go_sem]
   try rfl
 · intro i vs hi _
   repeat refine zq ?_
   refine zb fun K hK=>?_;simp only [go_sem]
   intro _
   refine hK _ ?_;clear hK K;refine zw (zk [1,2,3,7,8,14]) ?_;simp only [go_sem]
   refine zc rfl (fun hc=>?_) (fun hc=>?_) <;> (try simp only [go_sem] at hc)
   · have hil : i < l.length:=by omega
     obtain ⟨m,hm⟩:=opt_of_lt hil
     have hls:=left_step hm
     have hlk : (leftV (l.take i)).length ≤ i:=by have:=left_len (l.take i); rw [List.length_take] at this; omega
     have hsm : someV r (l.take i) bs = (List.range (leftV (l.take i)).length).map (someN r bs):=rfl
     have hsm2 : someV r (l.take (i + 1)) bs = (List.range (leftV (l.take (i + 1))).length).map (someN r bs):=rfl
     rw [hsm,hsm2,hls]
     generalize (leftV (l.take i)) = K at *
     refine zx ?_
     try simp only [go_sem]
     refine zq ?_
     refine zd ?_
     repeat refine zq ?_
     refine zb fun K hK=>?_;simp only [go_sem,hm,hil];refine hK _ ?_;clear hK K;refine zw (zk [1,2,3,7,8,21]) ?_;simp only [go_sem]
     cases hp : m.p with
     | true =>
       rw [if_pos rfl,List.append_nil]
       refine zc rfl (fun hc=>?_) (fun hc=>?_) <;> (try simp only [go_sem] at hc)
       refine zf ?_;simp only [go_sem];refine zb fun K hK=>?_;simp only [go_sem];(try simp (disch:=omega) only [zI]);refine hK _ ?_;clear hK K
       try simp only [go_sem]
       refine ⟨by omega,zj [] ?_ ?_⟩
       · try simp only [go_sem]
       · try simp only [go_sem]
     | false =>
       have hk1 : (K ++ (if false = true then [] else [m])).length = K.length + 1:=by simp
       rw [hk1,List.range_succ,List.map_append,List.map_cons,List.map_nil]
       have hrw:=rawB_lt bs K.length
       refine zc rfl (fun hc=>?_) (fun hc=>?_) <;> (try simp only [go_sem] at hc)
       refine zx ?_
       try simp only [go_sem]
       refine zq ?_
       refine zb fun K hK=>?_;simp only [go_sem];refine hK _ ?_;clear hK K;refine zw (zk [1,2,3,7,8,9]) ?_;simp only [go_sem]
       repeat refine zq ?_
       refine zb fun K hK=>?_;simp only [go_sem]
       intro _
       refine hK _ ?_;clear hK K;refine zw (zk [1,2,3,7,8,9,24]) ?_;simp only [go_sem]
       refine awp_joinV (n:=48) (fun (_ : Unit) vs=>[(1,.r (mtsR l)),(2,.r (bytesR bs)),(3,.r (.rp (trC r))),(7,.os 46 (vs 46) 1 0 K.length),(8,.r (i64 (i : Int))),(9,.r (i64 (rawB bs K.length : Int)))])
        (fun _ vs=>[(46,.arr 3 1 (((List.range K.length).map (someN r bs)).map fun x=>[i64 x]))]) (fun _=>True) (fun _ h=>h) ?_ ?_
       · by_cases hbe : bs = []
         · have hrz : rawB bs K.length = 0:=by unfold rawB; rw [if_pos hbe]
           rw [hrz,hbe]
           refine zc rfl (fun hc=>?_) (fun hc=>?_) <;> (try simp only [go_sem] at hc)
           refine zx ?_
           try simp only [go_sem]
           refine ⟨(),zj [] ?_ ?_⟩
           · try simp only [go_sem]
             try rfl
           · try simp only [go_sem]
         · have hbl : 0 < bs.length:=List.length_pos_iff.2 hbe
           have hkb : K.length % bs.length < bs.length:=Nat.mod_lt _ hbl
           obtain ⟨b,hbg⟩:=opt_of_lt hkb
           have hb256:=hb b (mem_of_opt hbg)
           have hrz : rawB bs K.length = b % 3:=by unfold rawB; rw [if_neg hbe,List.getD_eq_getElem?_getD,hbg]; rfl
           have hq : Int.tmod (K.length : Int) (bs.length : Int) = ((K.length % bs.length : Nat) : Int):=rfl
           have hq3 : Int.tmod (b : Int) 3 = ((b % 3 : Nat) : Int):=rfl
           have hnz : ¬ bs.length = 0:=by omega
           rw [hrz]
           generalize K.length % bs.length = kb at *
           refine zc rfl (fun hc=>?_) (fun hc=>?_) <;> (try simp only [go_sem] at hc)
           · skip
             refine zb fun K hK=>?_;simp only [go_sem,hq,hbg,hkb,hq3];(try simp (disch:=omega) only [zI]);repeat first | intro _ | refine ⟨by omega,?_⟩
             refine hK _ ?_;clear hK K
             refine ⟨(),trivial,zj [] ?_ ?_⟩
             · try simp only [go_sem]
               try rfl
             · try simp only [go_sem]
           · exact absurd hc (by simp; omega)
       intro _ vs _
       have hsn : someN r bs K.length = if rawB bs K.length = 1 ∧ r.legs % 2 = 1 then 2 else (rawB bs K.length : Int):=rfl
       rw [hsn]
       generalize rawB bs K.length = w at *
       repeat refine zq ?_
       refine awp_joinV (n:=48) (fun (_ : Unit) vs=>[(1,.r (mtsR l)),(2,.r (bytesR bs)),(3,.r (.rp (trC r))),(7,.os 46 (vs 46) 1 0 K.length),(8,.r (i64 (i : Int))),(9,.r (i64 (w : Int))),(42,.r (.bo (decide (w = 1 ∧ r.legs % 2 = 1))))])
        (fun _ vs=>[(46,.arr 3 1 (((List.range K.length).map (someN r bs)).map fun x=>[i64 x]))]) (fun _=>True) (fun _ h=>h) ?_ ?_
       · by_cases h1 : w = 1
         · subst h1
           refine zb fun K hK=>?_;simp only [go_sem,hrem];refine hK _ ?_;clear hK K
           refine ⟨(),trivial,zj [] ?_ ?_⟩
           · try simp only [go_sem]
             first | rfl | simp
           · try simp only [go_sem]
         · have h1b : ((w : Int) == 1) = false:=by simp; omega
           refine zb fun K hK=>?_;simp only [go_sem,h1b];refine hK _ ?_;clear hK K
           refine ⟨(),trivial,zj [] ?_ ?_⟩
           · try simp only [go_sem]
             simp [h1]
           · try simp only [go_sem]
       intro _ vs _
       refine awp_joinV (n:=48) (fun (_ : Unit) vs=>[(1,.r (mtsR l)),(2,.r (bytesR bs)),(3,.r (.rp (trC r))),(7,.os 46 (vs 46) 1 0 K.length),(8,.r (i64 (i : Int))),(9,.r (i64 (if w = 1 ∧ r.legs % 2 = 1 then 2 else (w : Int))))])
        (fun _ vs=>[(46,.arr 3 1 (((List.range K.length).map (someN r bs)).map fun x=>[i64 x]))]) (fun _=>True) (fun _ h=>h) ?_ ?_
       · skip
         refine zc rfl (fun hc=>?_) (fun hc=>?_) <;> (try simp only [go_sem] at hc)
         · have hc' : w = 1 ∧ r.legs % 2 = 1:=by simpa using hc
           rw [if_pos hc']
           refine zb fun K hK=>?_;simp only [go_sem];refine hK _ ?_;clear hK K
           refine ⟨(),trivial,zj [] ?_ ?_⟩
           · try simp only [go_sem]
           · try simp only [go_sem]
         · have hc' : ¬ (w = 1 ∧ r.legs % 2 = 1):=by simpa using hc
           rw [if_neg hc']
           refine zx ?_
           try simp only [go_sem]
           refine ⟨(),zj [] ?_ ?_⟩
           · try simp only [go_sem]
           · try simp only [go_sem]
       intro _ vs _
       generalize (if w = 1 ∧ r.legs % 2 = 1 then (2 : Int) else (w : Int)) = y at *
       refine zb fun K hK=>?_;simp only [go_sem,List.length_map,List.length_range]
       refine ⟨by omega,?_⟩
       refine hK _ ?_;clear hK K;refine zw (zk [1,2,3,7,8]) ?_;simp only [go_sem];refine zb fun K hK=>?_;simp only [go_sem];(try simp (disch:=omega) only [zI]);refine hK _ ?_;clear hK K
       try simp only [go_sem]
       refine ⟨by omega,zj [] ?_ ?_⟩
       · try simp only [go_sem]
       · try simp only [go_sem]
         rw [List.map_append]
         rfl
   · have hil : i = l.length:=by omega
     subst hil
     rw [List.take_length]
     refine zf ?_;simp only [go_sem]
     refine zq ?_
     refine zb fun K hK=>?_;simp only [go_sem];refine hK _ ?_;clear hK K;refine zw (zk [6]) ?_;simp only [go_sem];refine zw (sub_frz 6 46 (by omega) rfl rfl (by simp [someV])) ?_;refine ze ?_;simp only [go_sem];exact List.take_of_length_le (by simp [someV])
theorem knocks_law (s f0 : Nat) (hs : s < 256) (hf : f0 < 256) : ACalls Try.prog 3 [u8 s,u8 f0] (.bo true):=by
 have hk1:=knownTeam_ok
 have hk2:=knownT_ok
 have wf0 : IntKind.i64.wrap (f0 : Int) = f0:=by rw [zI] <;> omega
 have hq : Int.tmod (s : Int) 3 = ((s % 3 : Nat) : Int):=rfl
 obtain ⟨n,hn⟩ : ∃ n : Nat,n = if s % 3 = 0 then 2 else if s % 3 = 1 then 4 else 8:=⟨_,rfl⟩
 obtain ⟨K,F,A,last,hKB⟩ : ∃ K F A last,KnB (f0 : Int) n K F A last:=by
  rcases (show s % 3 = 0 ∨ s % 3 = 1 ∨ s % 3 = 2 by omega) with h | h | h
  · rw [h] at hn; subst hn; exact ⟨_,_,_,_,kn2 f0 (by omega)⟩
  · rw [h] at hn; subst hn; exact ⟨_,_,_,_,kn4 f0 (by omega)⟩
  · rw [h] at hn; subst hn; exact ⟨_,_,_,_,kn8 f0 (by omega)⟩
 have hn3 : n = 2 ∨ n = 4 ∨ n = 8:=by
  rw [hn]; split
  · exact .inl rfl
  · split
    · exact .inr (.inl rfl)
    · exact .inr (.inr rfl)
 obtain ⟨h1,h2,h3,h4,h5,h6,h7,h8,h9,h10,h11,h12,h13⟩:=hKB
 have hpl:=pl_len (f0 : Int) n
 have hb0:=Bracket_ok (plN f0 n) [] (by omega) (by simp)
 rw [h4 [] (by simp; omega),h5,if_pos rfl,if_pos rfl] at hb0
 have hb1:=Bracket_ok (plN f0 n) (List.replicate (n - 1) true) (by omega) (by simp; omega)
 rw [h4 _ (by simp; omega),h8,if_pos rfl,if_pos rfl] at hb1
 have hb2:=Bracket_ok (plN f0 n) (List.replicate (n - 1) false) (by omega) (by simp; omega)
 rw [h4 _ (by simp; omega),h9,if_pos rfl,if_pos rfl] at hb2
 generalize (bracketV (plN f0 n) (List.replicate (n - 1) true)).1 = BX at *
 refine acalls_st (rs:=[.bo true]) [.tmp 4] Try.func3 rfl (by kernel_rfl) Try.ntmps3 rfl (by simp) rfl fun C vs=>?_
 refine zq ?_
 refine zb fun K hK=>?_;simp only [go_sem];refine hK _ ?_;clear hK K;refine zw (zk [0,1]) ?_;simp only [go_sem]
 refine zq ?_
 refine awp_joinV (n:=201) (fun (_ : Unit) vs=>[(1,.r (u8 f0)),(5,.r (i64 (n : Int)))]) (fun _ vs=>[]) (fun _=>True) (fun _ h=>h) ?_ ?_
 · rcases (show s % 3 = 0 ∨ s % 3 = 1 ∨ s % 3 = 2 by omega) with h | h | h
   · have hn2 : n = 2:=by rw [hn,if_pos h]
     rw [hn2]
     refine zb fun K hK=>?_;simp only [go_sem,hq,h];refine hK _ ?_;clear hK K
     refine ⟨(),trivial,zj [] ?_ ?_⟩
     · try simp only [go_sem]
       try rfl
     · try simp only [go_sem]
   · have hn2 : n = 4:=by rw [hn,if_neg (by omega),if_pos h]
     rw [hn2]
     refine zb fun K hK=>?_;simp only [go_sem,hq,h];refine hK _ ?_;clear hK K
     refine ⟨(),trivial,zj [] ?_ ?_⟩
     · try simp only [go_sem]
       try rfl
     · try simp only [go_sem]
   · have hn2 : n = 8:=by rw [hn,if_neg (by omega),if_neg (by omega)]
     rw [hn2]
     refine zb fun K hK=>?_;simp only [go_sem,hq,h];refine hK _ ?_;clear hK K
     refine ⟨(),trivial,zj [] ?_ ?_⟩
     · try simp only [go_sem]
       try rfl
     · try simp only [go_sem]
 intro _ vs _
 refine zq ?_
 refine zb fun K hK=>?_;simp only [go_sem]
 refine zh (h1) rfl (by simp only [go_sem,i64,ints]) (by simp only [go_sem,i64,ints]) (by first | exact .inl rfl | exact .inr rfl) ?_
 (try simp only [go_sem]);refine hK _ ?_;clear hK K;refine zw (zk [1,5,6,7]) ?_;simp only [go_sem]
 refine zq ?_
 refine zb fun K hK=>?_;simp only [go_sem];refine hK _ ?_;clear hK K;refine zw (sub_own 8 46 3 1 (by omega) rfl) ?_;refine zw (zk [1,5,6,7,8,9,10]) ?_;simp only [go_sem];refine zw (sub_own 9 51 4 1 (by omega) rfl) ?_;refine zw (zk [1,5,6,7,8,9,10]) ?_;simp only [go_sem];refine zw (sub_own 10 54 4 1 (by omega) rfl) ?_;refine zw (zk [1,5,6,7,8,9,10]) ?_;simp only [go_sem]
 repeat refine zq ?_
 refine zb fun K hK=>?_;simp only [go_sem];refine hK _ ?_;clear hK K;refine zw (zk [1,5,6,7,8,9,10,11]) ?_;simp only [go_sem];refine zd ?_
 refine awp_uptoV (n:=201) n (fun i vs=>[(1,.r (u8 f0)),(5,.r (i64 (n : Int))),(6,.r (.sl 2 (K.map prR))),(7,.r (i64 0)),(8,.os 46 (vs 46) 1 0 i),(9,.os 51 (vs 51) 1 0 (i - 1)),(10,.os 54 (vs 54) 1 0 (i - 1)),(11,.r (i64 (i : Int)))])
  (fun i vs=>[(46,.arr 3 1 ((plN f0 i).map fun x=>[i64 x])),(51,.arr 4 1 ((List.replicate (i - 1) true).map fun b=>[.bo b])),(54,.arr 4 1 ((List.replicate (i - 1) false).map fun b=>[.bo b]))]) (fun _=>True) 0 (zj [] ?_ ?_) (Nat.zero_le _) trivial ?_
 · try simp only [go_sem]
   try rfl
 · try simp only [go_sem]
   try rfl
 · intro i vs hi _
   have hps : plN (f0 : Int) (i + 1) = plN f0 i ++ [(f0 : Int) + i]:=by simp [plN,List.range_succ]
   have hpi:=pl_len (f0 : Int) i
   repeat refine zq ?_
   refine zb fun K hK=>?_;simp only [go_sem];refine hK _ ?_;clear hK K;refine zw (zk [1,5,6,7,8,9,10,11,37]) ?_;simp only [go_sem]
   refine zc rfl (fun hc=>?_) (fun hc=>?_) <;> (try simp only [go_sem] at hc)
   · have hin : i < n:=by omega
     rw [hps]
     generalize plN (f0 : Int) i = P at *
     have hr1 : List.replicate (i + 1 - 1) true = List.replicate (i - 1) true ++ (if i = 0 then [] else [true]):=by
      by_cases h0 : i = 0
      · subst h0; rfl
      · rw [if_neg h0,show i + 1 - 1 = (i - 1) + 1 by omega,List.replicate_succ']
     have hr2 : List.replicate (i + 1 - 1) false = List.replicate (i - 1) false ++ (if i = 0 then [] else [false]):=by
      by_cases h0 : i = 0
      · subst h0; rfl
      · rw [if_neg h0,show i + 1 - 1 = (i - 1) + 1 by omega,List.replicate_succ']
     have hl1 : (List.replicate (i - 1) true).length = i - 1:=by simp
     have hl2 : (List.replicate (i - 1) false).length = i - 1:=by simp
     rw [hr1,hr2]
     generalize List.replicate (i - 1) true = W1 at *
     generalize List.replicate (i - 1) false = W2 at *
     refine zx ?_
     try simp only [go_sem]
     refine zq ?_
     refine zd ?_
     refine zq ?_
     refine zb fun K hK=>?_;simp only [go_sem,wf0,hpi,List.length_map];(try simp (disch:=omega) only [zI])
     refine ⟨by omega,?_⟩
     refine hK _ ?_;clear hK K;refine zw (zk [1,5,6,7,8,9,10,11]) ?_;simp only [go_sem]
     refine zq ?_
     refine zb fun K hK=>?_;simp only [go_sem];refine hK _ ?_;clear hK K;refine zw (zk [1,5,6,7,8,9,10,11,48]) ?_;simp only [go_sem]
     by_cases h0 : i = 0
     · subst h0
       refine zc rfl (fun hc=>?_) (fun hc=>?_) <;> (try simp only [go_sem] at hc)
       refine zx ?_
       try simp only [go_sem]
       refine zb fun K hK=>?_;simp only [go_sem];(try simp (disch:=omega) only [zI]);refine hK _ ?_;clear hK K
       try simp only [go_sem]
       refine ⟨by omega,zj [] ?_ ?_⟩
       · try simp only [go_sem]
       · try simp only [go_sem]
         try simp
     · rw [if_neg h0,if_neg h0]
       refine zc rfl (fun hc=>?_) (fun hc=>?_) <;> (try simp only [go_sem] at hc)
       · skip
         refine zb fun K hK=>?_;simp only [go_sem,hl1,hl2,List.length_map]
         repeat refine ⟨by omega,?_⟩
         refine hK _ ?_;clear hK K;refine zw (zk [1,5,6,7,8,9,10,11]) ?_;simp only [go_sem];refine zb fun K hK=>?_;simp only [go_sem];(try simp (disch:=omega) only [zI]);refine hK _ ?_;clear hK K
         try simp only [go_sem]
         refine ⟨by omega,zj [] ?_ ?_⟩
         · try simp only [go_sem]
           rw [show i - 1 + 1 = i + 1 - 1 by omega]
           exact ⟨rfl,rfl⟩
         · try simp only [go_sem]
           try simp
       · exact absurd h0 (by first | omega | (simp at hc; omega))
   · have hin : i = n:=by omega
     subst hin
     refine zf ?_;simp only [go_sem];refine zw (sub_frz (ty:=3) (sz:=1) (off:=0) (m:=i) (es:=(plN f0 i).map fun x=>[i64 x]) 8 46 (by omega) rfl rfl (by simp [hpl])) ?_;refine zw (zk [1,5,6,7,8,9,10]) ?_;simp only [go_sem];refine zw (sub_frz (ty:=4) (sz:=1) (off:=0) (m:=i - 1) (es:=(List.replicate (i - 1) true).map fun b=>[.bo b]) 9 51 (by omega) rfl rfl (by simp)) ?_;refine zw (zk [1,5,6,7,8,9,10]) ?_;simp only [go_sem];refine zw (sub_frz (ty:=4) (sz:=1) (off:=0) (m:=i - 1) (es:=(List.replicate (i - 1) false).map fun b=>[.bo b]) 10 54 (by omega) rfl rfl (by simp)) ?_;refine zw (zk [1,5,6,7,8,9,10]) ?_;simp only [go_sem]
     have t1 : List.take i ((plN f0 i).map fun x=>[i64 x]) = (plN f0 i).map fun x=>[i64 x]:=List.take_of_length_le (by simp [hpl])
     have t2 : List.take (i - 1) ((List.replicate (i - 1) true).map fun b=>[RV.bo b]) = (List.replicate (i - 1) true).map fun b=>[RV.bo b]:=List.take_of_length_le (by simp)
     have t3 : List.take (i - 1) ((List.replicate (i - 1) false).map fun b=>[RV.bo b]) = (List.replicate (i - 1) false).map fun b=>[RV.bo b]:=List.take_of_length_le (by simp)
     try rw [t1]
     try rw [t2]
     try rw [t3]
     generalize List.replicate (i - 1) true = W1 at *
     generalize List.replicate (i - 1) false = W2 at *
     generalize plN (f0 : Int) i = P at *
     refine zq ?_
     refine zb fun K hK=>?_;simp only [go_sem]
     refine .inl (acall_of (hb0) rfl (by simp only [go_sem,i64,ints]) (by simp only [go_sem,i64,ints]; try simp) (by first | exact .inl rfl | exact .inr rfl) ?_)
     (try simp only [go_sem]);refine hK _ ?_;clear hK K;refine zw (zk [1,5,6,7,8,9,10,12,13,14]) ?_;simp only [go_sem]
     refine zq ?_
     refine zb fun K hK=>?_;simp only [go_sem]
     refine zh (hb1) rfl (by simp only [go_sem,i64,ints]) (by simp only [go_sem,i64,ints]) (by first | exact .inl rfl | exact .inr rfl) ?_
     (try simp only [go_sem]);refine hK _ ?_;clear hK K;refine zw (zk [1,5,6,7,8,10,12,13,14,16,17]) ?_;simp only [go_sem]
     refine zq ?_
     refine zb fun K hK=>?_;simp only [go_sem]
     refine zh (hb2) rfl (by simp only [go_sem,i64,ints]) (by simp only [go_sem,i64,ints]) (by first | exact .inl rfl | exact .inr rfl) ?_
     (try simp only [go_sem]);refine hK _ ?_;clear hK K;refine zw (zk [1,5,6,7,12,13,14,16,17,18,19,20]) ?_;simp only [go_sem]
     have q2 : Int.tdiv (i : Int) 2 = ((i / 2 : Nat) : Int):=rfl
     have wn : IntKind.i64.wrap ((i : Int) - 1) = ((i - 1 : Nat) : Int):=by rw [zI] <;> omega
     have m1 : ((-1 : Int) != -1) = false:=rfl
     have hz : ((0 : Int) != 0) = false:=rfl
     have wq : IntKind.i64.wrap ((i / 2 : Nat) : Int) = ((i / 2 : Nat) : Int):=by rw [zI] <;> omega
     repeat refine zq ?_
     refine zb fun K hK=>?_;simp only [go_sem,hz,h2,h6,h10,q2,wq,wn,m1,wf0,bne_self_eq_false]
     repeat intro _
     refine hK _ ?_;clear hK K;refine zw (zk [1,5,6,12,18,19,119]) ?_;simp only [go_sem]
     refine zc rfl (fun hc=>?_) (fun hc=>?_) <;> (try simp only [go_sem] at hc)
     refine zx ?_
     try simp only [go_sem]
     repeat refine zq ?_
     refine zb fun K hK=>?_;simp only [go_sem];refine hK _ ?_;clear hK K;refine zw (zk [1,5,6,12,18,19,21]) ?_;simp only [go_sem];refine zd ?_
     refine awp_uptoV (n:=201) (i / 2) (fun j vs=>[(1,.r (u8 f0)),(5,.r (i64 (i : Int))),(6,.r (.sl 2 (K.map prR))),(12,.r (.sl 2 (F.map prR))),(18,.r (.sl 2 (A.map prR))),(19,.r (i64 last)),(21,.r (i64 (j : Int)))])
      (fun j vs=>[]) (fun _=>True) 0 (zj [] ?_ ?_) (Nat.zero_le _) trivial ?_
     · try simp only [go_sem]
       try rfl
     · try simp only [go_sem]
     · intro j vs hj _
       repeat refine zq ?_
       refine zb fun K hK=>?_;simp only [go_sem,q2];(try simp (disch:=omega) only [zI]);refine hK _ ?_;clear hK K;refine zw (zk [1,5,6,12,18,19,21,123]) ?_;simp only [go_sem]
       refine zc rfl (fun hc=>?_) (fun hc=>?_) <;> (try simp only [go_sem] at hc)
       · have hjn : j < i / 2:=by omega
         have hF:=h7 j hjn
         have hKj:=h3 j hjn
         have hFl : j < F.length:=by omega
         have hKl : j < K.length:=by omega
         have w1 : IntKind.i64.wrap ((j : Int) + f0) = (f0 : Int) + j:=by rw [zI] <;> omega
         have w2 : IntKind.i64.wrap (((i - 1 - j : Nat) : Int) + f0) = (f0 : Int) + ((i - 1 - j : Nat) : Int):=by rw [zI] <;> omega
         refine zx ?_
         try simp only [go_sem]
         refine zq ?_
         refine zd ?_
         refine zq ?_
         refine zg follows (by decide +kernel) (by kernel_rfl) fun K hK=>?_;simp only [go_sem,hF,hKj,hFl,hKl,wf0,w1,w2,bne_self_eq_false];refine hK _ ?_;clear hK K;refine zw (zk [1,5,6,12,18,19,21,155]) ?_;simp only [go_sem]
         refine zc rfl (fun hc=>?_) (fun hc=>?_) <;> (try simp only [go_sem] at hc)
         refine zx ?_
         try simp only [go_sem]
         refine zb fun K hK=>?_;simp only [go_sem];(try simp (disch:=omega) only [zI]);refine hK _ ?_;clear hK K
         try simp only [go_sem]
         refine ⟨by omega,zj [] ?_ ?_⟩
         · try simp only [go_sem]
         · try simp only [go_sem]
       · refine zf ?_;simp only [go_sem];refine zw (zk [1,5,18,19]) ?_;simp only [go_sem]
         repeat refine zq ?_
         refine zb fun K hK=>?_;simp only [go_sem];refine hK _ ?_;clear hK K;refine zw (zk [1,5,18,19,22]) ?_;simp only [go_sem];refine zd ?_
         refine awp_uptoV (n:=201) A.length (fun j vs=>[(1,.r (u8 f0)),(5,.r (i64 (i : Int))),(18,.r (.sl 2 (A.map prR))),(19,.r (i64 last)),(22,.r (i64 (j : Int)))])
          (fun j vs=>[]) (fun j=>1 ≤ j) 1 (zj [] ?_ ?_) (by omega) (Nat.le_refl _) ?_
         · try simp only [go_sem]
           try rfl
         · try simp only [go_sem]
         · intro j vs hj hj1
           repeat refine zq ?_
           refine zb fun K hK=>?_;simp only [go_sem]
           intro _
           refine hK _ ?_;clear hK K;refine zw (zk [1,5,18,19,22,159]) ?_;simp only [go_sem]
           refine zc rfl (fun hc=>?_) (fun hc=>?_) <;> (try simp only [go_sem] at hc)
           · have hjA : j < A.length:=by omega
             obtain ⟨p,hp⟩:=opt_of_lt hjA
             obtain ⟨a1,a2⟩:=h11 j hj1 p hp
             have y1 : (p.1 == (f0 : Int)) = false:=by simpa using a1
             have y2 : (p.2 == (f0 : Int)) = false:=by simpa using a2
             refine zx ?_
             try simp only [go_sem]
             refine zq ?_
             refine zd ?_
             refine zq ?_
             refine zb fun K hK=>?_;simp only [go_sem,hp,hjA,wf0,y1,y2];refine hK _ ?_;clear hK K;refine zw (zk [1,5,18,19,22,179]) ?_;simp only [go_sem]
             refine zc rfl (fun hc=>?_) (fun hc=>?_) <;> (try simp only [go_sem] at hc)
             refine zx ?_
             try simp only [go_sem]
             refine zb fun K hK=>?_;simp only [go_sem];(try simp (disch:=omega) only [zI]);refine hK _ ?_;clear hK K
             try simp only [go_sem]
             refine ⟨by omega,zj [] ?_ ?_⟩
             · try simp only [go_sem]
             · try simp only [go_sem]
           · refine zf ?_;simp only [go_sem];refine zw (zk [1,5,19]) ?_;simp only [go_sem]
             have z1 : IntKind.i64.wrap ((f0 : Int) + ((i / 2 : Nat) : Int)) = (f0 : Int) + ((i / 2 : Nat) : Int):=by rw [zI] <;> omega
             have z2 : IntKind.i64.wrap ((f0 : Int) + (i : Int)) = (f0 : Int) + (i : Int):=by rw [zI] <;> omega
             have d1 : decide ((f0 : Int) + ((i / 2 : Nat) : Int) ≤ last) = true:=decide_eq_true h12
             have d2 : decide (last < (f0 : Int) + (i : Int)) = true:=decide_eq_true h13
             refine zq ?_
             refine zb fun K hK=>?_;simp only [go_sem,wf0,q2,wq,z1,z2,d1,d2]
             refine zh (hk1) rfl (by simp only [go_sem,i64,ints,wf0,q2,wq,z1,z2,d1,d2]) (by simp only [go_sem,i64,ints,wf0,q2,wq,z1,z2,d1,d2]) (by first | exact .inl rfl | exact .inr rfl) ?_
             (try simp only [go_sem,wf0,q2,wq,z1,z2,d1,d2])
             refine zh (hk2) rfl (by simp only [go_sem,i64,ints,wf0,q2,wq,z1,z2,d1,d2]) (by simp only [go_sem,i64,ints,wf0,q2,wq,z1,z2,d1,d2]) (by first | exact .inl rfl | exact .inr rfl) ?_
             (try simp only [go_sem,wf0,q2,wq,z1,z2,d1,d2]);refine hK _ ?_;clear hK K;refine zw (zk [4]) ?_;simp only [go_sem];refine ze ?_;simp only [go_sem]
structure Sm where
 teams : Nat
 legs : Nat
 win : Nat
 draw : Nat
 up : Nat
 down : Nat
 ded : List Nat
 ms : List (Nat × Nat × Nat)
 left : Nat
abbrev m3R (v : Nat × Nat × Nat) : List RV:=[u8 v.1,u8 v.2.1,u8 v.2.2]
abbrev smC (x : Sm) : List RV:=[u8 x.teams,u8 x.legs,u8 x.win,u8 x.draw,u8 x.up,u8 x.down,bytesR x.ded,.sl 3 (x.ms.map m3R),u8 x.left]
abbrev smV (x : Sm) : RV:=.ag (smC x)
structure WfS (x : Sm) : Prop where
 teams : x.teams < 256
 legs : x.legs < 256
 win : x.win < 256
 draw : x.draw < 256
 up : x.up < 256
 down : x.down < 256
 ded : ∀ n ∈ x.ded,n < 256
 ms : ∀ v ∈ x.ms,v.1 < 256 ∧ v.2.1 < 256 ∧ v.2.2 < 256
 left : x.left < 256
def sT (x : Sm) : Nat:=2 + x.teams % 7
def sL (x : Sm) : Nat:=1 + x.legs % 12
def sW (x : Sm) : Nat:=x.win % 10
def sD (x : Sm) : Nat:=x.draw % (sW x + 1)
def sU (x : Sm) : Nat:=x.up % (sT x + 1)
def sN (x : Sm) : Nat:=x.down % (sT x - sU x + 1)
def sDed (x : Sm) (i : Nat) : List Int:=(List.range i).map fun k=>((x.ded.getD (k % x.ded.length) 0 % 20 : Nat) : Int)
def divR (x : Sm) : Tr:=⟨sT x,sL x,sW x,sD x,if x.ded = [] then [] else sDed x (sT x),sU x,sN x⟩
def playedB (x : Sm) (i : Nat) : Bool:=decide ((i : Int) < (x.ms.length : Int) - ((x.left % 6 : Nat) : Int)) && decide ((i : Int) < 30 - ((x.left % 6 : Nat) : Int))
def mkM (x : Sm) (i : Nat) (v : Nat × Nat × Nat) : Mt :=
 ⟨((v.1 % sT x : Nat) : Int),(((v.1 % sT x + 1 + v.2.1 % (sT x - 1)) % sT x : Nat) : Int),playedB x i,if playedB x i then ((v.2.2 % (sL x + 1) : Nat) : Int) else 0,if playedB x i then (sL x : Int) - ((v.2.2 % (sL x + 1) : Nat) : Int) else 0⟩
def divK (x : Sm) (i : Nat) : List Mt:=(List.range i).map fun k=>mkM x k (x.ms.getD k (0,0,0))
def divN (x : Sm) : Nat:=min x.ms.length 30
def divL (x : Sm) : List Mt:=divK x (divN x)
theorem sT_le (x : Sm) : 2 ≤ sT x ∧ sT x ≤ 8:=by unfold sT; omega
theorem sL_le (x : Sm) : 1 ≤ sL x ∧ sL x ≤ 12:=by unfold sL; omega
theorem sW_le (x : Sm) : sW x ≤ 9:=by unfold sW; omega
theorem sD_le (x : Sm) : sD x ≤ sW x:=by unfold sD; have:=Nat.mod_lt x.draw (show sW x + 1 > 0 by omega); omega
theorem sU_le (x : Sm) : sU x ≤ sT x:=by unfold sU; have:=Nat.mod_lt x.up (show sT x + 1 > 0 by omega); omega
theorem sN_le (x : Sm) : sN x ≤ sT x - sU x:=by unfold sN; have:=Nat.mod_lt x.down (show sT x - sU x + 1 > 0 by omega); omega
theorem divR_ok (x : Sm) : RulesI (divR x):=by
 have h1:=sT_le x
 have h2:=sL_le x
 have h3:=sW_le x
 have h4:=sD_le x
 have h5:=sU_le x
 have h6:=sN_le x
 refine ⟨?_,?_,?_,?_,?_,?_,?_⟩ <;> simp only [divR] <;> (try omega)
 by_cases h : x.ded = []
 · exact .inl (by rw [if_pos h])
 · refine .inr ?_
   rw [if_neg h]
   refine ⟨by simp [sDed],fun y hy=>?_⟩
   obtain ⟨k,_,rfl⟩:=List.mem_map.1 hy
   omega
theorem mkM_ok (x : Sm) (i : Nat) (v : Nat × Nat × Nat) : MatchI (divR x) (mkM x i v):=by
 have h1:=sT_le x
 have h2:=sL_le x
 have ha:=Nat.mod_lt v.1 (show sT x > 0 by omega)
 have hb:=Nat.mod_lt v.2.1 (show sT x - 1 > 0 by omega)
 have hc:=Nat.mod_lt (v.1 % sT x + 1 + v.2.1 % (sT x - 1)) (show sT x > 0 by omega)
 have hd:=Nat.mod_lt v.2.2 (show sL x + 1 > 0 by omega)
 have hne : v.1 % sT x ≠ (v.1 % sT x + 1 + v.2.1 % (sT x - 1)) % sT x:=by
  generalize v.1 % sT x = p at *
  generalize v.2.1 % (sT x - 1) = q at *
  by_cases h : p + 1 + q < sT x
  · rw [Nat.mod_eq_of_lt h]; omega
  · rw [Nat.mod_eq_sub_mod (by omega),Nat.mod_eq_of_lt (by omega)]; omega
 generalize hpb : playedB x i = pb
 refine ⟨?_,?_,?_,?_,?_⟩ <;> simp only [mkM,divR,legsOf,hpb] <;> generalize v.1 % sT x = p1 at * <;> generalize (p1 + 1 + v.2.1 % (sT x - 1)) % sT x = p2 at * <;> generalize v.2.2 % (sL x + 1) = p3 at *
 · omega
 · omega
 · omega
 · cases pb <;> simp only [Bool.false_eq_true,if_true,if_false] <;> omega
 · cases pb <;> simp only [Bool.false_eq_true,if_true,if_false] <;> omega
theorem divL_ok (x : Sm) : ∀ m ∈ divL x,MatchI (divR x) m:=fun m hm=>by
 obtain ⟨k,_,rfl⟩:=List.mem_map.1 hm
 exact mkM_ok x k _
theorem divL_len (x : Sm) : (divL x).length ≤ 30:=by unfold divL divK divN; rw [List.length_map,List.length_range]; omega
theorem divK_succ {x : Sm} {i : Nat} {v : Nat × Nat × Nat} (h : x.ms[i]? = some v) : divK x (i + 1) = divK x i ++ [mkM x i v]:=by
 unfold divK
 rw [List.range_succ,List.map_append,List.map_cons,List.map_nil,List.getD_eq_getElem?_getD,h]; rfl
theorem left_divK (x : Sm) : ∀ i,i ≤ divN x → (leftV (divK x i)).length = i - min i (divN x - x.left % 6)
 | 0,_=>by simp [divK,leftV]
 | i + 1, h => by
   have ih:=left_divK x i (by omega)
   unfold divN at *
   obtain ⟨v,hv⟩:=opt_of_lt (show i < x.ms.length by omega)
   rw [divK_succ hv,leftV_snoc,List.length_append,ih]
   have e : (mkM x i v).p = playedB x i:=rfl
   rw [e]
   cases hp : playedB x i with
   | true =>
     unfold playedB at hp
     simp only [Bool.and_eq_true,decide_eq_true_eq] at hp
     simp only [if_true,List.length_nil]
     omega
   | false =>
     unfold playedB at hp
     simp only [Bool.and_eq_false_iff,decide_eq_false_iff_not] at hp
     simp only [Bool.false_eq_true,if_false,List.length_cons,List.length_nil]
     omega
theorem left_div (x : Sm) : (leftV (divL x)).length ≤ 5:=by
 unfold divL
 rw [left_divK x _ (Nat.le_refl _)]
 have:=Nat.mod_lt x.left (show 6 > 0 by omega)
 omega
def dedAt (x : Sm) (i : Nat) : Int:=((x.ded.getD (i % x.ded.length) 0 % 20 : Nat) : Int)
theorem sDed_succ (x : Sm) (i : Nat) : sDed x (i + 1) = sDed x i ++ [dedAt x i]:=by simp [sDed,dedAt,List.range_succ]
theorem division_ok (x : Sm) (hw : WfS x) : ACalls Try.prog 36 [smV x] (.tu [trV (divR x),mtsR (divL x)]):=by
 obtain ⟨w1,w2,w3,w4,w5,w6,w7,w8,w9⟩:=hw
 have b1:=sT_le x
 have b2:=sL_le x
 have b3:=sW_le x
 have b4:=sD_le x
 have b5:=sU_le x
 have b6:=sN_le x
 have q1 : Int.tmod (x.teams : Int) 7 = ((x.teams % 7 : Nat) : Int):=rfl
 have q2 : Int.tmod (x.legs : Int) 12 = ((x.legs % 12 : Nat) : Int):=rfl
 have q3 : Int.tmod (x.win : Int) 10 = (sW x : Int):=rfl
 have e1 : 2 + ((x.teams % 7 : Nat) : Int) = (sT x : Int):=by unfold sT; omega
 have e2 : 1 + ((x.legs % 12 : Nat) : Int) = (sL x : Int):=by unfold sL; omega
 have hc1 : IntKind.i64.wrap (x.teams : Int) = x.teams:=by rw [zI] <;> omega
 have hc2 : IntKind.i64.wrap (x.legs : Int) = x.legs:=by rw [zI] <;> omega
 have hc3 : IntKind.i64.wrap (x.win : Int) = x.win:=by rw [zI] <;> omega
 have hc4 : IntKind.i64.wrap (x.draw : Int) = x.draw:=by rw [zI] <;> omega
 have hc5 : IntKind.i64.wrap (x.up : Int) = x.up:=by rw [zI] <;> omega
 have hc6 : IntKind.i64.wrap (x.down : Int) = x.down:=by rw [zI] <;> omega
 have hc9 : IntKind.i64.wrap (x.left : Int) = x.left:=by rw [zI] <;> omega
 have hs2 : IntKind.i64.wrap ((sW x : Int) + 1) = (sW x : Int) + 1:=by rw [zI] <;> omega
 have q4 : Int.tmod (x.draw : Int) ((sW x : Int) + 1) = (sD x : Int):=by rw [show (sW x : Int) + 1 = ((sW x + 1 : Nat) : Int) by omega]; rfl
 have hs3 : IntKind.i64.wrap ((sT x : Int) + 1) = (sT x : Int) + 1:=by rw [zI] <;> omega
 have q5 : Int.tmod (x.up : Int) ((sT x : Int) + 1) = (sU x : Int):=by rw [show (sT x : Int) + 1 = ((sT x + 1 : Nat) : Int) by omega]; rfl
 have hs4 : IntKind.i64.wrap ((sT x : Int) - sU x) = (sT x : Int) - sU x:=by rw [zI] <;> omega
 have hs5 : IntKind.i64.wrap ((sT x : Int) - sU x + 1) = (sT x : Int) - sU x + 1:=by rw [zI] <;> omega
 have q6 : Int.tmod (x.down : Int) ((sT x : Int) - sU x + 1) = (sN x : Int):=by rw [show (sT x : Int) - sU x + 1 = ((sT x - sU x + 1 : Nat) : Int) by omega]; rfl
 have q9 : Int.tmod (x.left : Int) 6 = ((x.left % 6 : Nat) : Int):=rfl
 have hwa : IntKind.i64.wrap (2 + ((x.teams % 7 : Nat) : Int)) = (sT x : Int):=by rw [zI] <;> omega
 have hwb : IntKind.i64.wrap (1 + ((x.legs % 12 : Nat) : Int)) = (sL x : Int):=by rw [zI] <;> omega
 refine acalls_st (rs:=[trV (divR x),mtsR (divL x)]) [.cell 2 35,.tmp 3] Try.func36 rfl (by kernel_rfl) Try.ntmps36 rfl (by simp) rfl fun C vs=>?_
 refine zq ?_
 refine zb fun K hK=>?_;simp only [go_sem];refine hK _ ?_;clear hK K;refine zw (sub_frzP 1 1 (smC x) (by omega) rfl rfl) ?_;refine zw (zk [1,2]) ?_;simp only [go_sem]
 refine zq ?_
 refine zb fun K hK=>?_;simp only [go_sem,hc1,hc2,hc3,q1,q2,q3,hwa,hwb];refine hK _ ?_;clear hK K;refine zw (zk [1,2,4]) ?_;simp only [go_sem]
 refine zq ?_
 refine zb fun K hK=>?_;simp only [go_sem,hc4,hs2,q4]
 refine ⟨by omega,?_⟩
 refine hK _ ?_;clear hK K;refine zw (zk [1,2,4]) ?_;simp only [go_sem]
 refine zq ?_
 refine zb fun K hK=>?_;simp only [go_sem,hc5,hs3,q5]
 refine ⟨by omega,?_⟩
 refine hK _ ?_;clear hK K;refine zw (zk [1,2,4]) ?_;simp only [go_sem]
 refine zq ?_
 refine zb fun K hK=>?_;simp only [go_sem,hc6,hs4,hs5,q6]
 refine ⟨by omega,?_⟩
 refine hK _ ?_;clear hK K;refine zw (zk [1,2,4]) ?_;simp only [go_sem]
 have hdr : (divR x).ded = if x.ded = [] then [] else sDed x (sT x):=rfl
 repeat refine zq ?_
 refine zb fun K hK=>?_;simp only [go_sem]
 intro _
 refine hK _ ?_;clear hK K;refine zw (zk [1,2,4,56]) ?_;simp only [go_sem]
 refine awp_joinV (n:=156) (fun (_ : Unit) vs=>[(1,.r (.rp (smC x))),(2,.pt 2 (vs 2) 0),(4,.pt 4 (vs 4) 0)])
  (fun _ vs=>[(2,.box [.r (i64 0),.r (i64 0),.r (i64 0),.r (i64 0),.r .ns,.r (i64 0),.r (i64 0)]),(4,.box [.r (i64 (sT x : Int)),.r (i64 (sL x : Int)),.r (i64 (sW x : Int)),.r (i64 (sD x : Int)),.r (if x.ded = [] then .ns else ints (sDed x (sT x))),.r (i64 (sU x : Int)),.r (i64 (sN x : Int))])]) (fun _=>True) (fun _ h=>h) ?_ ?_
 · by_cases hd0 : x.ded = []
   · rw [if_pos hd0]
     have hlz : x.ded.length = 0:=by rw [hd0]; rfl
     refine zc rfl (fun hc=>?_) (fun hc=>?_) <;> (try simp only [go_sem] at hc)
     · exfalso; simp [hd0] at hc
     · refine zx ?_
       try simp only [go_sem]
       refine ⟨(),zj [] ?_ ?_⟩
       · try simp only [go_sem]
       · try simp only [go_sem]
         try rfl
   · rw [if_neg hd0]
     have hdl : 0 < x.ded.length:=List.length_pos_iff.2 hd0
     refine zc rfl (fun hc=>?_) (fun hc=>?_) <;> (try simp only [go_sem] at hc)
     · refine zw (sub_ownB 4 4 77 3 1 (by omega) (by omega) rfl rfl) ?_;refine zw (zk [1,2,4]) ?_;simp only [go_sem]
       refine zq ?_
       refine zb fun K hK=>?_;simp only [go_sem];refine hK _ ?_;clear hK K;refine zw (zk [1,2,4,5]) ?_;simp only [go_sem];refine zd ?_
       refine awp_uptoV (n:=156) (sT x) (fun i vs=>[(1,.r (.rp (smC x))),(2,.pt 2 (vs 2) 0),(4,.pt 4 (vs 4) 0),(5,.r (i64 (i : Int)))])
        (fun i vs=>[(2,.box [.r (i64 0),.r (i64 0),.r (i64 0),.r (i64 0),.r .ns,.r (i64 0),.r (i64 0)]),(4,.box [.r (i64 (sT x : Int)),.r (i64 (sL x : Int)),.r (i64 (sW x : Int)),.r (i64 (sD x : Int)),.os 77 (vs 77) 1 0 i,.r (i64 (sU x : Int)),.r (i64 (sN x : Int))]),(77,.arr 3 1 ((sDed x i).map fun y=>[i64 y]))]) (fun _=>True) 0 (zj [] ?_ ?_) (Nat.zero_le _) trivial ?_
       · try simp only [go_sem]
         try rfl
       · try simp only [go_sem]
         try rfl
       · intro i vs hi _
         repeat refine zq ?_
         refine zb fun K hK=>?_;simp only [go_sem];refine hK _ ?_;clear hK K;refine zw (zk [1,2,4,5,60]) ?_;simp only [go_sem]
         refine zc rfl (fun hc=>?_) (fun hc=>?_) <;> (try simp only [go_sem] at hc)
         · have hil : i < sT x:=by omega
           have hkb : i % x.ded.length < x.ded.length:=Nat.mod_lt _ hdl
           obtain ⟨b,hbg⟩:=opt_of_lt hkb
           have hb256:=w7 b (mem_of_opt hbg)
           have hda : dedAt x i = ((b % 20 : Nat) : Int):=by unfold dedAt; rw [List.getD_eq_getElem?_getD,hbg]; rfl
           have hsu:=sDed_succ x i
           rw [hda] at hsu
           have hq : Int.tmod (i : Int) (x.ded.length : Int) = ((i % x.ded.length : Nat) : Int):=rfl
           have hqb : Int.tmod (b : Int) 20 = ((b % 20 : Nat) : Int):=rfl
           have hwb2 : IntKind.i64.wrap (b : Int) = b:=by rw [zI] <;> omega
           have hnz : ¬ x.ded.length = 0:=by omega
           have hlr : (sDed x i).length = i:=by simp [sDed]
           generalize sDed x i = D at *
           generalize sDed x (i + 1) = D' at *
           generalize i % x.ded.length = kb at *
           refine zx ?_
           try simp only [go_sem]
           refine zq ?_
           refine zd ?_
           refine awp_dreg3 [(4,some 4),(1,none),(5,none)] [4] follows (by decide +kernel) (by kernel_rfl) (by simp only [keysOk,List.mem_cons,List.not_mem_nil,forall_eq_or_imp,Oc.keyOf,go_sem]; simp) (by intro k hk; simp only [List.mem_cons,List.not_mem_nil,or_false] at hk; first | (subst hk; exact ⟨_,rfl⟩) | (rcases hk with rfl | rfl <;> exact ⟨_,rfl⟩) | (rcases hk with rfl | rfl | rfl <;> exact ⟨_,rfl⟩)) fun K hK=>?_
           simp only [go_sem,hq,hbg,hkb,hwb2,hqb,hnz,hlr,List.length_map];repeat first | intro _ | refine ⟨by omega,?_⟩
           refine hK _ ?_;clear hK K;refine zw (zk [1,2,4,5]) ?_;simp only [go_sem];refine zb fun K hK=>?_;simp only [go_sem];(try simp (disch:=omega) only [zI]);refine hK _ ?_;clear hK K
           try simp only [go_sem]
           refine ⟨by omega,zj [] ?_ ?_⟩
           · try simp only [go_sem]
           · try simp only [go_sem]
             rw [hsu,List.map_append]
             rfl
         · have hil : i = sT x:=by omega
           subst hil
           have hlr : (sDed x (sT x)).length = sT x:=by simp [sDed]
           refine zf ?_;simp only [go_sem]
           refine ⟨(),fitV_sub (sub_frzB 4 4 77 (ty:=3) (sz:=1) (off:=0) (m:=sT x) (es:=(sDed x (sT x)).map fun y=>[i64 y]) (by omega) (by omega) rfl rfl rfl (by simp [hlr])) (zj [] ?_ ?_)⟩
           · try simp only [go_sem]
           · try simp only [go_sem]
             rw [List.take_of_length_le (by simp [hlr])]
     · exact absurd hdl (by first | omega | (simp at hc; omega))
 intro _ vs _
 refine zq ?_
 have hcd : [.r (i64 (sT x : Int)),.r (i64 (sL x : Int)),.r (i64 (sW x : Int)),.r (i64 (sD x : Int)),.r (if x.ded = [] then .ns else ints (sDed x (sT x))),.r (i64 (sU x : Int)),.r (i64 (sN x : Int))] = ([i64 (sT x : Int),i64 (sL x : Int),i64 (sW x : Int),i64 (sD x : Int),(if x.ded = [] then .ns else ints (sDed x (sT x))),i64 (sU x : Int),i64 (sN x : Int)]).map AV.r:=rfl
 rw [hcd]
 refine zw (sub_frzP 4 4 [i64 (sT x : Int),i64 (sL x : Int),i64 (sW x : Int),i64 (sD x : Int),(if x.ded = [] then .ns else ints (sDed x (sT x))),i64 (sU x : Int),i64 (sN x : Int)] (by omega) rfl rfl) ?_;refine zw (zk [1,2,4]) ?_;simp only [go_sem]
 have hRR : RV.le (.ag [i64 (sT x : Int),i64 (sL x : Int),i64 (sW x : Int),i64 (sD x : Int),(if x.ded = [] then .ns else ints (sDed x (sT x))),i64 (sU x : Int),i64 (sN x : Int)]) (trV (divR x)):=by
  by_cases hd0 : x.ded = []
  · rw [if_pos hd0]
    simp only [trV,trC,hdr,if_pos hd0,divR,RV.le,RV.leL,ints,List.map_nil,and_true,true_and,or_true]
  · rw [if_neg hd0]
    simp only [trV,trC,hdr,if_neg hd0,divR];exact leL_refl.le_refl _
 generalize (if x.ded = [] then RV.ns else ints (sDed x (sT x))) = DD at *
 refine zg follows (by decide +kernel) (by kernel_rfl) fun K hK=>?_;simp only [go_sem,hc9,q9];refine hK _ ?_;clear hK K;refine zw (sub_own 6 153 70 5 (by omega) rfl) ?_;refine zw (zk [1,2,4,6,7]) ?_;simp only [go_sem]
 repeat refine zq ?_
 refine zb fun K hK=>?_;simp only [go_sem];refine hK _ ?_;clear hK K;refine zw (zk [1,2,4,6,7,8]) ?_;simp only [go_sem];refine zd ?_
 refine awp_uptoV (n:=156) (divN x) (fun i vs=>[(1,.r (.rp (smC x))),(2,.pt 2 (vs 2) 0),(4,.r (.rp [i64 (sT x : Int),i64 (sL x : Int),i64 (sW x : Int),i64 (sD x : Int),DD,i64 (sU x : Int),i64 (sN x : Int)])),(6,.os 153 (vs 153) 5 0 i),(7,.r (i64 ((x.left % 6 : Nat) : Int))),(8,.r (i64 (i : Int)))])
  (fun i vs=>[(2,.box [.r (i64 0),.r (i64 0),.r (i64 0),.r (i64 0),.r .ns,.r (i64 0),.r (i64 0)]),(153,.arr 70 5 ((divK x i).map mtR))]) (fun _=>True) 0 (zj [] ?_ ?_) (Nat.zero_le _) trivial ?_
 · try simp only [go_sem]
   try rfl
 · try simp only [go_sem]
   try rfl
 · intro i vs hi _
   have hkl : (divK x i).length = i:=by simp [divK]
   by_cases hin : i < divN x
   · have hi1 : i < x.ms.length:=by unfold divN at hin; omega
     have hi2 : i < 30:=by unfold divN at hin; omega
     have g1 : decide ((i : Int) < 30) = true:=by simp; omega
     obtain ⟨v,hv⟩:=opt_of_lt hi1
     obtain ⟨v1,v2,v3⟩:=w8 v (mem_of_opt hv)
     have hks:=divK_succ hv
     have hmk : mtR (mkM x i v) = [i64 ((v.1 % sT x : Nat) : Int),i64 (((v.1 % sT x + 1 + v.2.1 % (sT x - 1)) % sT x : Nat) : Int),.bo (playedB x i),i64 (if playedB x i then ((v.2.2 % (sL x + 1) : Nat) : Int) else 0),i64 (if playedB x i then (sL x : Int) - ((v.2.2 % (sL x + 1) : Nat) : Int) else 0)]:=rfl
     generalize divK x i = K at *
     generalize divK x (i + 1) = K' at *
     have k1 : IntKind.i64.wrap (v.1 : Int) = v.1:=by rw [zI] <;> omega
     have k2 : Int.tmod (v.1 : Int) (sT x : Int) = ((v.1 % sT x : Nat) : Int):=rfl
     have k3 : IntKind.i64.wrap (v.2.1 : Int) = v.2.1:=by rw [zI] <;> omega
     have k4 : IntKind.i64.wrap ((sT x : Int) - 1) = (sT x : Int) - 1:=by rw [zI] <;> omega
     have k5 : Int.tmod (v.2.1 : Int) ((sT x : Int) - 1) = ((v.2.1 % (sT x - 1) : Nat) : Int):=by rw [show (sT x : Int) - 1 = ((sT x - 1 : Nat) : Int) by omega]; rfl
     have m1:=Nat.mod_lt v.1 (show sT x > 0 by omega)
     have m2:=Nat.mod_lt v.2.1 (show sT x - 1 > 0 by omega)
     generalize v.1 % sT x = p at *
     generalize v.2.1 % (sT x - 1) = q at *
     have k6 : IntKind.i64.wrap ((p : Int) + 1) = (p : Int) + 1:=by rw [zI] <;> omega
     have k7 : IntKind.i64.wrap ((p : Int) + 1 + (q : Int)) = (p : Int) + 1 + (q : Int):=by rw [zI] <;> omega
     have k8 : Int.tmod ((p : Int) + 1 + (q : Int)) (sT x : Int) = (((p + 1 + q) % sT x : Nat) : Int):=by rw [show (p : Int) + 1 + (q : Int) = ((p + 1 + q : Nat) : Int) by omega]; rfl
     have m3:=Nat.mod_lt (p + 1 + q) (show sT x > 0 by omega)
     generalize (p + 1 + q) % sT x = w at *
     have j1 : IntKind.i64.wrap (v.2.2 : Int) = v.2.2:=by rw [zI] <;> omega
     have j2 : IntKind.i64.wrap ((sL x : Int) + 1) = (sL x : Int) + 1:=by rw [zI] <;> omega
     have j3 : Int.tmod (v.2.2 : Int) ((sL x : Int) + 1) = ((v.2.2 % (sL x + 1) : Nat) : Int):=by rw [show (sL x : Int) + 1 = ((sL x + 1 : Nat) : Int) by omega]; rfl
     have m4:=Nat.mod_lt v.2.2 (show sL x + 1 > 0 by omega)
     generalize v.2.2 % (sL x + 1) = u at *
     repeat refine zq ?_
     refine zb fun K hK=>?_;simp only [go_sem,hi1,g1]
     intro _
     refine hK _ ?_;clear hK K;refine zw (zk [1,2,4,6,7,8,92]) ?_;simp only [go_sem]
     refine zc rfl (fun hc=>?_) (fun hc=>?_) <;> (try simp only [go_sem] at hc)
     refine zx ?_
     try simp only [go_sem]
     refine zq ?_
     refine zd ?_
     refine zq ?_
     refine zb fun K hK=>?_;simp only [go_sem,hv,hi1];refine hK _ ?_;clear hK K;refine zw (sub_frzP 9 9 (m3R v) (by omega) rfl rfl) ?_;refine zw (zk [1,2,4,6,7,8,9]) ?_;simp only [go_sem]
     refine zq ?_
     refine zb fun K hK=>?_;simp only [go_sem,k1,k2]
     refine ⟨by omega,?_⟩
     refine hK _ ?_;clear hK K;refine zw (zk [1,2,4,6,7,8,9,10]) ?_;simp only [go_sem]
     refine zq ?_
     refine awp_dreg2 [(10,some 10),(9,none),(4,none)] follows (by decide +kernel) (by kernel_rfl) (by simp only [keysOk,List.mem_cons,List.not_mem_nil,forall_eq_or_imp,Oc.keyOf,go_sem]; simp) fun K hK=>?_
     simp only [go_sem,k3,k4,k5,k6,k7,k8]
     repeat refine ⟨by omega,?_⟩
     refine hK _ ?_;clear hK K;refine zw (zk [1,2,4,6,7,8,9,10]) ?_;simp only [go_sem]
     repeat refine zq ?_
     refine awp_joinV (n:=156) (fun (_ : Unit) vs=>[(1,.r (.rp (smC x))),(2,.pt 2 (vs 2) 0),(4,.r (.rp [i64 (sT x : Int),i64 (sL x : Int),i64 (sW x : Int),i64 (sD x : Int),DD,i64 (sU x : Int),i64 (sN x : Int)])),(6,.os 153 (vs 153) 5 0 i),(7,.r (i64 ((x.left % 6 : Nat) : Int))),(8,.r (i64 (i : Int))),(9,.r (.rp (m3R v))),(10,.pt 10 (vs 10) 0),(134,.r (.bo (playedB x i)))])
      (fun _ vs=>[(2,.box [.r (i64 0),.r (i64 0),.r (i64 0),.r (i64 0),.r .ns,.r (i64 0),.r (i64 0)]),(10,.box [.r (i64 (p : Int)),.r (i64 (w : Int)),.r (.bo false),.r (i64 0),.r (i64 0)]),(153,.arr 70 5 (K.map mtR))]) (fun _=>True) (fun _ h=>h) ?_ ?_
     · have z1 : IntKind.i64.wrap ((x.ms.length : Int) - ((x.left % 6 : Nat) : Int)) = (x.ms.length : Int) - ((x.left % 6 : Nat) : Int):=by rw [zI] <;> omega
       have z2 : IntKind.i64.wrap (30 - ((x.left % 6 : Nat) : Int)) = 30 - ((x.left % 6 : Nat) : Int):=by rw [zI] <;> omega
       by_cases y1 : (i : Int) < (x.ms.length : Int) - ((x.left % 6 : Nat) : Int)
       · have y1b : decide ((i : Int) < (x.ms.length : Int) - ((x.left % 6 : Nat) : Int)) = true:=by simpa using y1
         refine zb fun K hK=>?_;simp only [go_sem,z1,z2,y1b]
         intro _
         refine hK _ ?_;clear hK K
         refine ⟨(),trivial,zj [] ?_ ?_⟩
         · try simp only [go_sem]
           unfold playedB
           rw [y1b]; rfl
         · try simp only [go_sem]
       · have y1b : decide ((i : Int) < (x.ms.length : Int) - ((x.left % 6 : Nat) : Int)) = false:=by simpa using y1
         refine zb fun K hK=>?_;simp only [go_sem,z1,z2,y1b]
         intro _
         refine hK _ ?_;clear hK K
         refine ⟨(),trivial,zj [] ?_ ?_⟩
         · try simp only [go_sem]
           unfold playedB
           rw [y1b]; rfl
         · try simp only [go_sem]
     intro _ vs _
     refine awp_joinV (n:=156) (fun (_ : Unit) vs=>[(1,.r (.rp (smC x))),(2,.pt 2 (vs 2) 0),(4,.r (.rp [i64 (sT x : Int),i64 (sL x : Int),i64 (sW x : Int),i64 (sD x : Int),DD,i64 (sU x : Int),i64 (sN x : Int)])),(6,.os 153 (vs 153) 5 0 i),(7,.r (i64 ((x.left % 6 : Nat) : Int))),(8,.r (i64 (i : Int))),(10,.pt 10 (vs 10) 0)])
      (fun _ vs=>[(2,.box [.r (i64 0),.r (i64 0),.r (i64 0),.r (i64 0),.r .ns,.r (i64 0),.r (i64 0)]),(10,.box [.r (i64 (p : Int)),.r (i64 (w : Int)),.r (.bo (playedB x i)),.r (i64 (if playedB x i then (u : Int) else 0)),.r (i64 (if playedB x i then (sL x : Int) - (u : Int) else 0))]),(153,.arr 70 5 (K.map mtR))]) (fun _=>True) (fun _ h=>h) ?_ ?_
     · cases hpb : playedB x i with
       | true =>
         refine zc rfl (fun hc=>?_) (fun hc=>?_) <;> (try simp only [go_sem] at hc)
         refine zq ?_
         refine awp_dreg2 [(10,some 10),(9,none),(4,none)] follows (by decide +kernel) (by kernel_rfl) (by simp only [keysOk,List.mem_cons,List.not_mem_nil,forall_eq_or_imp,Oc.keyOf,go_sem]; simp) fun K hK=>?_
         simp only [go_sem,j1,j2,j3]
         refine ⟨by omega,?_⟩
         refine hK _ ?_;clear hK K;refine zw (zk [1,2,4,6,7,8,10]) ?_;simp only [go_sem];refine zb fun K hK=>?_;simp only [go_sem];(try simp (disch:=omega) only [zI]);refine hK _ ?_;clear hK K
         refine ⟨(),zj [] ?_ ?_⟩
         · try simp only [go_sem]
         · try simp only [go_sem]
           try simp
       | false =>
         refine zc rfl (fun hc=>?_) (fun hc=>?_) <;> (try simp only [go_sem] at hc)
         refine zx ?_
         try simp only [go_sem]
         refine ⟨(),zj [] ?_ ?_⟩
         · try simp only [go_sem]
         · try simp only [go_sem]
           try simp
     intro _ vs _
     refine zw (sub_frzP 10 10 (mtR (mkM x i v)) (by omega) rfl (by rw [hmk]; rfl)) ?_;refine zw (zk [1,2,4,6,7,8,10]) ?_;simp only [go_sem];refine zb fun K hK=>?_;simp only [go_sem,hkl,List.length_map]
     refine ⟨by omega,?_⟩
     refine hK _ ?_;clear hK K;refine zw (zk [1,2,4,6,7,8]) ?_;simp only [go_sem];refine zb fun K hK=>?_;simp only [go_sem];(try simp (disch:=omega) only [zI]);refine hK _ ?_;clear hK K
     try simp only [go_sem]
     refine ⟨by omega,zj [] ?_ ?_⟩
     · try simp only [go_sem]
     · try simp only [go_sem]
       rw [hks,List.map_append]
       rfl
   · have hil : i = divN x:=by omega
     subst hil
     have hdv : divK x (divN x) = divL x:=rfl
     rw [hdv] at hkl ⊢
     by_cases y1 : divN x < x.ms.length
     · have h30 : divN x = 30:=by unfold divN at y1 ⊢; omega
       have g1 : decide ((divN x : Int) < 30) = false:=by simp; omega
       repeat refine zq ?_
       refine zb fun K hK=>?_;simp only [go_sem,y1,g1]
       intro _
       refine hK _ ?_;clear hK K;refine zw (zk [1,2,4,6,7,8,92]) ?_;simp only [go_sem]
       refine zc rfl (fun hc=>?_) (fun hc=>?_) <;> (try simp only [go_sem] at hc)
       refine zw (sub_frz 6 153 (by omega) rfl rfl (by simp [hkl])) ?_
       have htp : List.take (divN x) ((divL x).map mtR) = (divL x).map mtR:=List.take_of_length_le (by simp [hkl])
       refine zf ?_;simp only [go_sem];refine zw (zk [2,4,6]) ?_;simp only [go_sem];rw [htp]
       refine zq ?_
       refine zb fun K hK=>?_;simp only [go_sem];refine hK _ ?_;clear hK K;refine zw (zk [2,3]) ?_;simp only [go_sem];refine ze ?_;simp only [go_sem]
       simpa only [go_sem] using hRR
     · repeat refine zq ?_
       refine zb fun K hK=>?_;simp only [go_sem,y1]
       intro _
       refine hK _ ?_;clear hK K;refine zw (zk [1,2,4,6,7,8,92]) ?_;simp only [go_sem]
       refine zc rfl (fun hc=>?_) (fun hc=>?_) <;> (try simp only [go_sem] at hc)
       refine zw (sub_frz 6 153 (by omega) rfl rfl (by simp [hkl])) ?_
       have htp : List.take (divN x) ((divL x).map mtR) = (divL x).map mtR:=List.take_of_length_le (by simp [hkl])
       refine zf ?_;simp only [go_sem];refine zw (zk [2,4,6]) ?_;simp only [go_sem];rw [htp]
       refine zq ?_
       refine zb fun K hK=>?_;simp only [go_sem];refine hK _ ?_;clear hK K;refine zw (zk [2,3]) ?_;simp only [go_sem];refine ze ?_;simp only [go_sem]
       simpa only [go_sem] using hRR
end Go.Proofs.Ytobokbhpeaakjaa

namespace Go.Oc
open Go Go.RowKit Go.ChangeShapes Go.WideShapes
inductive Sh where
 | int (k : IntKind)
 | bool
 | sl (es : List Sh)
def fieldsSh (P : Program) (sh : TypeId → Option (List Sh)) : List Field → Nat → Option (List Sh)
 | [],_=>some []
 | f :: fs, o =>
   match sh f.type with
   | some ss=>if f.offset == o && ss.length == P.cellsOf f.type then match fieldsSh P sh fs (o + ss.length) with | some q=>some (ss ++ q) | none=>none else none
   | none=>none
def shape (P : Program) : Nat → TypeId → Option (List Sh)
 | 0,_=>none
 | n + 1, t =>
   match P.underlying t with
   | some (.int k)=>some [.int k]
   | some .bool=>some [.bool]
   | some (.slice e) =>
     match shape P n e with
     | some ss=>if ss.length == P.cellsOf e && decide (0 < ss.length) then some [.sl ss] else none
     | none=>none
   | some (.array m e) =>
     match shape P n e with
     | some ss=>if ss.length == P.cellsOf e && P.cellsOf t == m * ss.length then some (List.replicate m ss).flatten else none
     | none=>none
   | some (.struct fs) =>
     match fieldsSh P (shape P n) fs.toList 0 with
     | some ss=>if ss.length == P.cellsOf t then some ss else none
     | none=>none
   | _=>none
mutual
def Fits : Sh → RV → Prop
 | .int k,x=>∃ n,x = .it k n ∧ (Lit.int k n).wf = true
 | .bool,x=>∃ b,x = .bo b
 | .sl ss,x=>∃ es,x = .sl ss.length es ∧ FitsE ss es
def FitsL : List Sh → List RV → Prop
 | [],xs=>xs = []
 | s :: ss,xs=>∃ y ys,xs = y :: ys ∧ Fits s y ∧ FitsL ss ys
def FitsE (ss : List Sh) : List (List RV) → Prop
 | []=>True
 | e :: es=>FitsL ss e ∧ FitsE ss es
end
theorem fitsL_append : ∀ {s1 s2 : List Sh} {x1 x2 : List RV},FitsL s1 x1 → FitsL s2 x2 → FitsL (s1 ++ s2) (x1 ++ x2)
 | [],_,_,_,h1,h2=>by simp only [FitsL] at h1; subst h1; simpa using h2
 | s :: ss, s2, x1, x2, h1, h2 => by
   simp only [FitsL] at h1
   obtain ⟨y,ys,rfl,h3,h4⟩:=h1
   simp only [List.cons_append,FitsL];exact ⟨y,_,rfl,h3,fitsL_append h4 h2⟩
theorem fitsL_length : ∀ {ss : List Sh} {xs : List RV},FitsL ss xs → xs.length = ss.length
 | [],_,h=>by simp only [FitsL] at h; subst h; rfl
 | s :: ss, _, h => by
   simp only [FitsL] at h
   obtain ⟨y,ys,rfl,_,h⟩:=h
   simp [fitsL_length h]
theorem fitsE_of : ∀ {ss : List Sh} {es : List (List RV)},(∀ e ∈ es,FitsL ss e) → FitsE ss es
 | _,[],_=>by simp only [FitsE]
 | ss,e :: es,h=>by simp only [FitsE]; exact ⟨h e (by simp),fitsE_of fun x hx=>h x (by simp [hx])⟩
theorem choice {α : Type} {Q : Nat → α → Prop} : ∀ (n : Nat),(∀ i,i < n → ∃ x,Q i x) → ∃ xs : List α,xs.length = n ∧ ∀ i x,xs[i]? = some x → Q i x
 | 0,_=>⟨[],rfl,by simp⟩
 | n + 1, h => by
   obtain ⟨xs,hl,hx⟩:=choice n fun i hi=>h i (by omega)
   obtain ⟨y,hy⟩:=h n (by omega)
   refine ⟨xs ++ [y],by simp [hl],fun i x hi=>?_⟩
   by_cases h1 : i < n
   · rw [List.getElem?_append_left (by omega)] at hi; exact hx i x hi
   · rw [List.getElem?_append_right (by omega)] at hi
     have : i = n:=by have:=(List.getElem?_eq_some_iff.1 hi).1; simp at this; omega
     subst this
     simp [hl] at hi
     exact hi ▸ hy
section
variable {w : World} {P : Program}
theorem cells?_get {base n : Nat} {a : Addr} {cs : List Value} (h : w.cells? base a n = some cs) : cs.length = n ∧ ∀ i,i < n → w.cell? (a.add i) = cs[i]?:=by
 unfold World.cells? at h
 split at h
 · exact ⟨by simpa using mapM_some_length h,fun i hi=>mapM_some_get h i i (by simp [hi])⟩
 · cases h
theorem cell_lt {a : Addr} {v : Value} (h : w.cell? a = some v) : a.block < w.heap.size:=by
 refine Decidable.byContradiction fun hn=>?_
 have : w.heap[a.block]? = none:=by simp; omega
 simp [World.cell?,this] at h
def old (w : World) : Nat → Prop:=fun b=>b < w.heap.size
theorem relC_of_cells {xs : List RV} {cs : List Value} {ad : Addr} (hV : RV.relV w (old w) xs cs) (hone : ∀ u ∈ cs,u.oneCell' = true) (hc : ∀ i,i < cs.length → w.cell? (ad.add i) = cs[i]?) : RV.relC w (old w) xs ad 0:=by
 refine RV.relC_of_get fun i x hx=>?_
 obtain ⟨u,hu,hr⟩:=RV.relV_get hV hx
 have hi:=(List.getElem?_eq_some_iff.1 hu).1
 refine ⟨u,?_,hone u (List.mem_of_getElem? hu),hr⟩
 rw [Nat.zero_add,hc i hi,hu]
variable {H : Type} {enc : TypeId × Value → H} {base : Nat} {spare : Nat → Bool} {held : Bool}
def Good3 (w : World) (ss : List Sh) (cs : List Value) : Prop:=∃ xs,FitsL ss xs ∧ RV.relV w (old w) xs cs ∧ ∀ u ∈ cs,u.oneCell' = true
theorem good3_append {s1 s2 : List Sh} {c1 c2 : List Value} (h1 : Good3 w s1 c1) (h2 : Good3 w s2 c2) : Good3 w (s1 ++ s2) (c1 ++ c2):=by
 obtain ⟨x1,f1,r1,o1⟩:=h1
 obtain ⟨x2,f2,r2,o2⟩:=h2
 refine ⟨x1 ++ x2,fitsL_append f1 f2,RV.relV_append r1 r2,fun u hu=>?_⟩
 rcases List.mem_append.1 hu with hu | hu
 · exact o1 u hu
 · exact o2 u hu
theorem good3_length {ss : List Sh} {cs : List Value} (h : Good3 w ss cs) : cs.length = ss.length:=by
 obtain ⟨xs,f,r,_⟩:=h
 rw [RV.relV_length r,fitsL_length f]
theorem trod_fits : ∀ (fuel n : Nat) (t : TypeId) (cs : List Value) (x : DataW H × List MemPlace) (ss : List Sh),DataW.trod enc P w base spare held fuel t cs = some x → shape P n t = some ss → Good3 w ss cs:=by
 intro fuel
 induction fuel with
 | zero=>intro n t cs x ss h; simp [DataW.trod] at h
 | succ fuel ih =>
   intro n t cs x ss h hs
   cases n with
   | zero=>simp [shape] at hs
   | succ n =>
     unfold shape at hs
     split at hs
     · rename_i k ht
       injection hs with hs; subst hs
       obtain ⟨m,rfl,_,hw⟩:=DataW.trod_int ht h
       exact ⟨[.it k m],by simp only [FitsL,Fits]; exact ⟨_,[],rfl,⟨m,rfl,hw⟩,rfl⟩,by simp only [RV.relV,RV.rel]; exact ⟨_,[],rfl,rfl,rfl⟩,by simp [Value.oneCell']⟩
     · rename_i ht
       injection hs with hs; subst hs
       obtain ⟨b,rfl,_⟩:=DataW.trod_bool ht h
       exact ⟨[.bo b],by simp only [FitsL,Fits]; exact ⟨_,[],rfl,⟨b,rfl⟩,rfl⟩,by simp only [RV.relV,RV.rel]; exact ⟨_,[],rfl,rfl,rfl⟩,by simp [Value.oneCell']⟩
     · rename_i e ht
       split at hs
       · rename_i es hes
         split at hs
         · rename_i hc
           simp only [Bool.and_eq_true,beq_iff_eq,decide_eq_true_eq] at hc
           injection hs with hs; subst hs
           rcases DataW.trod_slice ht h with ⟨rfl,_⟩ | ⟨a,len,cap,elems,rest,m,hm,rfl,_,_,hlc,hcm,hel,hget,_⟩
           · refine ⟨[.sl es.length []],?_,?_,by simp [Value.oneCell']⟩
             · simp only [FitsL,Fits];exact ⟨_,[],rfl,⟨[],rfl,by simp only [FitsE]⟩,rfl⟩
             · simp only [RV.relV,RV.rel];exact ⟨_,[],rfl,⟨none,0,rfl,Nat.le_refl _,Nat.zero_le _,fun h=>absurd rfl h⟩,rfl⟩
           · injection hm with hm; subst hm
             have hall : ∀ i,i < len → ∃ e',FitsL es e' ∧ e'.length = es.length ∧ RV.relC w (old w) e' (a.add (i * es.length)) 0 ∧ a.block < w.heap.size:=fun i hi=>by
              have h1:=hget i hi
              have h2 : i < elems.length:=by omega
              rw [List.getElem?_eq_getElem h2] at h1
              obtain ⟨ci,hci,htr⟩:=Option.bind_eq_some_iff.1 h1
              rw [← hc.1] at hci
              obtain ⟨hl,hcell⟩:=cells?_get hci
              obtain ⟨xs,f,r,o⟩:=ih n e ci _ es htr hes
              refine ⟨xs,f,fitsL_length f,relC_of_cells r o (fun j hj=>hcell j (by omega)),?_⟩
              have h3:=hcell 0 hc.2
              have h4 : 0 < ci.length:=by omega
              rw [List.getElem?_eq_getElem h4] at h3
              have:=cell_lt h3
              rwa [block_add,block_add] at this
             obtain ⟨els,hlen,hels⟩:=choice len hall
             refine ⟨[.sl es.length els],?_,?_,by simp [Value.oneCell']⟩
             · simp only [FitsL,Fits]
               refine ⟨_,[],rfl,⟨els,rfl,fitsE_of fun e' he'=>?_⟩,rfl⟩
               obtain ⟨i,hi⟩:=List.getElem?_of_mem he'
               exact (hels i e' hi).1
             · simp only [RV.relV,RV.rel]
               refine ⟨_,[],rfl,⟨some a,cap,by rw [hlen],by omega,hcm,fun hne=>?_⟩,rfl⟩
               obtain ⟨e0,he0⟩ : ∃ e0,els[0]? = some e0:=by
                cases els with
                | nil=>exact absurd rfl hne
                | cons a l=>exact ⟨a,rfl⟩
               refine ⟨a,rfl,(hels 0 e0 he0).2.2.2,RV.relE_of_get fun i e' he'=>?_⟩
               obtain ⟨_,q1,q2,_⟩:=hels i e' he'
               exact ⟨q1,RV.relC_unbase _ q2⟩
         · cases hs
       · cases hs
     · rename_i m e ht
       split at hs
       · rename_i es hes
         split at hs
         · rename_i hc
           simp only [Bool.and_eq_true,beq_iff_eq] at hc
           injection hs with hs; subst hs
           obtain ⟨xs,fm,hm,_,hcl,hxl,hget⟩:=DataW.trod_array ht h
           injection hm with hm; subst hm
           have key : ∀ j,j ≤ m → Good3 w (List.replicate j es).flatten (cs.take (j * es.length)):=by
            intro j
            induction j with
            | zero=>intro _; exact ⟨[],by simp [FitsL],by simp [RV.relV],by simp⟩
            | succ j ihj =>
              intro hj
              have h1:=hget j (by omega)
              have h2 : j < xs.length:=by omega
              rw [List.getElem?_eq_getElem h2,← hc.1] at h1
              have h3:=ih n e _ _ es h1 hes
              have:=good3_append (ihj (by omega)) h3
              rw [← List.take_add] at this
              rw [List.replicate_succ',List.flatten_append,Nat.add_mul]
              simpa using this
           have:=key m (Nat.le_refl _)
           rwa [← hc.2,← hcl,List.take_length] at this
         · cases hs
       · cases hs
     · rename_i fs ht
       split at hs
       · rename_i q hq
         split at hs
         · rename_i hc
           simp only [beq_iff_eq] at hc
           injection hs with hs; subst hs
           obtain ⟨xs,fm,hm,_,hcl,hxl,hget⟩:=DataW.trod_struct ht h
           injection hm with hm; subst hm
           have key : ∀ (l : List Field) (o : Nat) (q : List Sh),(∀ f ∈ l,∃ y,DataW.trod enc P w base spare held fuel f.type ((cs.drop f.offset).take (P.cellsOf f.type)) = some y) → fieldsSh P (shape P n) l o = some q → Good3 w q ((cs.drop o).take q.length):=by
            intro l
            induction l with
            | nil =>
              intro o q _ hq
              simp only [fieldsSh,Option.some.injEq] at hq
              subst hq
              exact ⟨[],by simp [FitsL],by simp [RV.relV],by simp⟩
            | cons f l ihl =>
              intro o q hall hq
              simp only [fieldsSh] at hq
              split at hq
              · rename_i s1 hs1
                split at hq
                · rename_i hc1
                  simp only [Bool.and_eq_true,beq_iff_eq] at hc1
                  split at hq
                  · rename_i q2 hq2
                    injection hq with hq; subst hq
                    obtain ⟨y,hy⟩:=hall f (by simp)
                    have g1:=ih n f.type _ _ s1 hy hs1
                    have g2:=ihl (o + s1.length) q2 (fun f' hf'=>hall f' (by simp [hf'])) hq2
                    rw [hc1.1,← hc1.2] at g1
                    have:=good3_append g1 g2
                    rw [← List.drop_drop,← List.take_add] at this
                    simpa using this
                  · cases hq
                · cases hq
              · cases hq
           have:=key fs.toList 0 q (fun f hf=>by
            obtain ⟨i,hi⟩:=List.getElem?_of_mem hf
            have hi' : fs[i]? = some f:=by simpa using hi
            have h1:=hget i f hi'
            have h2 : i < xs.length:=by have:=(Array.getElem?_eq_some_iff.1 hi').1; omega
            exact ⟨xs[i],by rw [h1]; exact List.getElem?_eq_getElem h2⟩) hq
           rwa [List.drop_zero,hc,← hcl,List.take_length] at this
         · cases hs
       · cases hs
     · cases hs
def FitsT (P : Program) (n : Nat) (t : TypeId) (x : RV) : Prop:=∃ ss,shape P n t = some ss ∧ if aggOf P t then ∃ xs,x = .ag xs ∧ FitsL ss xs else FitsL ss [x]
theorem arg_fits {n : Nat} {t : TypeId} {v : Value} {d : DataW H} {ps : List MemPlace} {r : Reach} {b0 : Nat} (hs : (shape P n t).isSome = true) (hval : Value.okWide P w r b0 t v) (h : DataW.Trod enc P w base spare held t v d ps) :
 ∃ x,FitsT P n t x ∧ x.rel w (old w) v:=by
 obtain ⟨ss,hss⟩:=Option.isSome_iff_exists.1 hs
 obtain ⟨fuel,hf⟩:=h
 obtain ⟨xs,f,r,o⟩:=trod_fits fuel n t _ _ ss hf hss
 have one : aggOf P t = false → v.cells.toList = [v] → ∃ x,FitsT P n t x ∧ x.rel w (old w) v:=fun ha hc=>by
  rw [hc] at r
  match xs,r with
  | [x], r =>
    simp only [RV.relV] at r
    obtain ⟨u,us,e,hr,_⟩:=r
    injection e with e1 e2
    subst e1
    exact ⟨x,⟨ss,hss,by rw [ha]; exact f⟩,hr⟩
  | [],r=>simp [RV.relV] at r
  | _ :: _ :: _, r =>
    simp only [RV.relV] at r
    obtain ⟨u,us,e,_,u2,us2,e2,_⟩:=r
    injection e with _ e
    rw [e2] at e; cases e
 cases n with
 | zero=>simp [shape] at hss
 | succ n =>
   have hss':=hss
   unfold shape at hss'
   split at hss'
   · rename_i k ht
     obtain ⟨m,rfl⟩:=okWide_int ht hval
     exact one (by simp [aggOf,ht]) rfl
   · rename_i ht
     obtain ⟨b,rfl⟩:=okWide_bool ht hval
     exact one (by simp [aggOf,ht]) rfl
   · rename_i e ht
     obtain ⟨a,l,c,rfl⟩:=okWide_slice ht hval
     exact one (by simp [aggOf,ht]) rfl
   · rename_i m e ht
     obtain ⟨cs,rfl⟩ : ∃ cs,v = .agg cs:=by
      simp only [Value.okWide,ht] at hval
      obtain ⟨cs,h1,_⟩:=hval
      exact ⟨cs,h1⟩
     exact ⟨.ag xs,⟨ss,hss,by simp only [aggOf,ht,if_true]; exact ⟨xs,rfl,f⟩⟩,by simp only [RV.rel]; exact ⟨cs,rfl,o,r⟩⟩
   · rename_i fs ht
     obtain ⟨cs,rfl,_⟩:=okWide_struct ht hval
     exact ⟨.ag xs,⟨ss,hss,by simp only [aggOf,ht,if_true]; exact ⟨xs,rfl,f⟩⟩,by simp only [RV.rel]; exact ⟨cs,rfl,o,r⟩⟩
   · cases hss'
theorem wf_i64 {n : Int} (h : (Lit.int .i64 n).wf = true) : -9223372036854775808 ≤ n ∧ n ≤ 9223372036854775807:=by
 simp only [Lit.wf,Bool.and_eq_true,decide_eq_true_eq] at h
 have h1 : IntKind.min .i64 = -9223372036854775808:=by decide
 have h2 : IntKind.max .i64 = 9223372036854775807:=by decide
 rw [h1,h2] at h
 exact h
theorem fitsE_ints : ∀ {es : List (List RV)},FitsE [.int .i64] es → ∃ l : List Int,es = l.map (fun x=>[.it .i64 x]) ∧ ∀ x ∈ l,-9223372036854775808 ≤ x ∧ x ≤ 9223372036854775807
 | [],_=>⟨[],rfl,by simp⟩
 | e :: es, h => by
   simp only [FitsE,FitsL,Fits] at h
   obtain ⟨⟨y,ys,rfl,⟨n,rfl,hn⟩,rfl⟩,h⟩:=h
   obtain ⟨l,rfl,hl⟩:=fitsE_ints h
   refine ⟨n :: l,rfl,fun x hx=>?_⟩
   rcases List.mem_cons.1 hx with rfl | hx
   · exact wf_i64 hn
   · exact hl x hx
theorem fitsT_ag {n : Nat} {t : TypeId} {x : RV} {ss : List Sh} (h : FitsT P n t x) (hs : shape P n t = some ss) (ha : aggOf P t = true) : ∃ xs,x = .ag xs ∧ FitsL ss xs:=by
 obtain ⟨s',h1,h2⟩:=h
 rw [hs] at h1; injection h1 with h1; subst h1
 rw [ha] at h2
 exact h2
theorem fitsT_one {n : Nat} {t : TypeId} {x : RV} {s : Sh} (h : FitsT P n t x) (hs : shape P n t = some [s]) (ha : aggOf P t = false) : Fits s x:=by
 obtain ⟨s',h1,h2⟩:=h
 rw [hs] at h1; injection h1 with h1; subst h1
 rw [ha] at h2
 simp only [Bool.false_eq_true,if_false,FitsL] at h2
 obtain ⟨y,ys,e,h3,_⟩:=h2
 injection e with e1 e2
 subst e1
 exact h3
theorem fitsT_int {n : Nat} {t : TypeId} {x : RV} (h : FitsT P n t x) (hs : shape P n t = some [.int .i64]) (ha : aggOf P t = false) : ∃ m,x = .it .i64 m ∧ -9223372036854775808 ≤ m ∧ m ≤ 9223372036854775807:=by
 have:=fitsT_one h hs ha
 simp only [Fits] at this
 obtain ⟨m,h1,h2⟩:=this
 exact ⟨m,h1,wf_i64 h2⟩
theorem fitsT_ints {n : Nat} {t : TypeId} {x : RV} (h : FitsT P n t x) (hs : shape P n t = some [.sl [.int .i64]]) (ha : aggOf P t = false) : ∃ l : List Int,x = .sl 1 (l.map (fun x=>[.it .i64 x])) ∧ ∀ x ∈ l,-9223372036854775808 ≤ x ∧ x ≤ 9223372036854775807:=by
 have:=fitsT_one h hs ha
 simp only [Fits] at this
 obtain ⟨es,h1,h2⟩:=this
 obtain ⟨l,rfl,hl⟩:=fitsE_ints h2
 exact ⟨l,h1,hl⟩
end
end Go.Oc

namespace Go.Proofs.Ytobokbhpeaakjaa
open Go Go.Oc
theorem wfb {n : Int} (h : (Lit.int .u8 n).wf = true) : ∃ k : Nat,n = k ∧ k < 256:=by
 simp only [Lit.wf,Bool.and_eq_true,decide_eq_true_eq] at h
 have h1 : IntKind.min .u8 = 0:=by decide
 have h2 : IntKind.max .u8 = 255:=by decide
 rw [h1,h2] at h
 obtain ⟨k,hk⟩:=Int.eq_ofNat_of_zero_le h.1
 exact ⟨k,hk,by omega⟩
theorem fitsE_by : ∀ {es : List (List RV)},FitsE [.int .u8] es → ∃ l : List Nat,es = l.map (fun n=>[u8 n]) ∧ ∀ n ∈ l,n < 256
 | [],_=>⟨[],rfl,by simp⟩
 | e :: es, h => by
   simp only [Oc.FitsE,Oc.FitsL,Oc.Fits] at h
   obtain ⟨⟨_,_,rfl,⟨a,rfl,ha⟩,rfl⟩,h⟩:=h
   obtain ⟨l,rfl,hl⟩:=fitsE_by h
   obtain ⟨k,rfl,kk⟩:=wfb ha
   refine ⟨k :: l,rfl,fun x hx=>?_⟩
   rcases List.mem_cons.1 hx with rfl | hx
   · exact kk
   · exact hl x hx
theorem fitsE_by3 : ∀ {es : List (List RV)},FitsE [.int .u8,.int .u8,.int .u8] es → ∃ l : List (Nat × Nat × Nat),es = l.map m3R ∧ ∀ v ∈ l,v.1 < 256 ∧ v.2.1 < 256 ∧ v.2.2 < 256
 | [],_=>⟨[],rfl,by simp⟩
 | e :: es, h => by
   simp only [Oc.FitsE,Oc.FitsL,Oc.Fits] at h
   obtain ⟨⟨_,_,rfl,⟨a,rfl,ha⟩,_,_,rfl,⟨b,rfl,hb⟩,_,_,rfl,⟨c,rfl,hc⟩,rfl⟩,h⟩:=h
   obtain ⟨l,rfl,hl⟩:=fitsE_by3 h
   obtain ⟨a,rfl,ka⟩:=wfb ha
   obtain ⟨b,rfl,kb⟩:=wfb hb
   obtain ⟨c,rfl,kc⟩:=wfb hc
   refine ⟨(a,b,c) :: l,rfl,fun x hx=>?_⟩
   rcases List.mem_cons.1 hx with rfl | hx
   · exact ⟨ka,kb,kc⟩
   · exact hl x hx
theorem fits66 {x : RV} (h : FitsT Try.prog 9 66 x) : ∃ r : Sm,x = smV r ∧ WfS r:=by
 obtain ⟨xs,rfl,hx⟩:=fitsT_ag (ss:=[.int .u8,.int .u8,.int .u8,.int .u8,.int .u8,.int .u8,.sl [.int .u8],.sl [.int .u8,.int .u8,.int .u8],.int .u8]) h (by kernel_rfl) (by kernel_rfl)
 simp only [Oc.FitsL,Oc.Fits] at hx
 obtain ⟨_,_,rfl,⟨a,rfl,ha⟩,_,_,rfl,⟨b,rfl,hb⟩,_,_,rfl,⟨c,rfl,hc⟩,_,_,rfl,⟨d,rfl,hd⟩,_,_,rfl,⟨u,rfl,hu⟩,_,_,rfl,⟨w,rfl,hw⟩,_,_,rfl,⟨es,rfl,hes⟩,_,_,rfl,⟨fs,rfl,hfs⟩,_,_,rfl,⟨q,rfl,hq⟩,rfl⟩:=hx
 obtain ⟨a,rfl,ka⟩:=wfb ha
 obtain ⟨b,rfl,kb⟩:=wfb hb
 obtain ⟨c,rfl,kc⟩:=wfb hc
 obtain ⟨d,rfl,kd⟩:=wfb hd
 obtain ⟨u,rfl,ku⟩:=wfb hu
 obtain ⟨w,rfl,kw⟩:=wfb hw
 obtain ⟨q,rfl,kq⟩:=wfb hq
 obtain ⟨l,rfl,hl⟩:=fitsE_by hes
 obtain ⟨m,rfl,hm⟩:=fitsE_by3 hfs
 exact ⟨⟨a,b,c,d,u,w,l,m,q⟩,rfl,⟨ka,kb,kc,kd,ku,kw,hl,hm,kq⟩⟩
theorem fits5 {x : RV} (h : FitsT Try.prog 9 5 x) : ∃ n : Nat,x = u8 n ∧ n < 256:=by
 have:=fitsT_one (s:=.int .u8) h (by kernel_rfl) (by kernel_rfl)
 simp only [Oc.Fits] at this
 obtain ⟨m,rfl,hm⟩:=this
 obtain ⟨k,rfl,kk⟩:=wfb hm
 exact ⟨k,rfl,kk⟩
theorem fits63 {x : RV} (h : FitsT Try.prog 9 63 x) : ∃ l : List Nat,x = bytesR l ∧ ∀ n ∈ l,n < 256:=by
 have:=fitsT_one (s:=.sl [.int .u8]) h (by kernel_rfl) (by kernel_rfl)
 simp only [Oc.Fits] at this
 obtain ⟨es,rfl,hes⟩:=this
 obtain ⟨l,rfl,hl⟩:=fitsE_by hes
 exact ⟨l,rfl,hl⟩
theorem fits81 {x : RV} (h : FitsT Try.prog 9 81 x) : ∃ a b : Nat,x = .ag [u8 a,u8 b] ∧ a < 256 ∧ b < 256:=by
 obtain ⟨xs,rfl,hx⟩:=fitsT_ag (ss:=[.int .u8,.int .u8]) h (by kernel_rfl) (by kernel_rfl)
 simp only [Oc.FitsL,Oc.Fits] at hx
 obtain ⟨_,_,rfl,⟨a,rfl,ha⟩,_,_,rfl,⟨b,rfl,hb⟩,rfl⟩:=hx
 obtain ⟨a,rfl,ka⟩:=wfb ha
 obtain ⟨b,rfl,kb⟩:=wfb hb
 exact ⟨a,b,rfl,ka,kb⟩
end Go.Proofs.Ytobokbhpeaakjaa

namespace Go.Oc
open Go Go.RowKit
theorem wf_u8 {n : Int} (h : (Lit.int .u8 n).wf = true) : 0 ≤ n ∧ n ≤ 255:=by
 simp only [Lit.wf,Bool.and_eq_true,decide_eq_true_eq] at h
 have h1 : IntKind.min .u8 = 0:=by decide
 have h2 : IntKind.max .u8 = 255:=by decide
 rw [h1,h2] at h
 exact h
theorem wf_u16 {n : Int} (h : (Lit.int .u16 n).wf = true) : 0 ≤ n ∧ n ≤ 65535:=by
 simp only [Lit.wf,Bool.and_eq_true,decide_eq_true_eq] at h
 have h1 : IntKind.min .u16 = 0:=by decide
 have h2 : IntKind.max .u16 = 65535:=by decide
 rw [h1,h2] at h
 exact h
theorem wf_u32 {n : Int} (h : (Lit.int .u32 n).wf = true) : 0 ≤ n ∧ n ≤ 4294967295:=by
 simp only [Lit.wf,Bool.and_eq_true,decide_eq_true_eq] at h
 have h1 : IntKind.min .u32 = 0:=by decide
 have h2 : IntKind.max .u32 = 4294967295:=by decide
 rw [h1,h2] at h
 exact h
theorem fitsE_u8 : ∀ {es : List (List RV)},FitsE [.int .u8] es → ∃ l : List Int,es = l.map (fun x=>[.it .u8 x]) ∧ ∀ x ∈ l,0 ≤ x ∧ x ≤ 255
 | [],_=>⟨[],rfl,by simp⟩
 | e :: es, h => by
   simp only [FitsE,FitsL,Fits] at h
   obtain ⟨⟨y,ys,rfl,⟨n,rfl,hn⟩,rfl⟩,h⟩:=h
   obtain ⟨l,rfl,hl⟩:=fitsE_u8 h
   refine ⟨n :: l,rfl,fun x hx=>?_⟩
   rcases List.mem_cons.1 hx with rfl | hx
   · exact wf_u8 hn
   · exact hl x hx
theorem fitsE_u16 : ∀ {es : List (List RV)},FitsE [.int .u16] es → ∃ l : List Int,es = l.map (fun x=>[.it .u16 x]) ∧ ∀ x ∈ l,0 ≤ x ∧ x ≤ 65535
 | [],_=>⟨[],rfl,by simp⟩
 | e :: es, h => by
   simp only [FitsE,FitsL,Fits] at h
   obtain ⟨⟨y,ys,rfl,⟨n,rfl,hn⟩,rfl⟩,h⟩:=h
   obtain ⟨l,rfl,hl⟩:=fitsE_u16 h
   refine ⟨n :: l,rfl,fun x hx=>?_⟩
   rcases List.mem_cons.1 hx with rfl | hx
   · exact wf_u16 hn
   · exact hl x hx
end Go.Oc

namespace Go.Proofs.Ytobokbhpeaakjaa
open Go Go.Oc
theorem law3' {x0 x1 : RV} (h0 : FitsT Try.prog 9 5 x0) (h1 : FitsT Try.prog 9 5 x1) : ACalls Try.prog 3 [x0,x1] (.bo true):=by
 obtain ⟨s,rfl,hs⟩:=fits5 h0
 obtain ⟨f,rfl,hf⟩:=fits5 h1
 exact knocks_law s f hs hf
end Go.Proofs.Ytobokbhpeaakjaa


namespace Go.Proofs.Ytobokbhpeaakjaa
open Go Go.Oc Go.ChangeShapes Go.WideShapes Go.RowKit
set_option linter.unusedVariables false
theorem own : ownKnob Try.prog.godebug = none := by kernel_rfl
theorem laidOut : laidOutB Try.prog = true := by kernel_rfl
set_option maxRecDepth 100000 in
theorem lifted (os : Os) (started : os.Started) (H : Type) (enc : TypeId × Value → H) :
    ReturnsInHanded {} Try.checked os 3 .any (Rows.topKnockBracketSpec.pre6 enc Try.prog Try.f3 Rows.topKnockBracketRow.domain false) (Rows.topKnockBracketSpec.post enc Try.prog Try.f3 false true false false) := by
  refine returnsInHanded_of_change (C := Try.checked) own started (by kernel_rfl) Try.func3
    (ChangeSpec.witness6 (enc := enc) (C := Try.checked) false ⟨#[], #[.int .u8 0, .int .u8 0], []⟩ 8 (by kernel_rfl) (by kernel_rfl) (by kernel_rfl) (by kernel_rfl)) ?_
  intro W base args ds gs before hval0 hW hcnd _
  have hval : ∀ (j : Nat) t v, Try.f3.params[j]? = some t → args[j]? = some v → Value.okWide Try.prog W .any base t v := hval0
  have hW' := hW
  obtain ⟨p, q, hA0, hV, rfl, hfz, hnd⟩ := hW
  have hA : DataW.TrodAll enc Try.prog W 0 (fun _ => true) true Try.f3.params.toList args.toList ds p := hA0
  rw [Try.params3] at hA hval
  obtain ⟨v0, vs0, d0, ds0, p0, q0, hargs, rfl, rfl, h0, r0⟩ := trodAll_cons hA
  obtain ⟨v1, vs1, d1, ds1, p1, q1, rfl, rfl, rfl, h1, r1⟩ := trodAll_cons r0
  obtain ⟨rfl, rfl, rfl⟩ := trodAll_nil r1
  obtain rfl : args = #[v0, v1] := by cases args; simp_all
  obtain ⟨rfl, rfl⟩ := trodVars_none hV
  have lt0 : ∀ x ∈ p0, x.block < W.heap.size := by obtain ⟨m, hm⟩ := h0; exact DataW.trod_lt m _ _ _ hm
  have lt1 : ∀ x ∈ p1, x.block < W.heap.size := by obtain ⟨m, hm⟩ := h1; exact DataW.trod_lt m _ _ _ hm
  obtain ⟨x0, g0, e0⟩ := arg_fits (n := 9) (by kernel_rfl) (hval 0 5 v0 rfl rfl) h0
  obtain ⟨x1, g1, e1⟩ := arg_fits (n := 9) (by kernel_rfl) (hval 1 5 v1 rfl rfl) h1
  clear hA0 hval0
  refine ((law3' g0 g1).2 W (old W) #[v0, v1] (fun _ h => h) (by simp only [RV.relV]; exact ⟨_, _, rfl, e0, _, _, rfl, e1, rfl⟩)).mono fun e W' he => ?_
  obtain ⟨v, R', rfl, bel, _, _, _, hr⟩ := he
  simp only [RV.rel] at hr
  subst hr
  exact ⟨_, rfl, _, _, _, [], _, [], hW', trodAll_mk1 (shut_bool Try.underlying4 _), (trodAll_cons_mk (Below.trod laidOut (by kernel_rfl) (of_decide_eq_true (by kernel_rfl)) h0 bel lt0) (trodAll_cons_mk (Below.trod laidOut (by kernel_rfl) (of_decide_eq_true (by kernel_rfl)) h1 bel lt1) trodAll_mk0)), rfl, bel.frame _, fun h => by cases h⟩
theorem over : Rows.topKnockBracketRow.holds Try.pinned (OpenSpec.ofChange Rows.topKnockBracketSpec) :=
  OpenClaim.holds_of_wide 3 Try.f3 rfl rfl rfl rfl rfl rfl rfl ⟨rfl, rfl, rfl, rfl, rfl⟩ rfl rfl rfl rfl rfl (by kernel_rfl) Try.func3 (by kernel_rfl)
    (of_decide_eq_true (by kernel_rfl)) (by unfold Func.isWrapper; first | (rw [if_pos (by decide +kernel)]; kernel_rfl) | (rw [if_neg (by decide +kernel)]; exact ⟨rfl, rfl⟩))
    (fun os started H enc _ => lifted os started H enc)
theorem topKnockBracket_holds : Rows.TopKnockBracketSaid := over
#print axioms topKnockBracket_holds
end Go.Proofs.Ytobokbhpeaakjaa
