/- Part 8 of the texts of this claim. -/
import Derived.Test.YtgkejinoaommeaaVB7
namespace Go.Proofs.Ytgkejinoaommeaa
open Go Go.Oc
set_option linter.unusedSimpArgs false
set_option linter.unusedVariables false
set_option maxRecDepth 8000
def BedsOk (beds : List Int) : Prop:=beds.length ≤ 10 ∧ ∀ b ∈ beds,0 ≤ b ∧ b ≤ 499
def tally3 (i k m : Nat) : List Int:=incT (incT (incT zeroT i) k) m
def cell3 (beds : List Int) (n : Int) (i k m : Nat) : List (List Int) :=
 if scoreOf (beds.getD i 0) + scoreOf (beds.getD k 0) + scoreOf (beds.getD m 0) = n then [tally3 i k m] else []
def rowM (beds : List Int) (n : Int) (i k m : Nat) : List (List Int):=((List.range beds.length).drop m).flatMap (cell3 beds n i k)
def rowK (beds : List Int) (n : Int) (i k : Nat) : List (List Int):=((List.range beds.length).drop k).flatMap fun k=>rowM beds n i k k
def rowI (beds : List Int) (n : Int) (i : Nat) : List (List Int):=((List.range beds.length).drop i).flatMap fun i=>rowK beds n i i
def threeT (beds : List Int) (n : Int) : List (List Int):=rowI beds n 0
theorem range_drop {N m : Nat} (h : m < N) : (List.range N).drop m = m :: (List.range N).drop (m + 1):=drop_of_opt (by simp [h])
theorem rowM_step {beds : List Int} {n : Int} {i k m : Nat} (h : m < beds.length) : rowM beds n i k m = cell3 beds n i k m ++ rowM beds n i k (m + 1):=by
 unfold rowM; rw [range_drop h,List.flatMap_cons]
theorem rowK_step {beds : List Int} {n : Int} {i k : Nat} (h : k < beds.length) : rowK beds n i k = rowM beds n i k k ++ rowK beds n i (k + 1):=by
 unfold rowK; rw [range_drop h,List.flatMap_cons]
theorem rowI_step {beds : List Int} {n : Int} {i : Nat} (h : i < beds.length) : rowI beds n i = rowK beds n i i ++ rowI beds n (i + 1):=by
 unfold rowI; rw [range_drop h,List.flatMap_cons]
theorem rowM_end {beds : List Int} {n : Int} {i k m : Nat} (h : beds.length ≤ m) : rowM beds n i k m = []:=by
 unfold rowM; rw [List.drop_of_length_le (by simpa using h)]; rfl
theorem rowK_end {beds : List Int} {n : Int} {i k : Nat} (h : beds.length ≤ k) : rowK beds n i k = []:=by
 unfold rowK; rw [List.drop_of_length_le (by simpa using h)]; rfl
theorem rowI_end {beds : List Int} {n : Int} {i : Nat} (h : beds.length ≤ i) : rowI beds n i = []:=by
 unfold rowI; rw [List.drop_of_length_le (by simpa using h)]; rfl
theorem incT_eq {t : List Int} {i : Nat} {x : Int} (h : t[i]? = some x) : incT t i = t.set i (x + 1):=by simp [incT,List.getD_eq_getElem?_getD,h]
theorem tally3_small (i k m : Nat) : SmallT 3 (tally3 i k m):=by
 have h0 : SmallT 0 zeroT:=zeroT_small (by omega)
 have h1:=incT_small (i:=i) h0 (by omega)
 have h2:=incT_small (i:=k) h1 (by omega)
 exact incT_small (i:=m) h2 (by omega)
theorem threeT_small {beds : List Int} {n : Int} : ∀ t ∈ threeT beds n,SmallT 3 t:=fun t ht=>by
 unfold threeT rowI at ht
 obtain ⟨i,_,ht⟩:=List.mem_flatMap.1 ht
 unfold rowK at ht
 obtain ⟨k,_,ht⟩:=List.mem_flatMap.1 ht
 unfold rowM at ht
 obtain ⟨m,_,ht⟩:=List.mem_flatMap.1 ht
 unfold cell3 at ht
 split at ht
 · rw [List.mem_singleton.1 ht]; exact tally3_small i k m
 · cases ht
abbrev yl1 (l : List (List Int)) : List (List RV):=l.map fun t=>[.ag (tR t)]
theorem three1_ok (beds le mo : List Int) (n : Int) (hb : BedsOk beds) : ICalls Try.prog true 94 [.rp [.rp (sheetR beds le mo)],.rp [i64 n]] (yl1 (threeT beds n)):=by
 have hlen:=hb.1
 refine icalls_st Try.func94 rfl (by kernel_rfl) Try.ntmps94 rfl (by simp) fun C ll=>?_
 repeat refine zq ?_
 refine zb (by kernel_rfl) fun K hK=>?_
 simp only [go_sem,argL]
 (try simp (disch:=omega) only [zI])
 intros
 repeat first | intro _ | refine ⟨by omega,?_⟩ | refine ⟨⟨by omega,by omega⟩,?_⟩
 refine hK _ ?_
 clear hK K
 refine zw (zk [0,1,2,14,15,16]) ?_
 simp only [go_sem]
 repeat refine zq ?_
 refine zd ?_
 refine awp_upto (n:=85) beds.length (fun i vs=>[(0,.r (.yl ll)),(1,.r (.rp [.rp (sheetR beds le mo)])),(2,.r (.rp [i64 n])),(14,.r (ints beds)),(15,.r (i64 beds.length)),(16,.r (i64 i))])
  (fun i=>[(999,.gh Try.prog ll true (some (yl1 (rowI beds n i))))]) (fun _=>True) 0 (fit_of [] ?_ ?_) (Nat.zero_le _) trivial ?_
 · try simp only [go_sem]
 · try simp only [go_sem]
   rfl
 · intro i vs hi _
   repeat refine zq ?_
   refine zb (by kernel_rfl) fun K hK=>?_
   simp only [go_sem]
   (try simp (disch:=omega) only [zI])
   repeat first | intro _ | refine ⟨by omega,?_⟩ | refine ⟨⟨by omega,by omega⟩,?_⟩
   refine hK _ ?_
   clear hK K
   refine zw (zk [0,1,2,14,15,16,17]) ?_
   simp only [go_sem]
   repeat refine zq ?_
   refine zc rfl (fun hc=>?_) (fun hc=>?_) <;> (try simp only [go_sem] at hc)
   · have hci:=hc
     obtain ⟨a,ha⟩:=opt_of_lt hci
     have hs1:=rowI_step (n:=n) hci
     refine zx ?_
     try simp only [go_sem]
     repeat refine zq ?_
     refine zd ?_
     repeat refine zq ?_
     refine zb (by kernel_rfl) fun K hK=>?_
     simp only [go_sem,ha,hci]
     (try simp (disch:=omega) only [zI])
     repeat first | intro _ | refine ⟨by omega,?_⟩ | refine ⟨⟨by omega,by omega⟩,?_⟩
     refine hK _ ?_
     clear hK K
     refine zw (zk [0,1,2,4,5,14,15,16]) ?_
     simp only [go_sem]
     repeat refine zq ?_
     refine zb (by kernel_rfl) fun K hK=>?_
     simp only [go_sem]
     (try simp (disch:=omega) only [zI])
     intros
     refine ⟨by omega,?_⟩
     repeat first | intro _ | refine ⟨by omega,?_⟩ | refine ⟨⟨by omega,by omega⟩,?_⟩
     refine hK _ ?_
     clear hK K
     refine zw (zk [0,1,2,4,5,14,15,16,26,27,28]) ?_
     simp only [go_sem]
     have hdm : List.drop i (beds.map fun x=>[RV.it IntKind.i64 x]) = (beds.drop i).map fun x=>[RV.it IntKind.i64 x]:=List.map_drop.symm
     have hdl : (beds.drop i).length = beds.length - i:=List.length_drop
     rw [hdm,hs1]
     repeat refine zq ?_
     refine zd ?_
     refine awp_upto (n:=85) (beds.length - i) (fun k vs=>[(0,.r (.yl ll)),(1,.r (.rp [.rp (sheetR beds le mo)])),(2,.r (.rp [i64 n])),(4,.r (i64 i)),(5,.r (i64 a)),(14,.r (ints beds)),(15,.r (i64 beds.length)),(16,.r (i64 i)),(26,.r (ints (beds.drop i))),(27,.r (i64 ((beds.length - i : Nat) : Int))),(28,.r (i64 k))])
      (fun k=>[(999,.gh Try.prog ll true (some (yl1 (rowK beds n i (i + k) ++ rowI beds n (i + 1)))))]) (fun _=>True) 0 (fit_of [] ?_ ?_) (Nat.zero_le _) trivial ?_
     · try simp only [go_sem]
     · try simp only [go_sem]
     · intro k vs hk _
       repeat refine zq ?_
       refine zb (by kernel_rfl) fun K hK=>?_
       simp only [go_sem]
       (try simp (disch:=omega) only [zI])
       repeat first | intro _ | refine ⟨by omega,?_⟩ | refine ⟨⟨by omega,by omega⟩,?_⟩
       refine hK _ ?_
       clear hK K
       refine zw (zk [0,1,2,4,5,14,15,16,26,27,28,29]) ?_
       simp only [go_sem]
       repeat refine zq ?_
       refine zc rfl (fun hc=>?_) (fun hc=>?_) <;> (try simp only [go_sem] at hc)
       · have hck : k < beds.length - i:=by first | exact hc | omega
         have hkl : i + k < beds.length:=by omega
         obtain ⟨b,hbx⟩:=opt_of_lt hkl
         have hbd : (beds.drop i)[k]? = some b:=by rw [List.getElem?_drop]; exact hbx
         have hkd : k < (beds.drop i).length:=by omega
         have hs2:=rowK_step (n:=n) (i:=i) hkl
         refine zx ?_
         try simp only [go_sem]
         repeat refine zq ?_
         refine zd ?_
         repeat refine zq ?_
         refine zb (by kernel_rfl) fun K hK=>?_
         simp only [go_sem,hbd,hkd]
         (try simp (disch:=omega) only [zI])
         repeat first | intro _ | refine ⟨by omega,?_⟩ | refine ⟨⟨by omega,by omega⟩,?_⟩
         refine hK _ ?_
         clear hK K
         refine zw (zk [0,1,2,4,5,6,7,14,15,16,26,27,28]) ?_
         simp only [go_sem]
         repeat refine zq ?_
         refine zb (by kernel_rfl) fun K hK=>?_
         simp only [go_sem]
         (try simp (disch:=omega) only [zI])
         intros
         refine ⟨by omega,?_⟩
         repeat first | intro _ | refine ⟨by omega,?_⟩ | refine ⟨⟨by omega,by omega⟩,?_⟩
         refine hK _ ?_
         clear hK K
         refine zw (zk [0,1,2,4,5,6,7,14,15,16,26,27,28,40,41,42]) ?_
         simp only [go_sem]
         have htn : ((i : Int) + (k : Int)).toNat = i + k:=by omega
         have hdm2 : List.drop (i + k) (beds.map fun x=>[RV.it IntKind.i64 x]) = (beds.drop (i + k)).map fun x=>[RV.it IntKind.i64 x]:=List.map_drop.symm
         have hdl2 : (beds.drop (i + k)).length = beds.length - (i + k):=List.length_drop
         rw [htn,hdm2,hs2]
         repeat refine zq ?_
         refine zd ?_
         refine awp_upto (n:=85) (beds.length - (i + k)) (fun m vs=>[(0,.r (.yl ll)),(1,.r (.rp [.rp (sheetR beds le mo)])),(2,.r (.rp [i64 n])),(4,.r (i64 i)),(5,.r (i64 a)),(6,.r (i64 k)),(7,.r (i64 b)),(14,.r (ints beds)),(15,.r (i64 beds.length)),(16,.r (i64 i)),(26,.r (ints (beds.drop i))),(27,.r (i64 ((beds.length - i : Nat) : Int))),(28,.r (i64 k)),(40,.r (ints (beds.drop (i + k)))),(41,.r (i64 ((beds.length - (i + k) : Nat) : Int))),(42,.r (i64 m))])
          (fun m=>[(999,.gh Try.prog ll true (some (yl1 (rowM beds n i (i + k) (i + k + m) ++ (rowK beds n i (i + k + 1) ++ rowI beds n (i + 1))))))]) (fun _=>True) 0 (fit_of [] ?_ ?_) (Nat.zero_le _) trivial ?_
         · try simp only [go_sem]
         · try simp only [go_sem]
           simp [List.append_assoc]
         · intro m vs hm _
           repeat refine zq ?_
           refine zb (by kernel_rfl) fun K hK=>?_
           simp only [go_sem]
           (try simp (disch:=omega) only [zI])
           repeat first | intro _ | refine ⟨by omega,?_⟩ | refine ⟨⟨by omega,by omega⟩,?_⟩
           refine hK _ ?_
           clear hK K
           refine zw (zk [0,1,2,4,5,6,7,14,15,16,26,27,28,40,41,42,43]) ?_
           simp only [go_sem]
           repeat refine zq ?_
           refine zc rfl (fun hc=>?_) (fun hc=>?_) <;> (try simp only [go_sem] at hc)
           · have hcm : m < beds.length - (i + k):=by first | exact hc | omega
             have hml : i + k + m < beds.length:=by omega
             obtain ⟨c,hcx⟩:=opt_of_lt hml
             have hcd : (beds.drop (i + k))[m]? = some c:=by rw [List.getElem?_drop]; exact hcx
             have hmd : m < (beds.drop (i + k)).length:=by omega
             have hs3:=rowM_step (n:=n) (i:=i) (k:=i + k) hml
             have ba:=hb.2 a (mem_of_opt ha)
             have bb:=hb.2 b (mem_of_opt hbx)
             have bc:=hb.2 c (mem_of_opt hcx)
             have sa:=score_le ba.1 ba.2
             have sb:=score_le bb.1 bb.2
             have sc:=score_le bc.1 bc.2
             have hcell : cell3 beds n i (i + k) (i + k + m) = if scoreOf a + scoreOf b + scoreOf c = n then [tally3 i (i + k) (i + k + m)] else []:=by
              unfold cell3
              simp only [List.getD_eq_getElem?_getD,ha,hbx,hcx,Option.getD_some]
             rw [hs3,hcell]
             refine zx ?_
             try simp only [go_sem]
             repeat refine zq ?_
             refine zd ?_
             repeat refine zq ?_
             refine zb (by kernel_rfl) fun K hK=>?_
             simp only [go_sem,hcd,hmd]
             (try simp (disch:=omega) only [zI])
             repeat first | intro _ | refine ⟨by omega,?_⟩ | refine ⟨⟨by omega,by omega⟩,?_⟩
             refine hK _ ?_
             clear hK K
             refine zw (zk [0,1,2,4,5,6,7,8,9,14,15,16,26,27,28,40,41,42]) ?_
             simp only [go_sem]
             repeat refine zq ?_
             refine zg follows (by decide +kernel) (by kernel_rfl) fun K hK=>?_
             simp only [go_sem]
             (try simp (disch:=omega) only [zI])
             refine zh (score_ok a ba.1 ba.2) rfl (by simp only [go_sem,i64,ints]) (by simp only [go_sem,i64,ints]) (by first | exact .inl rfl | exact .inr rfl) ?_
             (try simp only [go_sem])
             (try simp (disch:=omega) only [zI])
             refine zh (score_ok b bb.1 bb.2) rfl (by simp only [go_sem,i64,ints]) (by simp only [go_sem,i64,ints]) (by first | exact .inl rfl | exact .inr rfl) ?_
             (try simp only [go_sem])
             (try simp (disch:=omega) only [zI])
             refine zh (score_ok c bc.1 bc.2) rfl (by simp only [go_sem,i64,ints]) (by simp only [go_sem,i64,ints]) (by first | exact .inl rfl | exact .inr rfl) ?_
             (try simp only [go_sem])
             (try simp (disch:=omega) only [zI])
             repeat first | intro _ | refine ⟨by omega,?_⟩ | refine ⟨⟨by omega,by omega⟩,?_⟩
             refine hK _ ?_
             clear hK K
             refine zw (zk [0,1,2,4,5,6,7,8,9,14,15,16,26,27,28,40,41,42,56]) ?_
             simp only [go_sem]
             by_cases hsum : scoreOf a + scoreOf b + scoreOf c = n
             · have e1 : (scoreOf a + scoreOf b + scoreOf c != n) = false:=by simp [hsum]
               rw [e1,if_pos hsum]
               repeat refine zq ?_
               refine zc rfl (fun hc=>?_) (fun hc=>?_) <;> (try simp only [go_sem] at hc)
               refine zx ?_
               try simp only [go_sem]
               repeat refine zq ?_
               refine zb (by kernel_rfl) fun K hK=>?_
               simp only [go_sem]
               (try simp (disch:=omega) only [zI])
               repeat first | intro _ | refine ⟨by omega,?_⟩ | refine ⟨⟨by omega,by omega⟩,?_⟩
               refine hK _ ?_
               clear hK K
               refine zw (zk [0,1,2,4,5,6,7,8,9,10,14,15,16,26,27,28,40,41,42]) ?_
               simp only [go_sem]
               have ez : ([AV.r (RV.it IntKind.i64 0),AV.r (RV.it IntKind.i64 0),AV.r (RV.it IntKind.i64 0),AV.r (RV.it IntKind.i64 0),AV.r (RV.it IntKind.i64 0),AV.r (RV.it IntKind.i64 0),AV.r (RV.it IntKind.i64 0),AV.r (RV.it IntKind.i64 0),AV.r (RV.it IntKind.i64 0),AV.r (RV.it IntKind.i64 0)] : List AV) = tA zeroT:=rfl
               have smx : SmallT 0 zeroT:=zeroT_small (by omega)
               have smy : SmallT 1 (incT zeroT i):=incT_small smx (by omega)
               have smz : SmallT 2 (incT (incT zeroT i) (i + k)):=incT_small smy (by omega)
               have smw : SmallT 3 (tally3 i (i + k) (i + k + m)):=tally3_small _ _ _
               have q0:=smx.1
               have q1:=smy.1
               have q2:=smz.1
               have q3:=smw.1
               have htn3 : ((i : Int) + (k : Int) + (m : Int)).toNat = i + k + m:=by omega
               have wk1 : IntKind.i64.wrap ((i : Int) + (k : Int)) = ((i + k : Nat) : Int):=by rw [zI] <;> omega
               have wk2 : IntKind.i64.wrap (((i + k : Nat) : Int) + (m : Int)) = ((i + k + m : Nat) : Int):=by rw [zI] <;> omega
               rw [ez]
               obtain ⟨x,hx⟩:=opt_of_lt (l:=zeroT) (i:=i) (by omega)
               have ix : incT zeroT (i) = (zeroT).set (i) (x + 1):=incT_eq hx
               have gx:=smx.2 x (mem_of_opt hx)
               have dx:=tA_drop hx
               have sx:=tA_set (t:=zeroT) (i:=i) (y:=x + 1) (by omega)
               have lx:=tA_len (zeroT)
               rw [← ix] at sx
               repeat refine zq ?_
               refine zb (by kernel_rfl) fun K hK=>?_
               simp only [go_sem,Nat.mul_one,dx,lx,List.headD_cons,List.length_cons]
               (try simp (disch:=omega) only [zI])
               repeat first | intro _ | refine ⟨by omega,?_⟩ | refine ⟨⟨by omega,by omega⟩,?_⟩
               refine hK _ ?_
               clear hK K
               rw [sx]
               refine zw (zk [0,1,2,4,5,6,7,8,9,10,14,15,16,26,27,28,40,41,42]) ?_
               simp only [go_sem]
               obtain ⟨y,hy⟩:=opt_of_lt (l:=incT zeroT i) (i:=i + k) (by omega)
               have iy : incT (incT zeroT i) (i + k) = (incT zeroT i).set (i + k) (y + 1):=incT_eq hy
               have gy:=smy.2 y (mem_of_opt hy)
               have dy:=tA_drop hy
               have sy:=tA_set (t:=incT zeroT i) (i:=i + k) (y:=y + 1) (by omega)
               have ly:=tA_len (incT zeroT i)
               rw [← iy] at sy
               repeat refine zq ?_
               refine zb (by kernel_rfl) fun K hK=>?_
               simp only [go_sem,Nat.mul_one]
               (try simp (disch:=omega) only [zI])
               simp only [go_sem,Nat.mul_one,htn,dy,ly,List.headD_cons,List.length_cons]
               (try simp (disch:=omega) only [zI])
               (try simp only [go_sem,Nat.mul_one,htn,dy,ly,List.headD_cons,List.length_cons])
               repeat first | intro _ | refine ⟨by omega,?_⟩ | refine ⟨⟨by omega,by omega⟩,?_⟩
               refine hK _ ?_
               clear hK K
               rw [sy]
               refine zw (zk [0,1,2,4,5,6,7,8,9,10,14,15,16,26,27,28,40,41,42]) ?_
               simp only [go_sem]
               obtain ⟨z,hz⟩:=opt_of_lt (l:=incT (incT zeroT i) (i + k)) (i:=i + k + m) (by omega)
               have iz : incT (incT (incT zeroT i) (i + k)) (i + k + m) = (incT (incT zeroT i) (i + k)).set (i + k + m) (z + 1):=incT_eq hz
               have gz:=smz.2 z (mem_of_opt hz)
               have dz:=tA_drop hz
               have sz:=tA_set (t:=incT (incT zeroT i) (i + k)) (i:=i + k + m) (y:=z + 1) (by omega)
               have lz:=tA_len (incT (incT zeroT i) (i + k))
               rw [← iz] at sz
               repeat refine zq ?_
               refine zb (by kernel_rfl) fun K hK=>?_
               simp only [go_sem,Nat.mul_one]
               (try simp (disch:=omega) only [zI])
               simp only [go_sem,Nat.mul_one,htn3,dz,lz,List.headD_cons,List.length_cons]
               (try simp (disch:=omega) only [zI])
               (try simp only [go_sem,Nat.mul_one,htn3,dz,lz,List.headD_cons,List.length_cons])
               repeat first | intro _ | refine ⟨by omega,?_⟩ | refine ⟨⟨by omega,by omega⟩,?_⟩
               refine hK _ ?_
               clear hK K
               rw [sz]
               refine zw (zk [0,1,2,4,5,6,7,8,9,10,14,15,16,26,27,28,40,41,42]) ?_
               simp only [go_sem]
               have et : incT (incT (incT zeroT i) (i + k)) (i + k + m) = tally3 i (i + k) (i + k + m):=rfl
               rw [et]
               generalize hT : tally3 i (i + k) (i + k + m) = T at *
               have htk : List.take 10 (tR T) = tR T:=List.take_of_length_le (by rw [List.length_map,q3]; exact Nat.le_refl _)
               have htl : (tR T).length = 10:=by rw [List.length_map,q3]
               refine zw (sub_frzP 10 10 (tR T) (by omega) rfl rfl) ?_
               try simp only [go_sem]
               repeat refine zq ?_
               refine zb (by kernel_rfl) fun K hK=>?_
               simp only [go_sem,htk,htl,Nat.le_refl]
               (try simp (disch:=omega) only [zI])
               refine xcall_yield (z:=true) (e:=[.ag (tR T)]) (rest:=yl1 (rowM beds n i (i + k) (i + k + m + 1) ++ (rowK beds n i (i + k + 1) ++ rowI beds n (i + 1)))) (by simp only [go_sem]) rfl (by simp only [go_sem]) (.inl (by simp only [RV.flatL,RV.flatB,flat_tR,Bool.and_self])) ?_ ?_
               · simp only [go_sem]
                 repeat first | intro _ | refine ⟨by omega,?_⟩ | refine ⟨⟨by omega,by omega⟩,?_⟩
                 refine hK _ ?_
                 clear hK K
                 refine zw (zk [0,1,2,4,5,6,7,14,15,16,26,27,28,40,41,42,81]) ?_
                 simp only [go_sem]
                 repeat refine zq ?_
                 refine zc rfl (fun hc=>?_) (fun hc=>?_) <;> (try simp only [go_sem] at hc)
                 refine zx ?_
                 try simp only [go_sem]
                 repeat refine zq ?_
                 refine zb (by kernel_rfl) fun K hK=>?_
                 simp only [go_sem]
                 (try simp (disch:=omega) only [zI])
                 repeat first | intro _ | refine ⟨by omega,?_⟩ | refine ⟨⟨by omega,by omega⟩,?_⟩
                 refine hK _ ?_
                 clear hK K
                 try simp only [go_sem]
                 refine ⟨hcm,fit_of [] ?_ ?_⟩
                 · try simp only [go_sem]
                 · try simp only [go_sem]
                   simp [Nat.add_assoc]
               · simp only [go_sem]
                 repeat first | intro _ | refine ⟨by omega,?_⟩ | refine ⟨⟨by omega,by omega⟩,?_⟩
                 refine hK _ ?_
                 clear hK K
                 refine zw (zk [81]) ?_
                 simp only [go_sem]
                 repeat refine zq ?_
                 refine zc rfl (fun hc=>?_) (fun hc=>?_) <;> (try simp only [go_sem] at hc)
                 refine ze ?_
                 simp only [go_sem]
                 exact ⟨_,_,.inr rfl⟩
             · have e1 : (scoreOf a + scoreOf b + scoreOf c != n) = true:=by simp [hsum]
               rw [e1,if_neg hsum]
               repeat refine zq ?_
               refine zc rfl (fun hc=>?_) (fun hc=>?_) <;> (try simp only [go_sem] at hc)
               refine zf ?_
               simp only [go_sem]
               repeat refine zq ?_
               refine zb (by kernel_rfl) fun K hK=>?_
               simp only [go_sem]
               (try simp (disch:=omega) only [zI])
               repeat first | intro _ | refine ⟨by omega,?_⟩ | refine ⟨⟨by omega,by omega⟩,?_⟩
               refine hK _ ?_
               clear hK K
               try simp only [go_sem]
               refine ⟨hcm,fit_of [] ?_ ?_⟩
               · try simp only [go_sem]
               · try simp only [go_sem]
                 simp [Nat.add_assoc]
           · have hme : m = beds.length - (i + k):=by omega
             refine zf ?_
             simp only [go_sem]
             rw [rowM_end (m:=i + k + m) (by omega)]
             repeat refine zq ?_
             refine zb (by kernel_rfl) fun K hK=>?_
             simp only [go_sem]
             (try simp (disch:=omega) only [zI])
             repeat first | intro _ | refine ⟨by omega,?_⟩ | refine ⟨⟨by omega,by omega⟩,?_⟩
             refine hK _ ?_
             clear hK K
             try simp only [go_sem]
             refine ⟨hck,fit_of [] ?_ ?_⟩
             · try simp only [go_sem]
             · try simp only [go_sem]
               simp [Nat.add_assoc]
       · have hke : k = beds.length - i:=by omega
         refine zf ?_
         simp only [go_sem]
         rw [rowK_end (k:=i + k) (by omega)]
         repeat refine zq ?_
         refine zb (by kernel_rfl) fun K hK=>?_
         simp only [go_sem]
         (try simp (disch:=omega) only [zI])
         repeat first | intro _ | refine ⟨by omega,?_⟩ | refine ⟨⟨by omega,by omega⟩,?_⟩
         refine hK _ ?_
         clear hK K
         try simp only [go_sem]
         refine ⟨hci,fit_of [] ?_ ?_⟩
         · try simp only [go_sem]
         · try simp only [go_sem]
   · refine zf ?_
     simp only [go_sem]
     rw [rowI_end (by omega)]
     exact ⟨_,_,.inl rfl⟩
end Go.Proofs.Ytgkejinoaommeaa

namespace Go.Proofs.Ytgkejinoaommeaa
open Go Go.Oc
set_option linter.unusedSimpArgs false
set_option linter.unusedVariables false
set_option maxRecDepth 8000
def truthsK (beds ds : List Int) : List (List Int):=match tallyK beds zeroT ds with | some t=>[t] | none=>[]
theorem knownXs_eq (beds ds : List Int) : knownXs beds ds = yl1 (truthsK beds ds):=by
 unfold knownXs truthsK
 cases tallyK beds zeroT ds <;> rfl
theorem tallyK_small {beds : List Int} : ∀ {ds t r : List Int} {b : Int},tallyK beds t ds = some r → 0 ≤ b → SmallT b t → SmallT (b + ds.length) r
 | [], t, r, b, h, hb, hs => by
   simp only [tallyK,Option.some.injEq] at h
   subst h
   simpa using hs
 | d :: ds, t, r, b, h, hb, hs => by
   rw [tallyK] at h
   split at h
   · cases h
   · have:=tallyK_small h (by omega) (incT_small (i:=(atE beds d).toNat) hs hb)
     rw [List.length_cons]
     have e : b + 1 + (ds.length : Int) = b + ((ds.length + 1 : Nat) : Int):=by omega
     rwa [e] at this
theorem truthsK_small {beds ds : List Int} (h : ds.length = 3) : ∀ t ∈ truthsK beds ds,SmallT 3 t:=fun t ht=>by
 unfold truthsK at ht
 cases e : tallyK beds zeroT ds with
 | none=>rw [e] at ht; cases ht
 | some r =>
   rw [e] at ht
   rw [List.mem_singleton.1 ht]
   have:=tallyK_small e (by omega) (zeroT_small (b:=0) (by omega))
   rw [h] at this
   exact this
def truthsV (beds ds : List Int) (n : Int) : List (List Int):=if ds = [] then threeT beds n else truthsK beds ds
def visitE (beds ds : List Int) (n : Int) : Int :=
 if ds ≠ [] ∧ (ds.length ≠ 3 ∨ n ≠ 0) then 4 else if ¬ (0 ≤ n ∧ n ≤ 240) then 3 else if (truthsV beds ds n).isEmpty then 9 else 0
theorem lift_rp {w : World} {R R' : Nat → Prop} {u : Addr} {rs : List RV} {v : Value} (h : RV.rel w R (.rp [.vl u]) v) (hu : RV.rel w R' (.rp rs) (.pointer (some u))) (hR : ∀ b,R b → R' b) : RV.rel w R' (.rp [.rp rs]) v:=by
 simp only [RV.rel,RV.relC] at h ⊢
 obtain ⟨ad,hv,hr,⟨x,hx,h1,h2⟩,_⟩:=h
 subst h2
 refine ⟨ad,hv,hR _ hr,⟨_,hx,h1,?_⟩,trivial⟩
 simpa only [RV.rel] using hu
theorem cap_known {u : Addr} {ds : List Int} {rs : List RV} (w : World) (p : Plan) (ver : Nat → Nat) (R' : Nat → Prop) (vals : List Value) (h : AV.relV w p ver ([.rp [ints ds],.rp [.vl u]].map .r) vals) (hu : RV.rel w R' (.rp rs) (.pointer (some u))) (hR : ∀ b,p.R b → R' b) :
 RV.relV w R' [.rp [ints ds],.rp [.rp rs]] vals:=by
 simp only [List.map_cons,List.map_nil,AV.relV,AV.rel] at h
 obtain ⟨v1,vs,rfl,h1,v2,vs2,rfl,h2,rfl⟩:=h
 simp only [RV.relV]
 exact ⟨v1,[v2],rfl,RV.rel_mono hR (fun _ _=>rfl) _ _ h1,v2,[],rfl,lift_rp h2 hu hR,rfl⟩
theorem cap_three {u : Addr} {n : Int} {rs : List RV} (w : World) (p : Plan) (ver : Nat → Nat) (R' : Nat → Prop) (vals : List Value) (h : AV.relV w p ver ([.rp [.vl u],.rp [i64 n]].map .r) vals) (hu : RV.rel w R' (.rp rs) (.pointer (some u))) (hR : ∀ b,p.R b → R' b) :
 RV.relV w R' [.rp [.rp rs],.rp [i64 n]] vals:=by
 simp only [List.map_cons,List.map_nil,AV.relV,AV.rel] at h
 obtain ⟨v1,vs,rfl,h1,v2,vs2,rfl,h2,rfl⟩:=h
 simp only [RV.relV]
 exact ⟨v1,[v2],rfl,lift_rp h1 hu hR,v2,[],rfl,RV.rel_mono hR (fun _ _=>rfl) _ _ h2,rfl⟩
theorem addT_zero : ∀ (a z : List Int),a.length = z.length → (∀ x ∈ z,x = 0) → addT a z = a
 | [],[],_,_=>rfl
 | a :: l, z :: m, h, hz => by
   have h0:=hz z (by simp)
   simp only [List.length_cons] at h
   have ih:=addT_zero l m (by omega) fun x hx=>hz x (by simp [hx])
   unfold addT at ih ⊢
   rw [List.zipWith_cons_cons,ih,h0,Int.add_zero]
 | [],_ :: _,h,_=>by simp at h
 | _ :: _,[],h,_=>by simp at h
theorem backL_r (ρ : List (Nat × Nat)) (ver : Nat → Nat) : ∀ l : List RV,backL ρ ver (l.map AV.r) = l.map AV.r
 | []=>rfl
 | x :: l=>by simp only [List.map_cons,backL,backA,backL_r ρ ver l]
theorem shA_back (ρ : List (Nat × Nat)) (ver : Nat → Nat) (beds le mo : List Int) : backL ρ ver (shA beds le mo) = shA beds le mo:=backL_r ρ ver _
theorem lendL_r (ρ : List (Nat × Nat)) (ver : Nat → Nat) : ∀ l : List RV,lendL ρ ver (l.map AV.r) = some (l.map AV.r)
 | []=>rfl
 | x :: l=>by simp only [List.map_cons,lendL,lendA,lendL_r ρ ver l]
theorem shA_lend (ρ : List (Nat × Nat)) (ver : Nat → Nat) (beds le mo : List Int) : lendL ρ ver (shA beds le mo) = some (shA beds le mo):=lendL_r ρ ver _
theorem accL_nil : accL [] = (false,zeroT,zeroT):=rfl
def leV (beds le ds : List Int) (n : Int) : List Int:=if visitE beds ds n = 0 then addT le (accL (truthsV beds ds n)).2.1 else le
def moV (beds mo ds : List Int) (n : Int) : List Int:=if visitE beds ds n = 0 then addT mo (accL (truthsV beds ds n)).2.2 else mo
theorem visit_ok (beds le mo ds : List Int) (n : Int) (hb : BedsOk beds) (hle : SmallT 3000 le) (hmo : SmallT 3000 mo) :
 MCalls Try.prog 60 [(1000,.box (shA beds le mo))] [(1000,.box (shA beds (leV beds le ds n) (moV beds mo ds n)))] [.pt 1000 0 0,.ag [.r (ints ds),.r (i64 n)]] (.r (i64 (visitE beds ds n))):=by
 refine mcalls_stO (n:=45) (rs:=[.r (i64 (visitE beds ds n))]) _ _ [.tmp 4] Try.func60 rfl (by kernel_rfl) Try.ntmps60 rfl (by simp) rfl rfl fun C hC=>?_
 refine awp_name 0 rfl fun u=>?_
 have hbl:=hb.1
 have fin : ∀ l : List RV,frzPL [(1000,RowC.box (shA beds le mo))] (fun _=>⟨0,.dead⟩) (l.map AV.r):=fun l=>frzPL_r _ _ l
 repeat refine zq ?_
 refine zb (by kernel_rfl) fun K hK=>?_
 simp only [go_sem]
 (try simp (disch:=omega) only [zI])
 repeat first | intro _ | refine ⟨by omega,?_⟩ | refine ⟨⟨by omega,by omega⟩,?_⟩
 refine hK _ ?_
 clear hK K
 refine zw (sub_frzP 3 3 [ints ds,i64 n] (by omega) rfl rfl) ?_
 refine zw (zk [0,3,4]) ?_
 simp only [go_sem]
 repeat refine zq ?_
 refine zb (by kernel_rfl) fun K hK=>?_
 simp only [go_sem]
 (try simp (disch:=omega) only [zI])
 refine zh (known_ok u ds) rfl (by simp only [go_sem,i64,ints]) (by simp only [go_sem,i64,ints]) (by first | exact .inl rfl | exact .inr rfl) ?_
 (try simp only [go_sem])
 (try simp (disch:=omega) only [zI])
 repeat first | intro _ | refine ⟨by omega,?_⟩ | refine ⟨⟨by omega,by omega⟩,?_⟩
 refine hK _ ?_
 clear hK K
 refine zw (zk [0,3,5]) ?_
 simp only [go_sem]
 repeat refine zq ?_
 refine zd ?_
 by_cases hds : ds = []
 · subst hds
   have e0 : visitE beds [] n = if ¬ (0 ≤ n ∧ n ≤ 240) then 3 else if (threeT beds n).isEmpty then 9 else 0:=by simp [visitE,truthsV]
   have eL : ∀ e,visitE beds [] n = e → e ≠ 0 → leV beds le [] n = le ∧ moV beds mo [] n = mo:=fun e h1 h2=>by
    unfold leV moV
    rw [if_neg (by rw [h1]; exact h2),if_neg (by rw [h1]; exact h2)]
    exact ⟨rfl,rfl⟩
   repeat refine zq ?_
   refine zb (by kernel_rfl) fun K hK=>?_
   simp only [go_sem,List.length_nil,bne_self_eq_false]
   (try simp (disch:=omega) only [zI])
   intros
   repeat first | intro _ | refine ⟨by omega,?_⟩ | refine ⟨⟨by omega,by omega⟩,?_⟩
   refine hK _ ?_
   clear hK K
   refine zw (zk [0,3,5,10]) ?_
   simp only [go_sem]
   repeat refine zq ?_
   refine zc rfl (fun hc=>?_) (fun hc=>?_) <;> (try simp only [go_sem] at hc)
   by_cases hn : 0 ≤ n ∧ n ≤ 240
   · have w1 : withinL 0 240 [n] = true:=by simp [withinL]; omega
     rw [if_neg (by simpa using hn)] at e0
     repeat refine zq ?_
     refine zb (by kernel_rfl) fun K hK=>?_
     simp only [go_sem]
     (try simp (disch:=omega) only [zI])
     refine zh (within_ok 0 240 [n]) rfl (by simp only [go_sem,i64,ints,w1]) (by simp only [go_sem,i64,ints,w1]) (by first | exact .inl rfl | exact .inr rfl) ?_
     (try simp only [go_sem,w1])
     (try simp (disch:=omega) only [zI])
     repeat first | intro _ | refine ⟨by omega,?_⟩ | refine ⟨⟨by omega,by omega⟩,?_⟩
     refine hK _ ?_
     clear hK K
     refine zw (zk [0,3,5,26]) ?_
     simp only [go_sem]
     repeat refine zq ?_
     refine zc rfl (fun hc=>?_) (fun hc=>?_) <;> (try simp only [go_sem] at hc)
     repeat refine zq ?_
     refine zb (by kernel_rfl) fun K hK=>?_
     simp only [go_sem,List.length_nil,beq_self_eq_true]
     (try simp (disch:=omega) only [zI])
     intros
     repeat first | intro _ | refine ⟨by omega,?_⟩ | refine ⟨⟨by omega,by omega⟩,?_⟩
     refine hK _ ?_
     clear hK K
     refine zw (zk [0,3,5,32]) ?_
     simp only [go_sem]
     repeat refine zq ?_
     refine zc rfl (fun hc=>?_) (fun hc=>?_) <;> (try simp only [go_sem] at hc)
     repeat refine zq ?_
     refine zb (by kernel_rfl) fun K hK=>?_
     simp only [go_sem]
     (try simp (disch:=omega) only [zI])
     refine zh (three_ok u n) rfl (by simp only [go_sem,i64,ints]) (by simp only [go_sem,i64,ints]) (by first | exact .inl rfl | exact .inr rfl) ?_
     (try simp only [go_sem])
     (try simp (disch:=omega) only [zI])
     repeat first | intro _ | refine ⟨by omega,?_⟩ | refine ⟨⟨by omega,by omega⟩,?_⟩
     refine hK _ ?_
     clear hK K
     refine zw (zk [0,5]) ?_
     simp only [go_sem]
     have hmut:=add_ok u beds le mo 94 [.rp [.vl u],.rp [i64 n]] [.rp [.rp (sheetR beds le mo)],.rp [i64 n]] (threeT beds n) hle hmo threeT_small (three1_ok beds le mo n hb) cap_three
     repeat refine zq ?_
     refine zb (by kernel_rfl) fun K hK=>?_
     simp only [go_sem]
     (try simp (disch:=omega) only [zI])
     refine xcall_mut (hmut) [(1000,1000)] rfl (by simp only [go_sem,i64,ints,shA_lend,shA_back]) (by simp only [go_sem,i64,ints,shA_lend,shA_back]) (by rfl) (by rfl) ?_
     (try simp only [go_sem,shA_lend,shA_back])
     (try simp (disch:=omega) only [zI])
     repeat first | intro _ | refine ⟨by omega,?_⟩ | refine ⟨⟨by omega,by omega⟩,?_⟩
     refine hK _ ?_
     clear hK K
     try rw [shA_back]
     refine zw (zk [0,44]) ?_
     simp only [go_sem]
     cases he : (threeT beds n).isEmpty
     · have e1 : visitE beds [] n = 0:=by rw [e0,he]; simp
       have eq1 : leV beds le [] n = addT le (accL (threeT beds n)).2.1:=by unfold leV; rw [if_pos e1]; rfl
       have eq2 : moV beds mo [] n = addT mo (accL (threeT beds n)).2.2:=by unfold moV; rw [if_pos e1]; rfl
       rw [e1,eq1,eq2]
       repeat refine zq ?_
       refine zc rfl (fun hc=>?_) (fun hc=>?_) <;> (try simp only [go_sem] at hc)
       refine zx ?_
       try simp only [go_sem]
       repeat refine zq ?_
       refine zb (by kernel_rfl) fun K hK=>?_
       simp only [go_sem]
       (try simp (disch:=omega) only [zI])
       repeat first | intro _ | refine ⟨by omega,?_⟩ | refine ⟨⟨by omega,by omega⟩,?_⟩
       refine hK _ ?_
       clear hK K
       refine zw (zk [4]) ?_
       simp only [go_sem]
       refine ze ?_
       simp only [go_sem]
       exact ⟨frzPL_r _ _ _,congrArg RowC.box (frzL_r _ _ _)⟩
     · have e1 : visitE beds [] n = 9:=by rw [e0,he]; simp
       obtain ⟨eq1,eq2⟩:=eL 9 e1 (by decide)
       have hnil : threeT beds n = []:=List.isEmpty_iff.1 he
       rw [hnil,accL_nil,addT_zero le zeroT hle.1 (by decide),addT_zero mo zeroT hmo.1 (by decide),e1,eq1,eq2]
       repeat refine zq ?_
       refine zc rfl (fun hc=>?_) (fun hc=>?_) <;> (try simp only [go_sem] at hc)
       repeat refine zq ?_
       refine zb (by kernel_rfl) fun K hK=>?_
       simp only [go_sem]
       (try simp (disch:=omega) only [zI])
       repeat first | intro _ | refine ⟨by omega,?_⟩ | refine ⟨⟨by omega,by omega⟩,?_⟩
       refine hK _ ?_
       clear hK K
       refine zw (zk [4]) ?_
       simp only [go_sem]
       refine ze ?_
       simp only [go_sem]
       exact ⟨frzPL_r _ _ _,congrArg RowC.box (frzL_r _ _ _)⟩
   · have w1 : withinL 0 240 [n] = false:=by simp [withinL]; omega
     rw [if_pos hn] at e0
     obtain ⟨eq1,eq2⟩:=eL 3 e0 (by decide)
     rw [e0,eq1,eq2]
     repeat refine zq ?_
     refine zb (by kernel_rfl) fun K hK=>?_
     simp only [go_sem]
     (try simp (disch:=omega) only [zI])
     refine zh (within_ok 0 240 [n]) rfl (by simp only [go_sem,i64,ints,w1]) (by simp only [go_sem,i64,ints,w1]) (by first | exact .inl rfl | exact .inr rfl) ?_
     (try simp only [go_sem,w1])
     (try simp (disch:=omega) only [zI])
     repeat first | intro _ | refine ⟨by omega,?_⟩ | refine ⟨⟨by omega,by omega⟩,?_⟩
     refine hK _ ?_
     clear hK K
     refine zw (zk [0,3,5,26]) ?_
     simp only [go_sem]
     repeat refine zq ?_
     refine zc rfl (fun hc=>?_) (fun hc=>?_) <;> (try simp only [go_sem] at hc)
     repeat refine zq ?_
     refine zb (by kernel_rfl) fun K hK=>?_
     simp only [go_sem]
     (try simp (disch:=omega) only [zI])
     repeat first | intro _ | refine ⟨by omega,?_⟩ | refine ⟨⟨by omega,by omega⟩,?_⟩
     refine hK _ ?_
     clear hK K
     refine zw (zk [4]) ?_
     simp only [go_sem]
     refine ze ?_
     simp only [go_sem]
     exact ⟨frzPL_r _ _ _,congrArg RowC.box (frzL_r _ _ _)⟩
 · have hl0 : ((ds.length : Int) != 0) = true:=by
    have : ds.length ≠ 0:=fun e=>hds (List.eq_nil_of_length_eq_zero e)
    simpa using hds
   have eL : ∀ e,visitE beds ds n = e → e ≠ 0 → leV beds le ds n = le ∧ moV beds mo ds n = mo:=fun e h1 h2=>by
    unfold leV moV
    rw [if_neg (by rw [h1]; exact h2),if_neg (by rw [h1]; exact h2)]
    exact ⟨rfl,rfl⟩
   have hq0 : ((ds.length : Int) == 0) = false:=by simpa using hds
   by_cases h3 : ds.length = 3
   · have c3 : ((ds.length : Int) != 3) = false:=by simp [h3]
     by_cases hn0 : n = 0
     · subst hn0
       have e0 : visitE beds ds 0 = if (truthsK beds ds).isEmpty then 9 else 0:=by simp [visitE,truthsV,h3,hds]
       have w1 : withinL 0 240 [0] = true:=by decide
       repeat refine zq ?_
       refine zb (by kernel_rfl) fun K hK=>?_
       simp only [go_sem,hl0,c3,bne_self_eq_false]
       (try simp (disch:=omega) only [zI])
       intros
       repeat first | intro _ | refine ⟨by omega,?_⟩ | refine ⟨⟨by omega,by omega⟩,?_⟩
       refine hK _ ?_
       clear hK K
       refine zw (zk [0,3,5,10]) ?_
       simp only [go_sem]
       repeat refine zq ?_
       refine zc rfl (fun hc=>?_) (fun hc=>?_) <;> (try simp only [go_sem] at hc)
       repeat refine zq ?_
       refine zb (by kernel_rfl) fun K hK=>?_
       simp only [go_sem]
       (try simp (disch:=omega) only [zI])
       refine zh (within_ok 0 240 [0]) rfl (by simp only [go_sem,i64,ints,w1]) (by simp only [go_sem,i64,ints,w1]) (by first | exact .inl rfl | exact .inr rfl) ?_
       (try simp only [go_sem,w1])
       (try simp (disch:=omega) only [zI])
       repeat first | intro _ | refine ⟨by omega,?_⟩ | refine ⟨⟨by omega,by omega⟩,?_⟩
       refine hK _ ?_
       clear hK K
       refine zw (zk [0,3,5,26]) ?_
       simp only [go_sem]
       repeat refine zq ?_
       refine zc rfl (fun hc=>?_) (fun hc=>?_) <;> (try simp only [go_sem] at hc)
       repeat refine zq ?_
       refine zb (by kernel_rfl) fun K hK=>?_
       simp only [go_sem,hq0]
       (try simp (disch:=omega) only [zI])
       intros
       repeat first | intro _ | refine ⟨by omega,?_⟩ | refine ⟨⟨by omega,by omega⟩,?_⟩
       refine hK _ ?_
       clear hK K
       refine zw (zk [0,5,32]) ?_
       simp only [go_sem]
       repeat refine zq ?_
       refine zc rfl (fun hc=>?_) (fun hc=>?_) <;> (try simp only [go_sem] at hc)
       refine zx ?_
       try simp only [go_sem]
       have hmut:=add_ok u beds le mo 92 [.rp [ints ds],.rp [.vl u]] [.rp [ints ds],.rp [.rp (sheetR beds le mo)]] (truthsK beds ds) hle hmo (truthsK_small h3) (by have h:=known1_ok beds ds le mo hbl (by omega); rw [knownXs_eq] at h; exact h) cap_known
       repeat refine zq ?_
       refine zb (by kernel_rfl) fun K hK=>?_
       simp only [go_sem]
       (try simp (disch:=omega) only [zI])
       refine xcall_mut (hmut) [(1000,1000)] rfl (by simp only [go_sem,i64,ints,shA_lend,shA_back]) (by simp only [go_sem,i64,ints,shA_lend,shA_back]) (by rfl) (by rfl) ?_
       (try simp only [go_sem,shA_lend,shA_back])
       (try simp (disch:=omega) only [zI])
       repeat first | intro _ | refine ⟨by omega,?_⟩ | refine ⟨⟨by omega,by omega⟩,?_⟩
       refine hK _ ?_
       clear hK K
       try rw [shA_back]
       refine zw (zk [0,44]) ?_
       simp only [go_sem]
       cases he : (truthsK beds ds).isEmpty
       · have e1 : visitE beds ds 0 = 0:=by rw [e0,he]; simp
         have eq1 : leV beds le ds 0 = addT le (accL (truthsK beds ds)).2.1:=by unfold leV truthsV; rw [if_pos e1,if_neg hds]
         have eq2 : moV beds mo ds 0 = addT mo (accL (truthsK beds ds)).2.2:=by unfold moV truthsV; rw [if_pos e1,if_neg hds]
         rw [e1,eq1,eq2]
         repeat refine zq ?_
         refine zc rfl (fun hc=>?_) (fun hc=>?_) <;> (try simp only [go_sem] at hc)
         refine zx ?_
         try simp only [go_sem]
         repeat refine zq ?_
         refine zb (by kernel_rfl) fun K hK=>?_
         simp only [go_sem]
         (try simp (disch:=omega) only [zI])
         repeat first | intro _ | refine ⟨by omega,?_⟩ | refine ⟨⟨by omega,by omega⟩,?_⟩
         refine hK _ ?_
         clear hK K
         refine zw (zk [4]) ?_
         simp only [go_sem]
         refine ze ?_
         simp only [go_sem]
         exact ⟨frzPL_r _ _ _,congrArg RowC.box (frzL_r _ _ _)⟩
       · have e1 : visitE beds ds 0 = 9:=by rw [e0,he]; simp
         obtain ⟨eq1,eq2⟩:=eL 9 e1 (by decide)
         have hnil : truthsK beds ds = []:=List.isEmpty_iff.1 he
         rw [hnil,accL_nil,addT_zero le zeroT hle.1 (by decide),addT_zero mo zeroT hmo.1 (by decide),e1,eq1,eq2]
         repeat refine zq ?_
         refine zc rfl (fun hc=>?_) (fun hc=>?_) <;> (try simp only [go_sem] at hc)
         repeat refine zq ?_
         refine zb (by kernel_rfl) fun K hK=>?_
         simp only [go_sem]
         (try simp (disch:=omega) only [zI])
         repeat first | intro _ | refine ⟨by omega,?_⟩ | refine ⟨⟨by omega,by omega⟩,?_⟩
         refine hK _ ?_
         clear hK K
         refine zw (zk [4]) ?_
         simp only [go_sem]
         refine ze ?_
         simp only [go_sem]
         exact ⟨frzPL_r _ _ _,congrArg RowC.box (frzL_r _ _ _)⟩
     · have cn : (n != 0) = true:=by simpa using hn0
       have e0 : visitE beds ds n = 4:=by simp [visitE,hds,hn0]
       obtain ⟨eq1,eq2⟩:=eL 4 e0 (by decide)
       rw [e0,eq1,eq2]
       repeat refine zq ?_
       refine zb (by kernel_rfl) fun K hK=>?_
       simp only [go_sem,hl0,c3,cn]
       (try simp (disch:=omega) only [zI])
       intros
       repeat first | intro _ | refine ⟨by omega,?_⟩ | refine ⟨⟨by omega,by omega⟩,?_⟩
       refine hK _ ?_
       clear hK K
       refine zw (zk [0,3,5,10]) ?_
       simp only [go_sem]
       repeat refine zq ?_
       refine zc rfl (fun hc=>?_) (fun hc=>?_) <;> (try simp only [go_sem] at hc)
       repeat refine zq ?_
       refine zb (by kernel_rfl) fun K hK=>?_
       simp only [go_sem]
       (try simp (disch:=omega) only [zI])
       repeat first | intro _ | refine ⟨by omega,?_⟩ | refine ⟨⟨by omega,by omega⟩,?_⟩
       refine hK _ ?_
       clear hK K
       refine zw (zk [4]) ?_
       simp only [go_sem]
       refine ze ?_
       simp only [go_sem]
       exact ⟨frzPL_r _ _ _,congrArg RowC.box (frzL_r _ _ _)⟩
   · have c3 : ((ds.length : Int) != 3) = true:=by
      have : (ds.length : Int) ≠ 3:=by omega
      simpa using this
     have e0 : visitE beds ds n = 4:=by simp [visitE,hds,h3]
     obtain ⟨eq1,eq2⟩:=eL 4 e0 (by decide)
     rw [e0,eq1,eq2]
     repeat refine zq ?_
     refine zb (by kernel_rfl) fun K hK=>?_
     simp only [go_sem,hl0,c3]
     (try simp (disch:=omega) only [zI])
     intros
     repeat first | intro _ | refine ⟨by omega,?_⟩ | refine ⟨⟨by omega,by omega⟩,?_⟩
     refine hK _ ?_
     clear hK K
     refine zw (zk [0,3,5,10]) ?_
     simp only [go_sem]
     repeat refine zq ?_
     refine zc rfl (fun hc=>?_) (fun hc=>?_) <;> (try simp only [go_sem] at hc)
     repeat refine zq ?_
     refine zb (by kernel_rfl) fun K hK=>?_
     simp only [go_sem]
     (try simp (disch:=omega) only [zI])
     repeat first | intro _ | refine ⟨by omega,?_⟩ | refine ⟨⟨by omega,by omega⟩,?_⟩
     refine hK _ ?_
     clear hK K
     refine zw (zk [4]) ?_
     simp only [go_sem]
     refine ze ?_
     simp only [go_sem]
     exact ⟨frzPL_r _ _ _,congrArg RowC.box (frzL_r _ _ _)⟩
end Go.Proofs.Ytgkejinoaommeaa

namespace Go.Proofs.Ytgkejinoaommeaa
open Go Go.Oc
set_option linter.unusedSimpArgs false
set_option linter.unusedVariables false
set_option maxRecDepth 8000
set_option maxHeartbeats 1000000
structure Vi where
 ds : List Int
 n : Int
abbrev viC (v : Vi) : List RV:=[ints v.ds,i64 v.n]
abbrev visR (l : List Vi) : RV:=.sl 2 (l.map viC)
def runF (bs : List Int) : List Int → List Int → Nat → List Vi → List Int × List Int × Option (Nat × Int)
 | le,mo,_,[]=>(le,mo,none)
 | le,mo,i,v :: l=>if visitE bs v.ds v.n = 0 then runF bs (leV bs le v.ds v.n) (moV bs mo v.ds v.n) (i + 1) l else (le,mo,some (i,visitE bs v.ds v.n))
def bedAt (bs le mo : List Int) (i : Nat) : Bd:=⟨bs.getD i 0,le.getD i 0,mo.getD i 0⟩
def fitV (a : Am) (l : List Vi) : Am × Int × Int × Int :=
 if 10 < a.beds.length then (⟨0,[]⟩,0,0,5) else if (bedOk a.at_ && !a.beds.isEmpty && seqOk none a.beds) = false then (⟨0,[]⟩,0,0,2) else if l = [] then (⟨0,[]⟩,0,0,7) else if 1000 < l.length then (⟨0,[]⟩,0,0,5) else
 match runF (a.beds.map (·.b)) zeroT zeroT 0 l with
 | (_,_,some (i,e))=>(⟨0,[]⟩,0,i,e)
 | (le,mo,none)=>(⟨a.at_,(List.range a.beds.length).map (bedAt (a.beds.map (·.b)) le mo)⟩,3 * l.length,0,0)
theorem SmallT.mono {b c : Int} {t : List Int} (h : SmallT b t) (hc : b ≤ c) : SmallT c t:=⟨h.1,fun x hx=>by have:=h.2 x hx; omega⟩
theorem truthsV_small {bs ds : List Int} {n : Int} (h : visitE bs ds n = 0) : ∀ t ∈ truthsV bs ds n,SmallT 3 t:=by
 unfold truthsV
 split
 · exact threeT_small
 · rename_i hds
   refine truthsK_small ?_
   unfold visitE at h
   split at h
   · cases h
   · rename_i h1
     have : ¬ (ds.length ≠ 3):=fun h2=>h1 ⟨hds,.inl h2⟩
     omega
theorem addT_small {b c : Int} {s t : List Int} (h1 : SmallT b s) (h2 : SmallT c t) : SmallT (b + c) (addT s t):=by
 refine ⟨by unfold addT; rw [List.length_zipWith,h1.1,h2.1]; rfl,fun x hx=>?_⟩
 obtain ⟨y,hy,z,hz,rfl⟩:=mem_zipW hx
 have:=h1.2 y hy
 have:=h2.2 z hz
 omega
theorem leV_small {b : Int} {bs le ds : List Int} {n : Int} (h : SmallT b le) : SmallT (b + 3) (leV bs le ds n) ∧ True:=by
 refine ⟨?_,trivial⟩
 unfold leV
 split
 · rename_i h0
   exact addT_small h (accL_small (by omega) _ (truthsV_small h0)).1
 · exact h.mono (by omega)
theorem moV_small {b : Int} {bs mo ds : List Int} {n : Int} (h : SmallT b mo) : SmallT (b + 3) (moV bs mo ds n):=by
 unfold moV
 split
 · rename_i h0
   exact addT_small h (accL_small (by omega) _ (truthsV_small h0)).2
 · exact h.mono (by omega)
theorem bedOk_le {b : Int} (h : bedOk b = true) : 0 ≤ b ∧ b ≤ 499:=by
 simp only [bedOk,Bool.or_eq_true,Bool.and_eq_true,decide_eq_true_eq] at h
 omega
theorem seqOk_le : ∀ {l : List Bd} {p : Option Int},seqOk p l = true → ∀ x ∈ l,0 ≤ x.b ∧ x.b ≤ 499
 | [],_,_=>by simp
 | y :: l, p, h => by
   simp only [seqOk,Bool.and_eq_true,Bool.or_eq_true,decide_eq_true_eq] at h
   intro x hx
   rcases List.mem_cons.1 hx with rfl | hx
   · rcases h.1.1 with h1 | h1
     · omega
     · exact bedOk_le h1
   · exact seqOk_le h.2 x hx
theorem fit_ok (a : Am) (l : List Vi) (hw : WfA a) : ACalls Try.prog 28 [aimV a,visR l] (.tu [aimV (fitV a l).1,i64 (fitV a l).2.1,i64 (fitV a l).2.2.1,i64 (fitV a l).2.2.2]):=by
 refine acalls_st (rs:=[aimV (fitV a l).1,i64 (fitV a l).2.1,i64 (fitV a l).2.2.1,i64 (fitV a l).2.2.2]) [.cell 4 36,.tmp 5,.tmp 6,.tmp 7] Try.func28 rfl (by kernel_rfl) Try.ntmps28 rfl (by simp) rfl fun C vs=>?_
 repeat refine zq ?_
 refine zb (by kernel_rfl) fun K hK=>?_
 simp only [go_sem]
 (try simp (disch:=omega) only [zI])
 repeat first | intro _ | refine ⟨by omega,?_⟩ | refine ⟨⟨by omega,by omega⟩,?_⟩
 refine hK _ ?_
 clear hK K
 refine zw (sub_frzP 2 2 (aimR a) (by omega) rfl rfl) ?_
 refine zw (zk [1,2,4]) ?_
 simp only [go_sem]
 repeat refine zq ?_
 refine zb (by kernel_rfl) fun K hK=>?_
 simp only [go_sem,aimR]
 (try simp (disch:=omega) only [zI])
 repeat first | intro _ | refine ⟨by omega,?_⟩ | refine ⟨⟨by omega,by omega⟩,?_⟩
 refine hK _ ?_
 clear hK K
 refine zw (sub_frzP 8 8 [i64 a.at_,bedsR a.beds,i64 0] (by omega) rfl rfl) ?_
 refine zw (zk [1,2,4,8]) ?_
 simp only [go_sem]
 repeat refine zq ?_
 refine zd ?_
 by_cases h1 : 10 < a.beds.length
 · have c1 : decide ((10 : Int) < (a.beds.length : Int)) = true:=by simp; omega
   have hv : fitV a l = (⟨0,[]⟩,0,0,5):=by rw [fitV,if_pos h1]
   rw [hv]
   repeat refine zq ?_
   refine zb (by kernel_rfl) fun K hK=>?_
   simp only [go_sem,c1,aimR]
   (try simp (disch:=omega) only [zI])
   intros
   repeat first | intro _ | refine ⟨by omega,?_⟩ | refine ⟨⟨by omega,by omega⟩,?_⟩
   refine hK _ ?_
   clear hK K
   refine zw (zk [1,2,4,8,19]) ?_
   simp only [go_sem]
   repeat refine zq ?_
   refine zc rfl (fun hc=>?_) (fun hc=>?_) <;> (try simp only [go_sem] at hc)
   repeat refine zq ?_
   refine zb (by kernel_rfl) fun K hK=>?_
   simp only [go_sem]
   (try simp (disch:=omega) only [zI])
   repeat first | intro _ | refine ⟨by omega,?_⟩ | refine ⟨⟨by omega,by omega⟩,?_⟩
   refine hK _ ?_
   clear hK K
   refine zw (zk [4,5,6,7]) ?_
   simp only [go_sem]
   refine ze ?_
   simp only [go_sem]
 have c1 : decide ((10 : Int) < (a.beds.length : Int)) = false:=by simp; omega
 repeat refine zq ?_
 refine zb (by kernel_rfl) fun K hK=>?_
 simp only [go_sem,c1,aimR]
 (try simp (disch:=omega) only [zI])
 intros
 repeat first | intro _ | refine ⟨by omega,?_⟩ | refine ⟨⟨by omega,by omega⟩,?_⟩
 refine hK _ ?_
 clear hK K
 refine zw (zk [1,2,4,8,19]) ?_
 simp only [go_sem]
 repeat refine zq ?_
 refine zc rfl (fun hc=>?_) (fun hc=>?_) <;> (try simp only [go_sem] at hc)
 repeat refine zq ?_
 refine zb (by kernel_rfl) fun K hK=>?_
 simp only [go_sem]
 (try simp (disch:=omega) only [zI])
 refine zh (areBeds_ok a.at_ a.beds 0 hw.1 hw.2) rfl (by simp only [go_sem,i64,ints]) (by simp only [go_sem,i64,ints]) (by first | exact .inl rfl | exact .inr rfl) ?_
 (try simp only [go_sem])
 (try simp (disch:=omega) only [zI])
 repeat first | intro _ | refine ⟨by omega,?_⟩ | refine ⟨⟨by omega,by omega⟩,?_⟩
 refine hK _ ?_
 clear hK K
 refine zw (zk [1,2,4,25]) ?_
 simp only [go_sem]
 cases h2 : (bedOk a.at_ && !a.beds.isEmpty && seqOk none a.beds)
 · have hv : fitV a l = (⟨0,[]⟩,0,0,2):=by rw [fitV,if_neg h1,if_pos h2]
   rw [hv]
   repeat refine zq ?_
   refine zc rfl (fun hc=>?_) (fun hc=>?_) <;> (try simp only [go_sem] at hc)
   repeat refine zq ?_
   refine zb (by kernel_rfl) fun K hK=>?_
   simp only [go_sem]
   (try simp (disch:=omega) only [zI])
   repeat first | intro _ | refine ⟨by omega,?_⟩ | refine ⟨⟨by omega,by omega⟩,?_⟩
   refine hK _ ?_
   clear hK K
   refine zw (zk [4,5,6,7]) ?_
   simp only [go_sem]
   refine ze ?_
   simp only [go_sem]
 repeat refine zq ?_
 refine zc rfl (fun hc=>?_) (fun hc=>?_) <;> (try simp only [go_sem] at hc)
 by_cases h3 : l = []
 · have c3 : ((l.length : Int) == 0) = true:=by simp [h3]
   have hv : fitV a l = (⟨0,[]⟩,0,0,7):=by rw [fitV,if_neg h1,if_neg (by rw [h2]; decide),if_pos h3]
   rw [hv]
   repeat refine zq ?_
   refine zb (by kernel_rfl) fun K hK=>?_
   simp only [go_sem,c3]
   (try simp (disch:=omega) only [zI])
   intros
   repeat first | intro _ | refine ⟨by omega,?_⟩ | refine ⟨⟨by omega,by omega⟩,?_⟩
   refine hK _ ?_
   clear hK K
   refine zw (zk [1,2,4,30]) ?_
   simp only [go_sem]
   repeat refine zq ?_
   refine zc rfl (fun hc=>?_) (fun hc=>?_) <;> (try simp only [go_sem] at hc)
   repeat refine zq ?_
   refine zb (by kernel_rfl) fun K hK=>?_
   simp only [go_sem]
   (try simp (disch:=omega) only [zI])
   repeat first | intro _ | refine ⟨by omega,?_⟩ | refine ⟨⟨by omega,by omega⟩,?_⟩
   refine hK _ ?_
   clear hK K
   refine zw (zk [4,5,6,7]) ?_
   simp only [go_sem]
   refine ze ?_
   simp only [go_sem]
 have c3 : ((l.length : Int) == 0) = false:=by simpa using h3
 repeat refine zq ?_
 refine zb (by kernel_rfl) fun K hK=>?_
 simp only [go_sem,c3]
 (try simp (disch:=omega) only [zI])
 intros
 repeat first | intro _ | refine ⟨by omega,?_⟩ | refine ⟨⟨by omega,by omega⟩,?_⟩
 refine hK _ ?_
 clear hK K
 refine zw (zk [1,2,4,30]) ?_
 simp only [go_sem]
 repeat refine zq ?_
 refine zc rfl (fun hc=>?_) (fun hc=>?_) <;> (try simp only [go_sem] at hc)
 by_cases h4 : 1000 < l.length
 · have c4 : decide ((1000 : Int) < (l.length : Int)) = true:=by simp; omega
   have hv : fitV a l = (⟨0,[]⟩,0,0,5):=by rw [fitV,if_neg h1,if_neg (by rw [h2]; decide),if_neg h3,if_pos h4]
   rw [hv]
   repeat refine zq ?_
   refine zb (by kernel_rfl) fun K hK=>?_
   simp only [go_sem,c4]
   (try simp (disch:=omega) only [zI])
   intros
   repeat first | intro _ | refine ⟨by omega,?_⟩ | refine ⟨⟨by omega,by omega⟩,?_⟩
   refine hK _ ?_
   clear hK K
   refine zw (zk [1,2,4,35]) ?_
   simp only [go_sem]
   repeat refine zq ?_
   refine zc rfl (fun hc=>?_) (fun hc=>?_) <;> (try simp only [go_sem] at hc)
   repeat refine zq ?_
   refine zb (by kernel_rfl) fun K hK=>?_
   simp only [go_sem]
   (try simp (disch:=omega) only [zI])
   repeat first | intro _ | refine ⟨by omega,?_⟩ | refine ⟨⟨by omega,by omega⟩,?_⟩
   refine hK _ ?_
   clear hK K
   refine zw (zk [4,5,6,7]) ?_
   simp only [go_sem]
   refine ze ?_
   simp only [go_sem]
 have c4 : decide ((1000 : Int) < (l.length : Int)) = false:=by simp; omega
 repeat refine zq ?_
 refine zb (by kernel_rfl) fun K hK=>?_
 simp only [go_sem,c4]
 (try simp (disch:=omega) only [zI])
 intros
 repeat first | intro _ | refine ⟨by omega,?_⟩ | refine ⟨⟨by omega,by omega⟩,?_⟩
 refine hK _ ?_
 clear hK K
 refine zw (zk [1,2,4,35]) ?_
 simp only [go_sem]
 repeat refine zq ?_
 refine zc rfl (fun hc=>?_) (fun hc=>?_) <;> (try simp only [go_sem] at hc)
 refine zx ?_
 try simp only [go_sem]
 have hV : fitV a l = match runF (a.beds.map (·.b)) zeroT zeroT 0 l with
  | (_,_,some (i,e))=>(⟨0,[]⟩,0,i,e)
  | (le,mo,none)=>(⟨a.at_,(List.range a.beds.length).map (bedAt (a.beds.map (·.b)) le mo)⟩,3 * l.length,0,0):=by
  rw [fitV,if_neg h1,if_neg (by rw [h2]; decide),if_neg h3,if_neg h4]
 have hseq : seqOk none a.beds = true:=by
  simp only [Bool.and_eq_true] at h2
  exact h2.2
 have hle:=seqOk_le hseq
 obtain ⟨bs,hbs⟩ : ∃ bs,bs = a.beds.map (·.b):=⟨_,rfl⟩
 have hbl : bs.length = a.beds.length:=by rw [hbs]; simp
 have hbo : BedsOk bs:=⟨by omega,fun b hb=>by
  rw [hbs] at hb
  obtain ⟨x,hx,rfl⟩:=List.mem_map.1 hb
  exact hle x hx⟩
 rw [← hbs] at hV
 repeat refine zq ?_
 refine zb (by kernel_rfl) fun K hK=>?_
 simp only [go_sem]
 (try simp (disch:=omega) only [zI])
 repeat first | intro _ | refine ⟨by omega,?_⟩ | refine ⟨⟨by omega,by omega⟩,?_⟩
 refine hK _ ?_
 clear hK K
 refine zw (zk [1,2,4,9]) ?_
 simp only [go_sem]
 repeat refine zq ?_
 refine zb (by kernel_rfl) fun K hK=>?_
 simp only [go_sem,aimR]
 (try simp (disch:=omega) only [zI])
 intros
 repeat first | intro _ | refine ⟨by omega,?_⟩ | refine ⟨⟨by omega,by omega⟩,?_⟩
 refine hK _ ?_
 clear hK K
 refine zw (zk [1,2,4,9,43,44,45]) ?_
 simp only [go_sem]
 repeat refine zq ?_
 refine zd ?_
 refine zw (sub_ownB 41 0 57 33 1 (by omega) (by omega) rfl rfl) ?_
 try simp only [go_sem]
 refine awp_uptoV (n:=115) a.beds.length (fun i vs=>[(1,.r (visR l)),(2,.r (.rp [i64 a.at_,bedsR a.beds])),(4,.pt 4 (vs 4) 0),(9,.pt 41 (vs 41) 0),(43,.r (bedsR a.beds)),(44,.r (i64 a.beds.length)),(45,.r (i64 i))])
  (fun i vs=>[(4,.box [.r (i64 0),.r .ns]),(41,.box (.os 57 (vs 57) 1 0 i :: (tA zeroT ++ tA zeroT))),(57,.arr 33 1 ((bs.take i).map fun x=>[i64 x]))]) (fun _=>True) 0 (zj [8] ?_ ?_) (Nat.zero_le _) trivial ?_
 · try simp only [go_sem]
 · try simp only [go_sem]
   try simp
 · intro i vs hi _
   repeat refine zq ?_
   refine zb (by kernel_rfl) fun K hK=>?_
   simp only [go_sem]
   (try simp (disch:=omega) only [zI])
   repeat first | intro _ | refine ⟨by omega,?_⟩ | refine ⟨⟨by omega,by omega⟩,?_⟩
   refine hK _ ?_
   clear hK K
   refine zw (zk [1,2,4,9,43,44,45,46]) ?_
   simp only [go_sem]
   repeat refine zq ?_
   refine zc rfl (fun hc=>?_) (fun hc=>?_) <;> (try simp only [go_sem] at hc)
   · have hci:=hc
     obtain ⟨x,hx⟩:=opt_of_lt hci
     have hbx : bs[i]? = some x.b:=by rw [hbs,List.getElem?_map,hx]; rfl
     have htl : (bs.take i).length = i:=by rw [List.length_take]; omega
     refine zx ?_
     try simp only [go_sem]
     repeat refine zq ?_
     refine zd ?_
     repeat refine zq ?_
     refine zb (by kernel_rfl) fun K hK=>?_
     simp only [go_sem,hx,hci,bedR]
     (try simp (disch:=omega) only [zI])
     repeat first | intro _ | refine ⟨by omega,?_⟩ | refine ⟨⟨by omega,by omega⟩,?_⟩
     refine hK _ ?_
     clear hK K
     refine zw (zk [1,2,4,9,11,43,44,45]) ?_
     simp only [go_sem]
     repeat refine zq ?_
     refine awp_dreg3 [(9,some 41),(11,some 11)] [41,11] follows (by decide +kernel) (by kernel_rfl) (by simp only [keysOk,List.mem_cons,List.not_mem_nil,forall_eq_or_imp,Oc.keyOf,go_sem]; simp) (by intro k hk; simp only [List.mem_cons,List.not_mem_nil,or_false] at hk; first | (subst hk; exact ⟨_,rfl⟩) | (rcases hk with rfl | rfl <;> exact ⟨_,rfl⟩) | (rcases hk with rfl | rfl | rfl <;> exact ⟨_,rfl⟩)) fun K hK=>?_
     simp only [go_sem,htl,List.length_map]
     (try simp (disch:=omega) only [zI])
     refine ⟨⟨by omega,by omega⟩,?_⟩
     repeat first | intro _ | refine ⟨by omega,?_⟩ | refine ⟨⟨by omega,by omega⟩,?_⟩
     refine hK _ ?_
     clear hK K
     refine zw (zk [1,2,4,9,43,44,45]) ?_
     simp only [go_sem]
     repeat refine zq ?_
     refine zb (by kernel_rfl) fun K hK=>?_
     simp only [go_sem]
     (try simp (disch:=omega) only [zI])
     repeat first | intro _ | refine ⟨by omega,?_⟩ | refine ⟨⟨by omega,by omega⟩,?_⟩
     refine hK _ ?_
     clear hK K
     try simp only [go_sem]
     refine ⟨hci,zj [11] ?_ ?_⟩
     · try simp only [go_sem]
     · try simp only [go_sem]
       rw [take_of_opt hbx]
       simp
   · have hil : i = a.beds.length:=by omega
     subst hil
     have etk : bs.take a.beds.length = bs:=by rw [← hbl,List.take_length]
     have etl : List.take a.beds.length (bs.map fun x=>[i64 x]) = bs.map fun x=>[i64 x]:=List.take_of_length_le (by rw [List.length_map]; omega)
     rw [etk]
     refine zf ?_
     simp only [go_sem]
     refine zw (sub_frzB 41 0 57 (by omega) (by omega) rfl rfl rfl (by rw [List.length_map]; omega)) ?_
     simp only [go_sem,List.drop_zero,etl,List.set_cons_zero]
     have esh : (AV.r (RV.sl 1 (bs.map fun x=>[i64 x])) :: (tA zeroT ++ tA zeroT)) = shA bs zeroT zeroT:=(shA_eq bs zeroT zeroT).symm
     rw [esh]
     refine zw (zk [1,2,4,9]) ?_
     simp only [go_sem]
     repeat refine zq ?_
     refine zb (by kernel_rfl) fun K hK=>?_
     simp only [go_sem]
     (try simp (disch:=omega) only [zI])
     intros
     repeat first | intro _ | refine ⟨by omega,?_⟩ | refine ⟨⟨by omega,by omega⟩,?_⟩
     refine hK _ ?_
     clear hK K
     refine zw (zk [1,2,4,9,61,62,63]) ?_
     simp only [go_sem]
     repeat refine zq ?_
     refine zd ?_
     refine awp_whileV (n:=115) (fun (y : Nat × List Int × List Int) vs=>[(1,.r (visR l)),(2,.r (.rp [i64 a.at_,bedsR a.beds])),(4,.pt 4 (vs 4) 0),(9,.pt 41 (vs 41) 0),(61,.r (visR l)),(62,.r (i64 l.length)),(63,.r (i64 y.1))])
      (fun y vs=>[(4,.box [.r (i64 0),.r .ns]),(41,.box (shA bs y.2.1 y.2.2))])
      (fun y=>y.1 ≤ l.length ∧ SmallT (3 * (y.1 : Int)) y.2.1 ∧ SmallT (3 * (y.1 : Int)) y.2.2 ∧ runF bs zeroT zeroT 0 l = runF bs y.2.1 y.2.2 y.1 (l.drop y.1)) (fun y=>l.length - y.1) (0,zeroT,zeroT) (zj [] ?_ ?_) ⟨Nat.zero_le _,zeroT_small (by simp),zeroT_small (by simp),rfl⟩ ?_
     · try simp only [go_sem]
     · try simp only [go_sem]
     · rintro ⟨i,le,mo⟩ vs ⟨hi,hs1,hs2,hR⟩
       simp only at hi hs1 hs2 hR
       have hlel:=hs1.1
       have hmol:=hs2.1
       repeat refine zq ?_
       refine zb (by kernel_rfl) fun K hK=>?_
       simp only [go_sem]
       (try simp (disch:=omega) only [zI])
       repeat first | intro _ | refine ⟨by omega,?_⟩ | refine ⟨⟨by omega,by omega⟩,?_⟩
       refine hK _ ?_
       clear hK K
       refine zw (zk [1,2,4,9,61,62,63,64]) ?_
       simp only [go_sem]
       repeat refine zq ?_
       refine zc rfl (fun hc=>?_) (fun hc=>?_) <;> (try simp only [go_sem] at hc)
       · have hci : i < l.length:=by first | exact hc | omega
         obtain ⟨v,hx⟩:=opt_of_lt hci
         rw [drop_of_opt hx,runF] at hR
         refine zx ?_
         try simp only [go_sem]
         repeat refine zq ?_
         refine zd ?_
         repeat refine zq ?_
         refine zb (by kernel_rfl) fun K hK=>?_
         simp only [go_sem,hx,hci]
         (try simp (disch:=omega) only [zI])
         repeat first | intro _ | refine ⟨by omega,?_⟩ | refine ⟨⟨by omega,by omega⟩,?_⟩
         refine hK _ ?_
         clear hK K
         refine zw (zk [1,2,4,9,12,13,61,62,63]) ?_
         simp only [go_sem]
         repeat refine zq ?_
         refine zb (by kernel_rfl) fun K hK=>?_
         simp only [go_sem]
         (try simp (disch:=omega) only [zI])
         refine xcall_mut (visit_ok bs le mo v.ds v.n hbo (hs1.mono (by omega)) (hs2.mono (by omega))) [(1000,41)] rfl (by simp only [go_sem,i64,ints,shA_lend,shA_back]) (by simp only [go_sem,i64,ints,shA_lend,shA_back]) (by rfl) (by rfl) ?_
         (try simp only [go_sem,shA_lend,shA_back])
         (try simp (disch:=omega) only [zI])
         repeat first | intro _ | refine ⟨by omega,?_⟩ | refine ⟨⟨by omega,by omega⟩,?_⟩
         refine hK _ ?_
         clear hK K
         refine zw (zk [1,2,4,9,12,14,61,62,63]) ?_
         simp only [go_sem]
         by_cases hv0 : visitE bs v.ds v.n = 0
         · have c5 : (visitE bs v.ds v.n != 0) = false:=by simp [hv0]
           rw [if_pos hv0] at hR
           repeat refine zq ?_
           refine zb (by kernel_rfl) fun K hK=>?_
           simp only [go_sem,c5]
           (try simp (disch:=omega) only [zI])
           repeat first | intro _ | refine ⟨by omega,?_⟩ | refine ⟨⟨by omega,by omega⟩,?_⟩
           refine hK _ ?_
           clear hK K
           refine zw (zk [1,2,4,9,12,14,61,62,63,72]) ?_
           simp only [go_sem]
           repeat refine zq ?_
           refine zc rfl (fun hc=>?_) (fun hc=>?_) <;> (try simp only [go_sem] at hc)
           refine zx ?_
           try simp only [go_sem]
           repeat refine zq ?_
           refine zb (by kernel_rfl) fun K hK=>?_
           simp only [go_sem]
           (try simp (disch:=omega) only [zI])
           repeat first | intro _ | refine ⟨by omega,?_⟩ | refine ⟨⟨by omega,by omega⟩,?_⟩
           refine hK _ ?_
           clear hK K
           try simp only [go_sem]
           refine ⟨(i + 1,leV bs le v.ds v.n,moV bs mo v.ds v.n),⟨by omega,?_,?_,hR⟩,by simp only; omega,zj [13] ?_ ?_⟩
           · have:=(leV_small (bs:=bs) (ds:=v.ds) (n:=v.n) hs1).1
             simpa [Int.mul_add] using this
           · have:=moV_small (bs:=bs) (ds:=v.ds) (n:=v.n) hs2
             simpa [Int.mul_add] using this
           · try simp only [go_sem]
           · try simp only [go_sem]
         · have c5 : (visitE bs v.ds v.n != 0) = true:=by simpa using hv0
           rw [if_neg hv0] at hR
           have hv : fitV a l = (⟨0,[]⟩,0,(i : Int),visitE bs v.ds v.n):=by rw [hV,hR]
           rw [hv]
           repeat refine zq ?_
           refine zb (by kernel_rfl) fun K hK=>?_
           simp only [go_sem,c5]
           (try simp (disch:=omega) only [zI])
           repeat first | intro _ | refine ⟨by omega,?_⟩ | refine ⟨⟨by omega,by omega⟩,?_⟩
           refine hK _ ?_
           clear hK K
           refine zw (zk [1,2,4,9,12,14,61,62,63,72]) ?_
           simp only [go_sem]
           repeat refine zq ?_
           refine zc rfl (fun hc=>?_) (fun hc=>?_) <;> (try simp only [go_sem] at hc)
           repeat refine zq ?_
           refine zb (by kernel_rfl) fun K hK=>?_
           simp only [go_sem]
           (try simp (disch:=omega) only [zI])
           repeat first | intro _ | refine ⟨by omega,?_⟩ | refine ⟨⟨by omega,by omega⟩,?_⟩
           refine hK _ ?_
           clear hK K
           refine zw (zk [4,5,6,7]) ?_
           simp only [go_sem]
           refine ze ?_
           simp only [go_sem]
       · have hil : i = l.length:=by omega
         subst hil
         rw [List.drop_length,runF] at hR
         have hv : fitV a l = (⟨a.at_,(List.range a.beds.length).map (bedAt bs le mo)⟩,3 * (l.length : Int),0,0):=by rw [hV,hR]
         rw [hv]
         have hll : l.length ≤ 1000:=by omega
         refine zf ?_
         simp only [go_sem]
         refine zw (sub_frzP 9 41 (sheetR bs le mo) (by omega) rfl rfl) ?_
         try simp only [go_sem]
         refine zw (zk [1,2,4,9]) ?_
         simp only [go_sem]
         repeat refine zq ?_
         refine zb (by kernel_rfl) fun K hK=>?_
         simp only [go_sem]
         (try simp (disch:=omega) only [zI])
         repeat first | intro _ | refine ⟨by omega,?_⟩ | refine ⟨⟨by omega,by omega⟩,?_⟩
         refine hK _ ?_
         clear hK K
         refine zw (zk [1,4,9]) ?_
         simp only [go_sem]
         repeat refine zq ?_
         refine zb (by kernel_rfl) fun K hK=>?_
         simp only [go_sem,hbl]
         (try simp (disch:=omega) only [zI])
         intros
         repeat first | intro _ | refine ⟨by omega,?_⟩ | refine ⟨⟨by omega,by omega⟩,?_⟩
         refine hK _ ?_
         clear hK K
         refine zw (zk [1,4,9,83,84,85]) ?_
         simp only [go_sem]
         repeat refine zq ?_
         refine zd ?_
         refine zw (sub_ownB 4 1 108 67 3 (by omega) (by omega) rfl rfl) ?_
         try simp only [go_sem]
         refine awp_uptoV (n:=115) a.beds.length (fun k vs=>[(1,.r (visR l)),(4,.pt 4 (vs 4) 0),(9,.r (.rp (sheetR bs le mo))),(83,.r (ints bs)),(84,.r (i64 a.beds.length)),(85,.r (i64 k))])
          (fun k vs=>[(4,.box [.r (i64 a.at_),.os 108 (vs 108) 3 0 k]),(108,.arr 67 3 (((List.range k).map (bedAt bs le mo)).map bedR))]) (fun _=>True) 0 (zj [13] ?_ ?_) (Nat.zero_le _) trivial ?_
         · try simp only [go_sem]
         · try simp only [go_sem]
           try simp
         · intro k vs hk _
           repeat refine zq ?_
           refine zb (by kernel_rfl) fun K hK=>?_
           simp only [go_sem]
           (try simp (disch:=omega) only [zI])
           repeat first | intro _ | refine ⟨by omega,?_⟩ | refine ⟨⟨by omega,by omega⟩,?_⟩
           refine hK _ ?_
           clear hK K
           refine zw (zk [1,4,9,83,84,85,86]) ?_
           simp only [go_sem]
           repeat refine zq ?_
           refine zc rfl (fun hc=>?_) (fun hc=>?_) <;> (try simp only [go_sem] at hc)
           · have hck : k < a.beds.length:=by first | exact hc | omega
             have hkb : k < bs.length:=by omega
             obtain ⟨b,hbx⟩:=opt_of_lt hkb
             obtain ⟨x,hxl⟩:=opt_of_lt (l:=le) (i:=k) (by omega)
             obtain ⟨y,hyl⟩:=opt_of_lt (l:=mo) (i:=k) (by omega)
             have hat : bedAt bs le mo k = ⟨b,x,y⟩:=by simp [bedAt,List.getD_eq_getElem?_getD,hbx,hxl,hyl]
             have hrl : ((List.range k).map (bedAt bs le mo)).length = k:=by simp
             have hk10 : (k : Int) < 10:=by omega
             have d1 : List.drop k (tR le ++ tR mo) = i64 x :: List.drop (k + 1) (tR le ++ tR mo):=drop_of_opt (by
              rw [List.getElem?_append_left (by simp; omega)]
              simp [hxl])
             have d0 : List.drop 10 (tR le ++ tR mo) = tR mo:=by
              rw [List.drop_append_of_le_length (by simp; omega),List.drop_of_length_le (by simp; omega),List.nil_append]
             have d2 : List.drop k (tR mo) = i64 y :: List.drop (k + 1) (tR mo):=drop_of_opt (by simp [hyl])
             have hL20 : (tR le ++ tR mo).length = 20:=by simp; omega
             refine zx ?_
             try simp only [go_sem]
             repeat refine zq ?_
             refine zd ?_
             repeat refine zq ?_
             refine zb (by kernel_rfl) fun K hK=>?_
             simp only [go_sem,hbx,hkb]
             (try simp (disch:=omega) only [zI])
             repeat first | intro _ | refine ⟨by omega,?_⟩ | refine ⟨⟨by omega,by omega⟩,?_⟩
             refine hK _ ?_
             clear hK K
             refine zw (zk [1,4,9,15,16,83,84,85]) ?_
             simp only [go_sem]
             repeat refine zq ?_
             refine awp_dreg3 [(4,some 4),(9,none)] [4] follows (by decide +kernel) (by kernel_rfl) (by simp only [keysOk,List.mem_cons,List.not_mem_nil,forall_eq_or_imp,Oc.keyOf,go_sem]; simp) (by intro k hk; simp only [List.mem_cons,List.not_mem_nil,or_false] at hk; first | (subst hk; exact ⟨_,rfl⟩) | (rcases hk with rfl | rfl <;> exact ⟨_,rfl⟩) | (rcases hk with rfl | rfl | rfl <;> exact ⟨_,rfl⟩)) fun K hK=>?_
             simp only [go_sem,Nat.mul_one,hrl,List.length_map,d0,d1,d2,hL20,List.headD_cons,List.length_cons]
             (try simp (disch:=omega) only [zI])
             refine ⟨by omega,by omega,⟨by omega,by omega⟩,?_⟩
             repeat first | intro _ | refine ⟨by omega,?_⟩ | refine ⟨⟨by omega,by omega⟩,?_⟩
             refine hK _ ?_
             clear hK K
             refine zw (zk [1,4,9,83,84,85]) ?_
             simp only [go_sem]
             repeat refine zq ?_
             refine zb (by kernel_rfl) fun K hK=>?_
             simp only [go_sem]
             (try simp (disch:=omega) only [zI])
             repeat first | intro _ | refine ⟨by omega,?_⟩ | refine ⟨⟨by omega,by omega⟩,?_⟩
             refine hK _ ?_
             clear hK K
             try simp only [go_sem]
             refine ⟨hck,zj [] ?_ ?_⟩
             · try simp only [go_sem]
             · try simp only [go_sem]
               simp [List.range_succ,hat,bedR]
           · have hkl : k = a.beds.length:=by omega
             subst hkl
             have etl2 : List.take a.beds.length (((List.range a.beds.length).map (bedAt bs le mo)).map bedR) = ((List.range a.beds.length).map (bedAt bs le mo)).map bedR:=List.take_of_length_le (by simp)
             refine zf ?_
             simp only [go_sem]
             refine zw (sub_frzB 4 1 108 (by omega) (by omega) rfl rfl rfl (by simp)) ?_
             simp only [go_sem,List.drop_zero,etl2,List.set_cons_succ,List.set_cons_zero]
             refine zw (zk [1,4]) ?_
             simp only [go_sem]
             repeat refine zq ?_
             refine zb (by kernel_rfl) fun K hK=>?_
             simp only [go_sem]
             (try simp (disch:=omega) only [zI])
             intros
             repeat first | intro _ | refine ⟨by omega,?_⟩ | refine ⟨⟨by omega,by omega⟩,?_⟩
             refine hK _ ?_
             clear hK K
             refine zw (zk [4,5,6,7]) ?_
             simp only [go_sem]
             refine ze ?_
             simp only [go_sem]
             done
end Go.Proofs.Ytgkejinoaommeaa

namespace Go.Proofs.Ytgkejinoaommeaa
open Go Go.Oc
set_option linter.unusedSimpArgs false
set_option linter.unusedVariables false
set_option maxRecDepth 8000
theorem bedOk_range {b : Int} (h : bedOk b = true) : 100 ≤ b ∧ b ≤ 499:=by
 simp only [bedOk,Bool.or_eq_true,Bool.and_eq_true,decide_eq_true_eq] at h
 omega
theorem seqOk_mem : ∀ {p : Option Int} {l : List Bd},seqOk p l = true → ∀ x ∈ l,0 ≤ x.b ∧ x.b ≤ 499
 | _,[],_,x,hx=>by cases hx
 | p, y :: l, h, x, hx => by
   simp only [seqOk,Bool.and_eq_true,Bool.or_eq_true,decide_eq_true_eq] at h
   rcases List.mem_cons.1 hx with rfl | hx
   · rcases h.1.1 with h0 | h0
     · omega
     · have:=bedOk_range h0; omega
   · exact seqOk_mem h.2 x hx
def scoresOf (l : List Bd) : List Int:=l.map fun x=>scoreOf x.b
def spanOf (d : Int) (a : Am) : Int × Int:=(meanLo d a.beds (scoresOf a.beds),meanHi d a.beds (scoresOf a.beds))
abbrev spansR (l : List (Int × Int)) : RV:=.sl 2 (l.map fun x=>[i64 x.1,i64 x.2])
def spansV (d : Int) (l : List Am) : List (Int × Int):=if checkV d l = 0 then l.map (spanOf d) else []
theorem Score_ok (d : Int) (l : List Am) (hw : WfL d l) : ACalls Try.prog 21 [lawV d l] (.tu [spansR (spansV d l),i64 (checkV d l)]):=by
 refine acalls_stR (rs:=[spansR (spansV d l),i64 (checkV d l)]) [.cell 2 38,.tmp 3] Try.func21 rfl (by kernel_rfl) Try.ntmps21 rfl (by simp) rfl fun C hC vs=>?_
 repeat refine zq ?_
 refine zb (by kernel_rfl) fun K hK=>?_
 simp only [go_sem]
 (try simp (disch:=omega) only [zI])
 repeat first | intro _ | refine ⟨by omega,?_⟩ | refine ⟨⟨by omega,by omega⟩,?_⟩
 refine hK _ ?_
 clear hK K
 repeat refine zq ?_
 refine zb (by kernel_rfl) fun K hK=>?_
 simp only [go_sem]
 (try simp (disch:=omega) only [zI])
 refine zh (check_ok d l hw) rfl (by simp only [go_sem,i64,ints]) (by simp only [go_sem,i64,ints]) (by first | exact .inl rfl | exact .inr rfl) ?_
 (try simp only [go_sem])
 (try simp (disch:=omega) only [zI])
 repeat first | intro _ | refine ⟨by omega,?_⟩ | refine ⟨⟨by omega,by omega⟩,?_⟩
 refine hK _ ?_
 clear hK K
 repeat refine zq ?_
 refine zb (by kernel_rfl) fun K hK=>?_
 simp only [go_sem]
 (try simp (disch:=omega) only [zI])
 cases hE : checkV d l != 0
 case true =>
  repeat first | intro _ | refine ⟨by omega,?_⟩ | refine ⟨⟨by omega,by omega⟩,?_⟩
  refine hK _ ?_
  clear hK K
  have hne : ¬ checkV d l = 0:=by simpa using hE
  repeat refine zq ?_
  refine zc rfl (fun hc=>?_) (fun hc=>?_) <;> (try simp only [go_sem] at hc)
  repeat refine zq ?_
  refine zb (by kernel_rfl) fun K hK=>?_
  simp only [go_sem]
  (try simp (disch:=omega) only [zI])
  repeat first | intro _ | refine ⟨by omega,?_⟩ | refine ⟨⟨by omega,by omega⟩,?_⟩
  refine hK _ ?_
  clear hK K
  refine ze ?_
  simp only [go_sem]
  simp [hne,spansV]
 have h0 : checkV d l = 0:=by simpa using hE
 obtain ⟨c1,c2,c3,c4,c5⟩:=checkV_zero h0
 repeat first | intro _ | refine ⟨by omega,?_⟩ | refine ⟨⟨by omega,by omega⟩,?_⟩
 refine hK _ ?_
 clear hK K
 repeat refine zq ?_
 refine zc rfl (fun hc=>?_) (fun hc=>?_) <;> (try simp only [go_sem] at hc)
 refine zx ?_
 try simp only [go_sem]
 repeat refine zq ?_
 refine zb (by kernel_rfl) fun K hK=>?_
 simp only [go_sem]
 (try simp (disch:=omega) only [zI])
 refine zh (all_ok d l) rfl (by simp only [go_sem,i64,ints]) (by simp only [go_sem,i64,ints]) (by first | exact .inl rfl | exact .inr rfl) ?_
 (try simp only [go_sem])
 (try simp (disch:=omega) only [zI])
 repeat first | intro _ | refine ⟨by omega,?_⟩ | refine ⟨⟨by omega,by omega⟩,?_⟩
 refine hK _ ?_
 clear hK K
 refine zw (zk [2,16]) ?_
 simp only [go_sem]
 repeat refine zq ?_
 refine zd ?_
 refine zw (sub_ownB 2 0 39 46 2 (by omega) (by omega) rfl rfl) ?_
 try simp only [go_sem]
 refine awp_rangeF hC (enumA d l) (all1_ok d l) [2,16] (by decide) (fun vs=>[(2,.pt 2 (vs 2) 0),(16,.r (.fn 73 [.rp [i64 d,aimsR l]]))])
  (fun i vs=>[(2,.box [.os 39 (vs 39) 2 0 i]),(39,.arr 46 2 (((l.map (spanOf d)).take i).map fun x=>[i64 x.1,i64 x.2]))])
  (fun i=>True) (zj [1] ?_ ?_) trivial (fun _=>rfl) (fun _=>rfl) (fun _ _=>rfl) (by simp) (fun e he=>enumA_len he) ?_ ?_
 · try simp only [go_sem]
 · try simp only [go_sem]
 · intro i e vs us C he _
   obtain ⟨x,hx,rfl⟩:=enumA_get he
   obtain ⟨_,_,k3,k4,k5,_⟩:=aimOk_facts (c5 x (mem_of_opt hx))
   have hsq:=seqOk_mem k3
   have hbl:=c2 x (mem_of_opt hx)
   have hil : i < l.length:=(List.getElem?_eq_some_iff.1 hx).1
   have hlt : ((l.map (spanOf d)).take i).length = i:=by rw [List.length_take]; simp; omega
   have htx : (l.map (spanOf d)).take (i + 1) = (l.map (spanOf d)).take i ++ [spanOf d x]:=take_of_opt (by simp [hx])
   have hvals : Vals (scoresOf x.beds):=fun v hv=>by
    obtain ⟨y,hy,rfl⟩:=List.mem_map.1 hv
    have:=score_le (hsq y hy).1 (hsq y hy).2
    omega
   repeat refine zq ?_
   refine zb (by kernel_rfl) fun K hK=>?_
   simp only [go_sem]
   (try simp (disch:=omega) only [zI])
   repeat first | intro _ | refine ⟨by omega,?_⟩ | refine ⟨⟨by omega,by omega⟩,?_⟩
   refine hK _ ?_
   clear hK K
   refine ⟨rfl,fun C'=>?_⟩
   refine zw (zk [2,6,16]) ?_
   simp only [go_sem]
   repeat refine zq ?_
   refine zd ?_
   repeat refine zq ?_
   refine zb (by kernel_rfl) fun K hK=>?_
   simp only [go_sem]
   (try simp (disch:=omega) only [zI])
   repeat first | intro _ | refine ⟨by omega,?_⟩ | refine ⟨⟨by omega,by omega⟩,?_⟩
   refine hK _ ?_
   clear hK K
   repeat refine zq ?_
   refine zb (by kernel_rfl) fun K hK=>?_
   simp only [go_sem]
   (try simp (disch:=omega) only [zI])
   intro _
   repeat first | intro _ | refine ⟨by omega,?_⟩ | refine ⟨⟨by omega,by omega⟩,?_⟩
   refine hK _ ?_
   clear hK K
   refine zw (zk [2,6,7,16,21,22,23]) ?_
   simp only [go_sem]
   refine zw (sub_own 7 32 3 1 (by omega) rfl) ?_
   try simp only [go_sem]
   repeat refine zq ?_
   refine zd ?_
   refine awp_uptoV (n:=41) x.beds.length (fun k vs=>[(2,.pt 2 (vs 2) 0),(6,.pt 6 (vs 6) 0),(7,.os 32 (vs 32) 1 0 k),(16,.r (.fn 73 [.rp [i64 d,aimsR l]])),(21,.r (bedsR x.beds)),(22,.r (i64 x.beds.length)),(23,.r (i64 k))])
    (fun k vs=>[(0,.sus [.pt 2 (vs 2) 0,.r (.fn 73 [.rp [i64 d,aimsR l]])] us),(2,.box [.os 39 (vs 39) 2 0 i]),(6,.box [.r (i64 x.at_),.r (bedsR x.beds),.r (i64 d)]),(32,.arr 3 1 (((scoresOf x.beds).take k).map fun x=>[i64 x])),(39,.arr 46 2 (((l.map (spanOf d)).take i).map fun x=>[i64 x.1,i64 x.2]))])
    (fun _=>True) 0 (zj [] ?_ ?_) (Nat.zero_le _) trivial ?_
   · try simp only [go_sem]
   · try simp only [go_sem]
   · intro k vs hk _
     have hlk : ((scoresOf x.beds).take k).length = k:=by rw [List.length_take]; simp [scoresOf]; omega
     repeat refine zq ?_
     refine zb (by kernel_rfl) fun K hK=>?_
     simp only [go_sem]
     (try simp (disch:=omega) only [zI])
     repeat first | intro _ | refine ⟨by omega,?_⟩ | refine ⟨⟨by omega,by omega⟩,?_⟩
     refine hK _ ?_
     clear hK K
     repeat refine zq ?_
     refine zc rfl (fun hc=>?_) (fun hc=>?_) <;> (try simp only [go_sem] at hc)
     · have hci:=hc
       obtain ⟨y,hy⟩:=opt_of_lt hc
       have hsy:=hsq y (mem_of_opt hy)
       have htk : (scoresOf x.beds).take (k + 1) = (scoresOf x.beds).take k ++ [scoreOf y.b]:=take_of_opt (by simp [scoresOf,hy])
       refine zx ?_
       repeat refine zq ?_
       refine zd ?_
       repeat refine zq ?_
       refine zb (by kernel_rfl) fun K hK=>?_
       simp only [go_sem,hy,hc,bedR]
       (try simp (disch:=omega) only [zI])
       repeat first | intro _ | refine ⟨by omega,?_⟩ | refine ⟨⟨by omega,by omega⟩,?_⟩
       refine hK _ ?_
       clear hK K
       refine zw (zk [2,6,7,9,16,21,22,23]) ?_
       simp only [go_sem]
       repeat refine zq ?_
       refine zb (by kernel_rfl) fun K hK=>?_
       simp only [go_sem,hlk]
       (try simp (disch:=omega) only [zI])
       refine zh (score_ok y.b hsy.1 hsy.2) rfl (by simp only [go_sem,i64,ints,hlk]) (by simp only [go_sem,i64,ints,hlk]) (by first | exact .inl rfl | exact .inr rfl) ?_
       (try simp only [go_sem,hlk])
       (try simp (disch:=omega) only [zI])
       repeat first | intro _ | refine ⟨by omega,?_⟩ | refine ⟨⟨by omega,by omega⟩,?_⟩
       refine hK _ ?_
       clear hK K
       refine zw (zk [2,6,7,16,21,22,23]) ?_
       simp only [go_sem]
       repeat refine zq ?_
       refine zb (by kernel_rfl) fun K hK=>?_
       simp only [go_sem]
       (try simp (disch:=omega) only [zI])
       repeat first | intro _ | refine ⟨by omega,?_⟩ | refine ⟨⟨by omega,by omega⟩,?_⟩
       refine hK _ ?_
       clear hK K
       try simp only [go_sem]
       refine ⟨hci,zj [9] ?_ ?_⟩
       · try simp only [go_sem]
       · try simp only [go_sem]
         rw [htk]
         simp
     · refine zf ?_
       simp only [go_sem]
       have hkk : k = x.beds.length:=by omega
       subst hkk
       have e1 : (scoresOf x.beds).take x.beds.length = scoresOf x.beds:=List.take_of_length_le (by simp [scoresOf])
       rw [e1]
       have hvl : (scoresOf x.beds).length = x.beds.length:=by simp [scoresOf]
       refine zw (sub_frz (ty:=3) (sz:=1) (off:=0) (m:=x.beds.length) (es:=(scoresOf x.beds).map fun x=>[i64 x]) 7 32 (by omega) (by try simp only [go_sem]) (by try simp only [go_sem]) (by simp [hvl])) ?_
       have e2 : (((scoresOf x.beds).map fun x=>[i64 x]).drop 0).take x.beds.length = (scoresOf x.beds).map fun x=>[i64 x]:=by
        rw [List.drop_zero,List.take_of_length_le (by simp [hvl])]
       rw [e2]
       try simp only [go_sem]
       repeat refine zq ?_
       refine awp_dreg3 [(2,some 2),(6,some 6),(7,none)] [2,6] follows (by decide +kernel) (by kernel_rfl) (by simp only [keysOk,List.mem_cons,List.not_mem_nil,forall_eq_or_imp,Oc.keyOf,go_sem]; simp) (by intro k hk; simp only [List.mem_cons,List.not_mem_nil,or_false] at hk; first | (subst hk; exact ⟨_,rfl⟩) | (rcases hk with rfl | rfl <;> exact ⟨_,rfl⟩) | (rcases hk with rfl | rfl | rfl <;> exact ⟨_,rfl⟩)) fun K hK=>?_
       simp only [go_sem,hlt]
       (try simp (disch:=omega) only [zI])
       refine zh (mean_ok x.at_ x.beds d (scoresOf x.beds) hvl (by omega) k4 (by omega) k5 hvals) rfl (by simp only [go_sem,i64,ints,hlt]) (by simp only [go_sem,i64,ints,hlt]) (by first | exact .inl rfl | exact .inr rfl) ?_
       (try simp only [go_sem,hlt])
       (try simp (disch:=omega) only [zI])
       repeat first | intro _ | refine ⟨by omega,?_⟩ | refine ⟨⟨by omega,by omega⟩,?_⟩
       refine hK _ ?_
       clear hK K
       try simp only [go_sem]
       refine zj (F:=fun _=>[]) [6] (by try simp only [go_sem]) ?_
       try simp only [go_sem]
       rw [htx]
       simp [spanOf]
 · intro vs us _
   try simp only [go_sem]
   refine zw (sub_wake rfl) ?_
   repeat refine zq ?_
   refine zb (by kernel_rfl) fun K hK=>?_
   simp only [go_sem]
   (try simp (disch:=omega) only [zI])
   repeat first | intro _ | refine ⟨by omega,?_⟩ | refine ⟨⟨by omega,by omega⟩,?_⟩
   refine hK _ ?_
   clear hK K
   refine ze ?_
   simp only [go_sem]
   have hel : (enumA d l).length = l.length:=by simp [enumA]
   rw [hel,h0]
   have e1 : (l.map (spanOf d)).take l.length = l.map (spanOf d):=List.take_of_length_le (by simp)
   rw [e1]
   refine ⟨⟨by simp,?_⟩,rfl⟩
   rw [List.take_of_length_le (by simp),spansV,if_pos h0]
end Go.Proofs.Ytgkejinoaommeaa

namespace Go.Proofs.Ytgkejinoaommeaa
open Go Go.Oc
set_option linter.unusedSimpArgs false
set_option linter.unusedVariables false
set_option maxRecDepth 8000
abbrev spanR (x : Int × Int) : List RV:=[i64 x.1,i64 x.2]
def isP (x : Int × Int) (i : Nat) (t : (Int × Int) × Nat) : Bool:=decide (t.2 = i) || decide (t.1.2 ≤ x.1)
def mayP (x : Int × Int) (i : Nat) (t : (Int × Int) × Nat) : Bool:=decide (t.2 = i) || decide (t.1.1 ≤ x.2)
def bestL (q : Int × Int → Nat → (Int × Int) × Nat → Bool) (s : List (Int × Int)) : List Int:=(s.zipIdx.filter fun x=>s.zipIdx.all (q x.1 x.2)).map fun x=>(x.2 : Int)
def bestK (q : Int × Int → Nat → (Int × Int) × Nat → Bool) (s : List (Int × Int)) (i : Nat) : List Int:=((s.zipIdx.take i).filter fun x=>s.zipIdx.all (q x.1 x.2)).map fun x=>(x.2 : Int)
theorem bestK_step {q : Int × Int → Nat → (Int × Int) × Nat → Bool} {s : List (Int × Int)} {i : Nat} {x : Int × Int} (hx : s[i]? = some x) : bestK q s (i + 1) = bestK q s i ++ (if s.zipIdx.all (q x i) then [(i : Int)] else []):=by
 have : s.zipIdx[i]? = some (x,i):=by simp [hx]
 unfold bestK
 rw [take_of_opt this,List.filter_append,List.map_append]
 congr 1
 cases h : s.zipIdx.all (q x i) <;> simp [List.filter,h]
theorem all_step {α : Type} {p : α → Bool} {l : List α} {k : Nat} {y : α} (hy : l[k]? = some y) : (l.take (k + 1)).all p = ((l.take k).all p && p y):=by rw [take_of_opt hy]; simp
theorem bestK_len (q : Int × Int → Nat → (Int × Int) × Nat → Bool) (s : List (Int × Int)) (i : Nat) : (bestK q s i).length ≤ i:=by
 unfold bestK
 rw [List.length_map]
 refine Nat.le_trans (List.length_filter_le _ _) ?_
 rw [List.length_take]; omega
theorem Best_ok (d : Int) (l : List Am) (hw : WfL d l) : ACalls Try.prog 22 [lawV d l] (.tu [ints (bestL isP (spansV d l)),ints (bestL mayP (spansV d l)),i64 (checkV d l)]):=by
 have hsc:=Score_ok d l hw
 have hsl : (spansV d l).length ≤ 20:=by
  unfold spansV
  split
  · rename_i h; have:=(checkV_zero h).1; simpa using this
  · simp
 generalize spansV d l = s at hsc hsl
 refine acalls_st (rs:=[ints (bestL isP s),ints (bestL mayP s),i64 (checkV d l)]) [.tmp 2,.tmp 3,.tmp 4] Try.func22 rfl (by kernel_rfl) Try.ntmps22 rfl (by simp) rfl fun C vs=>?_
 repeat refine zq ?_
 refine zb (by kernel_rfl) fun K hK=>?_
 simp only [go_sem]
 (try simp (disch:=omega) only [zI])
 repeat first | intro _ | refine ⟨by omega,?_⟩ | refine ⟨⟨by omega,by omega⟩,?_⟩
 refine hK _ ?_
 clear hK K
 repeat refine zq ?_
 refine zb (by kernel_rfl) fun K hK=>?_
 simp only [go_sem]
 (try simp (disch:=omega) only [zI])
 refine zh (hsc) rfl (by simp only [go_sem,i64,ints]) (by simp only [go_sem,i64,ints]) (by first | exact .inl rfl | exact .inr rfl) ?_
 (try simp only [go_sem])
 (try simp (disch:=omega) only [zI])
 repeat first | intro _ | refine ⟨by omega,?_⟩ | refine ⟨⟨by omega,by omega⟩,?_⟩
 refine hK _ ?_
 clear hK K
 refine zw (zk [2,3,4,5]) ?_
 simp only [go_sem]
 repeat refine zq ?_
 refine zb (by kernel_rfl) fun K hK=>?_
 simp only [go_sem]
 (try simp (disch:=omega) only [zI])
 intro _
 repeat first | intro _ | refine ⟨by omega,?_⟩ | refine ⟨⟨by omega,by omega⟩,?_⟩
 refine hK _ ?_
 clear hK K
 refine zw (sub_own 2 62 3 1 (by omega) rfl) ?_
 try simp only [go_sem]
 refine zw (sub_own 3 67 3 1 (by omega) rfl) ?_
 refine zw (zk [2,3,4,5,17,18,19]) ?_
 simp only [go_sem]
 repeat refine zq ?_
 refine zd ?_
 refine awp_uptoV (n:=72) s.length (fun i vs=>[(2,.os 62 (vs 62) 1 0 (bestK isP s i).length),(3,.os 67 (vs 67) 1 0 (bestK mayP s i).length),(4,.r (i64 (checkV d l))),(5,.r (spansR s)),(17,.r (spansR s)),(18,.r (i64 s.length)),(19,.r (i64 i))])
  (fun i vs=>[(62,.arr 3 1 ((bestK isP s i).map fun x=>[i64 x])),(67,.arr 3 1 ((bestK mayP s i).map fun x=>[i64 x]))]) (fun _=>True) 0 (zj [1] ?_ ?_) (Nat.zero_le _) trivial ?_
 · try simp only [go_sem]
   simp [bestK]
 · try simp only [go_sem]
   simp [bestK]
 · intro i vs hi _
   repeat refine zq ?_
   refine zb (by kernel_rfl) fun K hK=>?_
   simp only [go_sem]
   (try simp (disch:=omega) only [zI])
   repeat first | intro _ | refine ⟨by omega,?_⟩ | refine ⟨⟨by omega,by omega⟩,?_⟩
   refine hK _ ?_
   clear hK K
   repeat refine zq ?_
   refine zc rfl (fun hc=>?_) (fun hc=>?_) <;> (try simp only [go_sem] at hc)
   · have hci:=hc
     obtain ⟨x,hx⟩:=opt_of_lt hci
     have st1:=bestK_step (q:=isP) hx
     have st2:=bestK_step (q:=mayP) hx
     have ln1:=bestK_len isP s i
     have ln2:=bestK_len mayP s i
     refine zx ?_
     repeat refine zq ?_
     refine zd ?_
     repeat refine zq ?_
     refine zb (by kernel_rfl) fun K hK=>?_
     simp only [go_sem,hx,hci]
     (try simp (disch:=omega) only [zI])
     repeat first | intro _ | refine ⟨by omega,?_⟩ | refine ⟨⟨by omega,by omega⟩,?_⟩
     refine hK _ ?_
     clear hK K
     repeat refine zq ?_
     refine zb (by kernel_rfl) fun K hK=>?_
     simp only [go_sem]
     (try simp (disch:=omega) only [zI])
     repeat first | intro _ | refine ⟨by omega,?_⟩ | refine ⟨⟨by omega,by omega⟩,?_⟩
     refine hK _ ?_
     clear hK K
     repeat refine zq ?_
     refine zb (by kernel_rfl) fun K hK=>?_
     simp only [go_sem]
     (try simp (disch:=omega) only [zI])
     intro _
     repeat first | intro _ | refine ⟨by omega,?_⟩ | refine ⟨⟨by omega,by omega⟩,?_⟩
     refine hK _ ?_
     clear hK K
     refine zw (zk [2,3,4,5,6,7,8,9,17,18,19,24,25,26]) ?_
     simp only [go_sem]
     repeat refine zq ?_
     refine zd ?_
     refine awp_uptoV (n:=72) s.length (fun k vs=>[(2,.os 62 (vs 62) 1 0 (bestK isP s i).length),(3,.os 67 (vs 67) 1 0 (bestK mayP s i).length),(4,.r (i64 (checkV d l))),(5,.r (spansR s)),(6,.r (i64 i)),(7,.pt 7 (vs 7) 0),(8,.r (.bo ((s.zipIdx.take k).all (isP x i)))),(9,.r (.bo ((s.zipIdx.take k).all (mayP x i)))),(17,.r (spansR s)),(18,.r (i64 s.length)),(19,.r (i64 i)),(24,.r (spansR s)),(25,.r (i64 s.length)),(26,.r (i64 k))])
      (fun k vs=>[(7,.box [.r (i64 x.1),.r (i64 x.2)]),(62,.arr 3 1 ((bestK isP s i).map fun x=>[i64 x])),(67,.arr 3 1 ((bestK mayP s i).map fun x=>[i64 x]))]) (fun _=>True) 0 (zj [] ?_ ?_) (Nat.zero_le _) trivial ?_
     · try simp only [go_sem]
       simp
     · try simp only [go_sem]
     · intro k vs hk _
       repeat refine zq ?_
       refine zb (by kernel_rfl) fun K hK=>?_
       simp only [go_sem]
       (try simp (disch:=omega) only [zI])
       repeat first | intro _ | refine ⟨by omega,?_⟩ | refine ⟨⟨by omega,by omega⟩,?_⟩
       refine hK _ ?_
       clear hK K
       repeat refine zq ?_
       refine zc rfl (fun hc=>?_) (fun hc=>?_) <;> (try simp only [go_sem] at hc)
       · have hck:=hc
         obtain ⟨y,hy⟩:=opt_of_lt hck
         have hyz : s.zipIdx[k]? = some (y,k):=by simp [hy]
         have a1:=all_step (p:=isP x i) hyz
         have a2:=all_step (p:=mayP x i) hyz
         generalize (s.zipIdx.take k).all (isP x i) = A at a1 ⊢
         generalize (s.zipIdx.take k).all (mayP x i) = B at a2 ⊢
         refine zx ?_
         repeat refine zq ?_
         refine zd ?_
         repeat refine zq ?_
         refine zb (by kernel_rfl) fun K hK=>?_
         simp only [go_sem,hy,hck]
         (try simp (disch:=omega) only [zI])
         repeat first | intro _ | refine ⟨by omega,?_⟩ | refine ⟨⟨by omega,by omega⟩,?_⟩
         refine hK _ ?_
         clear hK K
         refine zw (zk [2,3,4,5,6,7,8,9,10,11,17,18,19,24,25,26]) ?_
         simp only [go_sem]
         repeat refine zq ?_
         refine awp_dreg2 [(7,some 7),(11,some 11)] follows (by decide +kernel) (by kernel_rfl) (by simp only [keysOk,List.mem_cons,List.not_mem_nil,forall_eq_or_imp,Oc.keyOf,go_sem]; simp) fun K hK=>?_
         simp only [go_sem]
         (try simp (disch:=omega) only [zI])
         repeat' first | intro _ | refine And.intro ?_ ?_
         all_goals first | omega | skip
         all_goals (refine hK _ ?_; clear hK K)
         all_goals (refine zw (zk [2,3,4,5,6,7,8,9,17,18,19,24,25,26]) ?_; simp only [go_sem])
         all_goals (repeat refine zq ?_)
         all_goals (refine zb (by kernel_rfl) fun K hK=>?_; simp only [go_sem]; try simp (disch:=omega) only [zI])
         all_goals (refine hK _ ?_; clear hK K)
         all_goals (simp only [go_sem])
         all_goals (refine ⟨hck,zj [11] ?_ ?_⟩)
         all_goals (simp only [go_sem,a1,a2,isP,mayP])
         all_goals (by_cases hki : k = i <;> first | omega | simp_all)
       · refine zf ?_
         simp only [go_sem]
         have hks : k = s.length:=by omega
         have e1 : s.zipIdx.take k = s.zipIdx:=List.take_of_length_le (by simp; omega)
         rw [e1]
         repeat refine zq ?_
         refine zb (by kernel_rfl) fun K hK=>?_
         simp only [go_sem]
         (try simp (disch:=omega) only [zI])
         repeat first | intro _ | refine ⟨by omega,?_⟩ | refine ⟨⟨by omega,by omega⟩,?_⟩
         refine hK _ ?_
         clear hK K
         cases hA : s.zipIdx.all (isP x i)
         · rw [hA] at st1
           repeat refine zq ?_
           refine zc rfl (fun hc=>?_) (fun hc=>?_) <;> (try simp only [go_sem] at hc)
           refine zx ?_
           try simp only [go_sem]
           repeat refine zq ?_
           refine zb (by kernel_rfl) fun K hK=>?_
           simp only [go_sem]
           (try simp (disch:=omega) only [zI])
           repeat first | intro _ | refine ⟨by omega,?_⟩ | refine ⟨⟨by omega,by omega⟩,?_⟩
           refine hK _ ?_
           clear hK K
           cases hM : s.zipIdx.all (mayP x i)
           · rw [hM] at st2
             repeat refine zq ?_
             refine zc rfl (fun hc=>?_) (fun hc=>?_) <;> (try simp only [go_sem] at hc)
             refine zx ?_
             try simp only [go_sem]
             repeat refine zq ?_
             refine zb (by kernel_rfl) fun K hK=>?_
             simp only [go_sem]
             (try simp (disch:=omega) only [zI])
             repeat first | intro _ | refine ⟨by omega,?_⟩ | refine ⟨⟨by omega,by omega⟩,?_⟩
             refine hK _ ?_
             clear hK K
             try simp only [go_sem]
             refine ⟨hci,zj [7] ?_ ?_⟩
             · simp only [go_sem,st1,st2]
               try simp
             · simp only [go_sem,st1,st2]
               try simp
           · rw [hM] at st2
             repeat refine zq ?_
             refine zc rfl (fun hc=>?_) (fun hc=>?_) <;> (try simp only [go_sem] at hc)
             repeat refine zq ?_
             refine zb (by kernel_rfl) fun K hK=>?_
             simp only [go_sem]
             (try simp (disch:=omega) only [zI])
             repeat first | intro _ | refine ⟨by omega,?_⟩ | refine ⟨⟨by omega,by omega⟩,?_⟩
             refine hK _ ?_
             clear hK K
             repeat refine zq ?_
             refine zb (by kernel_rfl) fun K hK=>?_
             simp only [go_sem]
             (try simp (disch:=omega) only [zI])
             repeat first | intro _ | refine ⟨by omega,?_⟩ | refine ⟨⟨by omega,by omega⟩,?_⟩
             refine hK _ ?_
             clear hK K
             try simp only [go_sem]
             refine ⟨hci,zj [7] ?_ ?_⟩
             · simp only [go_sem,st1,st2]
               try simp
             · simp only [go_sem,st1,st2]
               try simp
         · rw [hA] at st1
           repeat refine zq ?_
           refine zc rfl (fun hc=>?_) (fun hc=>?_) <;> (try simp only [go_sem] at hc)
           repeat refine zq ?_
           refine zb (by kernel_rfl) fun K hK=>?_
           simp only [go_sem]
           (try simp (disch:=omega) only [zI])
           repeat first | intro _ | refine ⟨by omega,?_⟩ | refine ⟨⟨by omega,by omega⟩,?_⟩
           refine hK _ ?_
           clear hK K
           repeat refine zq ?_
           refine zb (by kernel_rfl) fun K hK=>?_
           simp only [go_sem]
           (try simp (disch:=omega) only [zI])
           repeat first | intro _ | refine ⟨by omega,?_⟩ | refine ⟨⟨by omega,by omega⟩,?_⟩
           refine hK _ ?_
           clear hK K
           cases hM : s.zipIdx.all (mayP x i)
           · rw [hM] at st2
             repeat refine zq ?_
             refine zc rfl (fun hc=>?_) (fun hc=>?_) <;> (try simp only [go_sem] at hc)
             refine zx ?_
             try simp only [go_sem]
             repeat refine zq ?_
             refine zb (by kernel_rfl) fun K hK=>?_
             simp only [go_sem]
             (try simp (disch:=omega) only [zI])
             repeat first | intro _ | refine ⟨by omega,?_⟩ | refine ⟨⟨by omega,by omega⟩,?_⟩
             refine hK _ ?_
             clear hK K
             try simp only [go_sem]
             refine ⟨hci,zj [7] ?_ ?_⟩
             · simp only [go_sem,st1,st2]
               try simp
             · simp only [go_sem,st1,st2]
               try simp
           · rw [hM] at st2
             repeat refine zq ?_
             refine zc rfl (fun hc=>?_) (fun hc=>?_) <;> (try simp only [go_sem] at hc)
             repeat refine zq ?_
             refine zb (by kernel_rfl) fun K hK=>?_
             simp only [go_sem]
             (try simp (disch:=omega) only [zI])
             repeat first | intro _ | refine ⟨by omega,?_⟩ | refine ⟨⟨by omega,by omega⟩,?_⟩
             refine hK _ ?_
             clear hK K
             repeat refine zq ?_
             refine zb (by kernel_rfl) fun K hK=>?_
             simp only [go_sem]
             (try simp (disch:=omega) only [zI])
             repeat first | intro _ | refine ⟨by omega,?_⟩ | refine ⟨⟨by omega,by omega⟩,?_⟩
             refine hK _ ?_
             clear hK K
             try simp only [go_sem]
             refine ⟨hci,zj [7] ?_ ?_⟩
             · simp only [go_sem,st1,st2]
               try simp
             · simp only [go_sem,st1,st2]
               try simp
   · refine zf ?_
     simp only [go_sem]
     have his : i = s.length:=by omega
     repeat refine zq ?_
     refine zb (by kernel_rfl) fun K hK=>?_
     simp only [go_sem]
     (try simp (disch:=omega) only [zI])
     repeat first | intro _ | refine ⟨by omega,?_⟩ | refine ⟨⟨by omega,by omega⟩,?_⟩
     refine hK _ ?_
     clear hK K
     refine ze ?_
     simp only [go_sem]
     have e1 : ∀ q,bestK q s i = bestL q s:=fun q=>by
      unfold bestK bestL
      rw [List.take_of_length_le (by simp; omega)]
     simp only [e1]
     exact ⟨trivial,trivial⟩
end Go.Proofs.Ytgkejinoaommeaa
