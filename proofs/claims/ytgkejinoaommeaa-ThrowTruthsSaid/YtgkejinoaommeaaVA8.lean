/- Part 8 of the texts of this claim. -/
import Derived.Test.YtgkejinoaommeaaVA7
import Derived.Test.YtgkejinoaommeaaVA6
import Derived.Test.YtgkejinoaommeaaVA5
namespace Go.Proofs.Ytgkejinoaommeaa
open Go Go.Oc
set_option linter.unusedSimpArgs false
set_option linter.unusedVariables false
set_option maxRecDepth 8000
set_option maxHeartbeats 2000000
def third : Option Code → Option Code
 | some (.seq _ (.seq _ (.seq _ r)))=>some r
 | _=>none
def tlR (A F : Nat → Am) (N κ : Nat) (d : Int) (vs : Nat → Nat) : List (Nat × RowC) :=
 (4,.box [.r (i64 0),.r .ns]) :: (5,.box [.r (i64 d),.os κ (vs κ) 2 0 N]) :: (κ,.ara 36 2 (araG A vs N)) :: fam (famG F) N
def fixA (x : Lw) (D : Int) (A : Nat → Am) (i j : Nat) : Am:=if j < i then ⟨(A j).at_,fixM x D (A j).beds⟩ else A j
theorem fixA_zero (x : Lw) (D : Int) (A : Nat → Am) : fixA x D A 0 = A:=by funext j; simp [fixA]
theorem tail_ex (x : Lw) (hx : WfLw x) (most : Int) (hm : 0 ≤ most ∧ most ≤ 100) : ∃ c,third Try.f31.body = some c ∧ ∀ (C : Ctx) (vs : Nat → Nat),awp Try.prog C c (fpostL Try.prog [.cell 4 24] [lawV (denM x most) (aimsM x most)]) (st 268 [(2,.r (.rp (lwC x))),(4,.pt 4 (vs 4) 0),(5,.pt 5 (vs 5) 0)] vs (mkR x most (cntM x) vs)):=by
 refine ⟨_,rfl,fun C vs=>?_⟩
 refine zq ?_
 refine awp_joinV (n:=268) (fun (κ : Nat) vs=>[(2,.r (.rp (lwC x))),(4,.pt 4 (vs 4) 0),(5,.pt 5 (vs 5) 0)]) (fun κ vs=>tlR (rawA x most) (rawA x most) (rawN x most) κ 0 vs) (fun κ=>κ = 110 ∨ κ = 126) (fun _ h=>h) ?_ ?_
 · by_cases h0 : cntM x = 0
   · have hN : rawN x most = 1:=by unfold rawN rawM; rw [if_pos h0]; rfl
     have hA : rawA x most 0 = ⟨320,[⟨320,x.rest,x.rest⟩]⟩:=by unfold rawA rawM; rw [if_pos h0]; rfl
     have hrw : IntKind.i64.wrap x.rest = x.rest:=by have:=hx.rest; rw [zI] <;> omega
     have hto:=mto_ok x.rest x.rest
     simp only [mkR,mkX,mkA,if_pos h0,List.nil_append,h0,fam]
     repeat refine zq ?_
     refine zb (by kernel_rfl) fun K hK=>?_
     simp only [go_sem]
     (try simp (disch:=omega) only [zI])
     repeat first | intro _ | refine ⟨by omega,?_⟩ | refine ⟨⟨by omega,by omega⟩,?_⟩
     refine hK _ ?_
     clear hK K
     refine zw (zk [2,4,5,115]) ?_
     simp only [go_sem]
     repeat refine zq ?_
     refine zc rfl (fun hc=>?_) (fun hc=>?_) <;> (try simp only [go_sem] at hc)
     repeat refine zq ?_
     refine awp_long ?_
     refine sops_take 7 (by kernel_rfl) fun K hK=>?_
     simp only [go_sem,List.take_succ_cons,List.take_zero,List.drop_succ_cons,List.drop_zero,List.append_eq,List.cons_append,List.nil_append,hrw]
     (try simp (disch:=omega) only [zI])
     refine zh (hto) rfl (by simp only [go_sem,i64,ints]) (by simp only [go_sem,i64,ints]) (by first | exact .inl rfl | exact .inr rfl) ?_
     (try simp only [go_sem])
     (try simp (disch:=omega) only [zI])
     repeat first | intro _ | refine ⟨by omega,?_⟩ | refine ⟨⟨by omega,by omega⟩,?_⟩
     refine hK _ rfl ?_
     clear hK K
     refine sops_sub (zk [2,4,5,122]) ?_
     simp only [go_sem]
     refine sops_take 1 (by kernel_rfl) fun K hK=>?_
     simp only [go_sem,List.take_succ_cons,List.take_zero,List.drop_succ_cons,List.drop_zero,List.append_eq,List.cons_append,List.nil_append]
     (try simp (disch:=omega) only [zI])
     repeat first | intro _ | refine ⟨by omega,?_⟩ | refine ⟨⟨by omega,by omega⟩,?_⟩
     refine hK _ rfl ?_
     clear hK K
     refine sops_sub (zk [2,4,5,123]) ?_
     simp only [go_sem]
     refine sops_own (by simp [go_sem]) ?_
     simp only [go_sem,sBuildOwn]
     repeat first | refine ⟨by omega,?_⟩ | refine ⟨⟨by omega,by omega⟩,?_⟩
     refine sops_sub (sub_move (sz:=3) (off:=0) (m:=1) (ty:=67) (sz':=3) (es:=[[i64 320,i64 x.rest,i64 x.rest]]) 124 124 600 (by omega) (by omega) (by omega) (by try simp only [go_sem]) (by rfl) (by rfl)) ?_
     refine sops_sub (zk [2,4,5,124]) ?_
     simp only [go_sem]
     refine sops_take 1 (by kernel_rfl) fun K hK=>?_
     simp only [go_sem,List.take_succ_cons,List.take_zero,List.drop_succ_cons,List.drop_zero,List.append_eq,List.cons_append,List.nil_append]
     (try simp (disch:=omega) only [zI])
     repeat first | intro _ | refine ⟨by omega,?_⟩ | refine ⟨⟨by omega,by omega⟩,?_⟩
     refine hK _ rfl ?_
     clear hK K
     refine sops_sub (zk [2,4,5,125]) ?_
     simp only [go_sem]
     refine sops_litB (by simp [go_sem]) ?_
     simp only [go_sem,sLitBox,lay,List.replicate_succ,List.replicate_zero,List.flatten_cons,List.flatten_nil,List.map_cons,List.map_nil,List.cons_append,List.nil_append]
     repeat first | refine ⟨by omega,?_⟩ | refine ⟨⟨by omega,by omega⟩,?_⟩
     refine sops_end (by kernel_rfl) fun K hK=>?_
     simp only [go_sem,List.drop_succ_cons,List.drop_zero,List.append_eq,List.cons_append,List.nil_append]
     (try simp (disch:=omega) only [zI])
     repeat first | intro _ | refine ⟨by omega,?_⟩ | refine ⟨⟨by omega,by omega⟩,?_⟩
     refine hK _ ?_
     clear hK K
     refine ⟨126,.inr rfl,zj [] ?_ ?_⟩
     · try simp only [go_sem]
     · simp only [tlR,hN,araG,fam,famG,hA,List.nil_append]
       try simp only [go_sem]
       rfl
   · have hN : rawN x most = cntM x:=by unfold rawN rawM; rw [if_neg h0]; simp
     have hA : ∀ j,j < cntM x → rawA x most j = ⟨atM j,bedsM x most j⟩:=fun j hj=>by
      unfold rawA rawM
      rw [if_neg h0,List.getD_eq_getElem?_getD,List.getElem?_map,List.getElem?_range hj]; rfl
     simp only [mkR,mkX,mkA,if_neg h0,List.cons_append,List.nil_append]
     have e1 : ((cntM x : Int) == 0) = false:=by simp; omega
     repeat refine zq ?_
     refine zb (by kernel_rfl) fun K hK=>?_
     simp only [go_sem,e1]
     (try simp (disch:=omega) only [zI])
     repeat first | intro _ | refine ⟨by omega,?_⟩ | refine ⟨⟨by omega,by omega⟩,?_⟩
     refine hK _ ?_
     clear hK K
     refine zw (zk [2,4,5,115]) ?_
     simp only [go_sem]
     repeat refine zq ?_
     refine zc rfl (fun hc=>?_) (fun hc=>?_) <;> (try simp only [go_sem] at hc)
     refine zx ?_
     try simp only [go_sem]
     refine ⟨110,.inl rfl,zj [] ?_ ?_⟩
     · try simp only [go_sem]
     · simp only [tlR,hN]
       have e2 : fam (famG (rawA x most)) (cntM x) = fam (mkG x most) (cntM x):=fam_congr fun j hj=>by unfold famG mkG; rw [hA j hj]
       rw [e2,araC_eq]
       rw [araG_congr (A:=fun j=>⟨atM j,bedsM x most j⟩) (B:=rawA x most) (v:=vs) (v':=vs) fun j hj=>by rw [hA j hj]; exact ⟨rfl,rfl,rfl⟩]
       try rfl
 intro κ vs hκ
 obtain ⟨⟨hN1,hN6⟩,hraw⟩:=raw_ok hx hm
 obtain ⟨N,hN⟩ : ∃ N,N = rawN x most:=⟨_,rfl⟩
 obtain ⟨A,hA⟩ : ∃ A,A = rawA x most:=⟨_,rfl⟩
 rw [← hN,← hA]
 rw [← hN] at hN1 hN6 hraw
 rw [← hA] at hraw
 have k4 : (κ = 4) = False:=by simp only [eq_iff_iff,iff_false]; omega
 have k5 : (κ = 5) = False:=by simp only [eq_iff_iff,iff_false]; omega
 have k4' : (4 = κ) = False:=by simp only [eq_iff_iff,iff_false]; omega
 have k5' : (5 = κ) = False:=by simp only [eq_iff_iff,iff_false]; omega
 have kl4 : (κ < 4) = False:=by simp only [eq_iff_iff,iff_false]; omega
 have kl5 : (κ < 5) = False:=by simp only [eq_iff_iff,iff_false]; omega
 have hki : ∀ i,(i + 600 = κ) = False:=fun i=>by simp only [eq_iff_iff,iff_false]; omega
 have hki' : ∀ i,(κ = i + 600) = False:=fun i=>by simp only [eq_iff_iff,iff_false]; omega
 have hkl : ∀ i,(i + 600 < κ) = False:=fun i=>by simp only [eq_iff_iff,iff_false]; omega
 have hnl : ∀ i a,a ≤ 600 → (i + 600 < a) = False:=fun i a h=>by simp only [eq_iff_iff,iff_false]; omega
 have hal : (araG A vs N).length = N * 2:=araG_len
 simp only [tlR]
 repeat refine zq ?_
 refine zb (by kernel_rfl) fun K hK=>?_
 simp only [go_sem]
 (try simp (disch:=omega) only [zI])
 repeat first | intro _ | refine ⟨by omega,?_⟩ | refine ⟨⟨by omega,by omega⟩,?_⟩
 refine hK _ ?_
 clear hK K
 refine zw (zk [2,4,5,12]) ?_
 simp only [go_sem]
 repeat refine zq ?_
 refine zd ?_
 refine awp_uptoV (n:=268) N (fun i vs=>[(2,.r (.rp (lwC x))),(4,.pt 4 (vs 4) 0),(5,.pt 5 (vs 5) 0),(12,.r (i64 (i : Int)))])
  (fun i vs=>tlR A A N κ (sumsM ((rawM x most).take i)) vs) (fun _=>True) 0 (zj [] ?_ ?_) (Nat.zero_le _) trivial ?_
 · try simp only [go_sem]
 · try simp only [go_sem]
   rfl
 · intro i vs hi _
   simp only [tlR]
   repeat refine zq ?_
   refine zb (by kernel_rfl) fun K hK=>?_
   simp only [go_sem,k4,k5]
   (try simp (disch:=omega) only [zI])
   repeat first | intro _ | refine ⟨by omega,?_⟩ | refine ⟨⟨by omega,by omega⟩,?_⟩
   refine hK _ ?_
   clear hK K
   refine zw (zk [2,4,5,12,132]) ?_
   simp only [go_sem]
   repeat refine zq ?_
   refine zc rfl (fun hc=>?_) (fun hc=>?_) <;> (try simp only [go_sem] at hc)
   · have hci : i < N:=by omega
     obtain ⟨r1,r2,r3,r4⟩:=hraw i hci
     have hsu:=sumsA_ok (A i) (fun c hc=>by obtain ⟨_,q⟩:=r3 c hc; omega) (by omega)
     have htk:=araG_take (A:=A) (v:=vs) hci
     have hal' : (araG A vs N).length = N * 2:=araG_len
     have hlf : lookc (fam (famG A) N) (i + 600) = .arr 67 3 ((A i).beds.map bedR):=lookc_fam hci
     refine zx ?_
     try simp only [go_sem]
     repeat refine zq ?_
     refine zd ?_
     have hrA : (rawM x most)[i]? = some (A i):=by
      have hl : i < (rawM x most).length:=by rw [hN] at hci; exact hci
      rw [hA]; unfold rawA; rw [List.getD_eq_getElem?_getD,List.getElem?_eq_getElem hl]; rfl
     have hsn : sumsM ((rawM x most).take (i + 1)) = max (sumsM ((rawM x most).take i)) (loS (A i).beds):=by rw [take_of_opt hrA,sumsM_snoc]
     repeat refine zq ?_
     refine zb (by kernel_rfl) fun K hK=>?_
     simp only [go_sem,k4,k5,htk,hci,hal',hlf,hki]
     (try simp (disch:=omega) only [zI])
     refine ⟨by omega,?_⟩
     refine zh (hsu) rfl (by simp only [go_sem,i64,ints,hlf,hki,hkl]) (by simp only [go_sem,i64,ints,hlf,hki,hkl]) (by first | exact .inl rfl | exact .inr rfl) ?_
     (try simp only [go_sem,hlf,hki,hkl])
     (try simp (disch:=omega) only [zI])
     repeat first | intro _ | refine ⟨by omega,?_⟩ | refine ⟨⟨by omega,by omega⟩,?_⟩
     refine hK _ ?_
     clear hK K
     refine zw (zk [2,4,5,12,13]) ?_
     simp only [go_sem]
     repeat refine zq ?_
     refine zb (by kernel_rfl) fun K hK=>?_
     simp only [go_sem]
     (try simp (disch:=omega) only [zI])
     repeat first | intro _ | refine ⟨by omega,?_⟩ | refine ⟨⟨by omega,by omega⟩,?_⟩
     refine hK _ ?_
     clear hK K
     refine zw (zk [2,4,5,12]) ?_
     simp only [go_sem]
     repeat refine zq ?_
     refine zb (by kernel_rfl) fun K hK=>?_
     simp only [go_sem]
     (try simp (disch:=omega) only [zI])
     repeat first | intro _ | refine ⟨by omega,?_⟩ | refine ⟨⟨by omega,by omega⟩,?_⟩
     refine hK _ ?_
     clear hK K
     try simp only [go_sem]
     refine ⟨by omega,zj [] ?_ ?_⟩
     · try simp only [go_sem]
     · simp only [go_sem,tlR,hsn]
       try rfl
   · have hie : i = N:=by omega
     have htN : (rawM x most).take i = rawM x most:=List.take_of_length_le (by rw [hie,hN]; exact Nat.le_refl _)
     rw [htN]
     have hsb : 0 ≤ sumsM (rawM x most) ∧ sumsM (rawM x most) ≤ 2550:=sumsM_le (by omega) (by omega) fun a ha=>by
      obtain ⟨j,hj⟩:=List.getElem?_of_mem ha
      have hjl:=(List.getElem?_eq_some_iff.1 hj).1
      have e : A j = a:=by rw [hA]; unfold rawA; rw [List.getD_eq_getElem?_getD,hj]; rfl
      rw [← e]
      exact (hraw j (by rw [hN]; exact hjl)).lo
     have hxr:=hx.rest
     have hrw : IntKind.i64.wrap x.rest = x.rest:=by rw [zI] <;> omega
     have hr20 : x.rest.tmod 20 = x.rest % 20:=Int.tmod_eq_emod_of_nonneg hxr.1
     obtain ⟨D,hD⟩ : ∃ D,D = denM x most:=⟨_,rfl⟩
     have hDe : D = max 1 (sumsM (rawM x most) + x.rest % 20):=hD
     have hDb : 1 ≤ D ∧ D ≤ 3000:=by rw [hDe]; omega
     refine zf ?_
     simp only [go_sem]
     refine zw (zk [2,4,5]) ?_
     simp only [go_sem]
     repeat refine zq ?_
     refine zb (by kernel_rfl) fun K hK=>?_
     simp only [go_sem,hrw,hr20]
     (try simp (disch:=omega) only [zI])
     try simp (disch:=omega) only [zI]
     try simp only [go_sem,hrw,hr20]
     try simp (disch:=omega) only [zI]
     repeat first | intro _ | refine ⟨by omega,?_⟩ | refine ⟨⟨by omega,by omega⟩,?_⟩
     refine hK _ ?_
     clear hK K
     rw [← hDe]
     refine zw (zk [2,4,5]) ?_
     simp only [go_sem]
     repeat refine zq ?_
     refine zb (by kernel_rfl) fun K hK=>?_
     simp only [go_sem]
     (try simp (disch:=omega) only [zI])
     repeat first | intro _ | refine ⟨by omega,?_⟩ | refine ⟨⟨by omega,by omega⟩,?_⟩
     refine hK _ ?_
     clear hK K
     refine zw (zk [2,4,5,15]) ?_
     simp only [go_sem]
     clear hi hie htN hc
     repeat refine zq ?_
     refine zd ?_
     refine awp_uptoV (n:=268) N (fun i vs=>[(2,.r (.rp (lwC x))),(4,.pt 4 (vs 4) 0),(5,.pt 5 (vs 5) 0),(15,.r (i64 (i : Int)))])
      (fun i vs=>tlR A (fixA x D A i) N κ D vs) (fun _=>True) 0 (zj [] ?_ ?_) (Nat.zero_le _) trivial ?_
     · try simp only [go_sem]
     · simp only [tlR,fixA_zero]
       try rfl
     · clear i
       intro i vs hi _
       simp only [tlR]
       repeat refine zq ?_
       refine zb (by kernel_rfl) fun K hK=>?_
       simp only [go_sem,k4,k5]
       (try simp (disch:=omega) only [zI])
       repeat first | intro _ | refine ⟨by omega,?_⟩ | refine ⟨⟨by omega,by omega⟩,?_⟩
       refine hK _ ?_
       clear hK K
       refine zw (zk [2,4,5,15,162]) ?_
       simp only [go_sem]
       repeat refine zq ?_
       refine zc rfl (fun hc=>?_) (fun hc=>?_) <;> (try simp only [go_sem] at hc)
       · have hci : i < N:=by omega
         have ra:=hraw i hci
         have hlen:=ra.len
         have hat:=araG_at (A:=A) (v:=vs) hci
         have hal' : (araG A vs N).length = N * 2:=araG_len
         obtain ⟨F,hF⟩ : ∃ F,F = famG (fixA x D A i):=⟨_,rfl⟩
         have hFi : F i = .arr 67 3 ((A i).beds.map bedR):=by rw [hF]; unfold famG fixA; rw [if_neg (by omega)]
         have hF0 : fam F N = fam (upd F i (.arr 67 3 ((A i).beds.map bedR))) N:=by rw [← hFi,upd_self]
         have hlk : ∀ c,lookc (fam (upd F i c) N) (i + 600) = c:=fun c=>by rw [lookc_fam hci,upd_same]
         have his : ∀ c d,insc (fam (upd F i c) N) (i + 600) d = fam (upd F i d) N:=fun c d=>by rw [insc_fam hci,upd_upd]
         rw [← hF,hF0]
         refine zx ?_
         try simp only [go_sem]
         repeat refine zq ?_
         refine zd ?_
         have hhd : (List.drop (i * 2 + 1) (araG A vs N)).headD (AV.r RV.un) = .os (i + 600) (vs (i + 600)) 3 0 (A i).beds.length:=by
          rw [List.headD_eq_head?_getD,List.head?_drop,hat]; rfl
         repeat refine zq ?_
         refine zb (by kernel_rfl) fun K hK=>?_
         simp only [go_sem,k4,k5,hat,hci,hal',hki,hhd]
         (try simp (disch:=omega) only [zI])
         repeat first | intro _ | refine ⟨by omega,?_⟩ | refine ⟨⟨by omega,by omega⟩,?_⟩
         refine hK _ ?_
         clear hK K
         refine zw (zk [2,4,5,15,16]) ?_
         simp only [go_sem]
         repeat refine zq ?_
         refine zb (by kernel_rfl) fun K hK=>?_
         simp only [go_sem]
         (try simp (disch:=omega) only [zI])
         repeat first | intro _ | refine ⟨by omega,?_⟩ | refine ⟨⟨by omega,by omega⟩,?_⟩
         refine hK _ ?_
         clear hK K
         refine zw (zk [2,4,5,15,16,17]) ?_
         simp only [go_sem]
         repeat refine zq ?_
         refine zd ?_
         refine awp_uptoV (n:=268) (A i).beds.length (fun k vs=>[(2,.r (.rp (lwC x))),(4,.pt 4 (vs 4) 0),(5,.pt 5 (vs 5) 0),(15,.r (i64 (i : Int))),(16,.os (i + 600) (vs (i + 600)) 3 0 (A i).beds.length),(17,.r (i64 (k : Int)))])
          (fun k vs=>(4,.box [.r (i64 0),.r .ns]) :: (5,.box [.r (i64 D),.os κ (vs κ) 2 0 N]) :: (κ,.ara 36 2 (araG A vs N)) :: fam (upd F i (.arr 67 3 ((mixC D (A i).beds k).map bedR))) N) (fun _=>True) 0 (zj [] ?_ ?_) (Nat.zero_le _) trivial ?_
         · try simp only [go_sem]
         · simp only [mixC_zero]
           try rfl
         · intro k vs hk _
           repeat refine zq ?_
           refine zb (by kernel_rfl) fun K hK=>?_
           simp only [go_sem]
           (try simp (disch:=omega) only [zI])
           repeat first | intro _ | refine ⟨by omega,?_⟩ | refine ⟨⟨by omega,by omega⟩,?_⟩
           refine hK _ ?_
           clear hK K
           refine zw (zk [2,4,5,15,16,17,174]) ?_
           simp only [go_sem]
           repeat refine zq ?_
           refine zc rfl (fun hc=>?_) (fun hc=>?_) <;> (try simp only [go_sem] at hc)
           · have hck : k < (A i).beds.length:=by omega
             obtain ⟨c,hc1⟩:=opt_of_lt hck
             have hmg:=mixC_get (D:=D) hc1
             have hms:=mixC_set (D:=D) hc1
             have hml:=mixC_len (D:=D) (l:=(A i).beds) (k:=k)
             have hce:=ra.each c (mem_of_opt hc1)
             generalize mixC D (A i).beds k = X at hmg hms hml ⊢
             have hkX : k < X.length:=by omega
             refine zx ?_
             try simp only [go_sem]
             repeat refine zq ?_
             refine zd ?_
             repeat refine zq ?_
             refine zg follows (by decide +kernel) (by kernel_rfl) fun K hK=>?_
             simp only [go_sem,k4,k5,hki,hkl,hlk,his,hmg,hkX,hml,bedR,List.length_map]
             (try simp (disch:=omega) only [zI])
             try simp only [go_sem,his,hki,hkl,hnl]
             repeat first | intro _ | refine ⟨by omega,?_⟩ | refine ⟨⟨by omega,by omega⟩,?_⟩
             refine hK _ ?_
             clear hK K
             refine zw (zk [2,4,5,15,16,17]) ?_
             simp only [go_sem]
             repeat refine zq ?_
             refine zb (by kernel_rfl) fun K hK=>?_
             simp only [go_sem]
             (try simp (disch:=omega) only [zI])
             repeat first | intro _ | refine ⟨by omega,?_⟩ | refine ⟨⟨by omega,by omega⟩,?_⟩
             refine hK _ ?_
             clear hK K
             try simp only [go_sem]
             refine ⟨by omega,zj [] ?_ ?_⟩
             · try simp only [go_sem]
             · simp only [go_sem]
               rw [← hms,List.map_set]
               rfl
           · have hke : k = (A i).beds.length:=by omega
             subst hke
             rw [mixC_full]
             have hX:=CapI.cap ra hDb
             have hfx0 : fixM x D (A i).beds = raiseN D (raiseB D (capB D (A i).beds) (restK x (capB D (A i).beds))) (A i).beds.length:=by
              have hrk : restK x (capB D (A i).beds) = restK x (A i).beds:=by unfold restK; simp [capB]
              unfold fixM; rw [hrk]
             generalize capB D (A i).beds = X at hX hfx0 ⊢
             have hXl:=hX.len
             have hXh:=hX.hi hlen.2
             have hsu:=sumsA_ok ⟨(A i).at_,X⟩ (fun c hc=>by have:=hX.each c hc; omega) (by show X.length ≤ 1000; omega)
             simp only at hsu
             have htk:=araG_take (A:=A) (v:=vs) hci
             have hal2 : (araG A vs N).length = N * 2:=araG_len
             have hsn : List.take (A i).beds.length (List.map bedR X) = List.map bedR X:=List.take_of_length_le (by simp; omega)
             refine zf ?_
             simp only [go_sem]
             refine zw (zk [2,4,5,15,16]) ?_
             simp only [go_sem]
             repeat refine zq ?_
             refine zb (by kernel_rfl) fun K hK=>?_
             simp only [go_sem,k4,k5,htk,hci,hal2,hlk,hki]
             (try simp (disch:=omega) only [zI])
             refine ⟨by omega,?_⟩
             have hle : (A i).beds.length ≤ X.length:=by omega
             refine zh (hsu) rfl (by simp only [go_sem,i64,ints,hlk,hki,hkl,hsn,List.drop_zero,List.length_map,hle]) (by simp only [go_sem,i64,ints,hlk,hki,hkl,hsn,List.drop_zero,List.length_map,hle]) (by first | exact .inl rfl | exact .inr rfl) ?_
             (try simp only [go_sem,hlk,hki,hkl,hsn,List.drop_zero,List.length_map,hle])
             (try simp (disch:=omega) only [zI])
             repeat first | intro _ | refine ⟨by omega,?_⟩ | refine ⟨⟨by omega,by omega⟩,?_⟩
             refine hK _ ?_
             clear hK K
             refine zw (zk [2,4,5,15,16,19]) ?_
             simp only [go_sem]
             repeat refine zq ?_
             refine zb (by kernel_rfl) fun K hK=>?_
             simp only [go_sem]
             (try simp (disch:=omega) only [zI])
             repeat first | intro _ | refine ⟨by omega,?_⟩ | refine ⟨⟨by omega,by omega⟩,?_⟩
             refine hK _ ?_
             clear hK K
             refine zw (zk [2,4,5,15,16,19,203]) ?_
             simp only [go_sem]
             have hxk : restK x X < X.length:=Nat.mod_lt _ (by omega)
             refine awp_joinV (n:=268) (fun (_ : Unit) vs=>[(2,.r (.rp (lwC x))),(4,.pt 4 (vs 4) 0),(5,.pt 5 (vs 5) 0),(15,.r (i64 (i : Int))),(16,.os (i + 600) (vs (i + 600)) 3 0 (A i).beds.length)]) (fun _ vs=>(4,.box [.r (i64 0),.r .ns]) :: (5,.box [.r (i64 D),.os κ (vs κ) 2 0 N]) :: (κ,.ara 36 2 (araG A vs N)) :: fam (upd F i (.arr 67 3 ((raiseB D X (restK x X)).map bedR))) N) (fun _=>True) (fun _ h=>h) ?_ ?_
             · repeat refine zq ?_
               refine zc rfl (fun hc=>?_) (fun hc=>?_) <;> (try simp only [go_sem] at hc)
               · have hlt : hiS X < D:=by simpa using hc
                 have hrm : x.rest.tmod ((A i).beds.length : Int) = ((restK x X : Nat) : Int):=by
                  rw [Int.tmod_eq_emod_of_nonneg hxr.1,← hXl]; unfold restK
                  rw [Int.natCast_emod,Int.toNat_of_nonneg hxr.1]
                 have hz0 : (((A i).beds.length : Int) == 0) = false:=beq_eq_false_iff_ne.2 (by omega)
                 have hz1 : ((A i).beds.length : Int) ≠ 0:=by omega
                 repeat refine zq ?_
                 refine zb (by kernel_rfl) fun K hK=>?_
                 simp only [go_sem,hrw,hrm,hz0,hz1]
                 (try simp (disch:=omega) only [zI])
                 try simp only [go_sem,hrw,hrm,hz0,hz1]
                 repeat first | intro _ | refine ⟨by omega,?_⟩ | refine ⟨⟨by omega,by omega⟩,?_⟩
                 refine hK _ ?_
                 clear hK K
                 refine zw (zk [2,4,5,15,16,19,20]) ?_
                 simp only [go_sem]
                 generalize restK x X = k0 at hxk ⊢
                 have hXl:=hX.len
                 obtain ⟨c,hc1⟩:=opt_of_lt (show k0 < X.length by omega)
                 have hcX:=hX.each c (mem_of_opt hc1)
                 have hcd : X.getD (k0) ⟨0,0,0⟩ = c:=by simp [List.getD_eq_getElem?_getD,hc1]
                 have hrz : raiseB D X (k0) = X.set (k0) ⟨c.b,c.lo,min D (c.hi + D - hiS X)⟩:=by unfold raiseB; rw [if_pos hlt,hcd]
                 have hkX : k0 < X.length:=by omega
                 have hw1 : IntKind.i64.wrap (c.hi + D) = c.hi + D:=by rw [zI] <;> omega
                 have hw2 : IntKind.i64.wrap (c.hi + D - hiS X) = c.hi + D - hiS X:=by rw [zI] <;> omega
                 repeat refine zq ?_
                 refine zg follows (by decide +kernel) (by kernel_rfl) fun K hK=>?_
                 simp only [go_sem,k4,k5,hki,hkl,hlk,his,hc1,hkX,hXl,bedR,List.length_map]
                 (try simp (disch:=omega) only [zI])
                 try simp only [go_sem,hw1,hw2,his,hki,hkl,hnl]
                 repeat first | intro _ | refine ⟨by omega,?_⟩ | refine ⟨⟨by omega,by omega⟩,?_⟩
                 refine hK _ ?_
                 clear hK K
                 refine ⟨(),zj [] ?_ ?_⟩
                 · try simp only [go_sem]
                 · simp only [go_sem,hrz,List.map_set]
                   rfl
               · have hnl2 : ¬ hiS X < D:=by simpa using hc
                 have hrz : raiseB D X (restK x X) = X:=by unfold raiseB; rw [if_neg hnl2]
                 rw [hrz]
                 refine zx ?_
                 try simp only [go_sem]
                 refine ⟨(),zj [] ?_ ?_⟩
                 · try simp only [go_sem]
                 · try simp only [go_sem]
             clear htk hal2 hsn hsu hle
             intro _ vs _
             have hX2:=hX.raise hDb (restK x X) (by omega)
             generalize raiseB D X (restK x X) = Y at hX2 hfx0 ⊢
             repeat refine zq ?_
             refine zb (by kernel_rfl) fun K hK=>?_
             simp only [go_sem]
             (try simp (disch:=omega) only [zI])
             repeat first | intro _ | refine ⟨by omega,?_⟩ | refine ⟨⟨by omega,by omega⟩,?_⟩
             refine hK _ ?_
             clear hK K
             refine zw (zk [2,4,5,15,16,21]) ?_
             simp only [go_sem]
             repeat refine zq ?_
             refine zd ?_
             refine awp_uptoV (n:=268) (A i).beds.length (fun k vs=>[(2,.r (.rp (lwC x))),(4,.pt 4 (vs 4) 0),(5,.pt 5 (vs 5) 0),(15,.r (i64 (i : Int))),(16,.os (i + 600) (vs (i + 600)) 3 0 (A i).beds.length),(21,.r (i64 (k : Int)))])
              (fun k vs=>(4,.box [.r (i64 0),.r .ns]) :: (5,.box [.r (i64 D),.os κ (vs κ) 2 0 N]) :: (κ,.ara 36 2 (araG A vs N)) :: fam (upd F i (.arr 67 3 ((raiseN D Y k).map bedR))) N) (fun _=>True) 0 (zj [] ?_ ?_) (Nat.zero_le _) trivial ?_
             · try simp only [go_sem]
             · try simp only [go_sem]
               rfl
             · clear hXl hXh hX hxk
               intro k vs hk _
               have hX:=hX2.raiseN hDb k hk
               have hrs : raiseN D Y (k + 1) = raiseB D (raiseN D Y k) k:=rfl
               generalize hXe : raiseN D Y k = X at hX hrs ⊢
               have hXl:=hX.len
               have hXh:=hX.hi hlen.2
               have hsu:=sumsA_ok ⟨(A i).at_,X⟩ (fun c hc=>by have:=hX.each c hc; omega) (by show X.length ≤ 1000; omega)
               simp only at hsu
               have htk:=araG_take (A:=A) (v:=vs) hci
               have hal2 : (araG A vs N).length = N * 2:=araG_len
               have hsn : List.take (A i).beds.length (List.map bedR X) = List.map bedR X:=List.take_of_length_le (by simp; omega)
               have hle : (A i).beds.length ≤ X.length:=by omega
               repeat refine zq ?_
               refine zb (by kernel_rfl) fun K hK=>?_
               simp only [go_sem]
               (try simp (disch:=omega) only [zI])
               repeat first | intro _ | refine ⟨by omega,?_⟩ | refine ⟨⟨by omega,by omega⟩,?_⟩
               refine hK _ ?_
               clear hK K
               refine zw (zk [2,4,5,15,16,21,232]) ?_
               simp only [go_sem]
               repeat refine zq ?_
               refine zc rfl (fun hc=>?_) (fun hc=>?_) <;> (try simp only [go_sem] at hc)
               · have hck : k < (A i).beds.length:=by omega
                 refine zx ?_
                 try simp only [go_sem]
                 repeat refine zq ?_
                 refine zd ?_
                 repeat refine zq ?_
                 refine zb (by kernel_rfl) fun K hK=>?_
                 simp only [go_sem,k4,k5,htk,hci,hal2,hlk,hki]
                 (try simp (disch:=omega) only [zI])
                 refine ⟨by omega,?_⟩
                 refine zh (hsu) rfl (by simp only [go_sem,i64,ints,hlk,hki,hkl,hsn,List.drop_zero,List.length_map,hle]) (by simp only [go_sem,i64,ints,hlk,hki,hkl,hsn,List.drop_zero,List.length_map,hle]) (by first | exact .inl rfl | exact .inr rfl) ?_
                 (try simp only [go_sem,hlk,hki,hkl,hsn,List.drop_zero,List.length_map,hle])
                 (try simp (disch:=omega) only [zI])
                 repeat first | intro _ | refine ⟨by omega,?_⟩ | refine ⟨⟨by omega,by omega⟩,?_⟩
                 refine hK _ ?_
                 clear hK K
                 refine zw (zk [2,4,5,15,16,21,23]) ?_
                 simp only [go_sem]
                 repeat refine zq ?_
                 refine zb (by kernel_rfl) fun K hK=>?_
                 simp only [go_sem]
                 (try simp (disch:=omega) only [zI])
                 repeat first | intro _ | refine ⟨by omega,?_⟩ | refine ⟨⟨by omega,by omega⟩,?_⟩
                 refine hK _ ?_
                 clear hK K
                 refine zw (zk [2,4,5,15,16,21,23,247]) ?_
                 simp only [go_sem]
                 repeat refine zq ?_
                 refine zc rfl (fun hc=>?_) (fun hc=>?_) <;> (try simp only [go_sem] at hc)
                 · have hlt : hiS X < D:=by simpa using hc
                   have hXl:=hX.len
                   obtain ⟨c,hc1⟩:=opt_of_lt (show k < X.length by omega)
                   have hcX:=hX.each c (mem_of_opt hc1)
                   have hcd : X.getD (k) ⟨0,0,0⟩ = c:=by simp [List.getD_eq_getElem?_getD,hc1]
                   have hrz : raiseB D X (k) = X.set (k) ⟨c.b,c.lo,min D (c.hi + D - hiS X)⟩:=by unfold raiseB; rw [if_pos hlt,hcd]
                   have hkX : k < X.length:=by omega
                   have hw1 : IntKind.i64.wrap (c.hi + D) = c.hi + D:=by rw [zI] <;> omega
                   have hw2 : IntKind.i64.wrap (c.hi + D - hiS X) = c.hi + D - hiS X:=by rw [zI] <;> omega
                   repeat refine zq ?_
                   refine zg follows (by decide +kernel) (by kernel_rfl) fun K hK=>?_
                   simp only [go_sem,k4,k5,hki,hkl,hlk,his,hc1,hkX,hXl,bedR,List.length_map]
                   (try simp (disch:=omega) only [zI])
                   try simp only [go_sem,hw1,hw2,his,hki,hkl,hnl]
                   repeat first | intro _ | refine ⟨by omega,?_⟩ | refine ⟨⟨by omega,by omega⟩,?_⟩
                   refine hK _ ?_
                   clear hK K
                   refine zw (zk [2,4,5,15,16,21]) ?_
                   simp only [go_sem]
                   repeat refine zq ?_
                   refine zb (by kernel_rfl) fun K hK=>?_
                   simp only [go_sem]
                   (try simp (disch:=omega) only [zI])
                   repeat first | intro _ | refine ⟨by omega,?_⟩ | refine ⟨⟨by omega,by omega⟩,?_⟩
                   refine hK _ ?_
                   clear hK K
                   try simp only [go_sem]
                   refine ⟨by omega,zj [] ?_ ?_⟩
                   · try simp only [go_sem]
                   · simp only [go_sem,hrs,hrz,List.map_set]
                     rfl
                 · have hnl2 : ¬ hiS X < D:=by simpa using hc
                   have hrz : raiseB D X k = X:=by unfold raiseB; rw [if_neg hnl2]
                   refine zx ?_
                   try simp only [go_sem]
                   repeat refine zq ?_
                   refine zb (by kernel_rfl) fun K hK=>?_
                   simp only [go_sem]
                   (try simp (disch:=omega) only [zI])
                   repeat first | intro _ | refine ⟨by omega,?_⟩ | refine ⟨⟨by omega,by omega⟩,?_⟩
                   refine hK _ ?_
                   clear hK K
                   try simp only [go_sem]
                   refine ⟨by omega,zj [] ?_ ?_⟩
                   · try simp only [go_sem]
                   · simp only [go_sem,hrs,hrz]
               · have hke : k = (A i).beds.length:=by omega
                 refine zf ?_
                 simp only [go_sem]
                 refine zw (zk [2,4,5,15]) ?_
                 simp only [go_sem]
                 repeat refine zq ?_
                 refine zb (by kernel_rfl) fun K hK=>?_
                 simp only [go_sem]
                 (try simp (disch:=omega) only [zI])
                 repeat first | intro _ | refine ⟨by omega,?_⟩ | refine ⟨⟨by omega,by omega⟩,?_⟩
                 refine hK _ ?_
                 clear hK K
                 try simp only [go_sem]
                 refine ⟨by omega,zj [] ?_ ?_⟩
                 · try simp only [go_sem]
                 · simp only [go_sem,tlR]
                   have hXf : X = fixM x D (A i).beds:=by rw [← hXe,hke,hfx0]
                   have hff : fam (upd F i (.arr 67 3 (X.map bedR))) N = fam (famG (fixA x D A (i + 1))) N:=fam_congr fun j hj=>by
                    unfold upd
                    split
                    · rename_i e; subst e
                      unfold famG fixA
                      rw [if_pos (by omega),hXf]
                    · rename_i e
                      rw [hF]
                      unfold famG fixA
                      by_cases h : j < i
                      · rw [if_pos h,if_pos (by omega)]
                      · rw [if_neg h,if_neg (by omega)]
                   rw [hff]
       · have hie : i = N:=by omega
         subst hie
         have hfl : ∀ j,(fixM x D (A j).beds).length = (A j).beds.length:=fun j=>by
          have hrl : ∀ (X : List Bd) k,(raiseB D X k).length = X.length:=fun X k=>by unfold raiseB; split <;> simp
          have hrn : ∀ (X : List Bd) k,(raiseN D X k).length = X.length:=fun X k=>by
           induction k with
           | zero=>rfl
           | succ k ih=>simp only [raiseN,hrl,ih]
          unfold fixM
          rw [hrn,hrl]; simp [capB]
         refine zf ?_
         simp only [go_sem]
         refine zw (zk [4,5]) ?_
         simp only [go_sem]
         obtain ⟨vs',hv,hs⟩:=frz_fam (n:=268) (l:=[(4,AV.pt 4 (vs 4) 0),(5,AV.pt 5 (vs 5) 0)]) (κ:=κ) (A:=A) (F:=fixA x D A i) (c4:=.box [.r (i64 0),.r .ns]) (c5:=.box [.r (i64 D),.os κ (vs κ) 2 0 i]) (by omega) (by omega) i (by omega) (fun j hj=>by unfold fixA; rw [if_pos hj]; exact hfl j) vs []
         rw [List.append_nil,List.append_nil] at hs
         refine zw hs ?_
         have hv4:=hv 4 (by omega)
         have hv5:=hv 5 (by omega)
         have hvκ:=hv κ (by omega)
         rw [← hv4,← hv5,← hvκ]
         have hrr : rawM x most = (List.range i).map A:=by
          refine List.ext_getElem (by rw [List.length_map,List.length_range,hN]; rfl) fun j h1 h2=>?_
          rw [List.getElem_map,List.getElem_range,hA]
          unfold rawA
          rw [List.getD_eq_getElem?_getD,List.getElem?_eq_getElem h1]; rfl
         have hes : plF A (fixA x D A i) i = (((aimsM x most).map aimR).flatten).map .r:=by
          rw [plF_flat]
          unfold aimsM
          rw [← hD,hrr,List.map_map,List.map_map]
          congr 2
          refine List.map_congr_left fun j hj=>?_
          have hji:=List.mem_range.1 hj
          unfold fixA
          rw [if_pos hji]
          rfl
         have hel : (aimsM x most).length = i:=by unfold aimsM; rw [List.length_map,hN]; rfl
         refine zw (sub_arr κ (ty:=36) (sz:=2) ((aimsM x most).map aimR) (by simp only [lookc_cons,k4,k5,if_false,if_true]) hes (fun e he=>by obtain ⟨a,_,rfl⟩:=List.mem_map.1 he; rfl) (by omega)) ?_
         simp only [insc,k4,k5,kl4,kl5,if_false,if_true]
         refine zw (sub_frzB 5 1 κ (ty:=36) (sz:=2) (off:=0) (m:=i) (es:=(aimsM x most).map aimR) (cells:=[.r (i64 D),.os κ (vs' κ) 2 0 i]) (by omega) (by omega) rfl rfl (by simp only [lookc_cons,k4,k5,if_false,if_true]) (by simp [hel])) ?_
         have e3 : (((aimsM x most).map aimR).drop 0).take i = (aimsM x most).map aimR:=by
          rw [List.drop_zero,List.take_of_length_le (by simp [hel])]
         rw [e3]
         simp only [insc,delc,k4,k5,kl4,kl5,k4',k5',if_false,if_true,List.set_cons_succ,List.set_cons_zero]
         repeat refine zq ?_
         refine zb (by kernel_rfl) fun K hK=>?_
         simp only [go_sem,k4',k5']
         (try simp (disch:=omega) only [zI])
         repeat first | intro _ | refine ⟨by omega,?_⟩ | refine ⟨⟨by omega,by omega⟩,?_⟩
         refine hK _ ?_
         clear hK K
         refine zw (zk [4]) ?_
         simp only [go_sem]
         rw [← hD]
         refine ze ?_
         simp only [go_sem]
theorem make1_tail (x : Lw) (hx : WfLw x) (most : Int) (hm : 0 ≤ most ∧ most ≤ 100) (c : Code) (hc : third Try.f31.body = some c) (C : Ctx) (vs : Nat → Nat) : awp Try.prog C c (fpostL Try.prog [.cell 4 24] [lawV (denM x most) (aimsM x most)]) (st 268 [(2,.r (.rp (lwC x))),(4,.pt 4 (vs 4) 0),(5,.pt 5 (vs 5) 0)] vs (mkR x most (cntM x) vs)):=by
 obtain ⟨c0,h0,hw⟩:=tail_ex x hx most hm
 have e : c = c0:=Option.some.inj (hc.symm.trans h0)
 rw [e]
 exact hw C vs
end Go.Proofs.Ytgkejinoaommeaa

namespace Go.Proofs.Ytgkejinoaommeaa
open Go Go.Oc
set_option linter.unusedSimpArgs false
set_option linter.unusedVariables false
set_option maxRecDepth 8000
set_option maxHeartbeats 2000000
theorem make1_ok (x : Lw) (hx : WfLw x) (most : Int) (hm : 0 ≤ most ∧ most ≤ 100) : ACalls Try.prog 31 [.ag (lwC x),i64 most] (lawV (denM x most) (aimsM x most)):=by
 refine acalls_st (rs:=[lawV (denM x most) (aimsM x most)]) [.cell 4 24] Try.func31 rfl (by kernel_rfl) Try.ntmps31 rfl (by simp) rfl fun C vs=>?_
 repeat refine zq ?_
 refine zb (by kernel_rfl) fun K hK=>?_
 simp only [go_sem]
 (try simp (disch:=omega) only [zI])
 repeat first | intro _ | refine ⟨by omega,?_⟩ | refine ⟨⟨by omega,by omega⟩,?_⟩
 refine hK _ ?_
 clear hK K
 refine zw (sub_frzP 2 2 (lwC x) (by omega) rfl rfl) ?_
 refine zw (zk [1,2,4]) ?_
 simp only [go_sem]
 repeat refine zq ?_
 refine zb (by kernel_rfl) fun K hK=>?_
 simp only [go_sem]
 (try simp (disch:=omega) only [zI])
 refine zh (mbeds_ok) rfl (by simp only [go_sem,i64,ints]) (by simp only [go_sem,i64,ints]) (by first | exact .inl rfl | exact .inr rfl) ?_
 (try simp only [go_sem])
 (try simp (disch:=omega) only [zI])
 repeat first | intro _ | refine ⟨by omega,?_⟩ | refine ⟨⟨by omega,by omega⟩,?_⟩
 refine hK _ ?_
 clear hK K
 refine zw (zk [1,2,4,5,6,7]) ?_
 simp only [go_sem]
 repeat refine zq ?_
 refine zb (by kernel_rfl) fun K hK=>?_
 simp only [go_sem]
 (try simp (disch:=omega) only [zI])
 repeat first | intro _ | refine ⟨by omega,?_⟩ | refine ⟨⟨by omega,by omega⟩,?_⟩
 refine hK _ ?_
 clear hK K
 refine zw (zk [1,2,4,5,6,7,8]) ?_
 simp only [go_sem]
 repeat refine zq ?_
 refine zd ?_
 refine awp_uptoV (n:=268) (cntM x) (fun i vs=>[(1,.r (i64 most)),(2,.r (.rp (lwC x))),(4,.pt 4 (vs 4) 0),(5,.pt 5 (vs 5) 0),(6,.r (ints beds13)),(7,.r (i64 (nM x most i))),(8,.r (i64 (i : Int)))])
  (mkR x most) (fun _=>True) 0 (zj [] ?_ ?_) (Nat.zero_le _) trivial ?_
 · try simp only [go_sem]
   rfl
 · simp only [mkR,mkX,mkA,if_true,fam,List.nil_append]
   try simp only [go_sem]
 · intro i vs hi _
   have hi6 : i ≤ 6:=by unfold cntM at hi; omega
   have hF : ∀ a c cs,lookc ((a,c) :: cs) (i + 600) = if i + 600 = a then c else lookc cs (i + 600):=fun _ _ _=>rfl
   by_cases hcw : i < cntM x
   · have hci : i < x.which.length:=by unfold cntM at hcw; omega
     have hci6 : i < 6:=by unfold cntM at hcw; omega
     have e1 : decide ((i : Int) < (x.which.length : Int)) = true:=by simpa using hci
     have e1' : decide (i < x.which.length) = true:=by simpa using hci
     have e2 : decide ((i : Int) < 6) = true:=by simp; omega
     repeat refine zq ?_
     refine zb (by kernel_rfl) fun K hK=>?_
     simp only [go_sem,e1,e1',e2]
     (try simp (disch:=omega) only [zI])
     repeat first | intro _ | refine ⟨by omega,?_⟩ | refine ⟨⟨by omega,by omega⟩,?_⟩
     refine hK _ ?_
     clear hK K
     refine zw (zk [1,2,4,5,6,7,8,34]) ?_
     simp only [go_sem]
     repeat refine zq ?_
     refine zc rfl (fun hc=>?_) (fun hc=>?_) <;> (try simp only [go_sem] at hc)
     refine zx ?_
     try simp only [go_sem]
     repeat refine zq ?_
     refine zd ?_
     have hmod : (i : Int).tmod 12 = ((i % 12 : Nat) : Int):=by rw [Int.tmod_eq_emod_of_nonneg (by omega)]; rfl
     have hbt : beds13[1 + i % 12]? = some (atM i):=by
      have hl : 1 + i % 12 < beds13.length:=by have:=Nat.mod_lt i (show 0 < 12 by omega); show _ < 13; omega
      unfold atM bedT
      rw [List.getD_eq_getElem?_getD,List.getElem?_eq_getElem hl]; rfl
     have hnl : ∀ a,a ≤ 600 → (i + 600 < a) = False:=fun a h=>by simp only [eq_iff_iff,iff_false]; omega
     have htn : (1 + ((i % 12 : Nat) : Int)).toNat = 1 + i % 12:=by omega
     have hb13 : beds13.length = 13:=rfl
     have hm12:=Nat.mod_lt i (show 0 < 12 by omega)
     have t1 : ∀ c,insc (mkA x most i vs ++ fam (mkG x most) i) 9 c = (9,c) :: (mkA x most i vs ++ fam (mkG x most) i):=fun c=>tl_ins (by omega)
     have t2 : ∀ c,insc (mkA x most i vs ++ fam (mkG x most) i) (i + 600) c = mkA x most i vs ++ fam (upd (mkG x most) i c) (i + 1):=fun c=>tl_insN
     simp only [mkR]
     repeat refine zq ?_
     refine zb (by kernel_rfl) fun K hK=>?_
     simp only [go_sem,hmod,htn,hbt,hb13,t1]
     (try simp (disch:=omega) only [zI])
     simp only [go_sem,htn,hbt,t1,List.headD_cons,List.length_cons,List.length_nil]
     repeat first | intro _ | refine ⟨by omega,?_⟩ | refine ⟨⟨by omega,by omega⟩,?_⟩
     refine hK _ ?_
     clear hK K
     refine zw (zk [1,2,4,5,6,7,8,9]) ?_
     simp only [go_sem]
     repeat refine zq ?_
     refine zb (by kernel_rfl) fun K hK=>?_
     simp only [go_sem]
     (try simp (disch:=omega) only [zI])
     repeat first | intro _ | refine ⟨by omega,?_⟩ | refine ⟨⟨by omega,by omega⟩,?_⟩
     refine hK _ ?_
     clear hK K
     refine zw (zk [1,2,4,5,6,7,8,9,10]) ?_
     simp only [go_sem]
     refine zw (sub_ownB 9 1 (i + 600) 67 3 (cells:=[.r (i64 (atM i)),.r .ns]) (by omega) (by omega) rfl rfl) ?_
     simp only [go_sem,t2,hnl,Nat.reduceLeDiff]
     obtain ⟨w,hw⟩ : ∃ w,w = x.which.getD i 0:=⟨_,rfl⟩
     have hwi : x.which[i]? = some w:=by rw [hw,List.getD_eq_getElem?_getD,List.getElem?_eq_getElem hci]; rfl
     have hwb:=hx.which w (mem_of_opt hwi)
     have m1 : ∀ v a,mkA x most i (upd v 9 a) = mkA x most i v:=fun v a=>mkA_upd (.inl (by omega))
     have m2 : ∀ v a,mkA x most i (upd v (i + 600) a) = mkA x most i v:=fun v a=>mkA_upd (.inr (by omega))
     have m3 : ∀ v a,mkX i (upd v 9 a) = mkX i v:=fun v a=>mkX_upd (by omega)
     have m4 : ∀ v a,mkX i (upd v (i + 600) a) = mkX i v:=fun v a=>mkX_upd (by omega)
     have hit : ∀ k,(iterM x most w (nM x most i) k).1.length ≤ 10 ∨ 13 < k:=fun k=>by
      by_cases h : k ≤ 13
      · exact .inl (iterM_ok hx hm.1 w _ k h).len
      · exact .inr (by omega)
     repeat refine zq ?_
     refine zd ?_
     refine awp_uptoV (n:=268) 13 (fun k vs=>[(1,.r (i64 most)),(2,.r (.rp (lwC x))),(4,.pt 4 (vs 4) 0),(5,.pt 5 (vs 5) 0),(6,.r (ints beds13)),(7,.r (i64 ((iterM x most w (nM x most i) k).2 : Int))),(8,.r (i64 (i : Int))),(9,.pt 9 (vs 9) 0),(10,.r (i64 (k : Int)))])
      (fun k vs=>(4,.box [.r (i64 0),.r .ns]) :: (5,.box [.r (i64 0),mkX i vs]) :: (9,.box [.r (i64 (atM i)),.os (i + 600) (vs (i + 600)) 3 0 (iterM x most w (nM x most i) k).1.length]) :: (mkA x most i vs ++ fam (upd (mkG x most) i (.arr 67 3 ((iterM x most w (nM x most i) k).1.map bedR))) (i + 1))) (fun _=>True) 0 (zj [] ?_ ?_) (Nat.zero_le _) trivial ?_
     · try simp only [go_sem]
       rfl
     · simp only [go_sem,m1,m2,m3,m4,upd_same]
       rfl
     · intro k vs hk _
       obtain ⟨l,hl⟩ : ∃ l,l = (iterM x most w (nM x most i) k).1:=⟨_,rfl⟩
       obtain ⟨n,hn⟩ : ∃ n,n = (iterM x most w (nM x most i) k).2:=⟨_,rfl⟩
       have hI:=iterM_ok hx hm.1 w (nM x most i) k hk
       rw [← hl] at hI
       have hlen:=hI.len
       have hnb:=iterM_n x most w (nM x most i) k
       have hnb2:=nM_le x most i
       rw [← hn] at hnb
       have hstep : iterM x most w (nM x most i) (k + 1) = addM x most w k (l,n):=by rw [hl,hn]; rfl
       rw [← hl,← hn]
       have tl1 : ∀ v c,lookc (mkA x most i v ++ fam (upd (mkG x most) i c) (i + 1)) (i + 600) = c:=fun v c=>by rw [tl_look (by omega),upd_same]
       have ti1 : ∀ v c d,insc (mkA x most i v ++ fam (upd (mkG x most) i c) (i + 1)) (i + 600) d = mkA x most i v ++ fam (upd (mkG x most) i d) (i + 1):=fun v c d=>by rw [tl_insI (by omega),upd_upd]
       by_cases hcond : k < 13 ∧ l.length < 10
       · have e3 : decide ((k : Int) < 13) = true:=by simp; omega
         have e4 : decide ((l.length : Int) < 10) = true:=by simp; omega
         repeat refine zq ?_
         refine zb (by kernel_rfl) fun K hK=>?_
         simp only [go_sem,e3,e4]
         (try simp (disch:=omega) only [zI])
         repeat first | intro _ | refine ⟨by omega,?_⟩ | refine ⟨⟨by omega,by omega⟩,?_⟩
         refine hK _ ?_
         clear hK K
         refine zw (zk [1,2,4,5,6,7,8,9,10,51]) ?_
         simp only [go_sem]
         repeat refine zq ?_
         refine zc rfl (fun hc=>?_) (fun hc=>?_) <;> (try simp only [go_sem] at hc)
         refine zx ?_
         try simp only [go_sem]
         repeat refine zq ?_
         refine zd ?_
         repeat refine zq ?_
         refine awp_joinV (n:=268) (fun (_ : Unit) vs=>[(1,.r (i64 most)),(2,.r (.rp (lwC x))),(4,.pt 4 (vs 4) 0),(5,.pt 5 (vs 5) 0),(6,.r (ints beds13)),(7,.r (i64 (n : Int))),(8,.r (i64 (i : Int))),(9,.pt 9 (vs 9) 0),(10,.r (i64 (k : Int))),(73,.r (.bo (decide (hasB w k = true ∨ (k = 12 ∧ l.length = 0)))))]) (fun _ vs=>(4,.box [.r (i64 0),.r .ns]) :: (5,.box [.r (i64 0),mkX i vs]) :: (9,.box [.r (i64 (atM i)),.os (i + 600) (vs (i + 600)) 3 0 l.length]) :: (mkA x most i vs ++ fam (upd (mkG x most) i (.arr 67 3 (l.map bedR))) (i + 1))) (fun _=>True) (fun _ h=>h) ?_ ?_
         · cases hB : hasB w k with
           | true =>
             have hB' : (bitAnd IntKind.u16 (shrI IntKind.u16 w (IntKind.u64.wrap (k : Int))) 1 == 1) = true:=hB
             repeat refine zq ?_
             refine zb (by kernel_rfl) fun K hK=>?_
             simp only [go_sem,hwi,hci,hB']
             (try simp (disch:=omega) only [zI])
             repeat first | intro _ | refine ⟨by omega,?_⟩ | refine ⟨⟨by omega,by omega⟩,?_⟩
             refine hK _ ?_
             clear hK K
             refine ⟨(),trivial,zj [] ?_ ?_⟩
             · try simp only [go_sem]
               try simp
             · try simp only [go_sem]
           | false =>
             have hB' : (bitAnd IntKind.u16 (shrI IntKind.u16 w (IntKind.u64.wrap (k : Int))) 1 == 1) = false:=hB
             by_cases hk12 : k = 12
             · have e5 : ((k : Int) == 12) = true:=by simp; omega
               repeat refine zq ?_
               refine zb (by kernel_rfl) fun K hK=>?_
               simp only [go_sem,hwi,hci,hB',e5]
               (try simp (disch:=omega) only [zI])
               repeat first | intro _ | refine ⟨by omega,?_⟩ | refine ⟨⟨by omega,by omega⟩,?_⟩
               refine hK _ ?_
               clear hK K
               refine ⟨(),trivial,zj [] ?_ ?_⟩
               · try simp only [go_sem]
                 simp [hk12,Bool.beq_eq_decide_eq]
               · try simp only [go_sem]
             · have e5 : ((k : Int) == 12) = false:=by simp; omega
               repeat refine zq ?_
               refine zb (by kernel_rfl) fun K hK=>?_
               simp only [go_sem,hwi,hci,hB',e5]
               (try simp (disch:=omega) only [zI])
               repeat first | intro _ | refine ⟨by omega,?_⟩ | refine ⟨⟨by omega,by omega⟩,?_⟩
               refine hK _ ?_
               clear hK K
               refine ⟨(),trivial,zj [] ?_ ?_⟩
               · try simp only [go_sem]
                 simp [hk12]
               · try simp only [go_sem]
         intro _ vs _
         repeat refine zq ?_
         refine zc rfl (fun hc=>?_) (fun hc=>?_) <;> (try simp only [go_sem] at hc)
         · have hadd : iterM x most w (nM x most i) (k + 1) = (l ++ [⟨bedT k,byteL x.low n % (most + 1),byteL x.low n % (most + 1) + byteL x.more n % (most + 1)⟩],n + 1):=by
            rw [hstep]; unfold addM; rw [if_pos ⟨hcond.2,by simpa using hc⟩]
           have bl:=byteL_le hx.low n
           have bm:=byteL_le hx.more n
           have hbo1:=mbyteOf_ok x.low n
           have hbo2:=mbyteOf_ok x.more n
           have hm1 : (most + 1 == 0) = false:=by simp; omega
           have hm2 : most + 1 ≠ 0:=by omega
           have l1:=Int.emod_nonneg (byteL x.low n) hm2
           have l2:=Int.emod_lt_of_pos (byteL x.low n) (show 0 < most + 1 by omega)
           have n1:=Int.emod_nonneg (byteL x.more n) hm2
           have n2:=Int.emod_lt_of_pos (byteL x.more n) (show 0 < most + 1 by omega)
           have ht1 : (byteL x.low n).tmod (most + 1) = byteL x.low n % (most + 1):=Int.tmod_eq_emod_of_nonneg bl.1
           have ht2 : (byteL x.more n).tmod (most + 1) = byteL x.more n % (most + 1):=Int.tmod_eq_emod_of_nonneg bm.1
           obtain ⟨lo,hlo⟩ : ∃ lo,lo = byteL x.low n % (most + 1):=⟨_,rfl⟩
           obtain ⟨mo,hmo⟩ : ∃ mo,mo = byteL x.more n % (most + 1):=⟨_,rfl⟩
           rw [← hlo] at l1 l2 ht1 hadd
           rw [← hmo] at n1 n2 ht2 hadd
           have hto:=mto_ok lo (lo + mo)
           have hk13:=hcond.1
           have hkb : beds13[k]? = some (bedT k):=by
            have hl : k < beds13.length:=by show k < 13; omega
            unfold bedT
            rw [List.getD_eq_getElem?_getD,List.getElem?_eq_getElem hl]; rfl
           repeat refine zq ?_
           refine zb (by kernel_rfl) fun K hK=>?_
           simp only [go_sem]
           (try simp (disch:=omega) only [zI])
           refine zh (hbo1) rfl (by simp only [go_sem,i64,ints]) (by simp only [go_sem,i64,ints]) (by first | exact .inl rfl | exact .inr rfl) ?_
           (try simp only [go_sem])
           (try simp (disch:=omega) only [zI])
           try simp only [go_sem,ht1,hm1]
           repeat first | intro _ | refine ⟨by omega,?_⟩ | refine ⟨⟨by omega,by omega⟩,?_⟩
           refine hK _ ?_
           clear hK K
           refine zw (zk [1,2,4,5,6,7,8,9,10,11]) ?_
           simp only [go_sem]
           repeat refine zq ?_
           refine awp_dreg3 [(9,some 9),(6,none),(10,none),(11,none),(2,none),(7,none),(1,none)] [9] follows (by decide +kernel) (by kernel_rfl) (by simp only [keysOk,List.mem_cons,List.not_mem_nil,forall_eq_or_imp,Oc.keyOf,go_sem]; simp) (by intro k hk; simp only [List.mem_cons,List.not_mem_nil,or_false] at hk; first | (subst hk; exact ⟨_,rfl⟩) | (rcases hk with rfl | rfl <;> exact ⟨_,rfl⟩) | (rcases hk with rfl | rfl | rfl <;> exact ⟨_,rfl⟩)) fun K hK=>?_
           simp only [go_sem,hkb,hb13,hk13]
           (try simp (disch:=omega) only [zI])
           refine ⟨by omega,?_⟩
           refine zh (hbo2) rfl (by simp only [go_sem,i64,ints]) (by simp only [go_sem,i64,ints]) (by first | exact .inl rfl | exact .inr rfl) ?_
           (try simp only [go_sem])
           (try simp (disch:=omega) only [zI])
           try simp only [go_sem,ht2,hm1]
           try simp (disch:=omega) only [zI]
           refine ⟨hm2,?_⟩
           refine zh (hto) rfl (by simp only [go_sem,i64,ints]) (by simp only [go_sem,i64,ints]) (by first | exact .inl rfl | exact .inr rfl) ?_
           (try simp only [go_sem])
           (try simp (disch:=omega) only [zI])
           try simp only [go_sem,tl1,ti1,hnl,Nat.reduceLeDiff,List.length_map]
           repeat first | intro _ | refine ⟨by omega,?_⟩ | refine ⟨⟨by omega,by omega⟩,?_⟩
           refine hK _ ?_
           clear hK K
           refine zw (zk [1,2,4,5,6,7,8,9,10]) ?_
           simp only [go_sem]
           repeat refine zq ?_
           refine zb (by kernel_rfl) fun K hK=>?_
           simp only [go_sem]
           (try simp (disch:=omega) only [zI])
           repeat first | intro _ | refine ⟨by omega,?_⟩ | refine ⟨⟨by omega,by omega⟩,?_⟩
           refine hK _ ?_
           clear hK K
           refine zw (zk [1,2,4,5,6,7,8,9,10]) ?_
           simp only [go_sem]
           repeat refine zq ?_
           refine zb (by kernel_rfl) fun K hK=>?_
           simp only [go_sem]
           (try simp (disch:=omega) only [zI])
           repeat first | intro _ | refine ⟨by omega,?_⟩ | refine ⟨⟨by omega,by omega⟩,?_⟩
           refine hK _ ?_
           clear hK K
           try simp only [go_sem]
           refine ⟨by omega,zj [] ?_ ?_⟩
           · try simp only [go_sem]
             rw [hadd]
             simp only
             omega
           · simp only [go_sem,m1,m2,m3,m4,upd_same,hadd,List.length_append,List.length_cons,List.length_nil,List.map_append,List.map_cons,List.map_nil]
             rfl
         · have hadd : iterM x most w (nM x most i) (k + 1) = (l,n):=by
            have hnc : ¬ (hasB w k = true ∨ (k = 12 ∧ l.length = 0)):=by simpa using hc
            rw [hstep]; unfold addM; rw [if_neg fun h=>hnc h.2]
           refine zx ?_
           try simp only [go_sem]
           repeat refine zq ?_
           refine zb (by kernel_rfl) fun K hK=>?_
           simp only [go_sem]
           (try simp (disch:=omega) only [zI])
           repeat first | intro _ | refine ⟨by omega,?_⟩ | refine ⟨⟨by omega,by omega⟩,?_⟩
           refine hK _ ?_
           clear hK K
           try simp only [go_sem]
           refine ⟨by omega,zj [] ?_ ?_⟩
           · try simp only [go_sem]
             rw [hadd]
           · try simp only [go_sem]
             rw [hadd]
       · have hend : bedsM x most i = l ∧ nM x most (i + 1) = n:=by
          have e : iterM x most w (nM x most i) 13 = iterM x most w (nM x most i) k:=by
           by_cases h13 : k < 13
           · have:=iterM_full (x:=x) (most:=most) (w:=w) (n:=nM x most i) (k:=k) (by rw [← hl]; omega) (13 - k)
             rw [show k + (13 - k) = 13 by omega] at this
             exact this
           · rw [show k = 13 by omega]
          rw [hl,hn,← e]
          unfold bedsM
          simp only [nM,← hw,and_self]
         have hxc : (51,AV.r (.bo false)) = (51,AV.r (.bo false)):=rfl
         repeat refine zq ?_
         refine awp_joinV (n:=268) (fun (_ : Unit) vs=>[(1,.r (i64 most)),(2,.r (.rp (lwC x))),(4,.pt 4 (vs 4) 0),(5,.pt 5 (vs 5) 0),(6,.r (ints beds13)),(7,.r (i64 (n : Int))),(8,.r (i64 (i : Int))),(9,.pt 9 (vs 9) 0),(10,.r (i64 (k : Int))),(51,.r (.bo false))]) (fun _ vs=>(4,.box [.r (i64 0),.r .ns]) :: (5,.box [.r (i64 0),mkX i vs]) :: (9,.box [.r (i64 (atM i)),.os (i + 600) (vs (i + 600)) 3 0 l.length]) :: (mkA x most i vs ++ fam (upd (mkG x most) i (.arr 67 3 (l.map bedR))) (i + 1))) (fun _=>True) (fun _ h=>h) ?_ ?_
         · by_cases h13 : k < 13
           · have e3 : decide ((k : Int) < 13) = true:=by simp; omega
             have e4 : decide ((l.length : Int) < 10) = false:=by simp; omega
             repeat refine zq ?_
             refine zb (by kernel_rfl) fun K hK=>?_
             simp only [go_sem,e3,e4]
             (try simp (disch:=omega) only [zI])
             repeat first | intro _ | refine ⟨by omega,?_⟩ | refine ⟨⟨by omega,by omega⟩,?_⟩
             refine hK _ ?_
             clear hK K
             refine ⟨(),trivial,zj [] ?_ ?_⟩
             · try simp only [go_sem]
             · try simp only [go_sem]
           · have e3 : decide ((k : Int) < 13) = false:=by simp; omega
             repeat refine zq ?_
             refine zb (by kernel_rfl) fun K hK=>?_
             simp only [go_sem,e3]
             (try simp (disch:=omega) only [zI])
             repeat first | intro _ | refine ⟨by omega,?_⟩ | refine ⟨⟨by omega,by omega⟩,?_⟩
             refine hK _ ?_
             clear hK K
             refine ⟨(),trivial,zj [] ?_ ?_⟩
             · try simp only [go_sem]
             · try simp only [go_sem]
         clear hk hxc
         intro _ vs _
         repeat refine zq ?_
         refine zc rfl (fun hc=>?_) (fun hc=>?_) <;> (try simp only [go_sem] at hc)
         refine zf ?_
         simp only [go_sem]
         have hlen1:=bedsM_ne x most i
         have hG : RowC.arr 67 3 (l.map bedR) = mkG x most i:=by unfold mkG; rw [hend.1]
         rw [hend.1] at hlen1
         rcases Nat.eq_zero_or_pos i with h0 | h0
         · simp only [mkA,mkX,if_pos h0,List.nil_append]
           have dl : ∀ (F : Nat → RowC) n k,k < 600 → delc (fam F n) k = fam F n:=fun F n k h=>delc_fam_lt h
           have q1 : ∀ c,insc (fam (upd (mkG x most) i (.arr 67 3 (l.map bedR))) (i + 1)) 109 c = (109,c) :: fam (upd (mkG x most) i (.arr 67 3 (l.map bedR))) (i + 1):=fun c=>insc_fam_lt (by omega)
           have q2 : ∀ c,insc (fam (upd (mkG x most) i (.arr 67 3 (l.map bedR))) (i + 1)) 110 c = (110,c) :: fam (upd (mkG x most) i (.arr 67 3 (l.map bedR))) (i + 1):=fun c=>insc_fam_lt (by omega)
           repeat refine zq ?_
           refine awp_long ?_
           refine sops_take 3 (by kernel_rfl) fun K hK=>?_
           simp only [go_sem,List.take_succ_cons,List.take_zero,List.drop_succ_cons,List.drop_zero,List.append_eq,List.cons_append,List.nil_append]
           (try simp (disch:=omega) only [zI])
           repeat first | intro _ | refine ⟨by omega,?_⟩ | refine ⟨⟨by omega,by omega⟩,?_⟩
           refine hK _ rfl ?_
           clear hK K
           refine sops_sub (zk [1,2,4,5,6,7,8,107,108]) ?_
           simp only [go_sem]
           refine sops_litB (by simp [go_sem]) ?_
           simp only [go_sem,sLitBox,lay,List.replicate_succ,List.replicate_zero,List.flatten_cons,List.flatten_nil,List.map_cons,List.map_nil,List.cons_append,List.nil_append]
           repeat first | refine ⟨by omega,?_⟩ | refine ⟨⟨by omega,by omega⟩,?_⟩
           simp only [go_sem,hnl,q1]
           refine sops_appB (by simp [go_sem]) ?_
           simp only [go_sem,sAppB,List.length_cons,List.length_nil,decide_true,hnl,q1,q2]
           refine sops_end (by kernel_rfl) fun K hK=>?_
           simp only [go_sem,List.drop_succ_cons,List.drop_zero,List.append_eq,List.cons_append,List.nil_append]
           (try simp (disch:=omega) only [zI])
           try simp only [go_sem,hnl,q1,q2]
           repeat first | intro _ | refine ⟨by omega,?_⟩ | refine ⟨⟨by omega,by omega⟩,?_⟩
           refine hK _ ?_
           clear hK K
           refine zw (zk [1,2,4,5,6,7,8]) ?_
           simp only [go_sem]
           repeat refine zq ?_
           refine zb (by kernel_rfl) fun K hK=>?_
           simp only [go_sem]
           (try simp (disch:=omega) only [zI])
           repeat first | intro _ | refine ⟨by omega,?_⟩ | refine ⟨⟨by omega,by omega⟩,?_⟩
           refine hK _ ?_
           clear hK K
           try simp only [go_sem]
           refine ⟨by omega,zj [9,109] ?_ ?_⟩
           · try simp only [go_sem]
             rw [hend.2]
           · simp only [go_sem,dl,mkR,mkX,mkA,if_neg (show ¬ i + 1 = 0 by omega),List.cons_append,List.nil_append]
             rw [hG,upd_self,araC_upd (by omega),araC_upd (by omega),araC_upd (by omega),araC_upd (by omega),araC_upd (by omega)]
             simp only [araC,hend.1]
             subst h0
             rfl
         · have hi0 : ¬ i = 0:=by omega
           simp only [mkA,mkX,if_neg hi0,List.cons_append,List.nil_append]
           have dl : ∀ (F : Nat → RowC) n k,k < 600 → delc (fam F n) k = fam F n:=fun F n k h=>delc_fam_lt h
           have acl : (araC x most vs i).length = i * 2:=araC_len
           repeat refine zq ?_
           refine awp_long ?_
           refine sops_take 3 (by kernel_rfl) fun K hK=>?_
           simp only [go_sem,List.take_succ_cons,List.take_zero,List.drop_succ_cons,List.drop_zero,List.append_eq,List.cons_append,List.nil_append]
           (try simp (disch:=omega) only [zI])
           repeat first | intro _ | refine ⟨by omega,?_⟩ | refine ⟨⟨by omega,by omega⟩,?_⟩
           refine hK _ rfl ?_
           clear hK K
           refine sops_sub (zk [1,2,4,5,6,7,8,107,108]) ?_
           simp only [go_sem]
           refine sops_litB (by simp [go_sem]) ?_
           simp only [go_sem,sLitBox,lay,List.replicate_succ,List.replicate_zero,List.flatten_cons,List.flatten_nil,List.map_cons,List.map_nil,List.cons_append,List.nil_append]
           repeat first | refine ⟨by omega,?_⟩ | refine ⟨⟨by omega,by omega⟩,?_⟩
           try simp only [go_sem,hnl]
           refine sops_appB (by simp [go_sem]) ?_
           simp only [go_sem,sAppB,List.length_cons,List.length_nil,decide_true,hnl,acl]
           refine ⟨⟨by omega,by omega,by omega⟩,?_⟩
           refine sops_end (by kernel_rfl) fun K hK=>?_
           simp only [go_sem,List.drop_succ_cons,List.drop_zero,List.append_eq,List.cons_append,List.nil_append]
           (try simp (disch:=omega) only [zI])
           try simp only [go_sem,hnl]
           repeat first | intro _ | refine ⟨by omega,?_⟩ | refine ⟨⟨by omega,by omega⟩,?_⟩
           refine hK _ ?_
           clear hK K
           refine zw (zk [1,2,4,5,6,7,8]) ?_
           simp only [go_sem]
           repeat refine zq ?_
           refine zb (by kernel_rfl) fun K hK=>?_
           simp only [go_sem]
           (try simp (disch:=omega) only [zI])
           repeat first | intro _ | refine ⟨by omega,?_⟩ | refine ⟨⟨by omega,by omega⟩,?_⟩
           refine hK _ ?_
           clear hK K
           try simp only [go_sem]
           refine ⟨by omega,zj [9,109] ?_ ?_⟩
           · try simp only [go_sem]
             rw [hend.2]
           · simp only [go_sem,dl,mkR,mkX,mkA,if_neg (show ¬ i + 1 = 0 by omega),List.cons_append,List.nil_append]
             rw [hG,upd_self,araC_upd (by omega),araC_upd (by omega),araC_upd (by omega),araC_upd (by omega),araC_upd (by omega)]
             simp only [araC,hend.1]
   · have hie : i = cntM x:=by omega
     repeat refine zq ?_
     refine awp_joinV (n:=268) (fun (_ : Unit) vs=>[(2,.r (.rp (lwC x))),(4,.pt 4 (vs 4) 0),(5,.pt 5 (vs 5) 0),(34,.r (.bo false))]) (fun _ vs=>mkR x most i vs) (fun _=>True) (fun _ h=>h) ?_ ?_
     · simp only [mkR]
       by_cases h : i < x.which.length
       · have n1 : decide ((i : Int) < (x.which.length : Int)) = true:=by simpa using h
         have n1' : decide (i < x.which.length) = true:=by simpa using h
         have n2 : decide ((i : Int) < 6) = false:=by simp only [decide_eq_false_iff_not]; unfold cntM at hie; omega
         repeat refine zq ?_
         refine zb (by kernel_rfl) fun K hK=>?_
         simp only [go_sem,n1,n1',n2]
         (try simp (disch:=omega) only [zI])
         repeat first | intro _ | refine ⟨by omega,?_⟩ | refine ⟨⟨by omega,by omega⟩,?_⟩
         refine hK _ ?_
         clear hK K
         refine ⟨(),trivial,zj [] ?_ ?_⟩
         · try simp only [go_sem]
         · try simp only [go_sem]
       · have n1 : decide ((i : Int) < (x.which.length : Int)) = false:=by simp only [decide_eq_false_iff_not]; omega
         have n1' : decide (i < x.which.length) = false:=by simpa using h
         repeat refine zq ?_
         refine zb (by kernel_rfl) fun K hK=>?_
         simp only [go_sem,n1,n1']
         (try simp (disch:=omega) only [zI])
         repeat first | intro _ | refine ⟨by omega,?_⟩ | refine ⟨⟨by omega,by omega⟩,?_⟩
         refine hK _ ?_
         clear hK K
         refine ⟨(),trivial,zj [] ?_ ?_⟩
         · try simp only [go_sem]
         · try simp only [go_sem]
     intro _ vs _
     repeat refine zq ?_
     refine zc rfl (fun hc=>?_) (fun hc=>?_) <;> (try simp only [go_sem] at hc)
     refine zf ?_
     simp only [go_sem]
     refine zw (zk [2,4,5]) ?_
     simp only [go_sem]
     rw [hie]
     exact make1_tail x hx most hm _ rfl C vs
end Go.Proofs.Ytgkejinoaommeaa

namespace Go.Proofs.Ytgkejinoaommeaa
open Go Go.Oc
set_option linter.unusedSimpArgs false
set_option linter.unusedVariables false
set_option maxRecDepth 8000
def atE (l : List Int) (v : Int) : Int:=indexF (fun x=>v == x) l
theorem atE_lt (v : Int) : ∀ (l : List Int),atE l v < l.length
 | []=>by simp [atE,indexF]
 | x :: l => by
   have ih:=atE_lt v l
   unfold atE at ih ⊢
   simp only [indexF,List.length_cons]
   split
   · omega
   · split <;> omega
theorem indexE_ok (l : List Int) (v : Int) : ACalls Try.prog 93 [ints l,i64 v] (i64 (atE l v)):=by
 refine acalls_st (rs:=[i64 (atE l v)]) [.tmp 4] Try.func93 rfl (by kernel_rfl) Try.ntmps93 rfl (by simp) rfl fun C vs=>?_
 repeat refine zq ?_
 refine zb (by kernel_rfl) fun K hK=>?_
 simp only [go_sem]
 (try simp (disch:=omega) only [zI])
 repeat first | intro _ | refine ⟨by omega,?_⟩ | refine ⟨⟨by omega,by omega⟩,?_⟩
 refine hK _ ?_
 clear hK K
 refine zw (zk [0,1]) ?_
 simp only [go_sem]
 repeat refine zq ?_
 refine zb (by kernel_rfl) fun K hK=>?_
 simp only [go_sem]
 (try simp (disch:=omega) only [zI])
 intro hl
 repeat first | intro _ | refine ⟨by omega,?_⟩ | refine ⟨⟨by omega,by omega⟩,?_⟩
 refine hK _ ?_
 clear hK K
 refine zw (zk [0,1,7,8]) ?_
 simp only [go_sem]
 repeat refine zq ?_
 refine zd ?_
 refine awp_upto (n:=19) l.length (fun i vs=>[(0,.r (ints l)),(1,.r (i64 v)),(7,.r (i64 l.length)),(8,.r (i64 i))]) (fun _=>[])
  (fun i=>atE l v = if atE (l.drop i) v < 0 then -1 else i + atE (l.drop i) v) 0 (fit_of [] ?_ rfl) (Nat.zero_le _) ?_ ?_
 · try simp only [go_sem]
 · simp only [List.drop_zero]
   have:=indexF_ge (fun x=>v == x) l
   unfold atE
   split
   · omega
   · simp
 · intro i vs hi hI
   repeat refine zq ?_
   refine zb (by kernel_rfl) fun K hK=>?_
   simp only [go_sem]
   (try simp (disch:=omega) only [zI])
   repeat first | intro _ | refine ⟨by omega,?_⟩ | refine ⟨⟨by omega,by omega⟩,?_⟩
   refine hK _ ?_
   clear hK K
   refine zw (zk [0,1,7,8,9]) ?_
   simp only [go_sem]
   repeat refine zq ?_
   refine zc rfl (fun hc=>?_) (fun hc=>?_) <;> (try simp only [go_sem] at hc)
   · have hci:=hc
     obtain ⟨x,hx⟩:=opt_of_lt hci
     rw [drop_of_opt hx] at hI
     refine zx ?_
     try simp only [go_sem]
     repeat refine zq ?_
     refine zd ?_
     repeat refine zq ?_
     refine zb (by kernel_rfl) fun K hK=>?_
     simp only [go_sem]
     (try simp (disch:=omega) only [zI])
     repeat first | intro _ | refine ⟨by omega,?_⟩ | refine ⟨⟨by omega,by omega⟩,?_⟩
     refine hK _ ?_
     clear hK K
     refine zw (zk [0,1,5,7,8]) ?_
     simp only [go_sem]
     repeat refine zq ?_
     refine zb (by kernel_rfl) fun K hK=>?_
     simp only [go_sem,hx,hci]
     (try simp (disch:=omega) only [zI])
     repeat first | intro _ | refine ⟨by omega,?_⟩ | refine ⟨⟨by omega,by omega⟩,?_⟩
     refine hK _ ?_
     clear hK K
     refine zw (zk [0,1,5,7,8,16]) ?_
     simp only [go_sem]
     by_cases he : (v == x) = true
     · have h2 : atE l v = i:=by rw [hI]; simp [atE,indexF,he]
       rw [he,h2]
       repeat refine zq ?_
       refine zc rfl (fun hc=>?_) (fun hc=>?_) <;> (try simp only [go_sem] at hc)
       repeat refine zq ?_
       refine zb (by kernel_rfl) fun K hK=>?_
       simp only [go_sem]
       (try simp (disch:=omega) only [zI])
       repeat first | intro _ | refine ⟨by omega,?_⟩ | refine ⟨⟨by omega,by omega⟩,?_⟩
       refine hK _ ?_
       clear hK K
       refine zw (zk [4]) ?_
       simp only [go_sem]
       refine ze ?_
       simp only [go_sem]
     · have he' : (v == x) = false:=by simpa using he
       rw [he']
       repeat refine zq ?_
       refine zc rfl (fun hc=>?_) (fun hc=>?_) <;> (try simp only [go_sem] at hc)
       refine zx ?_
       try simp only [go_sem]
       repeat refine zq ?_
       refine zb (by kernel_rfl) fun K hK=>?_
       simp only [go_sem]
       (try simp (disch:=omega) only [zI])
       repeat first | intro _ | refine ⟨by omega,?_⟩ | refine ⟨⟨by omega,by omega⟩,?_⟩
       refine hK _ ?_
       clear hK K
       try simp only [go_sem]
       refine ⟨hci,?_,fit_of [] ?_ rfl⟩
       · rw [hI]
         simp only [atE,indexF,he',Bool.false_eq_true,if_false]
         have:=indexF_ge (fun x=>v == x) (l.drop (i + 1))
         split <;> split <;> omega
       · try simp only [go_sem]
   · have hil : i = l.length:=by omega
     subst hil
     rw [List.drop_length] at hI
     have hI' : atE l v = -1:=by rw [hI]; simp [atE,indexF]
     refine zf ?_
     simp only [go_sem]
     repeat refine zq ?_
     refine zb (by kernel_rfl) fun K hK=>?_
     simp only [go_sem]
     (try simp (disch:=omega) only [zI])
     repeat first | intro _ | refine ⟨by omega,?_⟩ | refine ⟨⟨by omega,by omega⟩,?_⟩
     refine hK _ ?_
     clear hK K
     refine zw (zk [4]) ?_
     simp only [go_sem]
     refine ze ?_
     simp only [go_sem]
     rw [hI']
abbrev tR (t : List Int) : List RV:=t.map fun x=>i64 x
abbrev tA (t : List Int) : List AV:=(tR t).map AV.r
abbrev zeroT : List Int:=[0,0,0,0,0,0,0,0,0,0]
def incT (t : List Int) (i : Nat) : List Int:=t.set i (t.getD i 0 + 1)
theorem incT_len (t : List Int) (i : Nat) : (incT t i).length = t.length:=by simp [incT]
theorem tA_drop {t : List Int} {i : Nat} {x : Int} (h : t[i]? = some x) : (tA t).drop i = .r (i64 x) :: (tA t).drop (i + 1):=by
 refine drop_of_opt ?_
 simp [h]
theorem tA_set {t : List Int} {i : Nat} {y : Int} (h : i < t.length) : (tA t).take i ++ (AV.r (RV.it .i64 y) :: (tA t).drop (i + 1)) = tA (t.set i y):=by
 have : ((t.set i y).map fun x=>i64 x).map AV.r = (((t.map fun x=>i64 x).map AV.r).set i (.r (i64 y))):=by simp [List.map_set]
 show _ = ((t.set i y).map fun x=>i64 x).map AV.r
 rw [this,List.set_eq_take_append_cons_drop,if_pos (by simpa using h)]
theorem tA_len (t : List Int) : (tA t).length = t.length:=by simp
def tallyK (beds : List Int) : List Int → List Int → Option (List Int)
 | t,[]=>some t
 | t,d :: ds=>if atE beds d < 0 then none else tallyK beds (incT t (atE beds d).toNat) ds
def knownXs (beds ds : List Int) : List (List RV):=match tallyK beds zeroT ds with | some t=>[[.ag (tR t)]] | none=>[]
abbrev sheetR (beds le mo : List Int) : List RV:=ints beds :: (tR le ++ tR mo)
theorem flat_tR : ∀ t : List Int,RV.flatL (tR t) = true
 | []=>rfl
 | x :: t=>by simp only [tR,List.map_cons,RV.flatL,RV.flatB,Bool.true_and]; exact flat_tR t
def SmallT (b : Int) (t : List Int) : Prop:=t.length = 10 ∧ ∀ x ∈ t,0 ≤ x ∧ x ≤ b
theorem incT_small {b : Int} {t : List Int} {i : Nat} (h : SmallT b t) (hb : 0 ≤ b) : SmallT (b + 1) (incT t i):=by
 refine ⟨by rw [incT_len]; exact h.1,fun x hx=>?_⟩
 rcases List.mem_or_eq_of_mem_set hx with h1 | h1
 · have:=h.2 x h1; omega
 · subst h1
   rw [List.getD_eq_getElem?_getD]
   cases e : t[i]? with
   | none=>simp; omega
   | some y=>have:=h.2 y (mem_of_opt e); simp; omega
theorem known1_ok (beds ds le mo : List Int) (hb : beds.length ≤ 10) (hd : ds.length ≤ 1000) : ICalls Try.prog true 92 [.rp [ints ds],.rp [.rp (sheetR beds le mo)]] (knownXs beds ds):=by
 refine icalls_st Try.func92 rfl (by kernel_rfl) Try.ntmps92 rfl (by simp) fun C ll=>?_
 repeat refine zq ?_
 refine zb (by kernel_rfl) fun K hK=>?_
 simp only [go_sem,argL]
 (try simp (disch:=omega) only [zI])
 repeat first | intro _ | refine ⟨by omega,?_⟩ | refine ⟨⟨by omega,by omega⟩,?_⟩
 refine hK _ ?_
 clear hK K
 refine zw (zk [0,1,2,4]) ?_
 simp only [go_sem]
 repeat refine zq ?_
 refine zb (by kernel_rfl) fun K hK=>?_
 simp only [go_sem]
 (try simp (disch:=omega) only [zI])
 intros
 repeat first | intro _ | refine ⟨by omega,?_⟩ | refine ⟨⟨by omega,by omega⟩,?_⟩
 refine hK _ ?_
 clear hK K
 refine zw (zk [0,2,4,8,9,10]) ?_
 simp only [go_sem]
 repeat refine zq ?_
 refine zd ?_
 refine awp_while (n:=31) (fun (y : Nat × List Int) vs=>[(0,.r (.yl ll)),(2,.r (.rp [.rp (sheetR beds le mo)])),(4,.pt 4 (vs 4) 0),(8,.r (ints ds)),(9,.r (i64 ds.length)),(10,.r (i64 y.1))])
  (fun y=>[(4,.box (tA y.2)),(999,.gh Try.prog ll true (some (knownXs beds ds)))]) (fun y=>y.1 ≤ ds.length ∧ SmallT y.1 y.2 ∧ tallyK beds zeroT ds = tallyK beds y.2 (ds.drop y.1)) (fun y=>ds.length - y.1) (0,zeroT) (fit_of [] ?_ ?_) ⟨Nat.zero_le _,⟨rfl,by decide⟩,rfl⟩ ?_
 · try simp only [go_sem]
 · try simp only [go_sem]
   rfl
 · rintro ⟨i,t⟩ vs ⟨hi,hs,hK⟩
   simp only at hi hs hK
   repeat refine zq ?_
   refine zb (by kernel_rfl) fun K hK=>?_
   simp only [go_sem]
   (try simp (disch:=omega) only [zI])
   repeat first | intro _ | refine ⟨by omega,?_⟩ | refine ⟨⟨by omega,by omega⟩,?_⟩
   refine hK _ ?_
   clear hK K
   refine zw (zk [0,2,4,8,9,10,11]) ?_
   simp only [go_sem]
   repeat refine zq ?_
   refine zc rfl (fun hc=>?_) (fun hc=>?_) <;> (try simp only [go_sem] at hc)
   · have hci : i < ds.length:=by first | exact hc | omega
     obtain ⟨d,hx⟩:=opt_of_lt hci
     rw [drop_of_opt hx,tallyK] at hK
     have hlt:=atE_lt d beds
     refine zx ?_
     try simp only [go_sem]
     repeat refine zq ?_
     refine zd ?_
     repeat refine zq ?_
     refine zb (by kernel_rfl) fun K hK=>?_
     simp only [go_sem,hx,hci]
     (try simp (disch:=omega) only [zI])
     repeat first | intro _ | refine ⟨by omega,?_⟩ | refine ⟨⟨by omega,by omega⟩,?_⟩
     refine hK _ ?_
     clear hK K
     refine zw (zk [0,2,4,6,8,9,10]) ?_
     simp only [go_sem]
     repeat refine zq ?_
     refine zb (by kernel_rfl) fun K hK=>?_
     simp only [go_sem]
     (try simp (disch:=omega) only [zI])
     refine zh (indexE_ok beds d) rfl (by simp only [go_sem,i64,ints]) (by simp only [go_sem,i64,ints]) (by first | exact .inl rfl | exact .inr rfl) ?_
     (try simp only [go_sem])
     (try simp (disch:=omega) only [zI])
     repeat first | intro _ | refine ⟨by omega,?_⟩ | refine ⟨⟨by omega,by omega⟩,?_⟩
     refine hK _ ?_
     clear hK K
     refine zw (zk [0,2,4,7,8,9,10]) ?_
     simp only [go_sem]
     by_cases hneg : atE beds d < 0
     · rw [if_pos hneg] at hK
       have hxs : knownXs beds ds = []:=by rw [knownXs,hK]
       have e1 : decide (atE beds d < 0) = true:=by simp [hneg]
       rw [hxs]
       repeat refine zq ?_
       refine zb (by kernel_rfl) fun K hK=>?_
       simp only [go_sem]
       (try simp (disch:=omega) only [zI])
       repeat first | intro _ | refine ⟨by omega,?_⟩ | refine ⟨⟨by omega,by omega⟩,?_⟩
       refine hK _ ?_
       clear hK K
       rw [e1]
       repeat refine zq ?_
       refine zc rfl (fun hc=>?_) (fun hc=>?_) <;> (try simp only [go_sem] at hc)
       refine ze ?_
       simp only [go_sem]
       exact ⟨_,_,.inl rfl⟩
     · rw [if_neg hneg] at hK
       have e1 : decide (atE beds d < 0) = false:=by simp; omega
       obtain ⟨j,hj⟩:=Int.eq_ofNat_of_zero_le (show 0 ≤ atE beds d by omega)
       rw [hj,Int.toNat_natCast] at hK
       have hjl : j < t.length:=by have:=hs.1; omega
       obtain ⟨x,hxj⟩:=opt_of_lt hjl
       have hsm:=hs.2 x (mem_of_opt hxj)
       have hinc : incT t j = t.set j (x + 1):=by simp [incT,List.getD_eq_getElem?_getD,hxj]
       have hd1:=tA_drop hxj
       have hset:=tA_set (y:=x + 1) hjl
       have hal:=tA_len t
       have hj10 : (j : Int) < 10:=by have:=hs.1; omega
       repeat refine zq ?_
       refine zb (by kernel_rfl) fun K hK=>?_
       simp only [go_sem]
       (try simp (disch:=omega) only [zI])
       repeat first | intro _ | refine ⟨by omega,?_⟩ | refine ⟨⟨by omega,by omega⟩,?_⟩
       refine hK _ ?_
       clear hK K
       rw [e1]
       repeat refine zq ?_
       refine zc rfl (fun hc=>?_) (fun hc=>?_) <;> (try simp only [go_sem] at hc)
       refine zx ?_
       try simp only [go_sem]
       rw [hj]
       repeat refine zq ?_
       refine zb (by kernel_rfl) fun K hK=>?_
       simp only [go_sem,Nat.mul_one,hd1,hal,List.headD_cons,List.length_cons]
       (try simp (disch:=omega) only [zI])
       repeat first | intro _ | refine ⟨by omega,?_⟩ | refine ⟨⟨by omega,by omega⟩,?_⟩
       refine hK _ ?_
       clear hK K
       rw [hset,← hinc]
       refine zw (zk [0,2,4,8,9,10]) ?_
       simp only [go_sem]
       repeat refine zq ?_
       refine zb (by kernel_rfl) fun K hK=>?_
       simp only [go_sem]
       (try simp (disch:=omega) only [zI])
       repeat first | intro _ | refine ⟨by omega,?_⟩ | refine ⟨⟨by omega,by omega⟩,?_⟩
       refine hK _ ?_
       clear hK K
       try simp only [go_sem]
       refine ⟨(i + 1,incT t j),⟨by omega,?_,hK⟩,by simp only; omega,fit_of [] ?_ ?_⟩
       · have:=incT_small (i:=j) hs (by omega)
         simpa using this
       · try simp only [go_sem]
       · try simp only [go_sem]
   · have hil : i = ds.length:=by omega
     subst hil
     rw [List.drop_length,tallyK] at hK
     have hxs : knownXs beds ds = [[.ag (tR t)]]:=by rw [knownXs,hK]
     rw [hxs]
     have htk : List.take 10 (tR t) = tR t:=List.take_of_length_le (by rw [List.length_map,hs.1]; exact Nat.le_refl _)
     have htl : (tR t).length = 10:=by rw [List.length_map,hs.1]
     refine zf ?_
     simp only [go_sem]
     refine zw (sub_frzP 4 4 (tR t) (by omega) rfl rfl) ?_
     refine zw (zk [0,4]) ?_
     simp only [go_sem]
     repeat refine zq ?_
     refine zb (by kernel_rfl) fun K hK=>?_
     simp only [go_sem,htk,htl,Nat.le_refl]
     (try simp (disch:=omega) only [zI])
     refine xcall_yield (z:=true) (e:=[.ag (tR t)]) (rest:=[]) (by simp only [go_sem]) rfl (by simp only [go_sem]) (.inl (by simp only [RV.flatL,RV.flatB,flat_tR,Bool.and_self])) ?_ ?_
     · simp only [go_sem]
       repeat first | intro _ | refine ⟨by omega,?_⟩ | refine ⟨⟨by omega,by omega⟩,?_⟩
       refine hK _ ?_
       clear hK K
       exact ⟨_,_,.inl rfl⟩
     · simp only [go_sem]
       repeat first | intro _ | refine ⟨by omega,?_⟩ | refine ⟨⟨by omega,by omega⟩,?_⟩
       refine hK _ ?_
       clear hK K
       exact ⟨_,_,.inr rfl⟩
theorem known_ok (u : Addr) (ds : List Int) : ACalls Try.prog 82 [.vl u,ints ds] (.fn 92 [.rp [ints ds],.rp [.vl u]]):=by
 refine acalls_st (rs:=[.fn 92 [.rp [ints ds],.rp [.vl u]]]) [.tmp 4] Try.func82 rfl (by kernel_rfl) Try.ntmps82 rfl (by simp) rfl fun C vs=>?_
 repeat refine zq ?_
 refine zb (by kernel_rfl) fun K hK=>?_
 simp only [go_sem]
 (try simp (disch:=omega) only [zI])
 repeat first | intro _ | refine ⟨by omega,?_⟩ | refine ⟨⟨by omega,by omega⟩,?_⟩
 refine hK _ ?_
 clear hK K
 refine zw (zk [2,3]) ?_
 simp only [go_sem]
 refine zw (sub_frzP 2 2 [.vl u] (by omega) rfl rfl) ?_
 refine zw (sub_frzP 3 3 [ints ds] (by omega) rfl rfl) ?_
 repeat refine zq ?_
 refine zb (by kernel_rfl) fun K hK=>?_
 simp only [go_sem]
 (try simp (disch:=omega) only [zI])
 repeat first | intro _ | refine ⟨by omega,?_⟩ | refine ⟨⟨by omega,by omega⟩,?_⟩
 refine hK _ ?_
 clear hK K
 refine ze ?_
 simp only [go_sem]
 simp [RV.le,leL_refl.le_refl,leL_refl]
theorem three_ok (u : Addr) (n : Int) : ACalls Try.prog 83 [.vl u,i64 n] (.fn 94 [.rp [.vl u],.rp [i64 n]]):=by
 refine acalls_st (rs:=[.fn 94 [.rp [.vl u],.rp [i64 n]]]) [.tmp 4] Try.func83 rfl (by kernel_rfl) Try.ntmps83 rfl (by simp) rfl fun C vs=>?_
 repeat refine zq ?_
 refine zb (by kernel_rfl) fun K hK=>?_
 simp only [go_sem]
 (try simp (disch:=omega) only [zI])
 repeat first | intro _ | refine ⟨by omega,?_⟩ | refine ⟨⟨by omega,by omega⟩,?_⟩
 refine hK _ ?_
 clear hK K
 refine zw (zk [2,3]) ?_
 simp only [go_sem]
 refine zw (sub_frzP 2 2 [.vl u] (by omega) rfl rfl) ?_
 refine zw (sub_frzP 3 3 [i64 n] (by omega) rfl rfl) ?_
 repeat refine zq ?_
 refine zb (by kernel_rfl) fun K hK=>?_
 simp only [go_sem]
 (try simp (disch:=omega) only [zI])
 repeat first | intro _ | refine ⟨by omega,?_⟩ | refine ⟨⟨by omega,by omega⟩,?_⟩
 refine hK _ ?_
 clear hK K
 refine ze ?_
 simp only [go_sem]
 simp [RV.le,leL_refl.le_refl,leL_refl]
end Go.Proofs.Ytgkejinoaommeaa

namespace Go.Proofs.Ytgkejinoaommeaa
open Go Go.Oc
set_option linter.unusedSimpArgs false
set_option linter.unusedVariables false
set_option maxRecDepth 8000
def shA (beds le mo : List Int) : List AV:=(sheetR beds le mo).map AV.r
theorem shA_len (beds le mo : List Int) : (shA beds le mo).length = 1 + le.length + mo.length:=by simp [shA,sheetR]; omega
theorem shA_eq (beds le mo : List Int) : shA beds le mo = AV.r (ints beds) :: (tA le ++ tA mo):=by simp [shA,sheetR]
theorem shA_drop1 {beds le mo : List Int} {k : Nat} {a : Int} (h : le[k]? = some a) : (shA beds le mo).drop (1 + k) = .r (RV.it .i64 a) :: (shA beds le mo).drop (1 + k + 1):=by
 refine drop_of_opt ?_
 have hk:=(List.getElem?_eq_some_iff.1 h).1
 rw [shA_eq,Nat.add_comm 1 k,List.getElem?_cons_succ,List.getElem?_append_left (by simpa using hk)]
 simp [h]
theorem shA_drop2 {beds le mo : List Int} {k : Nat} {a : Int} (hl : le.length = 10) (h : mo[k]? = some a) : (shA beds le mo).drop (11 + k) = .r (RV.it .i64 a) :: (shA beds le mo).drop (11 + k + 1):=by
 refine drop_of_opt ?_
 rw [shA_eq,show 11 + k = (10 + k) + 1 by omega,List.getElem?_cons_succ,List.getElem?_append_right (by simp; omega)]
 have : 10 + k - (tA le).length = k:=by rw [tA_len,hl]; omega
 rw [this]
 simp [h]
theorem set_split {α : Type} {l : List α} {i : Nat} {y : α} (h : i < l.length) : l.take i ++ (y :: l.drop (i + 1)) = l.set i y:=by
 rw [List.set_eq_take_append_cons_drop,if_pos h]
theorem shA_set1 {beds le mo : List Int} {k : Nat} {y : Int} (h : k < le.length) : (shA beds le mo).take (1 + k) ++ (AV.r (RV.it .i64 y) :: (shA beds le mo).drop (1 + k + 1)) = shA beds (le.set k y) mo:=by
 rw [set_split (by rw [shA_len]; omega),shA_eq,shA_eq,Nat.add_comm 1 k,List.set_cons_succ,List.set_append_left _ _ (by rw [tA_len]; exact h)]
 simp [List.map_set]
theorem shA_set2 {beds le mo : List Int} {k : Nat} {y : Int} (hl : le.length = 10) (h : k < mo.length) : (shA beds le mo).take (11 + k) ++ (AV.r (RV.it .i64 y) :: (shA beds le mo).drop (11 + k + 1)) = shA beds le (mo.set k y):=by
 rw [set_split (by rw [shA_len]; omega),shA_eq,shA_eq,show 11 + k = (10 + k) + 1 by omega,List.set_cons_succ,List.set_append_right _ _ (by rw [tA_len]; omega)]
 have : 10 + k - (tA le).length = k:=by rw [tA_len,hl]; omega
 rw [this]
 simp [List.map_set]
def leastT (b : Bool) (le t : List Int) : List Int:=if b then List.zipWith min le t else t
def mostT (mo t : List Int) : List Int:=List.zipWith max mo t
def accT (s : Bool × List Int × List Int) (t : List Int) : Bool × List Int × List Int:=(true,leastT s.1 s.2.1 t,mostT s.2.2 t)
def accL (xs : List (List Int)) : Bool × List Int × List Int:=xs.foldl accT (false,zeroT,zeroT)
def mixT (new old : List Int) (k : Nat) : List Int:=new.take k ++ old.drop k
theorem mix_get {new old : List Int} {k : Nat} (hn : new.length = 10) (ho : old.length = 10) (hk : k < 10) : (mixT new old k)[k]? = old[k]?:=by
 unfold mixT
 rw [List.getElem?_append_right (by rw [List.length_take]; omega),List.length_take,hn,show k - min k 10 = 0 by omega,List.getElem?_drop,Nat.add_zero]
theorem mix_set {new old : List Int} {k : Nat} {y : Int} (hn : new[k]? = some y) (hnl : new.length = 10) (ho : old.length = 10) (hk : k < 10) : (mixT new old k).set k y = mixT new old (k + 1):=by
 unfold mixT
 rw [List.set_append_right _ _ (by rw [List.length_take]; omega),List.length_take,hnl,show k - min k 10 = 0 by omega]
 obtain ⟨z,hz⟩:=opt_of_lt (l:=old) (i:=k) (by omega)
 rw [drop_of_opt hz,List.set_cons_zero,take_of_opt hn]
 simp
theorem mix_len {new old : List Int} {k : Nat} (hn : new.length = 10) (ho : old.length = 10) (hk : k ≤ 10) : (mixT new old k).length = 10:=by
 unfold mixT
 rw [List.length_append,List.length_take,List.length_drop]; omega
theorem leastT_len {b : Bool} {le t : List Int} (h1 : le.length = 10) (h2 : t.length = 10) : (leastT b le t).length = 10:=by
 unfold leastT; split
 · rw [List.length_zipWith]; omega
 · exact h2
theorem mostT_len {mo t : List Int} (h1 : mo.length = 10) (h2 : t.length = 10) : (mostT mo t).length = 10:=by
 unfold mostT; rw [List.length_zipWith]; omega
theorem mem_zipW {f : Int → Int → Int} {x : Int} : ∀ {l m : List Int},x ∈ List.zipWith f l m → ∃ a,a ∈ l ∧ ∃ b,b ∈ m ∧ x = f a b
 | [],_,h=>by simp at h
 | _ :: _,[],h=>by simp at h
 | a :: l, b :: m, h => by
   rw [List.zipWith_cons_cons] at h
   rcases List.mem_cons.1 h with h | h
   · exact ⟨a,by simp,b,by simp,h⟩
   · obtain ⟨a',h1,b',h2,h3⟩:=mem_zipW h
     exact ⟨a',by simp [h1],b',by simp [h2],h3⟩
theorem accL_snoc (xs : List (List Int)) (t : List Int) : accL (xs ++ [t]) = accT (accL xs) t:=by simp [accL]
theorem accT_small {b : Int} {s : Bool × List Int × List Int} {t : List Int} (ht : SmallT b t) (h1 : SmallT b s.2.1) (h2 : SmallT b s.2.2) : SmallT b (accT s t).2.1 ∧ SmallT b (accT s t).2.2:=by
 refine ⟨⟨leastT_len h1.1 ht.1,fun x hx=>?_⟩,mostT_len h2.1 ht.1,fun x hx=>?_⟩
 · simp only [accT,leastT] at hx
   split at hx
   · obtain ⟨y,hy,z,hz,rfl⟩:=mem_zipW hx
     have:=h1.2 y hy
     have:=ht.2 z hz
     omega
   · exact ht.2 x hx
 · simp only [accT,mostT] at hx
   obtain ⟨y,hy,z,hz,rfl⟩:=mem_zipW hx
   have:=h2.2 y hy
   have:=ht.2 z hz
   omega
theorem zeroT_small {b : Int} (hb : 0 ≤ b) : SmallT b zeroT:=⟨rfl,fun x hx=>by
 have : x = 0:=by simpa using hx
 omega⟩
theorem accL_small {b : Int} (hb : 0 ≤ b) : ∀ (xs : List (List Int)),(∀ t ∈ xs,SmallT b t) → SmallT b (accL xs).2.1 ∧ SmallT b (accL xs).2.2:=by
 have gen : ∀ (xs : List (List Int)) (s : Bool × List Int × List Int),(∀ t ∈ xs,SmallT b t) → SmallT b s.2.1 → SmallT b s.2.2 → SmallT b (xs.foldl accT s).2.1 ∧ SmallT b (xs.foldl accT s).2.2:=by
  intro xs
  induction xs with
  | nil=>intro s _ h1 h2; exact ⟨h1,h2⟩
  | cons t xs ih =>
    intro s h h1 h2
    obtain ⟨g1,g2⟩:=accT_small (s:=s) (h t (by simp)) h1 h2
    exact ih (accT s t) (fun y hy=>h y (by simp [hy])) g1 g2
 exact fun xs h=>gen xs _ h (zeroT_small hb) (zeroT_small hb)
theorem accL_some (xs : List (List Int)) : (accL xs).1 = !xs.isEmpty:=by
 rcases List.eq_nil_or_concat xs with rfl | ⟨l,x,rfl⟩
 · rfl
 · rw [List.concat_eq_append,accL_snoc]; simp [accT]
theorem frzPL_r (ks : List (Nat × RowC)) (rows : Nat → Row) : ∀ l : List RV,frzPL ks rows (l.map AV.r)
 | []=>trivial
 | x :: l=>⟨trivial,frzPL_r ks rows l⟩
theorem frzL_r (ks : List (Nat × RowC)) (rows : Nat → Row) : ∀ l : List RV,frzL ks rows (l.map AV.r) = l.map AV.r
 | []=>rfl
 | x :: l=>by simp only [List.map_cons,frzL,frz1,frzL_r ks rows l]
def addT (a b : List Int) : List Int:=List.zipWith (· + ·) a b
set_option maxHeartbeats 1000000
theorem add_ok (u : Addr) (beds le mo : List Int) (f : Nat) (caps args : List RV) (xs : List (List Int)) (hle : SmallT 3000 le) (hmo : SmallT 3000 mo) (hxs : ∀ t ∈ xs,SmallT 3 t)
 (hI : ICalls Try.prog true f args (xs.map fun t=>[.ag (tR t)]))
 (hcap : ∀ (w : World) (p : Plan) (ver : Nat → Nat) (R' : Nat → Prop) (vals : List Value),AV.relV w p ver (caps.map .r) vals → RV.rel w R' (.rp (sheetR beds le mo)) (.pointer (some u)) → (∀ b,p.R b → R' b) → RV.relV w R' args vals) :
 MCalls Try.prog 84 [(1000,.box (shA beds le mo))] [(1000,.box (shA beds (addT le (accL xs).2.1) (addT mo (accL xs).2.2)))] [.pu 1000 0 u,.r (.fn f caps)] (.r (.bo (!xs.isEmpty))):=by
 refine mcalls_stO (n:=73) (rs:=[.r (.bo (!xs.isEmpty))]) _ _ [.cell 4 4] Try.func84 rfl (by kernel_rfl) Try.ntmps84 rfl (by simp) rfl rfl fun C hC=>?_
 repeat refine zq ?_
 refine zb (by kernel_rfl) fun K hK=>?_
 simp only [go_sem]
 (try simp (disch:=omega) only [zI])
 repeat first | intro _ | refine ⟨by omega,?_⟩ | refine ⟨⟨by omega,by omega⟩,?_⟩
 refine hK _ ?_
 clear hK K
 refine zw (zk [0,1,4]) ?_
 simp only [go_sem]
 repeat refine zq ?_
 refine zb (by kernel_rfl) fun K hK=>?_
 simp only [go_sem]
 (try simp (disch:=omega) only [zI])
 repeat first | intro _ | refine ⟨by omega,?_⟩ | refine ⟨⟨by omega,by omega⟩,?_⟩
 refine hK _ ?_
 clear hK K
 refine zw (zk [0,1,4,5,6]) ?_
 simp only [go_sem]
 repeat refine zq ?_
 refine zb (by kernel_rfl) fun K hK=>?_
 simp only [go_sem]
 (try simp (disch:=omega) only [zI])
 repeat first | intro _ | refine ⟨by omega,?_⟩ | refine ⟨⟨by omega,by omega⟩,?_⟩
 refine hK _ ?_
 clear hK K
 refine zw (zk [0,4,5,6,11]) ?_
 simp only [go_sem]
 repeat refine zq ?_
 refine zd ?_
 repeat refine zq ?_
 refine awp_rangeK ⟨hC.1,hC.2.1⟩ 1000 0 u rfl (by omega) (hC.2.2 1000 rfl) (sheetR beds le mo) (by intro j hj; simp only [upd]; (repeat' split); all_goals first | rfl | omega) rfl (cf:=caps.map .r) (xs.map fun t=>[.ag (tR t)]) hI [0,4,5,6,11] (by decide)
  (fun vs=>[(0,.r (.vl u)),(4,.pt 4 (vs 4) 0),(5,.pt 5 (vs 5) 0),(6,.pt 6 (vs 6) 0),(11,.r (.fn f caps))])
  (fun i vs=>[(4,.box [.r (.bo (!(xs.take i).isEmpty))]),(5,.box (tA (accL (xs.take i)).2.1)),(6,.box (tA (accL (xs.take i)).2.2))]) (fun _=>True) (fun us=>?_) trivial (fun _=>rfl) (fun _=>rfl) (fun _=>rfl) hcap (fun _ _=>rfl) (by simp) ?_ ?_ ?_
 · refine fitW_of (n:=73) (F:=fun vs=>[(0,.r (.vl u)),(4,.pt 4 (vs 4) 0),(5,.pt 5 (vs 5) 0),(6,.pt 6 (vs 6) 0),(11,.r (.fn f caps))])
    (R:=fun vs=>insc [(4,.box [.r (.bo (!(xs.take 0).isEmpty))]),(5,.box (tA (accL (xs.take 0)).2.1)),(6,.box (tA (accL (xs.take 0)).2.2))] 1000 (.sus ((sheetR beds le mo).map .r) us)) [] (by intro j hj; simp only [upd]; (repeat' split); all_goals first | rfl | omega) ?_ ?_
   · simp only [List.map_cons,List.map_nil,AV.park,AV.parkL,if_true,if_false,Nat.reduceEqDiff]
     try simp only [go_sem]
   · simp only [List.map_cons,List.map_nil,RowC.park,AV.park,AV.parkL]
     try simp only [go_sem]
     rfl
 · intro e he
   obtain ⟨t,_,rfl⟩:=List.mem_map.1 he
   rfl
 · intro i e vs us usp C' he _ hvl
   obtain ⟨t,ht,rfl⟩ : ∃ t,xs[i]? = some t ∧ e = [.ag (tR t)]:=by
    rw [List.getElem?_map] at he
    cases hx : xs[i]? with
    | none=>rw [hx] at he; cases he
    | some t=>rw [hx] at he; injection he with he; exact ⟨t,rfl,he.symm⟩
   have hts:=hxs t (mem_of_opt ht)
   obtain ⟨al,am⟩:=accL_small (b:=3) (by omega) (xs.take i) (fun t ht=>hxs t (List.mem_of_mem_take ht))
   have hsn : xs.take (i + 1) = xs.take i ++ [t]:=take_of_opt ht
   have hacc : accL (xs.take (i + 1)) = accT (accL (xs.take i)) t:=by rw [hsn,accL_snoc]
   have hsm:=accL_some (xs.take i)
   have hne : (xs.take (i + 1)).isEmpty = false:=by rw [hsn]; simp
   rw [hacc,hne]
   rw [← hsm]
   generalize accL (xs.take i) = S at *
   obtain ⟨b,ol,om⟩:=S
   simp only [accT] at *
   have htk : List.take 10 (tR t) = tR t:=List.take_of_length_le (by rw [List.length_map,hts.1]; exact Nat.le_refl _)
   have htl : (tR t).length = 10:=by rw [List.length_map,hts.1]
   have hol : ol.length = 10:=al.1
   have hom : om.length = 10:=am.1
   have hll : (leastT b ol t).length = 10:=leastT_len hol hts.1
   have hml : (mostT om t).length = 10:=mostT_len hom hts.1
   try simp only [go_sem]
   repeat refine zq ?_
   refine zb (by kernel_rfl) fun K hK=>?_
   simp only [go_sem]
   (try simp (disch:=omega) only [zI])
   refine ⟨hts.1,?_⟩
   repeat first | intro _ | refine ⟨by omega,?_⟩ | refine ⟨⟨by omega,by omega⟩,?_⟩
   refine hK _ ?_
   clear hK K
   refine ⟨rfl,fun C''=>?_⟩
   refine zw (sub_frzP 7 7 (tR t) (by omega) rfl rfl) ?_
   refine zw (zk [4,5,6,7]) ?_
   simp only [go_sem]
   repeat refine zq ?_
   refine zd ?_
   repeat refine zq ?_
   refine zb (by kernel_rfl) fun K hK=>?_
   simp only [go_sem,htk,htl,Nat.le_refl]
   (try simp (disch:=omega) only [zI])
   repeat first | intro _ | refine ⟨by omega,?_⟩ | refine ⟨⟨by omega,by omega⟩,?_⟩
   refine hK _ ?_
   clear hK K
   refine zw (zk [4,5,6,13,14]) ?_
   simp only [go_sem]
   repeat refine zq ?_
   refine zd ?_
   refine awp_uptoW (n:=73) 10 (fun k vs=>[(4,.pt 4 (vs 4) 0),(5,.pt 5 (vs 5) 0),(6,.pt 6 (vs 6) 0),(13,.r (.ag (tR t))),(14,.r (i64 k))])
    (fun k vs=>[(0,.sus [.r (.vl u),.pt 4 (vs 4) 0,.pt 5 (vs 5) 0,.pt 6 (vs 6) 0,.r (.fn f caps)] us),(4,.box [.r (.bo b)]),(5,.box (tA (mixT (leastT b ol t) ol k))),(6,.box (tA (mixT (mostT om t) om k))),(1000,.sus (AV.r (ints beds) :: List.map AV.r (tR le ++ tR mo)) usp)])
    (fun _=>True) 0 (fitW_of [7] (by intro j hj; simp only [upd]; (repeat' split); all_goals first | rfl | omega | exact hvl _ hj) ?_ ?_) (Nat.zero_le _) trivial ?_
   · try simp only [go_sem]
   · try simp only [go_sem]
     simp [mixT,killC,delc]
   · intro k vs hvl hk _
     repeat refine zq ?_
     refine zb (by kernel_rfl) fun K hK=>?_
     simp only [go_sem]
     (try simp (disch:=omega) only [zI])
     repeat first | intro _ | refine ⟨by omega,?_⟩ | refine ⟨⟨by omega,by omega⟩,?_⟩
     refine hK _ ?_
     clear hK K
     refine zw (zk [4,5,6,13,14,15]) ?_
     simp only [go_sem]
     repeat refine zq ?_
     refine zc rfl (fun hc=>?_) (fun hc=>?_) <;> (try simp only [go_sem] at hc)
     · have hck : k < 10:=by first | exact hc | omega
       obtain ⟨x,hx⟩:=opt_of_lt (l:=t) (i:=k) (by rw [hts.1]; omega)
       obtain ⟨y,hy⟩:=opt_of_lt (l:=ol) (i:=k) (by omega)
       obtain ⟨z,hz⟩:=opt_of_lt (l:=om) (i:=k) (by omega)
       have hxs1:=hts.2 x (mem_of_opt hx)
       have hys1:=al.2 y (mem_of_opt hy)
       have hzs1:=am.2 z (mem_of_opt hz)
       have hnm : (mostT om t)[k]? = some (max z x):=by simp [mostT,List.getElem?_zipWith,hz,hx]
       have hMg : (mixT (mostT om t) om k)[k]? = some z:=(mix_get hml hom hck).trans hz
       have hMl : (mixT (mostT om t) om k).length = 10:=mix_len hml hom hk
       have hMs:=mix_set hnm hml hom hck
       have hLg : (mixT (leastT b ol t) ol k)[k]? = some y:=(mix_get hll hol hck).trans hy
       have hLl : (mixT (leastT b ol t) ol k).length = 10:=mix_len hll hol hk
       have hdr : List.drop k (tR t) = i64 x :: List.drop (k + 1) (tR t):=drop_of_opt (by simp [hx])
       have hk10 : (k : Int) < 10:=by omega
       have hdM:=tA_drop hMg
       have hsM:=tA_set (t:=mixT (mostT om t) om k) (i:=k) (y:=max z x) (by omega)
       rw [hMs] at hsM
       have htl2 : (tR t).length = 10:=htl
       generalize hM : mixT (mostT om t) om k = MK at *
       have hMA:=tA_len MK
       have hns : (leastT b ol t)[k]? = some (if b then min y x else x):=by
        cases b
        · simpa [leastT] using hx
        · simp [leastT,List.getElem?_zipWith,hy,hx]
       have hLs:=mix_set hns hll hol hck
       generalize hL : mixT (leastT b ol t) ol k = LK at *
       have hdL:=tA_drop hLg
       have hLA:=tA_len LK
       refine zx ?_
       try simp only [go_sem]
       repeat refine zq ?_
       refine zd ?_
       repeat refine zq ?_
       refine zb (by kernel_rfl) fun K hK=>?_
       simp only [go_sem,Nat.mul_one,hdr,htl,List.headD_cons]
       (try simp (disch:=omega) only [zI])
       repeat first | intro _ | refine ⟨by omega,?_⟩ | refine ⟨⟨by omega,by omega⟩,?_⟩
       refine hK _ ?_
       clear hK K
       refine zw (zk [4,5,6,8,9,13,14]) ?_
       simp only [go_sem]
       repeat refine zq ?_
       refine zb (by kernel_rfl) fun K hK=>?_
       simp only [go_sem]
       (try simp (disch:=omega) only [zI])
       repeat first | intro _ | refine ⟨by omega,?_⟩ | refine ⟨⟨by omega,by omega⟩,?_⟩
       refine hK _ ?_
       clear hK K
       refine zw (zk [4,5,6,8,9,13,14,19]) ?_
       simp only [go_sem]
       cases b
       · have hLx:=hLs
         simp only [Bool.false_eq_true,if_false] at hLx
         have hs0:=tA_set (t:=LK) (i:=k) (y:=x) (by omega)
         have hg2 : (LK.set k x)[k]? = some x:=by rw [List.getElem?_set,if_pos rfl,if_pos (by omega)]
         have hd2:=tA_drop hg2
         have hl2:=tA_len (LK.set k x)
         have hl3 : (LK.set k x).length = 10:=by rw [List.length_set]; exact hLl
         have hs2:=tA_set (t:=LK.set k x) (i:=k) (y:=x) (by omega)
         rw [List.set_set,hLx] at hs2
         repeat refine zq ?_
         refine zc rfl (fun hc=>?_) (fun hc=>?_) <;> (try simp only [go_sem] at hc)
         repeat refine zq ?_
         refine zb (by kernel_rfl) fun K hK=>?_
         simp only [go_sem,Nat.mul_one,hLA]
         (try simp (disch:=omega) only [zI])
         repeat first | intro _ | refine ⟨by omega,?_⟩ | refine ⟨⟨by omega,by omega⟩,?_⟩
         refine hK _ ?_
         clear hK K
         rw [hs0]
         refine zw (zk [4,5,6,8,9,13,14]) ?_
         simp only [go_sem]
         repeat refine zq ?_
         refine awp_dreg2 [(5,some 5),(6,some 6)] follows (by decide +kernel) (by kernel_rfl) (by simp only [keysOk,List.mem_cons,List.not_mem_nil,forall_eq_or_imp,Oc.keyOf,go_sem]; simp) fun K hK=>?_
         simp only [go_sem,Nat.mul_one,hd2,hdM,hl2,hMA,List.headD_cons,List.length_cons,Int.min_self]
         (try simp (disch:=omega) only [zI])
         repeat first | intro _ | refine ⟨by omega,?_⟩ | refine ⟨⟨by omega,by omega⟩,?_⟩
         refine hK _ ?_
         clear hK K
         rw [hLx,hs2,hsM]
         refine zw (zk [4,5,6,13,14]) ?_
         simp only [go_sem]
         repeat refine zq ?_
         refine zb (by kernel_rfl) fun K hK=>?_
         simp only [go_sem]
         (try simp (disch:=omega) only [zI])
         repeat first | intro _ | refine ⟨by omega,?_⟩ | refine ⟨⟨by omega,by omega⟩,?_⟩
         refine hK _ ?_
         clear hK K
         try simp only [go_sem]
         refine ⟨hck,fitW_of [] (by first | exact hvl | (intro j hj; simp only [upd]; (repeat' split); all_goals first | rfl | omega | exact hvl _ hj)) ?_ ?_⟩
         · try simp only [go_sem]
         · try simp only [go_sem]
       · have hLx:=hLs
         simp only [if_true] at hLx
         have hs2:=tA_set (t:=LK) (i:=k) (y:=min y x) (by omega)
         rw [hLx] at hs2
         repeat refine zq ?_
         refine zc rfl (fun hc=>?_) (fun hc=>?_) <;> (try simp only [go_sem] at hc)
         refine zx ?_
         try simp only [go_sem]
         repeat refine zq ?_
         refine awp_dreg2 [(5,some 5),(6,some 6)] follows (by decide +kernel) (by kernel_rfl) (by simp only [keysOk,List.mem_cons,List.not_mem_nil,forall_eq_or_imp,Oc.keyOf,go_sem]; simp) fun K hK=>?_
         simp only [go_sem,Nat.mul_one,hdL,hdM,hLA,hMA,List.headD_cons,List.length_cons]
         (try simp (disch:=omega) only [zI])
         repeat first | intro _ | refine ⟨by omega,?_⟩ | refine ⟨⟨by omega,by omega⟩,?_⟩
         refine hK _ ?_
         clear hK K
         rw [hs2,hsM]
         refine zw (zk [4,5,6,13,14]) ?_
         simp only [go_sem]
         repeat refine zq ?_
         refine zb (by kernel_rfl) fun K hK=>?_
         simp only [go_sem]
         (try simp (disch:=omega) only [zI])
         repeat first | intro _ | refine ⟨by omega,?_⟩ | refine ⟨⟨by omega,by omega⟩,?_⟩
         refine hK _ ?_
         clear hK K
         try simp only [go_sem]
         refine ⟨hck,fitW_of [] (by first | exact hvl | (intro j hj; simp only [upd]; (repeat' split); all_goals first | rfl | omega | exact hvl _ hj)) ?_ ?_⟩
         · try simp only [go_sem]
         · try simp only [go_sem]
     · have hk10 : k = 10:=by omega
       subst hk10
       have e1 : mixT (leastT b ol t) ol 10 = leastT b ol t:=by
        unfold mixT
        rw [List.take_of_length_le (by omega),List.drop_of_length_le (by omega),List.append_nil]
       have e2 : mixT (mostT om t) om 10 = mostT om t:=by
        unfold mixT
        rw [List.take_of_length_le (by omega),List.drop_of_length_le (by omega),List.append_nil]
       rw [e1,e2]
       refine zf ?_
       simp only [go_sem]
       repeat refine zq ?_
       refine zb (by kernel_rfl) fun K hK=>?_
       simp only [go_sem]
       (try simp (disch:=omega) only [zI])
       repeat first | intro _ | refine ⟨by omega,?_⟩ | refine ⟨⟨by omega,by omega⟩,?_⟩
       refine hK _ ?_
       clear hK K
       try simp only [go_sem]
       refine ⟨vs,hvl,?_⟩
       exact sub_look _ (allEq_mem (by simp only [go_sem]))
 · intro vs us hvl _
   have e0 : (AV.r (ints beds) :: List.map AV.r (tR le ++ tR mo)) = shA beds le mo:=(shA_eq beds le mo ▸ by simp)
   have hlen : (xs.map fun t=>[RV.ag (tR t)]).length = xs.length:=List.length_map _
   obtain ⟨al,am⟩:=accL_small (b:=3) (by omega) xs hxs
   have hsm:=accL_some xs
   rw [hlen,List.take_length]
   generalize accL xs = S at *
   obtain ⟨b,ol,om⟩:=S
   simp only at *
   rw [← hsm]
   try simp only [go_sem]
   rw [e0]
   refine zw (sub_wake rfl) ?_
   refine zw (sub_unname 0 rfl) ?_
   refine zw (sub_frzP 5 5 (tR ol) (by omega) rfl rfl) ?_
   refine zw (sub_frzP 6 6 (tR om) (by omega) rfl rfl) ?_
   refine zw (zk [0,4,5,6]) ?_
   simp only [go_sem]
   repeat refine zq ?_
   refine zb (by kernel_rfl) fun K hK=>?_
   simp only [go_sem]
   (try simp (disch:=omega) only [zI])
   repeat first | intro _ | refine ⟨by omega,?_⟩ | refine ⟨⟨by omega,by omega⟩,?_⟩
   refine hK _ ?_
   clear hK K
   refine zw (zk [0,4,5,6,38]) ?_
   simp only [go_sem]
   repeat refine zq ?_
   refine zd ?_
   have hol : ol.length = 10:=al.1
   have hom : om.length = 10:=am.1
   have hlel : le.length = 10:=hle.1
   have hmol : mo.length = 10:=hmo.1
   have hal : (addT le ol).length = 10:=by unfold addT; rw [List.length_zipWith]; omega
   have haml : (addT mo om).length = 10:=by unfold addT; rw [List.length_zipWith]; omega
   refine awp_upto0 (n:=73) 10 (fun k vs=>[(0,.pt 1000 0 0),(4,.pt 4 (vs 4) 0),(5,.r (.rp (tR ol))),(6,.r (.rp (tR om))),(38,.r (i64 k))])
    (fun k=>[(4,.box [.r (.bo b)]),(1000,.box (shA beds (mixT (addT le ol) le k) (mixT (addT mo om) mo k)))]) (fun _=>True) 0 (fit0_of [] (by intro j hj; simp only [upd]; (repeat' split); all_goals first | rfl | omega | exact hvl _ hj) ?_ ?_) (Nat.zero_le _) trivial ?_
   · try simp only [go_sem]
   · try simp only [go_sem]
     simp [mixT]
   · intro k vs hvl hk _
     have hv0:=hvl 1000 (by omega)
     repeat refine zq ?_
     refine zb (by kernel_rfl) fun K hK=>?_
     simp only [go_sem]
     (try simp (disch:=omega) only [zI])
     repeat first | intro _ | refine ⟨by omega,?_⟩ | refine ⟨⟨by omega,by omega⟩,?_⟩
     refine hK _ ?_
     clear hK K
     refine zw (zk [0,4,5,6,38,39]) ?_
     simp only [go_sem]
     repeat refine zq ?_
     refine zc rfl (fun hc=>?_) (fun hc=>?_) <;> (try simp only [go_sem] at hc)
     · have hck : k < 10:=by first | exact hc | omega
       obtain ⟨x,hx⟩:=opt_of_lt (l:=ol) (i:=k) (by omega)
       obtain ⟨y,hy⟩:=opt_of_lt (l:=om) (i:=k) (by omega)
       obtain ⟨a,ha⟩:=opt_of_lt (l:=le) (i:=k) (by omega)
       obtain ⟨c,hcc⟩:=opt_of_lt (l:=mo) (i:=k) (by omega)
       have b1:=al.2 x (mem_of_opt hx)
       have b2:=am.2 y (mem_of_opt hy)
       have b3:=hle.2 a (mem_of_opt ha)
       have b4:=hmo.2 c (mem_of_opt hcc)
       have hk10 : (k : Int) < 10:=by omega
       have n1 : (addT le ol)[k]? = some (a + x):=by simp [addT,List.getElem?_zipWith,ha,hx]
       have n2 : (addT mo om)[k]? = some (c + y):=by simp [addT,List.getElem?_zipWith,hcc,hy]
       have g1 : (mixT (addT le ol) le k)[k]? = some a:=(mix_get hal hlel hck).trans ha
       have g2 : (mixT (addT mo om) mo k)[k]? = some c:=(mix_get haml hmol hck).trans hcc
       have l1 : (mixT (addT le ol) le k).length = 10:=mix_len hal hlel hk
       have l2 : (mixT (addT mo om) mo k).length = 10:=mix_len haml hmol hk
       have s1:=mix_set n1 hal hlel hck
       have s2:=mix_set n2 haml hmol hck
       generalize mixT (addT le ol) le k = LK at *
       generalize mixT (addT mo om) mo k = MK at *
       have d1:=shA_drop1 (beds:=beds) (mo:=MK) g1
       have d2:=shA_drop2 (beds:=beds) l1 g2
       have t1:=shA_set1 (beds:=beds) (mo:=MK) (y:=a + x) (show k < LK.length by omega)
       rw [s1] at t1
       have l3 : (mixT (addT le ol) le (k + 1)).length = 10:=mix_len hal hlel (by omega)
       have d3:=shA_drop2 (beds:=beds) l3 g2
       have t2:=shA_set2 (beds:=beds) (le:=mixT (addT le ol) le (k + 1)) (mo:=MK) (k:=k) (y:=c + y) l3 (by omega)
       rw [s2] at t2
       have dx : List.drop k (tR ol) = i64 x :: List.drop (k + 1) (tR ol):=drop_of_opt (by simp [hx])
       have dy : List.drop k (tR om) = i64 y :: List.drop (k + 1) (tR om):=drop_of_opt (by simp [hy])
       have hL1:=shA_len beds LK MK
       have hL2:=shA_len beds (mixT (addT le ol) le (k + 1)) MK
       refine zx ?_
       try simp only [go_sem]
       repeat refine zq ?_
       refine zd ?_
       repeat refine zq ?_
       refine zb (by kernel_rfl) fun K hK=>?_
       simp only [go_sem]
       (try simp (disch:=omega) only [zI])
       repeat first | intro _ | refine ⟨by omega,?_⟩ | refine ⟨⟨by omega,by omega⟩,?_⟩
       refine hK _ ?_
       clear hK K
       refine zw (zk [0,4,5,6,10,38]) ?_
       simp only [go_sem]
       repeat refine zq ?_
       refine awp_dreg2 [(0,some 1000),(5,none),(6,none)] follows (by decide +kernel) (by kernel_rfl) (by simp only [keysOk,List.mem_cons,List.not_mem_nil,forall_eq_or_imp,Oc.keyOf,go_sem]; simp) fun K hK=>?_
       simp only [go_sem,Nat.mul_one,hv0,d1,d2,d3,dx,dy,t1,t2,hL1,hL2,l1,l2,l3,List.headD_cons,List.length_cons,Nat.zero_add]
       (try simp (disch:=omega) only [zI])
       simp only [t1,t2,hL2,l3,l2]
       repeat first | intro _ | refine ⟨by omega,?_⟩ | refine ⟨⟨by omega,by omega⟩,?_⟩
       refine hK _ ?_
       clear hK K
       refine zw (zk [0,4,5,6,38]) ?_
       simp only [go_sem]
       repeat refine zq ?_
       refine zb (by kernel_rfl) fun K hK=>?_
       simp only [go_sem]
       (try simp (disch:=omega) only [zI])
       repeat first | intro _ | refine ⟨by omega,?_⟩ | refine ⟨⟨by omega,by omega⟩,?_⟩
       refine hK _ ?_
       clear hK K
       try simp only [go_sem]
       refine ⟨hck,fit0_of [] (by first | exact hvl | (intro j hj; simp only [upd]; (repeat' split); all_goals first | rfl | omega | exact hvl _ hj)) ?_ ?_⟩
       · try simp only [go_sem]
       · try simp only [go_sem]
     · have hk10 : k = 10:=by omega
       subst hk10
       have e1 : mixT (addT le ol) le 10 = addT le ol:=by
        unfold mixT
        rw [List.take_of_length_le (by omega),List.drop_of_length_le (by omega),List.append_nil]
       have e2 : mixT (addT mo om) mo 10 = addT mo om:=by
        unfold mixT
        rw [List.take_of_length_le (by omega),List.drop_of_length_le (by omega),List.append_nil]
       rw [e1,e2]
       refine zf ?_
       simp only [go_sem]
       repeat refine zq ?_
       refine zb (by kernel_rfl) fun K hK=>?_
       simp only [go_sem]
       (try simp (disch:=omega) only [zI])
       repeat first | intro _ | refine ⟨by omega,?_⟩ | refine ⟨⟨by omega,by omega⟩,?_⟩
       refine hK _ ?_
       clear hK K
       refine ze ?_
       simp only [go_sem]
       exact ⟨frzPL_r _ _ _,congrArg RowC.box (frzL_r _ _ _)⟩
end Go.Proofs.Ytgkejinoaommeaa

namespace Go.Proofs.Ytgkejinoaommeaa
open Go Go.Oc
set_option linter.unusedSimpArgs false
set_option linter.unusedVariables false
set_option maxRecDepth 8000
def BedsOk (beds : List Int) : Prop:=beds.length ≤ 10 ∧ ∀ b ∈ beds,0 ≤ b ∧ b ≤ 499
def tally3 (i k m : Nat) : List Int:=incT (incT (incT zeroT i) k) m
def cell3 (beds : List Int) (n : Int) (i k m : Nat) : List (List Int) :=
 if scoreOf (beds.getD i 0) + scoreOf (beds.getD k 0) + scoreOf (beds.getD m 0) = n then [tally3 i k m] else []
def rowM (beds : List Int) (n : Int) (i k m : Nat) : List (List Int):=((List.range beds.length).drop m).flatMap (cell3 beds n i k)
def rowK (beds : List Int) (n : Int) (i k : Nat) : List (List Int):=((List.range beds.length).drop k).flatMap fun k=>rowM beds n i k k
def rowI (beds : List Int) (n : Int) (i : Nat) : List (List Int):=((List.range beds.length).drop i).flatMap fun i=>rowK beds n i i
def threeT (beds : List Int) (n : Int) : List (List Int):=rowI beds n 0
theorem range_drop {N m : Nat} (h : m < N) : (List.range N).drop m = m :: (List.range N).drop (m + 1):=drop_of_opt (by simp [h])
theorem rowM_step {beds : List Int} {n : Int} {i k m : Nat} (h : m < beds.length) : rowM beds n i k m = cell3 beds n i k m ++ rowM beds n i k (m + 1):=by
 unfold rowM; rw [range_drop h,List.flatMap_cons]
theorem rowK_step {beds : List Int} {n : Int} {i k : Nat} (h : k < beds.length) : rowK beds n i k = rowM beds n i k k ++ rowK beds n i (k + 1):=by
 unfold rowK; rw [range_drop h,List.flatMap_cons]
theorem rowI_step {beds : List Int} {n : Int} {i : Nat} (h : i < beds.length) : rowI beds n i = rowK beds n i i ++ rowI beds n (i + 1):=by
 unfold rowI; rw [range_drop h,List.flatMap_cons]
theorem rowM_end {beds : List Int} {n : Int} {i k m : Nat} (h : beds.length ≤ m) : rowM beds n i k m = []:=by
 unfold rowM; rw [List.drop_of_length_le (by simpa using h)]; rfl
theorem rowK_end {beds : List Int} {n : Int} {i k : Nat} (h : beds.length ≤ k) : rowK beds n i k = []:=by
 unfold rowK; rw [List.drop_of_length_le (by simpa using h)]; rfl
theorem rowI_end {beds : List Int} {n : Int} {i : Nat} (h : beds.length ≤ i) : rowI beds n i = []:=by
 unfold rowI; rw [List.drop_of_length_le (by simpa using h)]; rfl
theorem incT_eq {t : List Int} {i : Nat} {x : Int} (h : t[i]? = some x) : incT t i = t.set i (x + 1):=by simp [incT,List.getD_eq_getElem?_getD,h]
theorem tally3_small (i k m : Nat) : SmallT 3 (tally3 i k m):=by
 have h0 : SmallT 0 zeroT:=zeroT_small (by omega)
 have h1:=incT_small (i:=i) h0 (by omega)
 have h2:=incT_small (i:=k) h1 (by omega)
 exact incT_small (i:=m) h2 (by omega)
theorem threeT_small {beds : List Int} {n : Int} : ∀ t ∈ threeT beds n,SmallT 3 t:=fun t ht=>by
 unfold threeT rowI at ht
 obtain ⟨i,_,ht⟩:=List.mem_flatMap.1 ht
 unfold rowK at ht
 obtain ⟨k,_,ht⟩:=List.mem_flatMap.1 ht
 unfold rowM at ht
 obtain ⟨m,_,ht⟩:=List.mem_flatMap.1 ht
 unfold cell3 at ht
 split at ht
 · rw [List.mem_singleton.1 ht]; exact tally3_small i k m
 · cases ht
abbrev yl1 (l : List (List Int)) : List (List RV):=l.map fun t=>[.ag (tR t)]
theorem three1_ok (beds le mo : List Int) (n : Int) (hb : BedsOk beds) : ICalls Try.prog true 94 [.rp [.rp (sheetR beds le mo)],.rp [i64 n]] (yl1 (threeT beds n)):=by
 have hlen:=hb.1
 refine icalls_st Try.func94 rfl (by kernel_rfl) Try.ntmps94 rfl (by simp) fun C ll=>?_
 repeat refine zq ?_
 refine zb (by kernel_rfl) fun K hK=>?_
 simp only [go_sem,argL]
 (try simp (disch:=omega) only [zI])
 intros
 repeat first | intro _ | refine ⟨by omega,?_⟩ | refine ⟨⟨by omega,by omega⟩,?_⟩
 refine hK _ ?_
 clear hK K
 refine zw (zk [0,1,2,14,15,16]) ?_
 simp only [go_sem]
 repeat refine zq ?_
 refine zd ?_
 refine awp_upto (n:=85) beds.length (fun i vs=>[(0,.r (.yl ll)),(1,.r (.rp [.rp (sheetR beds le mo)])),(2,.r (.rp [i64 n])),(14,.r (ints beds)),(15,.r (i64 beds.length)),(16,.r (i64 i))])
  (fun i=>[(999,.gh Try.prog ll true (some (yl1 (rowI beds n i))))]) (fun _=>True) 0 (fit_of [] ?_ ?_) (Nat.zero_le _) trivial ?_
 · try simp only [go_sem]
 · try simp only [go_sem]
   rfl
 · intro i vs hi _
   repeat refine zq ?_
   refine zb (by kernel_rfl) fun K hK=>?_
   simp only [go_sem]
   (try simp (disch:=omega) only [zI])
   repeat first | intro _ | refine ⟨by omega,?_⟩ | refine ⟨⟨by omega,by omega⟩,?_⟩
   refine hK _ ?_
   clear hK K
   refine zw (zk [0,1,2,14,15,16,17]) ?_
   simp only [go_sem]
   repeat refine zq ?_
   refine zc rfl (fun hc=>?_) (fun hc=>?_) <;> (try simp only [go_sem] at hc)
   · have hci:=hc
     obtain ⟨a,ha⟩:=opt_of_lt hci
     have hs1:=rowI_step (n:=n) hci
     refine zx ?_
     try simp only [go_sem]
     repeat refine zq ?_
     refine zd ?_
     repeat refine zq ?_
     refine zb (by kernel_rfl) fun K hK=>?_
     simp only [go_sem,ha,hci]
     (try simp (disch:=omega) only [zI])
     repeat first | intro _ | refine ⟨by omega,?_⟩ | refine ⟨⟨by omega,by omega⟩,?_⟩
     refine hK _ ?_
     clear hK K
     refine zw (zk [0,1,2,4,5,14,15,16]) ?_
     simp only [go_sem]
     repeat refine zq ?_
     refine zb (by kernel_rfl) fun K hK=>?_
     simp only [go_sem]
     (try simp (disch:=omega) only [zI])
     intros
     refine ⟨by omega,?_⟩
     repeat first | intro _ | refine ⟨by omega,?_⟩ | refine ⟨⟨by omega,by omega⟩,?_⟩
     refine hK _ ?_
     clear hK K
     refine zw (zk [0,1,2,4,5,14,15,16,26,27,28]) ?_
     simp only [go_sem]
     have hdm : List.drop i (beds.map fun x=>[RV.it IntKind.i64 x]) = (beds.drop i).map fun x=>[RV.it IntKind.i64 x]:=List.map_drop.symm
     have hdl : (beds.drop i).length = beds.length - i:=List.length_drop
     rw [hdm,hs1]
     repeat refine zq ?_
     refine zd ?_
     refine awp_upto (n:=85) (beds.length - i) (fun k vs=>[(0,.r (.yl ll)),(1,.r (.rp [.rp (sheetR beds le mo)])),(2,.r (.rp [i64 n])),(4,.r (i64 i)),(5,.r (i64 a)),(14,.r (ints beds)),(15,.r (i64 beds.length)),(16,.r (i64 i)),(26,.r (ints (beds.drop i))),(27,.r (i64 ((beds.length - i : Nat) : Int))),(28,.r (i64 k))])
      (fun k=>[(999,.gh Try.prog ll true (some (yl1 (rowK beds n i (i + k) ++ rowI beds n (i + 1)))))]) (fun _=>True) 0 (fit_of [] ?_ ?_) (Nat.zero_le _) trivial ?_
     · try simp only [go_sem]
     · try simp only [go_sem]
     · intro k vs hk _
       repeat refine zq ?_
       refine zb (by kernel_rfl) fun K hK=>?_
       simp only [go_sem]
       (try simp (disch:=omega) only [zI])
       repeat first | intro _ | refine ⟨by omega,?_⟩ | refine ⟨⟨by omega,by omega⟩,?_⟩
       refine hK _ ?_
       clear hK K
       refine zw (zk [0,1,2,4,5,14,15,16,26,27,28,29]) ?_
       simp only [go_sem]
       repeat refine zq ?_
       refine zc rfl (fun hc=>?_) (fun hc=>?_) <;> (try simp only [go_sem] at hc)
       · have hck : k < beds.length - i:=by first | exact hc | omega
         have hkl : i + k < beds.length:=by omega
         obtain ⟨b,hbx⟩:=opt_of_lt hkl
         have hbd : (beds.drop i)[k]? = some b:=by rw [List.getElem?_drop]; exact hbx
         have hkd : k < (beds.drop i).length:=by omega
         have hs2:=rowK_step (n:=n) (i:=i) hkl
         refine zx ?_
         try simp only [go_sem]
         repeat refine zq ?_
         refine zd ?_
         repeat refine zq ?_
         refine zb (by kernel_rfl) fun K hK=>?_
         simp only [go_sem,hbd,hkd]
         (try simp (disch:=omega) only [zI])
         repeat first | intro _ | refine ⟨by omega,?_⟩ | refine ⟨⟨by omega,by omega⟩,?_⟩
         refine hK _ ?_
         clear hK K
         refine zw (zk [0,1,2,4,5,6,7,14,15,16,26,27,28]) ?_
         simp only [go_sem]
         repeat refine zq ?_
         refine zb (by kernel_rfl) fun K hK=>?_
         simp only [go_sem]
         (try simp (disch:=omega) only [zI])
         intros
         refine ⟨by omega,?_⟩
         repeat first | intro _ | refine ⟨by omega,?_⟩ | refine ⟨⟨by omega,by omega⟩,?_⟩
         refine hK _ ?_
         clear hK K
         refine zw (zk [0,1,2,4,5,6,7,14,15,16,26,27,28,40,41,42]) ?_
         simp only [go_sem]
         have htn : ((i : Int) + (k : Int)).toNat = i + k:=by omega
         have hdm2 : List.drop (i + k) (beds.map fun x=>[RV.it IntKind.i64 x]) = (beds.drop (i + k)).map fun x=>[RV.it IntKind.i64 x]:=List.map_drop.symm
         have hdl2 : (beds.drop (i + k)).length = beds.length - (i + k):=List.length_drop
         rw [htn,hdm2,hs2]
         repeat refine zq ?_
         refine zd ?_
         refine awp_upto (n:=85) (beds.length - (i + k)) (fun m vs=>[(0,.r (.yl ll)),(1,.r (.rp [.rp (sheetR beds le mo)])),(2,.r (.rp [i64 n])),(4,.r (i64 i)),(5,.r (i64 a)),(6,.r (i64 k)),(7,.r (i64 b)),(14,.r (ints beds)),(15,.r (i64 beds.length)),(16,.r (i64 i)),(26,.r (ints (beds.drop i))),(27,.r (i64 ((beds.length - i : Nat) : Int))),(28,.r (i64 k)),(40,.r (ints (beds.drop (i + k)))),(41,.r (i64 ((beds.length - (i + k) : Nat) : Int))),(42,.r (i64 m))])
          (fun m=>[(999,.gh Try.prog ll true (some (yl1 (rowM beds n i (i + k) (i + k + m) ++ (rowK beds n i (i + k + 1) ++ rowI beds n (i + 1))))))]) (fun _=>True) 0 (fit_of [] ?_ ?_) (Nat.zero_le _) trivial ?_
         · try simp only [go_sem]
         · try simp only [go_sem]
           simp [List.append_assoc]
         · intro m vs hm _
           repeat refine zq ?_
           refine zb (by kernel_rfl) fun K hK=>?_
           simp only [go_sem]
           (try simp (disch:=omega) only [zI])
           repeat first | intro _ | refine ⟨by omega,?_⟩ | refine ⟨⟨by omega,by omega⟩,?_⟩
           refine hK _ ?_
           clear hK K
           refine zw (zk [0,1,2,4,5,6,7,14,15,16,26,27,28,40,41,42,43]) ?_
           simp only [go_sem]
           repeat refine zq ?_
           refine zc rfl (fun hc=>?_) (fun hc=>?_) <;> (try simp only [go_sem] at hc)
           · have hcm : m < beds.length - (i + k):=by first | exact hc | omega
             have hml : i + k + m < beds.length:=by omega
             obtain ⟨c,hcx⟩:=opt_of_lt hml
             have hcd : (beds.drop (i + k))[m]? = some c:=by rw [List.getElem?_drop]; exact hcx
             have hmd : m < (beds.drop (i + k)).length:=by omega
             have hs3:=rowM_step (n:=n) (i:=i) (k:=i + k) hml
             have ba:=hb.2 a (mem_of_opt ha)
             have bb:=hb.2 b (mem_of_opt hbx)
             have bc:=hb.2 c (mem_of_opt hcx)
             have sa:=score_le ba.1 ba.2
             have sb:=score_le bb.1 bb.2
             have sc:=score_le bc.1 bc.2
             have hcell : cell3 beds n i (i + k) (i + k + m) = if scoreOf a + scoreOf b + scoreOf c = n then [tally3 i (i + k) (i + k + m)] else []:=by
              unfold cell3
              simp only [List.getD_eq_getElem?_getD,ha,hbx,hcx,Option.getD_some]
             rw [hs3,hcell]
             refine zx ?_
             try simp only [go_sem]
             repeat refine zq ?_
             refine zd ?_
             repeat refine zq ?_
             refine zb (by kernel_rfl) fun K hK=>?_
             simp only [go_sem,hcd,hmd]
             (try simp (disch:=omega) only [zI])
             repeat first | intro _ | refine ⟨by omega,?_⟩ | refine ⟨⟨by omega,by omega⟩,?_⟩
             refine hK _ ?_
             clear hK K
             refine zw (zk [0,1,2,4,5,6,7,8,9,14,15,16,26,27,28,40,41,42]) ?_
             simp only [go_sem]
             repeat refine zq ?_
             refine zg follows (by decide +kernel) (by kernel_rfl) fun K hK=>?_
             simp only [go_sem]
             (try simp (disch:=omega) only [zI])
             refine zh (score_ok a ba.1 ba.2) rfl (by simp only [go_sem,i64,ints]) (by simp only [go_sem,i64,ints]) (by first | exact .inl rfl | exact .inr rfl) ?_
             (try simp only [go_sem])
             (try simp (disch:=omega) only [zI])
             refine zh (score_ok b bb.1 bb.2) rfl (by simp only [go_sem,i64,ints]) (by simp only [go_sem,i64,ints]) (by first | exact .inl rfl | exact .inr rfl) ?_
             (try simp only [go_sem])
             (try simp (disch:=omega) only [zI])
             refine zh (score_ok c bc.1 bc.2) rfl (by simp only [go_sem,i64,ints]) (by simp only [go_sem,i64,ints]) (by first | exact .inl rfl | exact .inr rfl) ?_
             (try simp only [go_sem])
             (try simp (disch:=omega) only [zI])
             repeat first | intro _ | refine ⟨by omega,?_⟩ | refine ⟨⟨by omega,by omega⟩,?_⟩
             refine hK _ ?_
             clear hK K
             refine zw (zk [0,1,2,4,5,6,7,8,9,14,15,16,26,27,28,40,41,42,56]) ?_
             simp only [go_sem]
             by_cases hsum : scoreOf a + scoreOf b + scoreOf c = n
             · have e1 : (scoreOf a + scoreOf b + scoreOf c != n) = false:=by simp [hsum]
               rw [e1,if_pos hsum]
               repeat refine zq ?_
               refine zc rfl (fun hc=>?_) (fun hc=>?_) <;> (try simp only [go_sem] at hc)
               refine zx ?_
               try simp only [go_sem]
               repeat refine zq ?_
               refine zb (by kernel_rfl) fun K hK=>?_
               simp only [go_sem]
               (try simp (disch:=omega) only [zI])
               repeat first | intro _ | refine ⟨by omega,?_⟩ | refine ⟨⟨by omega,by omega⟩,?_⟩
               refine hK _ ?_
               clear hK K
               refine zw (zk [0,1,2,4,5,6,7,8,9,10,14,15,16,26,27,28,40,41,42]) ?_
               simp only [go_sem]
               have ez : ([AV.r (RV.it IntKind.i64 0),AV.r (RV.it IntKind.i64 0),AV.r (RV.it IntKind.i64 0),AV.r (RV.it IntKind.i64 0),AV.r (RV.it IntKind.i64 0),AV.r (RV.it IntKind.i64 0),AV.r (RV.it IntKind.i64 0),AV.r (RV.it IntKind.i64 0),AV.r (RV.it IntKind.i64 0),AV.r (RV.it IntKind.i64 0)] : List AV) = tA zeroT:=rfl
               have smx : SmallT 0 zeroT:=zeroT_small (by omega)
               have smy : SmallT 1 (incT zeroT i):=incT_small smx (by omega)
               have smz : SmallT 2 (incT (incT zeroT i) (i + k)):=incT_small smy (by omega)
               have smw : SmallT 3 (tally3 i (i + k) (i + k + m)):=tally3_small _ _ _
               have q0:=smx.1
               have q1:=smy.1
               have q2:=smz.1
               have q3:=smw.1
               have htn3 : ((i : Int) + (k : Int) + (m : Int)).toNat = i + k + m:=by omega
               have wk1 : IntKind.i64.wrap ((i : Int) + (k : Int)) = ((i + k : Nat) : Int):=by rw [zI] <;> omega
               have wk2 : IntKind.i64.wrap (((i + k : Nat) : Int) + (m : Int)) = ((i + k + m : Nat) : Int):=by rw [zI] <;> omega
               rw [ez]
               obtain ⟨x,hx⟩:=opt_of_lt (l:=zeroT) (i:=i) (by omega)
               have ix : incT zeroT (i) = (zeroT).set (i) (x + 1):=incT_eq hx
               have gx:=smx.2 x (mem_of_opt hx)
               have dx:=tA_drop hx
               have sx:=tA_set (t:=zeroT) (i:=i) (y:=x + 1) (by omega)
               have lx:=tA_len (zeroT)
               rw [← ix] at sx
               repeat refine zq ?_
               refine zb (by kernel_rfl) fun K hK=>?_
               simp only [go_sem,Nat.mul_one,dx,lx,List.headD_cons,List.length_cons]
               (try simp (disch:=omega) only [zI])
               repeat first | intro _ | refine ⟨by omega,?_⟩ | refine ⟨⟨by omega,by omega⟩,?_⟩
               refine hK _ ?_
               clear hK K
               rw [sx]
               refine zw (zk [0,1,2,4,5,6,7,8,9,10,14,15,16,26,27,28,40,41,42]) ?_
               simp only [go_sem]
               obtain ⟨y,hy⟩:=opt_of_lt (l:=incT zeroT i) (i:=i + k) (by omega)
               have iy : incT (incT zeroT i) (i + k) = (incT zeroT i).set (i + k) (y + 1):=incT_eq hy
               have gy:=smy.2 y (mem_of_opt hy)
               have dy:=tA_drop hy
               have sy:=tA_set (t:=incT zeroT i) (i:=i + k) (y:=y + 1) (by omega)
               have ly:=tA_len (incT zeroT i)
               rw [← iy] at sy
               repeat refine zq ?_
               refine zb (by kernel_rfl) fun K hK=>?_
               simp only [go_sem,Nat.mul_one]
               (try simp (disch:=omega) only [zI])
               simp only [go_sem,Nat.mul_one,htn,dy,ly,List.headD_cons,List.length_cons]
               (try simp (disch:=omega) only [zI])
               (try simp only [go_sem,Nat.mul_one,htn,dy,ly,List.headD_cons,List.length_cons])
               repeat first | intro _ | refine ⟨by omega,?_⟩ | refine ⟨⟨by omega,by omega⟩,?_⟩
               refine hK _ ?_
               clear hK K
               rw [sy]
               refine zw (zk [0,1,2,4,5,6,7,8,9,10,14,15,16,26,27,28,40,41,42]) ?_
               simp only [go_sem]
               obtain ⟨z,hz⟩:=opt_of_lt (l:=incT (incT zeroT i) (i + k)) (i:=i + k + m) (by omega)
               have iz : incT (incT (incT zeroT i) (i + k)) (i + k + m) = (incT (incT zeroT i) (i + k)).set (i + k + m) (z + 1):=incT_eq hz
               have gz:=smz.2 z (mem_of_opt hz)
               have dz:=tA_drop hz
               have sz:=tA_set (t:=incT (incT zeroT i) (i + k)) (i:=i + k + m) (y:=z + 1) (by omega)
               have lz:=tA_len (incT (incT zeroT i) (i + k))
               rw [← iz] at sz
               repeat refine zq ?_
               refine zb (by kernel_rfl) fun K hK=>?_
               simp only [go_sem,Nat.mul_one]
               (try simp (disch:=omega) only [zI])
               simp only [go_sem,Nat.mul_one,htn3,dz,lz,List.headD_cons,List.length_cons]
               (try simp (disch:=omega) only [zI])
               (try simp only [go_sem,Nat.mul_one,htn3,dz,lz,List.headD_cons,List.length_cons])
               repeat first | intro _ | refine ⟨by omega,?_⟩ | refine ⟨⟨by omega,by omega⟩,?_⟩
               refine hK _ ?_
               clear hK K
               rw [sz]
               refine zw (zk [0,1,2,4,5,6,7,8,9,10,14,15,16,26,27,28,40,41,42]) ?_
               simp only [go_sem]
               have et : incT (incT (incT zeroT i) (i + k)) (i + k + m) = tally3 i (i + k) (i + k + m):=rfl
               rw [et]
               generalize hT : tally3 i (i + k) (i + k + m) = T at *
               have htk : List.take 10 (tR T) = tR T:=List.take_of_length_le (by rw [List.length_map,q3]; exact Nat.le_refl _)
               have htl : (tR T).length = 10:=by rw [List.length_map,q3]
               refine zw (sub_frzP 10 10 (tR T) (by omega) rfl rfl) ?_
               try simp only [go_sem]
               repeat refine zq ?_
               refine zb (by kernel_rfl) fun K hK=>?_
               simp only [go_sem,htk,htl,Nat.le_refl]
               (try simp (disch:=omega) only [zI])
               refine xcall_yield (z:=true) (e:=[.ag (tR T)]) (rest:=yl1 (rowM beds n i (i + k) (i + k + m + 1) ++ (rowK beds n i (i + k + 1) ++ rowI beds n (i + 1)))) (by simp only [go_sem]) rfl (by simp only [go_sem]) (.inl (by simp only [RV.flatL,RV.flatB,flat_tR,Bool.and_self])) ?_ ?_
               · simp only [go_sem]
                 repeat first | intro _ | refine ⟨by omega,?_⟩ | refine ⟨⟨by omega,by omega⟩,?_⟩
                 refine hK _ ?_
                 clear hK K
                 refine zw (zk [0,1,2,4,5,6,7,14,15,16,26,27,28,40,41,42,81]) ?_
                 simp only [go_sem]
                 repeat refine zq ?_
                 refine zc rfl (fun hc=>?_) (fun hc=>?_) <;> (try simp only [go_sem] at hc)
                 refine zx ?_
                 try simp only [go_sem]
                 repeat refine zq ?_
                 refine zb (by kernel_rfl) fun K hK=>?_
                 simp only [go_sem]
                 (try simp (disch:=omega) only [zI])
                 repeat first | intro _ | refine ⟨by omega,?_⟩ | refine ⟨⟨by omega,by omega⟩,?_⟩
                 refine hK _ ?_
                 clear hK K
                 try simp only [go_sem]
                 refine ⟨hcm,fit_of [] ?_ ?_⟩
                 · try simp only [go_sem]
                 · try simp only [go_sem]
                   simp [Nat.add_assoc]
               · simp only [go_sem]
                 repeat first | intro _ | refine ⟨by omega,?_⟩ | refine ⟨⟨by omega,by omega⟩,?_⟩
                 refine hK _ ?_
                 clear hK K
                 refine zw (zk [81]) ?_
                 simp only [go_sem]
                 repeat refine zq ?_
                 refine zc rfl (fun hc=>?_) (fun hc=>?_) <;> (try simp only [go_sem] at hc)
                 refine ze ?_
                 simp only [go_sem]
                 exact ⟨_,_,.inr rfl⟩
             · have e1 : (scoreOf a + scoreOf b + scoreOf c != n) = true:=by simp [hsum]
               rw [e1,if_neg hsum]
               repeat refine zq ?_
               refine zc rfl (fun hc=>?_) (fun hc=>?_) <;> (try simp only [go_sem] at hc)
               refine zf ?_
               simp only [go_sem]
               repeat refine zq ?_
               refine zb (by kernel_rfl) fun K hK=>?_
               simp only [go_sem]
               (try simp (disch:=omega) only [zI])
               repeat first | intro _ | refine ⟨by omega,?_⟩ | refine ⟨⟨by omega,by omega⟩,?_⟩
               refine hK _ ?_
               clear hK K
               try simp only [go_sem]
               refine ⟨hcm,fit_of [] ?_ ?_⟩
               · try simp only [go_sem]
               · try simp only [go_sem]
                 simp [Nat.add_assoc]
           · have hme : m = beds.length - (i + k):=by omega
             refine zf ?_
             simp only [go_sem]
             rw [rowM_end (m:=i + k + m) (by omega)]
             repeat refine zq ?_
             refine zb (by kernel_rfl) fun K hK=>?_
             simp only [go_sem]
             (try simp (disch:=omega) only [zI])
             repeat first | intro _ | refine ⟨by omega,?_⟩ | refine ⟨⟨by omega,by omega⟩,?_⟩
             refine hK _ ?_
             clear hK K
             try simp only [go_sem]
             refine ⟨hck,fit_of [] ?_ ?_⟩
             · try simp only [go_sem]
             · try simp only [go_sem]
               simp [Nat.add_assoc]
       · have hke : k = beds.length - i:=by omega
         refine zf ?_
         simp only [go_sem]
         rw [rowK_end (k:=i + k) (by omega)]
         repeat refine zq ?_
         refine zb (by kernel_rfl) fun K hK=>?_
         simp only [go_sem]
         (try simp (disch:=omega) only [zI])
         repeat first | intro _ | refine ⟨by omega,?_⟩ | refine ⟨⟨by omega,by omega⟩,?_⟩
         refine hK _ ?_
         clear hK K
         try simp only [go_sem]
         refine ⟨hci,fit_of [] ?_ ?_⟩
         · try simp only [go_sem]
         · try simp only [go_sem]
   · refine zf ?_
     simp only [go_sem]
     rw [rowI_end (by omega)]
     exact ⟨_,_,.inl rfl⟩
end Go.Proofs.Ytgkejinoaommeaa

namespace Go.Proofs.Ytgkejinoaommeaa
open Go Go.Oc
set_option linter.unusedSimpArgs false
set_option linter.unusedVariables false
set_option maxRecDepth 8000
def truthsK (beds ds : List Int) : List (List Int):=match tallyK beds zeroT ds with | some t=>[t] | none=>[]
theorem knownXs_eq (beds ds : List Int) : knownXs beds ds = yl1 (truthsK beds ds):=by
 unfold knownXs truthsK
 cases tallyK beds zeroT ds <;> rfl
theorem tallyK_small {beds : List Int} : ∀ {ds t r : List Int} {b : Int},tallyK beds t ds = some r → 0 ≤ b → SmallT b t → SmallT (b + ds.length) r
 | [], t, r, b, h, hb, hs => by
   simp only [tallyK,Option.some.injEq] at h
   subst h
   simpa using hs
 | d :: ds, t, r, b, h, hb, hs => by
   rw [tallyK] at h
   split at h
   · cases h
   · have:=tallyK_small h (by omega) (incT_small (i:=(atE beds d).toNat) hs hb)
     rw [List.length_cons]
     have e : b + 1 + (ds.length : Int) = b + ((ds.length + 1 : Nat) : Int):=by omega
     rwa [e] at this
theorem truthsK_small {beds ds : List Int} (h : ds.length = 3) : ∀ t ∈ truthsK beds ds,SmallT 3 t:=fun t ht=>by
 unfold truthsK at ht
 cases e : tallyK beds zeroT ds with
 | none=>rw [e] at ht; cases ht
 | some r =>
   rw [e] at ht
   rw [List.mem_singleton.1 ht]
   have:=tallyK_small e (by omega) (zeroT_small (b:=0) (by omega))
   rw [h] at this
   exact this
def truthsV (beds ds : List Int) (n : Int) : List (List Int):=if ds = [] then threeT beds n else truthsK beds ds
def visitE (beds ds : List Int) (n : Int) : Int :=
 if ds ≠ [] ∧ (ds.length ≠ 3 ∨ n ≠ 0) then 4 else if ¬ (0 ≤ n ∧ n ≤ 240) then 3 else if (truthsV beds ds n).isEmpty then 9 else 0
theorem lift_rp {w : World} {R R' : Nat → Prop} {u : Addr} {rs : List RV} {v : Value} (h : RV.rel w R (.rp [.vl u]) v) (hu : RV.rel w R' (.rp rs) (.pointer (some u))) (hR : ∀ b,R b → R' b) : RV.rel w R' (.rp [.rp rs]) v:=by
 simp only [RV.rel,RV.relC] at h ⊢
 obtain ⟨ad,hv,hr,⟨x,hx,h1,h2⟩,_⟩:=h
 subst h2
 refine ⟨ad,hv,hR _ hr,⟨_,hx,h1,?_⟩,trivial⟩
 simpa only [RV.rel] using hu
theorem cap_known {u : Addr} {ds : List Int} {rs : List RV} (w : World) (p : Plan) (ver : Nat → Nat) (R' : Nat → Prop) (vals : List Value) (h : AV.relV w p ver ([.rp [ints ds],.rp [.vl u]].map .r) vals) (hu : RV.rel w R' (.rp rs) (.pointer (some u))) (hR : ∀ b,p.R b → R' b) :
 RV.relV w R' [.rp [ints ds],.rp [.rp rs]] vals:=by
 simp only [List.map_cons,List.map_nil,AV.relV,AV.rel] at h
 obtain ⟨v1,vs,rfl,h1,v2,vs2,rfl,h2,rfl⟩:=h
 simp only [RV.relV]
 exact ⟨v1,[v2],rfl,RV.rel_mono hR (fun _ _=>rfl) _ _ h1,v2,[],rfl,lift_rp h2 hu hR,rfl⟩
theorem cap_three {u : Addr} {n : Int} {rs : List RV} (w : World) (p : Plan) (ver : Nat → Nat) (R' : Nat → Prop) (vals : List Value) (h : AV.relV w p ver ([.rp [.vl u],.rp [i64 n]].map .r) vals) (hu : RV.rel w R' (.rp rs) (.pointer (some u))) (hR : ∀ b,p.R b → R' b) :
 RV.relV w R' [.rp [.rp rs],.rp [i64 n]] vals:=by
 simp only [List.map_cons,List.map_nil,AV.relV,AV.rel] at h
 obtain ⟨v1,vs,rfl,h1,v2,vs2,rfl,h2,rfl⟩:=h
 simp only [RV.relV]
 exact ⟨v1,[v2],rfl,lift_rp h1 hu hR,v2,[],rfl,RV.rel_mono hR (fun _ _=>rfl) _ _ h2,rfl⟩
theorem addT_zero : ∀ (a z : List Int),a.length = z.length → (∀ x ∈ z,x = 0) → addT a z = a
 | [],[],_,_=>rfl
 | a :: l, z :: m, h, hz => by
   have h0:=hz z (by simp)
   simp only [List.length_cons] at h
   have ih:=addT_zero l m (by omega) fun x hx=>hz x (by simp [hx])
   unfold addT at ih ⊢
   rw [List.zipWith_cons_cons,ih,h0,Int.add_zero]
 | [],_ :: _,h,_=>by simp at h
 | _ :: _,[],h,_=>by simp at h
theorem backL_r (ρ : List (Nat × Nat)) (ver : Nat → Nat) : ∀ l : List RV,backL ρ ver (l.map AV.r) = l.map AV.r
 | []=>rfl
 | x :: l=>by simp only [List.map_cons,backL,backA,backL_r ρ ver l]
theorem shA_back (ρ : List (Nat × Nat)) (ver : Nat → Nat) (beds le mo : List Int) : backL ρ ver (shA beds le mo) = shA beds le mo:=backL_r ρ ver _
theorem lendL_r (ρ : List (Nat × Nat)) (ver : Nat → Nat) : ∀ l : List RV,lendL ρ ver (l.map AV.r) = some (l.map AV.r)
 | []=>rfl
 | x :: l=>by simp only [List.map_cons,lendL,lendA,lendL_r ρ ver l]
theorem shA_lend (ρ : List (Nat × Nat)) (ver : Nat → Nat) (beds le mo : List Int) : lendL ρ ver (shA beds le mo) = some (shA beds le mo):=lendL_r ρ ver _
theorem accL_nil : accL [] = (false,zeroT,zeroT):=rfl
def leV (beds le ds : List Int) (n : Int) : List Int:=if visitE beds ds n = 0 then addT le (accL (truthsV beds ds n)).2.1 else le
def moV (beds mo ds : List Int) (n : Int) : List Int:=if visitE beds ds n = 0 then addT mo (accL (truthsV beds ds n)).2.2 else mo
theorem visit_ok (beds le mo ds : List Int) (n : Int) (hb : BedsOk beds) (hle : SmallT 3000 le) (hmo : SmallT 3000 mo) :
 MCalls Try.prog 60 [(1000,.box (shA beds le mo))] [(1000,.box (shA beds (leV beds le ds n) (moV beds mo ds n)))] [.pt 1000 0 0,.ag [.r (ints ds),.r (i64 n)]] (.r (i64 (visitE beds ds n))):=by
 refine mcalls_stO (n:=45) (rs:=[.r (i64 (visitE beds ds n))]) _ _ [.tmp 4] Try.func60 rfl (by kernel_rfl) Try.ntmps60 rfl (by simp) rfl rfl fun C hC=>?_
 refine awp_name 0 rfl fun u=>?_
 have hbl:=hb.1
 have fin : ∀ l : List RV,frzPL [(1000,RowC.box (shA beds le mo))] (fun _=>⟨0,.dead⟩) (l.map AV.r):=fun l=>frzPL_r _ _ l
 repeat refine zq ?_
 refine zb (by kernel_rfl) fun K hK=>?_
 simp only [go_sem]
 (try simp (disch:=omega) only [zI])
 repeat first | intro _ | refine ⟨by omega,?_⟩ | refine ⟨⟨by omega,by omega⟩,?_⟩
 refine hK _ ?_
 clear hK K
 refine zw (sub_frzP 3 3 [ints ds,i64 n] (by omega) rfl rfl) ?_
 refine zw (zk [0,3,4]) ?_
 simp only [go_sem]
 repeat refine zq ?_
 refine zb (by kernel_rfl) fun K hK=>?_
 simp only [go_sem]
 (try simp (disch:=omega) only [zI])
 refine zh (known_ok u ds) rfl (by simp only [go_sem,i64,ints]) (by simp only [go_sem,i64,ints]) (by first | exact .inl rfl | exact .inr rfl) ?_
 (try simp only [go_sem])
 (try simp (disch:=omega) only [zI])
 repeat first | intro _ | refine ⟨by omega,?_⟩ | refine ⟨⟨by omega,by omega⟩,?_⟩
 refine hK _ ?_
 clear hK K
 refine zw (zk [0,3,5]) ?_
 simp only [go_sem]
 repeat refine zq ?_
 refine zd ?_
 by_cases hds : ds = []
 · subst hds
   have e0 : visitE beds [] n = if ¬ (0 ≤ n ∧ n ≤ 240) then 3 else if (threeT beds n).isEmpty then 9 else 0:=by simp [visitE,truthsV]
   have eL : ∀ e,visitE beds [] n = e → e ≠ 0 → leV beds le [] n = le ∧ moV beds mo [] n = mo:=fun e h1 h2=>by
    unfold leV moV
    rw [if_neg (by rw [h1]; exact h2),if_neg (by rw [h1]; exact h2)]
    exact ⟨rfl,rfl⟩
   repeat refine zq ?_
   refine zb (by kernel_rfl) fun K hK=>?_
   simp only [go_sem,List.length_nil,bne_self_eq_false]
   (try simp (disch:=omega) only [zI])
   intros
   repeat first | intro _ | refine ⟨by omega,?_⟩ | refine ⟨⟨by omega,by omega⟩,?_⟩
   refine hK _ ?_
   clear hK K
   refine zw (zk [0,3,5,10]) ?_
   simp only [go_sem]
   repeat refine zq ?_
   refine zc rfl (fun hc=>?_) (fun hc=>?_) <;> (try simp only [go_sem] at hc)
   by_cases hn : 0 ≤ n ∧ n ≤ 240
   · have w1 : withinL 0 240 [n] = true:=by simp [withinL]; omega
     rw [if_neg (by simpa using hn)] at e0
     repeat refine zq ?_
     refine zb (by kernel_rfl) fun K hK=>?_
     simp only [go_sem]
     (try simp (disch:=omega) only [zI])
     refine zh (within_ok 0 240 [n]) rfl (by simp only [go_sem,i64,ints,w1]) (by simp only [go_sem,i64,ints,w1]) (by first | exact .inl rfl | exact .inr rfl) ?_
     (try simp only [go_sem,w1])
     (try simp (disch:=omega) only [zI])
     repeat first | intro _ | refine ⟨by omega,?_⟩ | refine ⟨⟨by omega,by omega⟩,?_⟩
     refine hK _ ?_
     clear hK K
     refine zw (zk [0,3,5,26]) ?_
     simp only [go_sem]
     repeat refine zq ?_
     refine zc rfl (fun hc=>?_) (fun hc=>?_) <;> (try simp only [go_sem] at hc)
     repeat refine zq ?_
     refine zb (by kernel_rfl) fun K hK=>?_
     simp only [go_sem,List.length_nil,beq_self_eq_true]
     (try simp (disch:=omega) only [zI])
     intros
     repeat first | intro _ | refine ⟨by omega,?_⟩ | refine ⟨⟨by omega,by omega⟩,?_⟩
     refine hK _ ?_
     clear hK K
     refine zw (zk [0,3,5,32]) ?_
     simp only [go_sem]
     repeat refine zq ?_
     refine zc rfl (fun hc=>?_) (fun hc=>?_) <;> (try simp only [go_sem] at hc)
     repeat refine zq ?_
     refine zb (by kernel_rfl) fun K hK=>?_
     simp only [go_sem]
     (try simp (disch:=omega) only [zI])
     refine zh (three_ok u n) rfl (by simp only [go_sem,i64,ints]) (by simp only [go_sem,i64,ints]) (by first | exact .inl rfl | exact .inr rfl) ?_
     (try simp only [go_sem])
     (try simp (disch:=omega) only [zI])
     repeat first | intro _ | refine ⟨by omega,?_⟩ | refine ⟨⟨by omega,by omega⟩,?_⟩
     refine hK _ ?_
     clear hK K
     refine zw (zk [0,5]) ?_
     simp only [go_sem]
     have hmut:=add_ok u beds le mo 94 [.rp [.vl u],.rp [i64 n]] [.rp [.rp (sheetR beds le mo)],.rp [i64 n]] (threeT beds n) hle hmo threeT_small (three1_ok beds le mo n hb) cap_three
     repeat refine zq ?_
     refine zb (by kernel_rfl) fun K hK=>?_
     simp only [go_sem]
     (try simp (disch:=omega) only [zI])
     refine xcall_mut (hmut) [(1000,1000)] rfl (by simp only [go_sem,i64,ints,shA_lend,shA_back]) (by simp only [go_sem,i64,ints,shA_lend,shA_back]) (by rfl) (by rfl) ?_
     (try simp only [go_sem,shA_lend,shA_back])
     (try simp (disch:=omega) only [zI])
     repeat first | intro _ | refine ⟨by omega,?_⟩ | refine ⟨⟨by omega,by omega⟩,?_⟩
     refine hK _ ?_
     clear hK K
     try rw [shA_back]
     refine zw (zk [0,44]) ?_
     simp only [go_sem]
     cases he : (threeT beds n).isEmpty
     · have e1 : visitE beds [] n = 0:=by rw [e0,he]; simp
       have eq1 : leV beds le [] n = addT le (accL (threeT beds n)).2.1:=by unfold leV; rw [if_pos e1]; rfl
       have eq2 : moV beds mo [] n = addT mo (accL (threeT beds n)).2.2:=by unfold moV; rw [if_pos e1]; rfl
       rw [e1,eq1,eq2]
       repeat refine zq ?_
       refine zc rfl (fun hc=>?_) (fun hc=>?_) <;> (try simp only [go_sem] at hc)
       refine zx ?_
       try simp only [go_sem]
       repeat refine zq ?_
       refine zb (by kernel_rfl) fun K hK=>?_
       simp only [go_sem]
       (try simp (disch:=omega) only [zI])
       repeat first | intro _ | refine ⟨by omega,?_⟩ | refine ⟨⟨by omega,by omega⟩,?_⟩
       refine hK _ ?_
       clear hK K
       refine zw (zk [4]) ?_
       simp only [go_sem]
       refine ze ?_
       simp only [go_sem]
       exact ⟨frzPL_r _ _ _,congrArg RowC.box (frzL_r _ _ _)⟩
     · have e1 : visitE beds [] n = 9:=by rw [e0,he]; simp
       obtain ⟨eq1,eq2⟩:=eL 9 e1 (by decide)
       have hnil : threeT beds n = []:=List.isEmpty_iff.1 he
       rw [hnil,accL_nil,addT_zero le zeroT hle.1 (by decide),addT_zero mo zeroT hmo.1 (by decide),e1,eq1,eq2]
       repeat refine zq ?_
       refine zc rfl (fun hc=>?_) (fun hc=>?_) <;> (try simp only [go_sem] at hc)
       repeat refine zq ?_
       refine zb (by kernel_rfl) fun K hK=>?_
       simp only [go_sem]
       (try simp (disch:=omega) only [zI])
       repeat first | intro _ | refine ⟨by omega,?_⟩ | refine ⟨⟨by omega,by omega⟩,?_⟩
       refine hK _ ?_
       clear hK K
       refine zw (zk [4]) ?_
       simp only [go_sem]
       refine ze ?_
       simp only [go_sem]
       exact ⟨frzPL_r _ _ _,congrArg RowC.box (frzL_r _ _ _)⟩
   · have w1 : withinL 0 240 [n] = false:=by simp [withinL]; omega
     rw [if_pos hn] at e0
     obtain ⟨eq1,eq2⟩:=eL 3 e0 (by decide)
     rw [e0,eq1,eq2]
     repeat refine zq ?_
     refine zb (by kernel_rfl) fun K hK=>?_
     simp only [go_sem]
     (try simp (disch:=omega) only [zI])
     refine zh (within_ok 0 240 [n]) rfl (by simp only [go_sem,i64,ints,w1]) (by simp only [go_sem,i64,ints,w1]) (by first | exact .inl rfl | exact .inr rfl) ?_
     (try simp only [go_sem,w1])
     (try simp (disch:=omega) only [zI])
     repeat first | intro _ | refine ⟨by omega,?_⟩ | refine ⟨⟨by omega,by omega⟩,?_⟩
     refine hK _ ?_
     clear hK K
     refine zw (zk [0,3,5,26]) ?_
     simp only [go_sem]
     repeat refine zq ?_
     refine zc rfl (fun hc=>?_) (fun hc=>?_) <;> (try simp only [go_sem] at hc)
     repeat refine zq ?_
     refine zb (by kernel_rfl) fun K hK=>?_
     simp only [go_sem]
     (try simp (disch:=omega) only [zI])
     repeat first | intro _ | refine ⟨by omega,?_⟩ | refine ⟨⟨by omega,by omega⟩,?_⟩
     refine hK _ ?_
     clear hK K
     refine zw (zk [4]) ?_
     simp only [go_sem]
     refine ze ?_
     simp only [go_sem]
     exact ⟨frzPL_r _ _ _,congrArg RowC.box (frzL_r _ _ _)⟩
 · have hl0 : ((ds.length : Int) != 0) = true:=by
    have : ds.length ≠ 0:=fun e=>hds (List.eq_nil_of_length_eq_zero e)
    simpa using hds
   have eL : ∀ e,visitE beds ds n = e → e ≠ 0 → leV beds le ds n = le ∧ moV beds mo ds n = mo:=fun e h1 h2=>by
    unfold leV moV
    rw [if_neg (by rw [h1]; exact h2),if_neg (by rw [h1]; exact h2)]
    exact ⟨rfl,rfl⟩
   have hq0 : ((ds.length : Int) == 0) = false:=by simpa using hds
   by_cases h3 : ds.length = 3
   · have c3 : ((ds.length : Int) != 3) = false:=by simp [h3]
     by_cases hn0 : n = 0
     · subst hn0
       have e0 : visitE beds ds 0 = if (truthsK beds ds).isEmpty then 9 else 0:=by simp [visitE,truthsV,h3,hds]
       have w1 : withinL 0 240 [0] = true:=by decide
       repeat refine zq ?_
       refine zb (by kernel_rfl) fun K hK=>?_
       simp only [go_sem,hl0,c3,bne_self_eq_false]
       (try simp (disch:=omega) only [zI])
       intros
       repeat first | intro _ | refine ⟨by omega,?_⟩ | refine ⟨⟨by omega,by omega⟩,?_⟩
       refine hK _ ?_
       clear hK K
       refine zw (zk [0,3,5,10]) ?_
       simp only [go_sem]
       repeat refine zq ?_
       refine zc rfl (fun hc=>?_) (fun hc=>?_) <;> (try simp only [go_sem] at hc)
       repeat refine zq ?_
       refine zb (by kernel_rfl) fun K hK=>?_
       simp only [go_sem]
       (try simp (disch:=omega) only [zI])
       refine zh (within_ok 0 240 [0]) rfl (by simp only [go_sem,i64,ints,w1]) (by simp only [go_sem,i64,ints,w1]) (by first | exact .inl rfl | exact .inr rfl) ?_
       (try simp only [go_sem,w1])
       (try simp (disch:=omega) only [zI])
       repeat first | intro _ | refine ⟨by omega,?_⟩ | refine ⟨⟨by omega,by omega⟩,?_⟩
       refine hK _ ?_
       clear hK K
       refine zw (zk [0,3,5,26]) ?_
       simp only [go_sem]
       repeat refine zq ?_
       refine zc rfl (fun hc=>?_) (fun hc=>?_) <;> (try simp only [go_sem] at hc)
       repeat refine zq ?_
       refine zb (by kernel_rfl) fun K hK=>?_
       simp only [go_sem,hq0]
       (try simp (disch:=omega) only [zI])
       intros
       repeat first | intro _ | refine ⟨by omega,?_⟩ | refine ⟨⟨by omega,by omega⟩,?_⟩
       refine hK _ ?_
       clear hK K
       refine zw (zk [0,5,32]) ?_
       simp only [go_sem]
       repeat refine zq ?_
       refine zc rfl (fun hc=>?_) (fun hc=>?_) <;> (try simp only [go_sem] at hc)
       refine zx ?_
       try simp only [go_sem]
       have hmut:=add_ok u beds le mo 92 [.rp [ints ds],.rp [.vl u]] [.rp [ints ds],.rp [.rp (sheetR beds le mo)]] (truthsK beds ds) hle hmo (truthsK_small h3) (by have h:=known1_ok beds ds le mo hbl (by omega); rw [knownXs_eq] at h; exact h) cap_known
       repeat refine zq ?_
       refine zb (by kernel_rfl) fun K hK=>?_
       simp only [go_sem]
       (try simp (disch:=omega) only [zI])
       refine xcall_mut (hmut) [(1000,1000)] rfl (by simp only [go_sem,i64,ints,shA_lend,shA_back]) (by simp only [go_sem,i64,ints,shA_lend,shA_back]) (by rfl) (by rfl) ?_
       (try simp only [go_sem,shA_lend,shA_back])
       (try simp (disch:=omega) only [zI])
       repeat first | intro _ | refine ⟨by omega,?_⟩ | refine ⟨⟨by omega,by omega⟩,?_⟩
       refine hK _ ?_
       clear hK K
       try rw [shA_back]
       refine zw (zk [0,44]) ?_
       simp only [go_sem]
       cases he : (truthsK beds ds).isEmpty
       · have e1 : visitE beds ds 0 = 0:=by rw [e0,he]; simp
         have eq1 : leV beds le ds 0 = addT le (accL (truthsK beds ds)).2.1:=by unfold leV truthsV; rw [if_pos e1,if_neg hds]
         have eq2 : moV beds mo ds 0 = addT mo (accL (truthsK beds ds)).2.2:=by unfold moV truthsV; rw [if_pos e1,if_neg hds]
         rw [e1,eq1,eq2]
         repeat refine zq ?_
         refine zc rfl (fun hc=>?_) (fun hc=>?_) <;> (try simp only [go_sem] at hc)
         refine zx ?_
         try simp only [go_sem]
         repeat refine zq ?_
         refine zb (by kernel_rfl) fun K hK=>?_
         simp only [go_sem]
         (try simp (disch:=omega) only [zI])
         repeat first | intro _ | refine ⟨by omega,?_⟩ | refine ⟨⟨by omega,by omega⟩,?_⟩
         refine hK _ ?_
         clear hK K
         refine zw (zk [4]) ?_
         simp only [go_sem]
         refine ze ?_
         simp only [go_sem]
         exact ⟨frzPL_r _ _ _,congrArg RowC.box (frzL_r _ _ _)⟩
       · have e1 : visitE beds ds 0 = 9:=by rw [e0,he]; simp
         obtain ⟨eq1,eq2⟩:=eL 9 e1 (by decide)
         have hnil : truthsK beds ds = []:=List.isEmpty_iff.1 he
         rw [hnil,accL_nil,addT_zero le zeroT hle.1 (by decide),addT_zero mo zeroT hmo.1 (by decide),e1,eq1,eq2]
         repeat refine zq ?_
         refine zc rfl (fun hc=>?_) (fun hc=>?_) <;> (try simp only [go_sem] at hc)
         repeat refine zq ?_
         refine zb (by kernel_rfl) fun K hK=>?_
         simp only [go_sem]
         (try simp (disch:=omega) only [zI])
         repeat first | intro _ | refine ⟨by omega,?_⟩ | refine ⟨⟨by omega,by omega⟩,?_⟩
         refine hK _ ?_
         clear hK K
         refine zw (zk [4]) ?_
         simp only [go_sem]
         refine ze ?_
         simp only [go_sem]
         exact ⟨frzPL_r _ _ _,congrArg RowC.box (frzL_r _ _ _)⟩
     · have cn : (n != 0) = true:=by simpa using hn0
       have e0 : visitE beds ds n = 4:=by simp [visitE,hds,hn0]
       obtain ⟨eq1,eq2⟩:=eL 4 e0 (by decide)
       rw [e0,eq1,eq2]
       repeat refine zq ?_
       refine zb (by kernel_rfl) fun K hK=>?_
       simp only [go_sem,hl0,c3,cn]
       (try simp (disch:=omega) only [zI])
       intros
       repeat first | intro _ | refine ⟨by omega,?_⟩ | refine ⟨⟨by omega,by omega⟩,?_⟩
       refine hK _ ?_
       clear hK K
       refine zw (zk [0,3,5,10]) ?_
       simp only [go_sem]
       repeat refine zq ?_
       refine zc rfl (fun hc=>?_) (fun hc=>?_) <;> (try simp only [go_sem] at hc)
       repeat refine zq ?_
       refine zb (by kernel_rfl) fun K hK=>?_
       simp only [go_sem]
       (try simp (disch:=omega) only [zI])
       repeat first | intro _ | refine ⟨by omega,?_⟩ | refine ⟨⟨by omega,by omega⟩,?_⟩
       refine hK _ ?_
       clear hK K
       refine zw (zk [4]) ?_
       simp only [go_sem]
       refine ze ?_
       simp only [go_sem]
       exact ⟨frzPL_r _ _ _,congrArg RowC.box (frzL_r _ _ _)⟩
   · have c3 : ((ds.length : Int) != 3) = true:=by
      have : (ds.length : Int) ≠ 3:=by omega
      simpa using this
     have e0 : visitE beds ds n = 4:=by simp [visitE,hds,h3]
     obtain ⟨eq1,eq2⟩:=eL 4 e0 (by decide)
     rw [e0,eq1,eq2]
     repeat refine zq ?_
     refine zb (by kernel_rfl) fun K hK=>?_
     simp only [go_sem,hl0,c3]
     (try simp (disch:=omega) only [zI])
     intros
     repeat first | intro _ | refine ⟨by omega,?_⟩ | refine ⟨⟨by omega,by omega⟩,?_⟩
     refine hK _ ?_
     clear hK K
     refine zw (zk [0,3,5,10]) ?_
     simp only [go_sem]
     repeat refine zq ?_
     refine zc rfl (fun hc=>?_) (fun hc=>?_) <;> (try simp only [go_sem] at hc)
     repeat refine zq ?_
     refine zb (by kernel_rfl) fun K hK=>?_
     simp only [go_sem]
     (try simp (disch:=omega) only [zI])
     repeat first | intro _ | refine ⟨by omega,?_⟩ | refine ⟨⟨by omega,by omega⟩,?_⟩
     refine hK _ ?_
     clear hK K
     refine zw (zk [4]) ?_
     simp only [go_sem]
     refine ze ?_
     simp only [go_sem]
     exact ⟨frzPL_r _ _ _,congrArg RowC.box (frzL_r _ _ _)⟩
end Go.Proofs.Ytgkejinoaommeaa
