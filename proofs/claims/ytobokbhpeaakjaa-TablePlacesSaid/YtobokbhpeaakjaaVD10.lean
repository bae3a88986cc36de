/- Part 10 of the texts of this claim. -/
import Derived.Test.YtobokbhpeaakjaaVD9
namespace Go.Proofs.Ytobokbhpeaakjaa
open Go Go.Oc
set_option linter.unusedSimpArgs false
set_option linter.unusedVariables false
set_option maxRecDepth 8000
set_option maxHeartbeats 4000000
def canB (x : Nat) (m : Nat) (ts : List Th) : Bool:=ts.any fun t=>t.won.getD x 0 == (m : Int)
def sureB (n x : Nat) (place : Int) (m : Nat) (ts : List Th) : Bool:=ts.all fun t=>!(decide ((m : Int) ≤ t.won.getD x 0) && decide (place < (placesV n t x).2))
def magB (n x : Nat) (place : Int) (ts : List Th) (m : Nat) : Bool:=canB x m ts && sureB n x place m ts
def refMagicV (n x : Nat) (place : Int) (ts : List Th) : Int:=match (List.range 91).find? (magB n x place ts) with | some m=>(m : Int) | none=>-1
def betB (a b : Rw) : Bool :=
 if a.pts ≠ b.pts then decide (b.pts < a.pts) else if a.f - a.g ≠ b.f - b.g then decide (b.f - b.g < a.f - a.g) else if a.f ≠ b.f then decide (b.f < a.f) else decide (a.team < b.team)
abbrev rwA (x : Rw) : List AV:=[.r (i64 x.team),.r (i64 x.pl),.r (i64 x.won),.r (i64 x.dr),.r (i64 x.lo),.r (i64 x.f),.r (i64 x.g),.r (i64 x.pts)]
theorem refRow_ok (r : Tr) (hr : RulesI r) (l : List Mt) (hm : ∀ m ∈ l,MatchI r m) (hl : l.length ≤ 200) (x : Nat) (hx : x < nT r) : ACalls Try.prog 66 [trV r,mtsR l,i64 (x : Int)] (.ag (rwR (rowT r l x))):=by
 obtain ⟨hn,hn2,hn10⟩:=nT_eq hr
 have hlg:=hr.legs
 have hwi:=hr.win
 have hdw:=hr.draw
 refine acalls_st (rs:=[.ag (rwR (rowT r l x))]) [.cell 6 49] Try.func66 rfl (by kernel_rfl) Try.ntmps66 rfl (by simp) rfl fun C vs=>?_
 refine zq ?_
 refine zb fun K hK=>?_;simp only [go_sem];refine hK _ ?_;clear hK K;refine zw (sub_frzP 3 3 (trC r) (by omega) rfl rfl) ?_;refine zw (zk [1,2,3,6]) ?_;simp only [go_sem]
 refine zq ?_
 refine zb fun K hK=>?_;simp only [go_sem];refine hK _ ?_;clear hK K;refine zw (zk [1,2,3,6,7]) ?_;simp only [go_sem]
 repeat refine zq ?_
 refine zb fun K hK=>?_;simp only [go_sem]
 intro _
 refine hK _ ?_;clear hK K;refine zw (zk [1,2,3,6,7,17]) ?_;simp only [go_sem]
 refine awp_joinV (n:=110) (fun (_ : Unit) vs=>[(1,.r (mtsR l)),(2,.r (i64 (x : Int))),(3,.r (.rp (trC r))),(6,.pt 6 (vs 6) 0),(7,.pt 7 (vs 7) 0)])
  (fun _ vs=>[(6,.box [.r (i64 0),.r (i64 0),.r (i64 0),.r (i64 0),.r (i64 0),.r (i64 0),.r (i64 0),.r (i64 0)]),(7,.box (rwA (startW r x)))]) (fun _=>True) (fun _ h=>h) ?_ ?_
 · rcases hr.ded with hd | ⟨hd,hd2⟩
   · have hst : startW r x = ⟨x,0,0,0,0,0,0,0⟩:=by unfold startW; rw [if_pos hd]
     rw [hst]
     refine zc rfl (fun hc=>?_) (fun hc=>?_) <;> (try simp only [go_sem] at hc)
     · exfalso
       rw [hd] at hc
       simp at hc
     · refine zx ?_
       try simp only [go_sem]
       refine ⟨(),zj [] ?_ ?_⟩
       · try simp only [go_sem]
       · try simp only [go_sem]
   · have hne : r.ded ≠ []:=by intro e; rw [e] at hd; simp at hd; omega
     obtain ⟨y,hy⟩:=opt_of_lt (show x < r.ded.length by omega)
     have hyb:=hd2 y (mem_of_opt hy)
     have hyD : r.ded.getD x 0 = y:=by rw [List.getD_eq_getElem?_getD,hy]; rfl
     have hst : startW r x = ⟨x,0,0,0,0,0,0,-y⟩:=by unfold startW; rw [if_neg hne,hyD]
     rw [hst]
     refine zc rfl (fun hc=>?_) (fun hc=>?_) <;> (try simp only [go_sem] at hc)
     · skip
       refine awp_dreg2 [(7,some 7),(2,none),(3,none)] follows (by decide +kernel) (by kernel_rfl) (by simp only [keysOk,List.mem_cons,List.not_mem_nil,forall_eq_or_imp,Oc.keyOf,go_sem]; simp) fun K hK=>?_
       simp only [go_sem,hy];(try simp (disch:=omega) only [zI])
       refine ⟨by omega,?_⟩
       refine hK _ ?_;clear hK K
       refine ⟨(),trivial,zj [] ?_ ?_⟩
       · try simp only [go_sem]
       · try simp only [go_sem]
         try simp
     · exfalso
       have:=List.length_pos_iff.2 hne
       first | omega | (simp at hc; first | exact hne hc | omega)
 intro _ vs _
 repeat refine zq ?_
 refine zb fun K hK=>?_;simp only [go_sem];refine hK _ ?_;clear hK K;refine zw (zk [1,2,3,6,7,8]) ?_;simp only [go_sem];refine zd ?_
 refine awp_uptoV (n:=110) l.length (fun i vs=>[(1,.r (mtsR l)),(2,.r (i64 (x : Int))),(3,.r (.rp (trC r))),(6,.pt 6 (vs 6) 0),(7,.pt 7 (vs 7) 0),(8,.r (i64 (i : Int)))])
  (fun i vs=>[(6,.box [.r (i64 0),.r (i64 0),.r (i64 0),.r (i64 0),.r (i64 0),.r (i64 0),.r (i64 0),.r (i64 0)]),(7,.box (rwA (rowT r (l.take i) x)))]) (fun _=>True) 0 (zj [] ?_ ?_) (Nat.zero_le _) trivial ?_
 · try simp only [go_sem]
 · try simp only [go_sem]
   try rfl
 · intro i vs hi _
   repeat refine zq ?_
   refine zb fun K hK=>?_;simp only [go_sem]
   intro _
   refine hK _ ?_;clear hK K;refine zw (zk [1,2,3,6,7,8,30]) ?_;simp only [go_sem]
   refine zc rfl (fun hc=>?_) (fun hc=>?_) <;> (try simp only [go_sem] at hc)
   · have hil : i < l.length:=by omega
     obtain ⟨m,hmm⟩:=opt_of_lt hil
     have hM:=hm m (mem_of_opt hmm)
     have hsm:=(small_row hr hm x i (by omega)).le (B':=200) (by omega)
     have hsn:=rowT_snoc r (l.take i) m x
     rw [← take_of_opt hmm] at hsn
     generalize rowT r (l.take i) x = S at *
     generalize rowT r (l.take (i + 1)) x = S' at *
     refine zx ?_
     try simp only [go_sem]
     refine zq ?_
     refine zd ?_
     refine zq ?_
     refine zb fun K hK=>?_;simp only [go_sem,hmm]
     refine ⟨by omega,?_⟩
     refine hK _ ?_;clear hK K;refine zw (sub_frzP 9 9 (mtR m) (by omega) rfl rfl) ?_;refine zw (zk [1,2,3,6,7,8,9]) ?_;simp only [go_sem]
     cases hmp : m.p with
     | false =>
       have hS : S' = S:=by rw [hsn]; unfold stepW; rw [hmp]; rfl
       rw [hS]
       repeat refine zq ?_
       refine zb fun K hK=>?_;simp only [go_sem,hmp];refine hK _ ?_;clear hK K;refine zw (zk [1,2,3,6,7,8,9,51]) ?_;simp only [go_sem]
       refine zc rfl (fun hc=>?_) (fun hc=>?_) <;> (try simp only [go_sem] at hc)
       refine zf ?_;simp only [go_sem];refine zb fun K hK=>?_;simp only [go_sem];(try simp (disch:=omega) only [zI]);refine hK _ ?_;clear hK K
       try simp only [go_sem]
       refine ⟨by omega,zj [] ?_ ?_⟩
       · try simp only [go_sem]
       · try simp only [go_sem]
     | true =>
       have hlo : legsOf r m = r.legs:=by unfold legsOf; rw [hmp]; rfl
       have hf:=hM.f
       have hg:=hM.g
       have hne:=hM.ne
       rw [hlo] at hf hg
       obtain ⟨s1,s2,s3,s4,s5,s6,s7⟩:=hsm
       by_cases hh : m.h = (x : Int)
       · have e1 : (m.h != (x : Int)) = false:=by simp [hh]
         have e3 : (m.a == (x : Int)) = false:=by simp; omega
         have hst1 : m.h = (x : Int):=hh
         repeat refine zq ?_
         refine zb fun K hK=>?_;simp only [go_sem,hmp,e1];refine hK _ ?_;clear hK K;refine zw (zk [1,2,3,6,7,8,9,51]) ?_;simp only [go_sem]
         refine zc rfl (fun hc=>?_) (fun hc=>?_) <;> (try simp only [go_sem] at hc)
         refine zx ?_
         try simp only [go_sem]
         refine zq ?_
         refine zg follows (by decide +kernel) (by kernel_rfl) fun K hK=>?_;simp only [go_sem];refine hK _ ?_;clear hK K;refine zw (zk [1,2,3,6,7,8,9,10,11]) ?_;simp only [go_sem]
         repeat refine zq ?_
         refine zb fun K hK=>?_;simp only [go_sem,e3];refine hK _ ?_;clear hK K;refine zw (zk [1,2,3,6,7,8,10,11,59]) ?_;simp only [go_sem]
         refine zc rfl (fun hc=>?_) (fun hc=>?_) <;> (try simp only [go_sem] at hc)
         refine zx ?_
         try simp only [go_sem]
         rcases Int.lt_trichotomy m.g m.f with ht | ht | ht
         · have hS : S' = ⟨S.team,S.pl + 1,S.won + 1,S.dr,S.lo,S.f + m.f,S.g + m.g,S.pts + r.win⟩:=by
            rw [hsn]; simp only [stepW,hmp,hst1,addW,if_true]
            congr 1 <;> (try unfold resV ptsV) <;> (repeat' split) <;> (try simp only) <;> omega
           rw [hS]
           have c1 : decide (m.g < m.f) = true:=by simp; omega
           have c2 : (m.f == m.g) = false:=by simp; omega
           have c3 : decide (m.f < m.g) = false:=by simp; omega
           refine zq ?_
           refine zb fun K hK=>?_;simp only [go_sem];(try simp (disch:=omega) only [zI]);refine hK _ ?_;clear hK K;refine zw (zk [1,2,3,6,7,8,10,11]) ?_;simp only [go_sem]
           repeat refine zq ?_
           refine zb fun K hK=>?_;simp only [go_sem,c1];refine hK _ ?_;clear hK K;refine zw (zk [1,2,3,6,7,8,10,11,78]) ?_;simp only [go_sem]
           refine zc rfl (fun hc=>?_) (fun hc=>?_) <;> (try simp only [go_sem] at hc)
           refine awp_dreg2 [(7,some 7),(3,none)] follows (by decide +kernel) (by kernel_rfl) (by simp only [keysOk,List.mem_cons,List.not_mem_nil,forall_eq_or_imp,Oc.keyOf,go_sem]; simp) fun K hK=>?_
           simp only [go_sem];(try simp (disch:=omega) only [zI]);refine hK _ ?_;clear hK K;refine zw (zk [1,2,3,6,7,8,10,11]) ?_;simp only [go_sem]
           repeat refine zq ?_
           refine zb fun K hK=>?_;simp only [go_sem,c2];refine hK _ ?_;clear hK K;refine zw (zk [1,2,3,6,7,8,10,11,91]) ?_;simp only [go_sem]
           refine zc rfl (fun hc=>?_) (fun hc=>?_) <;> (try simp only [go_sem] at hc)
           refine zx ?_
           try simp only [go_sem]
           refine zq ?_
           refine zb fun K hK=>?_;simp only [go_sem,c3];refine hK _ ?_;clear hK K;refine zw (zk [1,2,3,6,7,8,10,11,104]) ?_;simp only [go_sem]
           refine zc rfl (fun hc=>?_) (fun hc=>?_) <;> (try simp only [go_sem] at hc)
           refine zx ?_
           try simp only [go_sem]
           refine zb fun K hK=>?_;simp only [go_sem];(try simp (disch:=omega) only [zI]);refine hK _ ?_;clear hK K
           try simp only [go_sem]
           refine ⟨by omega,zj [] ?_ ?_⟩
           · try simp only [go_sem]
           · try simp only [go_sem]
         · have hS : S' = ⟨S.team,S.pl + 1,S.won,S.dr + 1,S.lo,S.f + m.f,S.g + m.g,S.pts + r.draw⟩:=by
            rw [hsn]; simp only [stepW,hmp,hst1,addW,if_true]
            congr 1 <;> (try unfold resV ptsV) <;> (repeat' split) <;> (try simp only) <;> omega
           rw [hS]
           have c1 : decide (m.g < m.f) = false:=by simp; omega
           have c2 : (m.f == m.g) = true:=by simp; omega
           have c3 : decide (m.f < m.g) = false:=by simp; omega
           refine zq ?_
           refine zb fun K hK=>?_;simp only [go_sem];(try simp (disch:=omega) only [zI]);refine hK _ ?_;clear hK K;refine zw (zk [1,2,3,6,7,8,10,11]) ?_;simp only [go_sem]
           repeat refine zq ?_
           refine zb fun K hK=>?_;simp only [go_sem,c1];refine hK _ ?_;clear hK K;refine zw (zk [1,2,3,6,7,8,10,11,78]) ?_;simp only [go_sem]
           refine zc rfl (fun hc=>?_) (fun hc=>?_) <;> (try simp only [go_sem] at hc)
           refine zx ?_
           try simp only [go_sem]
           repeat refine zq ?_
           refine zb fun K hK=>?_;simp only [go_sem,c2];refine hK _ ?_;clear hK K;refine zw (zk [1,2,3,6,7,8,10,11,91]) ?_;simp only [go_sem]
           refine zc rfl (fun hc=>?_) (fun hc=>?_) <;> (try simp only [go_sem] at hc)
           refine awp_dreg2 [(7,some 7),(3,none)] follows (by decide +kernel) (by kernel_rfl) (by simp only [keysOk,List.mem_cons,List.not_mem_nil,forall_eq_or_imp,Oc.keyOf,go_sem]; simp) fun K hK=>?_
           simp only [go_sem];(try simp (disch:=omega) only [zI]);refine hK _ ?_;clear hK K;refine zw (zk [1,2,3,6,7,8,10,11]) ?_;simp only [go_sem]
           refine zq ?_
           refine zb fun K hK=>?_;simp only [go_sem,c3];refine hK _ ?_;clear hK K;refine zw (zk [1,2,3,6,7,8,10,11,104]) ?_;simp only [go_sem]
           refine zc rfl (fun hc=>?_) (fun hc=>?_) <;> (try simp only [go_sem] at hc)
           refine zx ?_
           try simp only [go_sem]
           refine zb fun K hK=>?_;simp only [go_sem];(try simp (disch:=omega) only [zI]);refine hK _ ?_;clear hK K
           try simp only [go_sem]
           refine ⟨by omega,zj [] ?_ ?_⟩
           · try simp only [go_sem]
           · try simp only [go_sem]
         · have hS : S' = ⟨S.team,S.pl + 1,S.won,S.dr,S.lo + 1,S.f + m.f,S.g + m.g,S.pts⟩:=by
            rw [hsn]; simp only [stepW,hmp,hst1,addW,if_true]
            congr 1 <;> (try unfold resV ptsV) <;> (repeat' split) <;> (try simp only) <;> omega
           rw [hS]
           have c1 : decide (m.g < m.f) = false:=by simp; omega
           have c2 : (m.f == m.g) = false:=by simp; omega
           have c3 : decide (m.f < m.g) = true:=by simp; omega
           refine zq ?_
           refine zb fun K hK=>?_;simp only [go_sem];(try simp (disch:=omega) only [zI]);refine hK _ ?_;clear hK K;refine zw (zk [1,2,3,6,7,8,10,11]) ?_;simp only [go_sem]
           repeat refine zq ?_
           refine zb fun K hK=>?_;simp only [go_sem,c1];refine hK _ ?_;clear hK K;refine zw (zk [1,2,3,6,7,8,10,11,78]) ?_;simp only [go_sem]
           refine zc rfl (fun hc=>?_) (fun hc=>?_) <;> (try simp only [go_sem] at hc)
           refine zx ?_
           try simp only [go_sem]
           repeat refine zq ?_
           refine zb fun K hK=>?_;simp only [go_sem,c2];refine hK _ ?_;clear hK K;refine zw (zk [1,2,3,6,7,8,10,11,91]) ?_;simp only [go_sem]
           refine zc rfl (fun hc=>?_) (fun hc=>?_) <;> (try simp only [go_sem] at hc)
           refine zx ?_
           try simp only [go_sem]
           refine zq ?_
           refine zb fun K hK=>?_;simp only [go_sem,c3];refine hK _ ?_;clear hK K;refine zw (zk [1,2,3,6,7,8,10,11,104]) ?_;simp only [go_sem]
           refine zc rfl (fun hc=>?_) (fun hc=>?_) <;> (try simp only [go_sem] at hc)
           refine zb fun K hK=>?_;simp only [go_sem];(try simp (disch:=omega) only [zI]);refine hK _ ?_;clear hK K;refine zw (zk [1,2,3,6,7,8]) ?_;simp only [go_sem];refine zb fun K hK=>?_;simp only [go_sem];(try simp (disch:=omega) only [zI]);refine hK _ ?_;clear hK K
           try simp only [go_sem]
           refine ⟨by omega,zj [] ?_ ?_⟩
           · try simp only [go_sem]
           · try simp only [go_sem]
       · have e1 : (m.h != (x : Int)) = true:=by simp [hh]
         by_cases ha : m.a = (x : Int)
         · have e2 : (m.a != (x : Int)) = false:=by simp [ha]
           have e3 : (m.a == (x : Int)) = true:=by simp [ha]
           have hst1 : (m.h = (x : Int)) = False:=by simp [hh]
           repeat refine zq ?_
           refine zb fun K hK=>?_;simp only [go_sem,hmp,e1,e2];refine hK _ ?_;clear hK K;refine zw (zk [1,2,3,6,7,8,9,51]) ?_;simp only [go_sem]
           refine zc rfl (fun hc=>?_) (fun hc=>?_) <;> (try simp only [go_sem] at hc)
           refine zx ?_
           try simp only [go_sem]
           refine zq ?_
           refine zg follows (by decide +kernel) (by kernel_rfl) fun K hK=>?_;simp only [go_sem];refine hK _ ?_;clear hK K;refine zw (zk [1,2,3,6,7,8,9,10,11]) ?_;simp only [go_sem]
           repeat refine zq ?_
           refine zb fun K hK=>?_;simp only [go_sem,e3];refine hK _ ?_;clear hK K;refine zw (zk [1,2,3,6,7,8,10,11,59]) ?_;simp only [go_sem]
           refine zc rfl (fun hc=>?_) (fun hc=>?_) <;> (try simp only [go_sem] at hc)
           refine zb fun K hK=>?_;simp only [go_sem];refine hK _ ?_;clear hK K;refine zw (zk [1,2,3,6,7,8,10,11]) ?_;simp only [go_sem]
           rcases Int.lt_trichotomy m.f m.g with ht | ht | ht
           · have hS : S' = ⟨S.team,S.pl + 1,S.won + 1,S.dr,S.lo,S.f + m.g,S.g + m.f,S.pts + r.win⟩:=by
              rw [hsn]; simp only [stepW,hmp,hst1,ha,addW,if_true,if_false]
              congr 1 <;> (try unfold resV ptsV) <;> (repeat' split) <;> (try simp only) <;> omega
             rw [hS]
             have c1 : decide (m.f < m.g) = true:=by simp; omega
             have c2 : (m.g == m.f) = false:=by simp; omega
             have c3 : decide (m.g < m.f) = false:=by simp; omega
             refine zq ?_
             refine zb fun K hK=>?_;simp only [go_sem];(try simp (disch:=omega) only [zI]);refine hK _ ?_;clear hK K;refine zw (zk [1,2,3,6,7,8,10,11]) ?_;simp only [go_sem]
             repeat refine zq ?_
             refine zb fun K hK=>?_;simp only [go_sem,c1];refine hK _ ?_;clear hK K;refine zw (zk [1,2,3,6,7,8,10,11,78]) ?_;simp only [go_sem]
             refine zc rfl (fun hc=>?_) (fun hc=>?_) <;> (try simp only [go_sem] at hc)
             refine awp_dreg2 [(7,some 7),(3,none)] follows (by decide +kernel) (by kernel_rfl) (by simp only [keysOk,List.mem_cons,List.not_mem_nil,forall_eq_or_imp,Oc.keyOf,go_sem]; simp) fun K hK=>?_
             simp only [go_sem];(try simp (disch:=omega) only [zI]);refine hK _ ?_;clear hK K;refine zw (zk [1,2,3,6,7,8,10,11]) ?_;simp only [go_sem]
             repeat refine zq ?_
             refine zb fun K hK=>?_;simp only [go_sem,c2];refine hK _ ?_;clear hK K;refine zw (zk [1,2,3,6,7,8,10,11,91]) ?_;simp only [go_sem]
             refine zc rfl (fun hc=>?_) (fun hc=>?_) <;> (try simp only [go_sem] at hc)
             refine zx ?_
             try simp only [go_sem]
             refine zq ?_
             refine zb fun K hK=>?_;simp only [go_sem,c3];refine hK _ ?_;clear hK K;refine zw (zk [1,2,3,6,7,8,10,11,104]) ?_;simp only [go_sem]
             refine zc rfl (fun hc=>?_) (fun hc=>?_) <;> (try simp only [go_sem] at hc)
             refine zx ?_
             try simp only [go_sem]
             refine zb fun K hK=>?_;simp only [go_sem];(try simp (disch:=omega) only [zI]);refine hK _ ?_;clear hK K
             try simp only [go_sem]
             refine ⟨by omega,zj [] ?_ ?_⟩
             · try simp only [go_sem]
             · try simp only [go_sem]
           · have hS : S' = ⟨S.team,S.pl + 1,S.won,S.dr + 1,S.lo,S.f + m.g,S.g + m.f,S.pts + r.draw⟩:=by
              rw [hsn]; simp only [stepW,hmp,hst1,ha,addW,if_true,if_false]
              congr 1 <;> (try unfold resV ptsV) <;> (repeat' split) <;> (try simp only) <;> omega
             rw [hS]
             have c1 : decide (m.f < m.g) = false:=by simp; omega
             have c2 : (m.g == m.f) = true:=by simp; omega
             have c3 : decide (m.g < m.f) = false:=by simp; omega
             refine zq ?_
             refine zb fun K hK=>?_;simp only [go_sem];(try simp (disch:=omega) only [zI]);refine hK _ ?_;clear hK K;refine zw (zk [1,2,3,6,7,8,10,11]) ?_;simp only [go_sem]
             repeat refine zq ?_
             refine zb fun K hK=>?_;simp only [go_sem,c1];refine hK _ ?_;clear hK K;refine zw (zk [1,2,3,6,7,8,10,11,78]) ?_;simp only [go_sem]
             refine zc rfl (fun hc=>?_) (fun hc=>?_) <;> (try simp only [go_sem] at hc)
             refine zx ?_
             try simp only [go_sem]
             repeat refine zq ?_
             refine zb fun K hK=>?_;simp only [go_sem,c2];refine hK _ ?_;clear hK K;refine zw (zk [1,2,3,6,7,8,10,11,91]) ?_;simp only [go_sem]
             refine zc rfl (fun hc=>?_) (fun hc=>?_) <;> (try simp only [go_sem] at hc)
             refine awp_dreg2 [(7,some 7),(3,none)] follows (by decide +kernel) (by kernel_rfl) (by simp only [keysOk,List.mem_cons,List.not_mem_nil,forall_eq_or_imp,Oc.keyOf,go_sem]; simp) fun K hK=>?_
             simp only [go_sem];(try simp (disch:=omega) only [zI]);refine hK _ ?_;clear hK K;refine zw (zk [1,2,3,6,7,8,10,11]) ?_;simp only [go_sem]
             refine zq ?_
             refine zb fun K hK=>?_;simp only [go_sem,c3];refine hK _ ?_;clear hK K;refine zw (zk [1,2,3,6,7,8,10,11,104]) ?_;simp only [go_sem]
             refine zc rfl (fun hc=>?_) (fun hc=>?_) <;> (try simp only [go_sem] at hc)
             refine zx ?_
             try simp only [go_sem]
             refine zb fun K hK=>?_;simp only [go_sem];(try simp (disch:=omega) only [zI]);refine hK _ ?_;clear hK K
             try simp only [go_sem]
             refine ⟨by omega,zj [] ?_ ?_⟩
             · try simp only [go_sem]
             · try simp only [go_sem]
           · have hS : S' = ⟨S.team,S.pl + 1,S.won,S.dr,S.lo + 1,S.f + m.g,S.g + m.f,S.pts⟩:=by
              rw [hsn]; simp only [stepW,hmp,hst1,ha,addW,if_true,if_false]
              congr 1 <;> (try unfold resV ptsV) <;> (repeat' split) <;> (try simp only) <;> omega
             rw [hS]
             have c1 : decide (m.f < m.g) = false:=by simp; omega
             have c2 : (m.g == m.f) = false:=by simp; omega
             have c3 : decide (m.g < m.f) = true:=by simp; omega
             refine zq ?_
             refine zb fun K hK=>?_;simp only [go_sem];(try simp (disch:=omega) only [zI]);refine hK _ ?_;clear hK K;refine zw (zk [1,2,3,6,7,8,10,11]) ?_;simp only [go_sem]
             repeat refine zq ?_
             refine zb fun K hK=>?_;simp only [go_sem,c1];refine hK _ ?_;clear hK K;refine zw (zk [1,2,3,6,7,8,10,11,78]) ?_;simp only [go_sem]
             refine zc rfl (fun hc=>?_) (fun hc=>?_) <;> (try simp only [go_sem] at hc)
             refine zx ?_
             try simp only [go_sem]
             repeat refine zq ?_
             refine zb fun K hK=>?_;simp only [go_sem,c2];refine hK _ ?_;clear hK K;refine zw (zk [1,2,3,6,7,8,10,11,91]) ?_;simp only [go_sem]
             refine zc rfl (fun hc=>?_) (fun hc=>?_) <;> (try simp only [go_sem] at hc)
             refine zx ?_
             try simp only [go_sem]
             refine zq ?_
             refine zb fun K hK=>?_;simp only [go_sem,c3];refine hK _ ?_;clear hK K;refine zw (zk [1,2,3,6,7,8,10,11,104]) ?_;simp only [go_sem]
             refine zc rfl (fun hc=>?_) (fun hc=>?_) <;> (try simp only [go_sem] at hc)
             refine zb fun K hK=>?_;simp only [go_sem];(try simp (disch:=omega) only [zI]);refine hK _ ?_;clear hK K;refine zw (zk [1,2,3,6,7,8]) ?_;simp only [go_sem];refine zb fun K hK=>?_;simp only [go_sem];(try simp (disch:=omega) only [zI]);refine hK _ ?_;clear hK K
             try simp only [go_sem]
             refine ⟨by omega,zj [] ?_ ?_⟩
             · try simp only [go_sem]
             · try simp only [go_sem]
         · have e2 : (m.a != (x : Int)) = true:=by simp [ha]
           have hS : S' = S:=by rw [hsn]; unfold stepW; rw [hmp,if_neg hh,if_neg ha]; rfl
           rw [hS]
           repeat refine zq ?_
           refine zb fun K hK=>?_;simp only [go_sem,hmp,e1,e2];refine hK _ ?_;clear hK K;refine zw (zk [1,2,3,6,7,8,9,51]) ?_;simp only [go_sem]
           refine zc rfl (fun hc=>?_) (fun hc=>?_) <;> (try simp only [go_sem] at hc)
           refine zf ?_;simp only [go_sem];refine zb fun K hK=>?_;simp only [go_sem];(try simp (disch:=omega) only [zI]);refine hK _ ?_;clear hK K
           try simp only [go_sem]
           refine ⟨by omega,zj [] ?_ ?_⟩
           · try simp only [go_sem]
           · try simp only [go_sem]
   · have hil : i = l.length:=by omega
     subst hil
     rw [List.take_length]
     refine zf ?_;simp only [go_sem]
     refine zq ?_
     refine zb fun K hK=>?_;simp only [go_sem];refine hK _ ?_;clear hK K;refine zw (zk [6]) ?_;simp only [go_sem];refine ze ?_;simp only [go_sem]
def zeroW : Rw:=⟨0,0,0,0,0,0,0,0⟩
def atK (w : Nat → Rw) (i k : Nat) : Nat:=((List.range k).filter fun j=>betB (w j) (w i)).length
def tabK (w : Nat → Rw) (n i : Nat) : List Rw:=(List.range i).foldl (fun out j=>out.set (atK w j n) (w j)) (List.replicate n zeroW)
def DescP (lt : Rw → Rw → Bool) (R : List Rw) : Prop:=R.Pairwise fun a b=>lt a b = false
set_option maxRecDepth 8000
set_option maxHeartbeats 4000000
abbrev inB (n a b : Int) : Bool:=decide (a ≤ n) && decide (n ≤ b)
def dedB (r : Tr) : Bool:=decide ((r.ded.length : Int) = 0) || decide ((r.ded.length : Int) = r.teams)
def refOk (r : Tr) : Bool:=inB r.teams 2 10 && (inB r.legs 1 25 && (inB r.win 0 9 && (inB r.draw 0 r.win && (dedB r && (inB r.up 0 10 && (inB r.down 0 10 && decide (r.up + r.down ≤ r.teams)))))))
theorem refOk_of {r : Tr} (h : RulesI r) : refOk r = true:=by
 obtain ⟨h1,h2,h3,h4,h5,h6,h7⟩:=h
 unfold refOk dedB inB
 simp only [Bool.and_eq_true,Bool.or_eq_true,decide_eq_true_eq]
 refine ⟨h1,h2,h3,h4,?_,by omega,by omega,by omega⟩
 rcases h5 with h | ⟨h,_⟩
 · left; rw [h]; rfl
 · exact .inr h
theorem of_refOk {r : Tr} (h : refOk r = true) (hd : ∀ x ∈ r.ded,inB x 0 99 = true) : RulesI r:=by
 unfold refOk dedB inB at h
 simp only [Bool.and_eq_true,Bool.or_eq_true,decide_eq_true_eq] at h
 obtain ⟨h1,h2,h3,h4,h5,h6,h7,h8⟩:=h
 refine ⟨h1,h2,h3,h4,?_,by omega,by omega⟩
 rcases h5 with h | h
 · exact .inl (List.length_eq_zero_iff.1 (by omega))
 · exact .inr ⟨h,fun x hx=>by have:=hd x hx; simpa using this⟩
theorem indexF_at {α : Type} {p : α → Bool} : ∀ {l : List α} {i : Nat} {x : α},(∀ y ∈ l.take i,p y = false) → l[i]? = some x → p x = true → indexF p l = i
 | [],i,x,_,h,_=>by simp at h
 | y :: l, 0, x, _, h, hp => by
   have : y = x:=by simpa using h
   subst this; simp [indexF,hp]
 | y :: l, i + 1, x, h1, h, hp => by
   have hy:=h1 y (by simp)
   have ih:=indexF_at (l:=l) (i:=i) (fun z hz=>h1 z (by simp [hz])) (by simpa using h) hp
   unfold indexF
   rw [ih]
   simp only [hy,Bool.false_eq_true,if_false];rw [if_neg (by omega)]
   simp
theorem indexF_none {α : Type} {p : α → Bool} : ∀ {l : List α},(∀ y ∈ l,p y = false) → indexF p l = -1
 | [],_=>rfl
 | y :: l, h => by
   have ih:=indexF_none (l:=l) fun z hz=>h z (by simp [hz])
   unfold indexF
   rw [ih]
   simp [h y (by simp)]
def hB (r : Tr) (m : Mt) : Bool:=inB m.h 0 (r.teams - 1) && (inB m.a 0 (r.teams - 1) && (m.h != m.a))
def gB (r : Tr) (m : Mt) : Bool:=if m.p then inB m.f 0 r.legs && !(m.g != r.legs - m.f) else !(m.f != 0) && !(m.g != 0)
theorem matchOk_hg (r : Tr) (m : Mt) : matchOk r m = (hB r m && gB r m):=by
 refine Bool.eq_iff_iff.2 ?_
 rw [matchOk_iff]
 unfold hB gB inB
 constructor
 · rintro ⟨h1,h2,h3,h4,h5⟩
   unfold legsOf at h4 h5
   simp only [Bool.and_eq_true,decide_eq_true_eq,bne_iff_ne]
   refine ⟨⟨by omega,by omega,h3⟩,?_⟩
   cases hp : m.p <;> rw [hp] at h4 h5 <;> simp at h4 h5 ⊢ <;> omega
 · intro h
   simp only [Bool.and_eq_true,decide_eq_true_eq,bne_iff_ne] at h
   obtain ⟨⟨h1,h2,h3⟩,h4⟩:=h
   refine ⟨by omega,by omega,h3,?_,?_⟩ <;> unfold legsOf <;> cases hp : m.p <;> rw [hp] at h4 <;> simp at h4 ⊢ <;> omega
theorem refCheck_ok (r : Tr) (l : List Mt) (hw : Wf r l) : ACalls Try.prog 27 [trV r,mtsR l] (.tu [i64 (checkV r l).1,i64 (checkV r l).2]):=by
 obtain ⟨w1,w2,w3,w4,w5,w6,w7⟩:=hw.r
 unfold I64 at w1 w2 w3 w4 w6 w7
 refine acalls_st (rs:=[i64 (checkV r l).1,i64 (checkV r l).2]) [.tmp 4,.tmp 5] Try.func27 rfl (by kernel_rfl) Try.ntmps27 rfl (by simp) rfl fun C vs=>?_
 refine zq ?_
 refine zb fun K hK=>?_;simp only [go_sem];refine hK _ ?_;clear hK K;refine zw (sub_frzP 2 2 (trC r) (by omega) rfl rfl) ?_;refine zw (zk [1,2]) ?_;simp only [go_sem]
 repeat refine zq ?_
 refine awp_joinV (n:=162) (fun (_ : Unit) vs=>[(1,.r (mtsR l)),(2,.r (.rp (trC r))),(17,.r (.bo (decide (180 < l.length) || decide (10 < r.ded.length))))]) (fun _ vs=>[]) (fun _=>True) (fun _ h=>h) ?_ ?_
 · by_cases h : 180 < l.length
   · have h' : decide (180 < (l.length : Int)) = true:=by simp; omega
     have h2 : decide (180 < l.length) = true:=by simpa using h
     refine zb fun K hK=>?_;simp only [go_sem,h',h2]
     intro _
     refine hK _ ?_;clear hK K
     refine ⟨(),trivial,zj [] ?_ ?_⟩
     · try simp only [go_sem]
       simp [h2]
     · try simp only [go_sem]
   · have h' : decide (180 < (l.length : Int)) = false:=by simp; omega
     have h2 : decide (180 < l.length) = false:=by simpa using h
     refine zb fun K hK=>?_;simp only [go_sem,h',h2]
     repeat intro _
     refine hK _ ?_;clear hK K
     refine ⟨(),trivial,zj [] ?_ ?_⟩
     · try simp only [go_sem]
       simp [h2]
       try omega
     · try simp only [go_sem]
 intro _ vs _
 refine zc rfl (fun hc=>?_) (fun hc=>?_) <;> (try simp only [go_sem] at hc)
 · have hc' : 180 < l.length ∨ 10 < r.ded.length:=by simpa using hc
   have hv : checkV r l = (0,5):=by unfold checkV; rw [if_pos hc']
   rw [hv]
   refine zq ?_
   refine zb fun K hK=>?_;simp only [go_sem];refine hK _ ?_;clear hK K;refine ze ?_;simp only [go_sem]
 have hc0 : ¬ (180 < l.length ∨ 10 < r.ded.length):=by simpa using hc
 refine zx ?_
 try simp only [go_sem]
 repeat refine zq ?_
 refine awp_joinV (n:=162) (fun (_ : Unit) vs=>[(1,.r (mtsR l)),(2,.r (.rp (trC r))),(77,.r (.bo (!refOk r)))]) (fun _ vs=>[]) (fun _=>True) (fun _ h=>h) ?_ ?_
 · cases q0 : inB r.teams 2 10 with
   | false =>
     refine zb fun K hK=>?_;simp only [go_sem,q0]
     refine zh (in_ok r.teams 2 10) rfl (by simp only [go_sem,i64,ints,q0]) (by simp only [go_sem,i64,ints,q0]) (by first | exact .inl rfl | exact .inr rfl) ?_
     (try simp only [go_sem,q0]);refine hK _ ?_;clear hK K
     refine ⟨(),trivial,zj [] ?_ ?_⟩
     · try simp only [go_sem]
       simp [refOk,q0]
       try omega
     · try simp only [go_sem]
   | true =>
     cases q1 : inB r.legs 1 25 with
      | false =>
        refine zb fun K hK=>?_;simp only [go_sem,q0,q1]
        refine zh (in_ok r.teams 2 10) rfl (by simp only [go_sem,i64,ints,q0,q1]) (by simp only [go_sem,i64,ints,q0,q1]) (by first | exact .inl rfl | exact .inr rfl) ?_
        (try simp only [go_sem,q0,q1])
        refine zh (in_ok r.legs 1 25) rfl (by simp only [go_sem,i64,ints,q0,q1]) (by simp only [go_sem,i64,ints,q0,q1]) (by first | exact .inl rfl | exact .inr rfl) ?_
        (try simp only [go_sem,q0,q1]);refine hK _ ?_;clear hK K
        refine ⟨(),trivial,zj [] ?_ ?_⟩
        · try simp only [go_sem]
          simp [refOk,q0,q1]
          try omega
        · try simp only [go_sem]
      | true =>
        cases q2 : inB r.win 0 9 with
         | false =>
           refine zb fun K hK=>?_;simp only [go_sem,q0,q1,q2]
           refine zh (in_ok r.teams 2 10) rfl (by simp only [go_sem,i64,ints,q0,q1,q2]) (by simp only [go_sem,i64,ints,q0,q1,q2]) (by first | exact .inl rfl | exact .inr rfl) ?_
           (try simp only [go_sem,q0,q1,q2])
           refine zh (in_ok r.legs 1 25) rfl (by simp only [go_sem,i64,ints,q0,q1,q2]) (by simp only [go_sem,i64,ints,q0,q1,q2]) (by first | exact .inl rfl | exact .inr rfl) ?_
           (try simp only [go_sem,q0,q1,q2])
           refine zh (in_ok r.win 0 9) rfl (by simp only [go_sem,i64,ints,q0,q1,q2]) (by simp only [go_sem,i64,ints,q0,q1,q2]) (by first | exact .inl rfl | exact .inr rfl) ?_
           (try simp only [go_sem,q0,q1,q2]);refine hK _ ?_;clear hK K
           refine ⟨(),trivial,zj [] ?_ ?_⟩
           · try simp only [go_sem]
             simp [refOk,q0,q1,q2]
             try omega
           · try simp only [go_sem]
         | true =>
           cases q3 : inB r.draw 0 r.win with
            | false =>
              refine zb fun K hK=>?_;simp only [go_sem,q0,q1,q2,q3]
              refine zh (in_ok r.teams 2 10) rfl (by simp only [go_sem,i64,ints,q0,q1,q2,q3]) (by simp only [go_sem,i64,ints,q0,q1,q2,q3]) (by first | exact .inl rfl | exact .inr rfl) ?_
              (try simp only [go_sem,q0,q1,q2,q3])
              refine zh (in_ok r.legs 1 25) rfl (by simp only [go_sem,i64,ints,q0,q1,q2,q3]) (by simp only [go_sem,i64,ints,q0,q1,q2,q3]) (by first | exact .inl rfl | exact .inr rfl) ?_
              (try simp only [go_sem,q0,q1,q2,q3])
              refine zh (in_ok r.win 0 9) rfl (by simp only [go_sem,i64,ints,q0,q1,q2,q3]) (by simp only [go_sem,i64,ints,q0,q1,q2,q3]) (by first | exact .inl rfl | exact .inr rfl) ?_
              (try simp only [go_sem,q0,q1,q2,q3])
              refine zh (in_ok r.draw 0 r.win) rfl (by simp only [go_sem,i64,ints,q0,q1,q2,q3]) (by simp only [go_sem,i64,ints,q0,q1,q2,q3]) (by first | exact .inl rfl | exact .inr rfl) ?_
              (try simp only [go_sem,q0,q1,q2,q3]);refine hK _ ?_;clear hK K
              refine ⟨(),trivial,zj [] ?_ ?_⟩
              · try simp only [go_sem]
                simp [refOk,q0,q1,q2,q3]
                try omega
              · try simp only [go_sem]
            | true =>
              cases q4 : dedB r with
               | false =>
                 have q4p:=q4
                 unfold dedB at q4p
                 rw [Bool.or_eq_false_iff,decide_eq_false_iff_not,decide_eq_false_iff_not] at q4p
                 have d1 : ((r.ded.length : Int) != 0) = true:=bne_iff_ne.2 q4p.1
                 have d2 : ((r.ded.length : Int) != r.teams) = true:=bne_iff_ne.2 q4p.2
                 refine zb fun K hK=>?_;simp only [go_sem,q0,q1,q2,q3,q4,d1,d2]
                 refine zh (in_ok r.teams 2 10) rfl (by simp only [go_sem,i64,ints,q0,q1,q2,q3,q4,d1,d2]) (by simp only [go_sem,i64,ints,q0,q1,q2,q3,q4,d1,d2]) (by first | exact .inl rfl | exact .inr rfl) ?_
                 (try simp only [go_sem,q0,q1,q2,q3,q4,d1,d2])
                 refine zh (in_ok r.legs 1 25) rfl (by simp only [go_sem,i64,ints,q0,q1,q2,q3,q4,d1,d2]) (by simp only [go_sem,i64,ints,q0,q1,q2,q3,q4,d1,d2]) (by first | exact .inl rfl | exact .inr rfl) ?_
                 (try simp only [go_sem,q0,q1,q2,q3,q4,d1,d2])
                 refine zh (in_ok r.win 0 9) rfl (by simp only [go_sem,i64,ints,q0,q1,q2,q3,q4,d1,d2]) (by simp only [go_sem,i64,ints,q0,q1,q2,q3,q4,d1,d2]) (by first | exact .inl rfl | exact .inr rfl) ?_
                 (try simp only [go_sem,q0,q1,q2,q3,q4,d1,d2])
                 refine zh (in_ok r.draw 0 r.win) rfl (by simp only [go_sem,i64,ints,q0,q1,q2,q3,q4,d1,d2]) (by simp only [go_sem,i64,ints,q0,q1,q2,q3,q4,d1,d2]) (by first | exact .inl rfl | exact .inr rfl) ?_
                 (try simp only [go_sem,q0,q1,q2,q3,q4,d1,d2])
                 repeat intro _
                 refine hK _ ?_;clear hK K
                 refine ⟨(),trivial,zj [] ?_ ?_⟩
                 · try simp only [go_sem]
                   simp [refOk,q0,q1,q2,q3,q4]
                   try omega
                 · try simp only [go_sem]
               | true =>
                 cases q5 : inB r.up 0 10 with
                  | false =>
                    have q4p:=q4
                    unfold dedB at q4p
                    rw [Bool.or_eq_true,decide_eq_true_eq,decide_eq_true_eq] at q4p
                    by_cases d0 : (r.ded.length : Int) = 0
                    · have d1 : ((r.ded.length : Int) != 0) = false:=bne_eq_false_iff_eq.2 d0
                      refine zb fun K hK=>?_;simp only [go_sem,q0,q1,q2,q3,q4,q5,d1]
                      refine zh (in_ok r.teams 2 10) rfl (by simp only [go_sem,i64,ints,q0,q1,q2,q3,q4,q5,d1]) (by simp only [go_sem,i64,ints,q0,q1,q2,q3,q4,q5,d1]) (by first | exact .inl rfl | exact .inr rfl) ?_
                      (try simp only [go_sem,q0,q1,q2,q3,q4,q5,d1])
                      refine zh (in_ok r.legs 1 25) rfl (by simp only [go_sem,i64,ints,q0,q1,q2,q3,q4,q5,d1]) (by simp only [go_sem,i64,ints,q0,q1,q2,q3,q4,q5,d1]) (by first | exact .inl rfl | exact .inr rfl) ?_
                      (try simp only [go_sem,q0,q1,q2,q3,q4,q5,d1])
                      refine zh (in_ok r.win 0 9) rfl (by simp only [go_sem,i64,ints,q0,q1,q2,q3,q4,q5,d1]) (by simp only [go_sem,i64,ints,q0,q1,q2,q3,q4,q5,d1]) (by first | exact .inl rfl | exact .inr rfl) ?_
                      (try simp only [go_sem,q0,q1,q2,q3,q4,q5,d1])
                      refine zh (in_ok r.draw 0 r.win) rfl (by simp only [go_sem,i64,ints,q0,q1,q2,q3,q4,q5,d1]) (by simp only [go_sem,i64,ints,q0,q1,q2,q3,q4,q5,d1]) (by first | exact .inl rfl | exact .inr rfl) ?_
                      (try simp only [go_sem,q0,q1,q2,q3,q4,q5,d1])
                      intro _
                      refine zh (in_ok r.up 0 10) rfl (by simp only [go_sem,i64,ints,q0,q1,q2,q3,q4,q5,d1]) (by simp only [go_sem,i64,ints,q0,q1,q2,q3,q4,q5,d1]) (by first | exact .inl rfl | exact .inr rfl) ?_
                      (try simp only [go_sem,q0,q1,q2,q3,q4,q5,d1]);refine hK _ ?_;clear hK K
                      refine ⟨(),trivial,zj [] ?_ ?_⟩
                      · try simp only [go_sem]
                        simp [refOk,q0,q1,q2,q3,q4,q5]
                        try omega
                      · try simp only [go_sem]
                    · have d1 : ((r.ded.length : Int) != 0) = true:=bne_iff_ne.2 d0
                      have d2 : ((r.ded.length : Int) != r.teams) = false:=bne_eq_false_iff_eq.2 (q4p.resolve_left d0)
                      refine zb fun K hK=>?_;simp only [go_sem,q0,q1,q2,q3,q4,q5,d1,d2]
                      refine zh (in_ok r.teams 2 10) rfl (by simp only [go_sem,i64,ints,q0,q1,q2,q3,q4,q5,d1,d2]) (by simp only [go_sem,i64,ints,q0,q1,q2,q3,q4,q5,d1,d2]) (by first | exact .inl rfl | exact .inr rfl) ?_
                      (try simp only [go_sem,q0,q1,q2,q3,q4,q5,d1,d2])
                      refine zh (in_ok r.legs 1 25) rfl (by simp only [go_sem,i64,ints,q0,q1,q2,q3,q4,q5,d1,d2]) (by simp only [go_sem,i64,ints,q0,q1,q2,q3,q4,q5,d1,d2]) (by first | exact .inl rfl | exact .inr rfl) ?_
                      (try simp only [go_sem,q0,q1,q2,q3,q4,q5,d1,d2])
                      refine zh (in_ok r.win 0 9) rfl (by simp only [go_sem,i64,ints,q0,q1,q2,q3,q4,q5,d1,d2]) (by simp only [go_sem,i64,ints,q0,q1,q2,q3,q4,q5,d1,d2]) (by first | exact .inl rfl | exact .inr rfl) ?_
                      (try simp only [go_sem,q0,q1,q2,q3,q4,q5,d1,d2])
                      refine zh (in_ok r.draw 0 r.win) rfl (by simp only [go_sem,i64,ints,q0,q1,q2,q3,q4,q5,d1,d2]) (by simp only [go_sem,i64,ints,q0,q1,q2,q3,q4,q5,d1,d2]) (by first | exact .inl rfl | exact .inr rfl) ?_
                      (try simp only [go_sem,q0,q1,q2,q3,q4,q5,d1,d2])
                      repeat intro _
                      refine zh (in_ok r.up 0 10) rfl (by simp only [go_sem,i64,ints,q0,q1,q2,q3,q4,q5,d1,d2]) (by simp only [go_sem,i64,ints,q0,q1,q2,q3,q4,q5,d1,d2]) (by first | exact .inl rfl | exact .inr rfl) ?_
                      (try simp only [go_sem,q0,q1,q2,q3,q4,q5,d1,d2]);refine hK _ ?_;clear hK K
                      refine ⟨(),trivial,zj [] ?_ ?_⟩
                      · try simp only [go_sem]
                        simp [refOk,q0,q1,q2,q3,q4,q5]
                        try omega
                      · try simp only [go_sem]
                  | true =>
                    cases q6 : inB r.down 0 10 with
                     | false =>
                       have u5:=q5
                       simp only [Bool.and_eq_true,decide_eq_true_eq] at u5
                       have q4p:=q4
                       unfold dedB at q4p
                       rw [Bool.or_eq_true,decide_eq_true_eq,decide_eq_true_eq] at q4p
                       by_cases d0 : (r.ded.length : Int) = 0
                       · have d1 : ((r.ded.length : Int) != 0) = false:=bne_eq_false_iff_eq.2 d0
                         refine zb fun K hK=>?_;simp only [go_sem,q0,q1,q2,q3,q4,q5,q6,d1]
                         refine zh (in_ok r.teams 2 10) rfl (by simp only [go_sem,i64,ints,q0,q1,q2,q3,q4,q5,q6,d1]) (by simp only [go_sem,i64,ints,q0,q1,q2,q3,q4,q5,q6,d1]) (by first | exact .inl rfl | exact .inr rfl) ?_
                         (try simp only [go_sem,q0,q1,q2,q3,q4,q5,q6,d1])
                         refine zh (in_ok r.legs 1 25) rfl (by simp only [go_sem,i64,ints,q0,q1,q2,q3,q4,q5,q6,d1]) (by simp only [go_sem,i64,ints,q0,q1,q2,q3,q4,q5,q6,d1]) (by first | exact .inl rfl | exact .inr rfl) ?_
                         (try simp only [go_sem,q0,q1,q2,q3,q4,q5,q6,d1])
                         refine zh (in_ok r.win 0 9) rfl (by simp only [go_sem,i64,ints,q0,q1,q2,q3,q4,q5,q6,d1]) (by simp only [go_sem,i64,ints,q0,q1,q2,q3,q4,q5,q6,d1]) (by first | exact .inl rfl | exact .inr rfl) ?_
                         (try simp only [go_sem,q0,q1,q2,q3,q4,q5,q6,d1])
                         refine zh (in_ok r.draw 0 r.win) rfl (by simp only [go_sem,i64,ints,q0,q1,q2,q3,q4,q5,q6,d1]) (by simp only [go_sem,i64,ints,q0,q1,q2,q3,q4,q5,q6,d1]) (by first | exact .inl rfl | exact .inr rfl) ?_
                         (try simp only [go_sem,q0,q1,q2,q3,q4,q5,q6,d1])
                         intro _
                         refine zh (in_ok r.up 0 10) rfl (by simp only [go_sem,i64,ints,q0,q1,q2,q3,q4,q5,q6,d1]) (by simp only [go_sem,i64,ints,q0,q1,q2,q3,q4,q5,q6,d1]) (by first | exact .inl rfl | exact .inr rfl) ?_
                         (try simp only [go_sem,q0,q1,q2,q3,q4,q5,q6,d1])
                         refine zh (in_ok r.down 0 10) rfl (by simp only [go_sem,i64,ints,q0,q1,q2,q3,q4,q5,q6,d1]) (by simp only [go_sem,i64,ints,q0,q1,q2,q3,q4,q5,q6,d1]) (by first | exact .inl rfl | exact .inr rfl) ?_
                         (try simp only [go_sem,q0,q1,q2,q3,q4,q5,q6,d1]);refine hK _ ?_;clear hK K
                         refine ⟨(),trivial,zj [] ?_ ?_⟩
                         · try simp only [go_sem]
                           simp [refOk,q0,q1,q2,q3,q4,q5,q6]
                           try omega
                         · try simp only [go_sem]
                       · have d1 : ((r.ded.length : Int) != 0) = true:=bne_iff_ne.2 d0
                         have d2 : ((r.ded.length : Int) != r.teams) = false:=bne_eq_false_iff_eq.2 (q4p.resolve_left d0)
                         refine zb fun K hK=>?_;simp only [go_sem,q0,q1,q2,q3,q4,q5,q6,d1,d2]
                         refine zh (in_ok r.teams 2 10) rfl (by simp only [go_sem,i64,ints,q0,q1,q2,q3,q4,q5,q6,d1,d2]) (by simp only [go_sem,i64,ints,q0,q1,q2,q3,q4,q5,q6,d1,d2]) (by first | exact .inl rfl | exact .inr rfl) ?_
                         (try simp only [go_sem,q0,q1,q2,q3,q4,q5,q6,d1,d2])
                         refine zh (in_ok r.legs 1 25) rfl (by simp only [go_sem,i64,ints,q0,q1,q2,q3,q4,q5,q6,d1,d2]) (by simp only [go_sem,i64,ints,q0,q1,q2,q3,q4,q5,q6,d1,d2]) (by first | exact .inl rfl | exact .inr rfl) ?_
                         (try simp only [go_sem,q0,q1,q2,q3,q4,q5,q6,d1,d2])
                         refine zh (in_ok r.win 0 9) rfl (by simp only [go_sem,i64,ints,q0,q1,q2,q3,q4,q5,q6,d1,d2]) (by simp only [go_sem,i64,ints,q0,q1,q2,q3,q4,q5,q6,d1,d2]) (by first | exact .inl rfl | exact .inr rfl) ?_
                         (try simp only [go_sem,q0,q1,q2,q3,q4,q5,q6,d1,d2])
                         refine zh (in_ok r.draw 0 r.win) rfl (by simp only [go_sem,i64,ints,q0,q1,q2,q3,q4,q5,q6,d1,d2]) (by simp only [go_sem,i64,ints,q0,q1,q2,q3,q4,q5,q6,d1,d2]) (by first | exact .inl rfl | exact .inr rfl) ?_
                         (try simp only [go_sem,q0,q1,q2,q3,q4,q5,q6,d1,d2])
                         repeat intro _
                         refine zh (in_ok r.up 0 10) rfl (by simp only [go_sem,i64,ints,q0,q1,q2,q3,q4,q5,q6,d1,d2]) (by simp only [go_sem,i64,ints,q0,q1,q2,q3,q4,q5,q6,d1,d2]) (by first | exact .inl rfl | exact .inr rfl) ?_
                         (try simp only [go_sem,q0,q1,q2,q3,q4,q5,q6,d1,d2])
                         refine zh (in_ok r.down 0 10) rfl (by simp only [go_sem,i64,ints,q0,q1,q2,q3,q4,q5,q6,d1,d2]) (by simp only [go_sem,i64,ints,q0,q1,q2,q3,q4,q5,q6,d1,d2]) (by first | exact .inl rfl | exact .inr rfl) ?_
                         (try simp only [go_sem,q0,q1,q2,q3,q4,q5,q6,d1,d2]);refine hK _ ?_;clear hK K
                         refine ⟨(),trivial,zj [] ?_ ?_⟩
                         · try simp only [go_sem]
                           simp [refOk,q0,q1,q2,q3,q4,q5,q6]
                           try omega
                         · try simp only [go_sem]
                     | true =>
                       cases q7 : decide (r.up + r.down ≤ r.teams) with
                        | false =>
                          have d8 : decide (r.teams < r.up + r.down) = true:=decide_eq_true (by have:=of_decide_eq_false q7; omega)
                          have u5:=q5
                          simp only [Bool.and_eq_true,decide_eq_true_eq] at u5
                          have u7:=of_decide_eq_false q7
                          have u6:=q6
                          simp only [Bool.and_eq_true,decide_eq_true_eq] at u6
                          have q4p:=q4
                          unfold dedB at q4p
                          rw [Bool.or_eq_true,decide_eq_true_eq,decide_eq_true_eq] at q4p
                          by_cases d0 : (r.ded.length : Int) = 0
                          · have d1 : ((r.ded.length : Int) != 0) = false:=bne_eq_false_iff_eq.2 d0
                            refine zb fun K hK=>?_;simp only [go_sem,q0,q1,q2,q3,q4,q5,q6,q7,d1,d8]
                            refine zh (in_ok r.teams 2 10) rfl (by simp only [go_sem,i64,ints,q0,q1,q2,q3,q4,q5,q6,q7,d1,d8]) (by simp only [go_sem,i64,ints,q0,q1,q2,q3,q4,q5,q6,q7,d1,d8]) (by first | exact .inl rfl | exact .inr rfl) ?_
                            (try simp only [go_sem,q0,q1,q2,q3,q4,q5,q6,q7,d1,d8])
                            refine zh (in_ok r.legs 1 25) rfl (by simp only [go_sem,i64,ints,q0,q1,q2,q3,q4,q5,q6,q7,d1,d8]) (by simp only [go_sem,i64,ints,q0,q1,q2,q3,q4,q5,q6,q7,d1,d8]) (by first | exact .inl rfl | exact .inr rfl) ?_
                            (try simp only [go_sem,q0,q1,q2,q3,q4,q5,q6,q7,d1,d8])
                            refine zh (in_ok r.win 0 9) rfl (by simp only [go_sem,i64,ints,q0,q1,q2,q3,q4,q5,q6,q7,d1,d8]) (by simp only [go_sem,i64,ints,q0,q1,q2,q3,q4,q5,q6,q7,d1,d8]) (by first | exact .inl rfl | exact .inr rfl) ?_
                            (try simp only [go_sem,q0,q1,q2,q3,q4,q5,q6,q7,d1,d8])
                            refine zh (in_ok r.draw 0 r.win) rfl (by simp only [go_sem,i64,ints,q0,q1,q2,q3,q4,q5,q6,q7,d1,d8]) (by simp only [go_sem,i64,ints,q0,q1,q2,q3,q4,q5,q6,q7,d1,d8]) (by first | exact .inl rfl | exact .inr rfl) ?_
                            (try simp only [go_sem,q0,q1,q2,q3,q4,q5,q6,q7,d1,d8])
                            intro _
                            refine zh (in_ok r.up 0 10) rfl (by simp only [go_sem,i64,ints,q0,q1,q2,q3,q4,q5,q6,q7,d1,d8]) (by simp only [go_sem,i64,ints,q0,q1,q2,q3,q4,q5,q6,q7,d1,d8]) (by first | exact .inl rfl | exact .inr rfl) ?_
                            (try simp only [go_sem,q0,q1,q2,q3,q4,q5,q6,q7,d1,d8])
                            refine zh (in_ok r.down 0 10) rfl (by simp only [go_sem,i64,ints,q0,q1,q2,q3,q4,q5,q6,q7,d1,d8]) (by simp only [go_sem,i64,ints,q0,q1,q2,q3,q4,q5,q6,q7,d1,d8]) (by first | exact .inl rfl | exact .inr rfl) ?_
                            (try simp only [go_sem,q0,q1,q2,q3,q4,q5,q6,q7,d1,d8]);(try simp (disch:=omega) only [zI]);refine hK _ ?_;clear hK K
                            refine ⟨(),trivial,zj [] ?_ ?_⟩
                            · try simp only [go_sem]
                              simp [refOk,q0,q1,q2,q3,q4,q5,q6,q7]
                              try omega
                            · try simp only [go_sem]
                          · have d1 : ((r.ded.length : Int) != 0) = true:=bne_iff_ne.2 d0
                            have d2 : ((r.ded.length : Int) != r.teams) = false:=bne_eq_false_iff_eq.2 (q4p.resolve_left d0)
                            refine zb fun K hK=>?_;simp only [go_sem,q0,q1,q2,q3,q4,q5,q6,q7,d1,d2,d8]
                            refine zh (in_ok r.teams 2 10) rfl (by simp only [go_sem,i64,ints,q0,q1,q2,q3,q4,q5,q6,q7,d1,d2,d8]) (by simp only [go_sem,i64,ints,q0,q1,q2,q3,q4,q5,q6,q7,d1,d2,d8]) (by first | exact .inl rfl | exact .inr rfl) ?_
                            (try simp only [go_sem,q0,q1,q2,q3,q4,q5,q6,q7,d1,d2,d8])
                            refine zh (in_ok r.legs 1 25) rfl (by simp only [go_sem,i64,ints,q0,q1,q2,q3,q4,q5,q6,q7,d1,d2,d8]) (by simp only [go_sem,i64,ints,q0,q1,q2,q3,q4,q5,q6,q7,d1,d2,d8]) (by first | exact .inl rfl | exact .inr rfl) ?_
                            (try simp only [go_sem,q0,q1,q2,q3,q4,q5,q6,q7,d1,d2,d8])
                            refine zh (in_ok r.win 0 9) rfl (by simp only [go_sem,i64,ints,q0,q1,q2,q3,q4,q5,q6,q7,d1,d2,d8]) (by simp only [go_sem,i64,ints,q0,q1,q2,q3,q4,q5,q6,q7,d1,d2,d8]) (by first | exact .inl rfl | exact .inr rfl) ?_
                            (try simp only [go_sem,q0,q1,q2,q3,q4,q5,q6,q7,d1,d2,d8])
                            refine zh (in_ok r.draw 0 r.win) rfl (by simp only [go_sem,i64,ints,q0,q1,q2,q3,q4,q5,q6,q7,d1,d2,d8]) (by simp only [go_sem,i64,ints,q0,q1,q2,q3,q4,q5,q6,q7,d1,d2,d8]) (by first | exact .inl rfl | exact .inr rfl) ?_
                            (try simp only [go_sem,q0,q1,q2,q3,q4,q5,q6,q7,d1,d2,d8])
                            repeat intro _
                            refine zh (in_ok r.up 0 10) rfl (by simp only [go_sem,i64,ints,q0,q1,q2,q3,q4,q5,q6,q7,d1,d2,d8]) (by simp only [go_sem,i64,ints,q0,q1,q2,q3,q4,q5,q6,q7,d1,d2,d8]) (by first | exact .inl rfl | exact .inr rfl) ?_
                            (try simp only [go_sem,q0,q1,q2,q3,q4,q5,q6,q7,d1,d2,d8])
                            refine zh (in_ok r.down 0 10) rfl (by simp only [go_sem,i64,ints,q0,q1,q2,q3,q4,q5,q6,q7,d1,d2,d8]) (by simp only [go_sem,i64,ints,q0,q1,q2,q3,q4,q5,q6,q7,d1,d2,d8]) (by first | exact .inl rfl | exact .inr rfl) ?_
                            (try simp only [go_sem,q0,q1,q2,q3,q4,q5,q6,q7,d1,d2,d8]);(try simp (disch:=omega) only [zI]);refine hK _ ?_;clear hK K
                            refine ⟨(),trivial,zj [] ?_ ?_⟩
                            · try simp only [go_sem]
                              simp [refOk,q0,q1,q2,q3,q4,q5,q6,q7]
                              try omega
                            · try simp only [go_sem]
                        | true =>
                          have d8 : decide (r.teams < r.up + r.down) = false:=decide_eq_false (by have:=of_decide_eq_true q7; omega)
                          have u5:=q5
                          simp only [Bool.and_eq_true,decide_eq_true_eq] at u5
                          have u7:=of_decide_eq_true q7
                          have u6:=q6
                          simp only [Bool.and_eq_true,decide_eq_true_eq] at u6
                          have q4p:=q4
                          unfold dedB at q4p
                          rw [Bool.or_eq_true,decide_eq_true_eq,decide_eq_true_eq] at q4p
                          by_cases d0 : (r.ded.length : Int) = 0
                          · have d1 : ((r.ded.length : Int) != 0) = false:=bne_eq_false_iff_eq.2 d0
                            refine zb fun K hK=>?_;simp only [go_sem,q0,q1,q2,q3,q4,q5,q6,q7,d1,d8]
                            refine zh (in_ok r.teams 2 10) rfl (by simp only [go_sem,i64,ints,q0,q1,q2,q3,q4,q5,q6,q7,d1,d8]) (by simp only [go_sem,i64,ints,q0,q1,q2,q3,q4,q5,q6,q7,d1,d8]) (by first | exact .inl rfl | exact .inr rfl) ?_
                            (try simp only [go_sem,q0,q1,q2,q3,q4,q5,q6,q7,d1,d8])
                            refine zh (in_ok r.legs 1 25) rfl (by simp only [go_sem,i64,ints,q0,q1,q2,q3,q4,q5,q6,q7,d1,d8]) (by simp only [go_sem,i64,ints,q0,q1,q2,q3,q4,q5,q6,q7,d1,d8]) (by first | exact .inl rfl | exact .inr rfl) ?_
                            (try simp only [go_sem,q0,q1,q2,q3,q4,q5,q6,q7,d1,d8])
                            refine zh (in_ok r.win 0 9) rfl (by simp only [go_sem,i64,ints,q0,q1,q2,q3,q4,q5,q6,q7,d1,d8]) (by simp only [go_sem,i64,ints,q0,q1,q2,q3,q4,q5,q6,q7,d1,d8]) (by first | exact .inl rfl | exact .inr rfl) ?_
                            (try simp only [go_sem,q0,q1,q2,q3,q4,q5,q6,q7,d1,d8])
                            refine zh (in_ok r.draw 0 r.win) rfl (by simp only [go_sem,i64,ints,q0,q1,q2,q3,q4,q5,q6,q7,d1,d8]) (by simp only [go_sem,i64,ints,q0,q1,q2,q3,q4,q5,q6,q7,d1,d8]) (by first | exact .inl rfl | exact .inr rfl) ?_
                            (try simp only [go_sem,q0,q1,q2,q3,q4,q5,q6,q7,d1,d8])
                            intro _
                            refine zh (in_ok r.up 0 10) rfl (by simp only [go_sem,i64,ints,q0,q1,q2,q3,q4,q5,q6,q7,d1,d8]) (by simp only [go_sem,i64,ints,q0,q1,q2,q3,q4,q5,q6,q7,d1,d8]) (by first | exact .inl rfl | exact .inr rfl) ?_
                            (try simp only [go_sem,q0,q1,q2,q3,q4,q5,q6,q7,d1,d8])
                            refine zh (in_ok r.down 0 10) rfl (by simp only [go_sem,i64,ints,q0,q1,q2,q3,q4,q5,q6,q7,d1,d8]) (by simp only [go_sem,i64,ints,q0,q1,q2,q3,q4,q5,q6,q7,d1,d8]) (by first | exact .inl rfl | exact .inr rfl) ?_
                            (try simp only [go_sem,q0,q1,q2,q3,q4,q5,q6,q7,d1,d8]);(try simp (disch:=omega) only [zI]);refine hK _ ?_;clear hK K
                            refine ⟨(),trivial,zj [] ?_ ?_⟩
                            · try simp only [go_sem]
                              simp [refOk,q0,q1,q2,q3,q4,q5,q6,q7]
                              try omega
                            · try simp only [go_sem]
                          · have d1 : ((r.ded.length : Int) != 0) = true:=bne_iff_ne.2 d0
                            have d2 : ((r.ded.length : Int) != r.teams) = false:=bne_eq_false_iff_eq.2 (q4p.resolve_left d0)
                            refine zb fun K hK=>?_;simp only [go_sem,q0,q1,q2,q3,q4,q5,q6,q7,d1,d2,d8]
                            refine zh (in_ok r.teams 2 10) rfl (by simp only [go_sem,i64,ints,q0,q1,q2,q3,q4,q5,q6,q7,d1,d2,d8]) (by simp only [go_sem,i64,ints,q0,q1,q2,q3,q4,q5,q6,q7,d1,d2,d8]) (by first | exact .inl rfl | exact .inr rfl) ?_
                            (try simp only [go_sem,q0,q1,q2,q3,q4,q5,q6,q7,d1,d2,d8])
                            refine zh (in_ok r.legs 1 25) rfl (by simp only [go_sem,i64,ints,q0,q1,q2,q3,q4,q5,q6,q7,d1,d2,d8]) (by simp only [go_sem,i64,ints,q0,q1,q2,q3,q4,q5,q6,q7,d1,d2,d8]) (by first | exact .inl rfl | exact .inr rfl) ?_
                            (try simp only [go_sem,q0,q1,q2,q3,q4,q5,q6,q7,d1,d2,d8])
                            refine zh (in_ok r.win 0 9) rfl (by simp only [go_sem,i64,ints,q0,q1,q2,q3,q4,q5,q6,q7,d1,d2,d8]) (by simp only [go_sem,i64,ints,q0,q1,q2,q3,q4,q5,q6,q7,d1,d2,d8]) (by first | exact .inl rfl | exact .inr rfl) ?_
                            (try simp only [go_sem,q0,q1,q2,q3,q4,q5,q6,q7,d1,d2,d8])
                            refine zh (in_ok r.draw 0 r.win) rfl (by simp only [go_sem,i64,ints,q0,q1,q2,q3,q4,q5,q6,q7,d1,d2,d8]) (by simp only [go_sem,i64,ints,q0,q1,q2,q3,q4,q5,q6,q7,d1,d2,d8]) (by first | exact .inl rfl | exact .inr rfl) ?_
                            (try simp only [go_sem,q0,q1,q2,q3,q4,q5,q6,q7,d1,d2,d8])
                            repeat intro _
                            refine zh (in_ok r.up 0 10) rfl (by simp only [go_sem,i64,ints,q0,q1,q2,q3,q4,q5,q6,q7,d1,d2,d8]) (by simp only [go_sem,i64,ints,q0,q1,q2,q3,q4,q5,q6,q7,d1,d2,d8]) (by first | exact .inl rfl | exact .inr rfl) ?_
                            (try simp only [go_sem,q0,q1,q2,q3,q4,q5,q6,q7,d1,d2,d8])
                            refine zh (in_ok r.down 0 10) rfl (by simp only [go_sem,i64,ints,q0,q1,q2,q3,q4,q5,q6,q7,d1,d2,d8]) (by simp only [go_sem,i64,ints,q0,q1,q2,q3,q4,q5,q6,q7,d1,d2,d8]) (by first | exact .inl rfl | exact .inr rfl) ?_
                            (try simp only [go_sem,q0,q1,q2,q3,q4,q5,q6,q7,d1,d2,d8]);(try simp (disch:=omega) only [zI]);refine hK _ ?_;clear hK K
                            refine ⟨(),trivial,zj [] ?_ ?_⟩
                            · try simp only [go_sem]
                              simp [refOk,q0,q1,q2,q3,q4,q5,q6,q7]
                              try omega
                            · try simp only [go_sem]
 intro _ vs _
 refine zc rfl (fun hc=>?_) (fun hc=>?_) <;> (try simp only [go_sem] at hc)
 · have hf : rulesOk r = false:=by
    cases hr : rulesOk r with
    | false=>rfl
    | true=>rw [refOk_of (rulesOk_iff.1 hr)] at hc; simp at hc
   have hv : checkV r l = (0,2):=by unfold checkV; rw [if_neg hc0,if_pos hf]
   rw [hv]
   refine zq ?_
   refine zb fun K hK=>?_;simp only [go_sem];refine hK _ ?_;clear hK K;refine ze ?_;simp only [go_sem]
 have hrf : refOk r = true:=by simpa using hc
 refine zx ?_
 try simp only [go_sem]
 repeat refine zq ?_
 refine zb fun K hK=>?_;simp only [go_sem];refine hK _ ?_;clear hK K;refine zw (zk [1,2,6]) ?_;simp only [go_sem];refine zd ?_
 refine awp_uptoV (n:=162) r.ded.length (fun i vs=>[(1,.r (mtsR l)),(2,.r (.rp (trC r))),(6,.r (i64 (i : Int)))]) (fun _ _=>[]) (fun i=>∀ x ∈ r.ded.take i,inB x 0 99 = true) 0 (zj [] ?_ ?_) (Nat.zero_le _) (by simp) ?_
 · try simp only [go_sem]
   try rfl
 · try simp only [go_sem]
 · intro i vs hi hI
   repeat refine zq ?_
   refine zb fun K hK=>?_;simp only [go_sem]
   intro _
   refine hK _ ?_;clear hK K;refine zw (zk [1,2,6,82]) ?_;simp only [go_sem]
   refine zc rfl (fun hc=>?_) (fun hc=>?_) <;> (try simp only [go_sem] at hc)
   · have hil : i < r.ded.length:=by omega
     obtain ⟨x,hx⟩:=opt_of_lt hil
     have hxI:=w5 x (mem_of_opt hx)
     unfold I64 at hxI
     refine zx ?_
     try simp only [go_sem]
     refine zq ?_
     refine zd ?_
     refine zq ?_
     refine zb fun K hK=>?_;simp only [go_sem,hx,hil]
     refine zh (in_ok x 0 99) rfl (by simp only [go_sem,i64,ints]) (by simp only [go_sem,i64,ints]) (by first | exact .inl rfl | exact .inr rfl) ?_
     (try simp only [go_sem]);refine hK _ ?_;clear hK K;refine zw (zk [1,2,6,91]) ?_;simp only [go_sem]
     cases hb : inB x 0 99 with
     | false =>
       rw [show (decide (0 ≤ x) && decide (x ≤ 99)) = false from hb]
       refine zc rfl (fun hc=>?_) (fun hc=>?_) <;> (try simp only [go_sem] at hc)
       have hf : rulesOk r = false:=by
        cases hr : rulesOk r with
        | false=>rfl
        | true =>
          exfalso
          rcases (rulesOk_iff.1 hr).ded with h | ⟨_,h⟩
          · rw [h] at hil; simp at hil
          · have:=h x (mem_of_opt hx)
            simp [inB] at hb; omega
       have hv : checkV r l = (0,2):=by unfold checkV; rw [if_neg hc0,if_pos hf]
       rw [hv]
       refine zq ?_
       refine zb fun K hK=>?_;simp only [go_sem];refine hK _ ?_;clear hK K;refine ze ?_;simp only [go_sem]
     | true =>
       rw [show (decide (0 ≤ x) && decide (x ≤ 99)) = true from hb]
       refine zc rfl (fun hc=>?_) (fun hc=>?_) <;> (try simp only [go_sem] at hc)
       refine zx ?_
       try simp only [go_sem]
       refine zb fun K hK=>?_;simp only [go_sem];(try simp (disch:=omega) only [zI]);refine hK _ ?_;clear hK K
       try simp only [go_sem]
       refine ⟨by omega,fun z hz=>?_,zj [] ?_ ?_⟩
       · rw [take_of_opt hx,List.mem_append,List.mem_singleton] at hz
         rcases hz with hz | rfl
         · exact hI z hz
         · exact hb
       · try simp only [go_sem]
       · try simp only [go_sem]
   · have hil : i = r.ded.length:=by omega
     subst hil
     rw [List.take_length] at hI
     have hR:=of_refOk hrf hI
     have hrt:=rulesOk_iff.2 hR
     have ht:=hR.teams
     have hg:=hR.legs
     refine zf ?_;simp only [go_sem]
     repeat refine zq ?_
     refine zb fun K hK=>?_;simp only [go_sem];refine hK _ ?_;clear hK K;refine zw (zk [1,2,7]) ?_;simp only [go_sem];refine zd ?_
     refine awp_uptoV (n:=162) l.length (fun i vs=>[(1,.r (mtsR l)),(2,.r (.rp (trC r))),(7,.r (i64 (i : Int)))]) (fun _ _=>[]) (fun i=>∀ x ∈ l.take i,matchOk r x = true) 0 (zj [] ?_ ?_) (Nat.zero_le _) (by simp) ?_
     · try simp only [go_sem]
       try rfl
     · try simp only [go_sem]
     · intro i vs hi hI2
       repeat refine zq ?_
       refine zb fun K hK=>?_;simp only [go_sem]
       intro _
       refine hK _ ?_;clear hK K;refine zw (zk [1,2,7,95]) ?_;simp only [go_sem]
       refine zc rfl (fun hc=>?_) (fun hc=>?_) <;> (try simp only [go_sem] at hc)
       · have hil : i < l.length:=by omega
         obtain ⟨m,hm⟩:=opt_of_lt hil
         obtain ⟨m1,m2,m3,m4⟩:=hw.l m (mem_of_opt hm)
         unfold I64 at m1 m2 m3 m4
         have hbad : matchOk r m = false → checkV r l = ((i : Int),2):=fun hf=>by
          have hb : badM r l = i:=indexF_at (fun x hx=>by simp [hI2 x hx]) hm (by simp [hf])
          unfold checkV
          rw [if_neg hc0,if_neg (by simp [hrt]),hb,if_pos (by omega)]
         refine zx ?_
         try simp only [go_sem]
         refine zq ?_
         refine zd ?_
         refine zq ?_
         refine zb fun K hK=>?_;simp only [go_sem,hm,hil];refine hK _ ?_;clear hK K;refine zw (sub_frzP 8 8 (mtR m) (by omega) rfl rfl) ?_;refine zw (zk [1,2,7,8]) ?_;simp only [go_sem]
         repeat refine zq ?_
         refine awp_joinV (n:=162) (fun (_ : Unit) vs=>[(1,.r (mtsR l)),(2,.r (.rp (trC r))),(7,.r (i64 (i : Int))),(8,.r (.rp (mtR m))),(124,.r (.bo (!hB r m)))]) (fun _ vs=>[]) (fun _=>True) (fun _ h=>h) ?_ ?_
         · cases q0 : inB m.h 0 (r.teams - 1) with
           | false =>
             refine zb fun K hK=>?_;simp only [go_sem,q0];(try simp (disch:=omega) only [zI])
             refine zh (in_ok m.h 0 (r.teams - 1)) rfl (by simp only [go_sem,i64,ints,q0]) (by simp only [go_sem,i64,ints,q0]) (by first | exact .inl rfl | exact .inr rfl) ?_
             (try simp only [go_sem,q0]);refine hK _ ?_;clear hK K
             refine ⟨(),trivial,zj [] ?_ ?_⟩
             · try simp only [go_sem]
               simp [hB,q0]
             · try simp only [go_sem]
           | true =>
             cases q1 : inB m.a 0 (r.teams - 1) with
             | false =>
               refine zb fun K hK=>?_;simp only [go_sem,q0,q1];(try simp (disch:=omega) only [zI])
               refine zh (in_ok m.h 0 (r.teams - 1)) rfl (by simp only [go_sem,i64,ints,q0,q1]) (by simp only [go_sem,i64,ints,q0,q1]) (by first | exact .inl rfl | exact .inr rfl) ?_
               (try simp only [go_sem,q0,q1]);(try simp (disch:=omega) only [zI])
               refine zh (in_ok m.a 0 (r.teams - 1)) rfl (by simp only [go_sem,i64,ints,q0,q1]) (by simp only [go_sem,i64,ints,q0,q1]) (by first | exact .inl rfl | exact .inr rfl) ?_
               (try simp only [go_sem,q0,q1]);refine hK _ ?_;clear hK K
               refine ⟨(),trivial,zj [] ?_ ?_⟩
               · try simp only [go_sem]
                 simp [hB,q0,q1]
               · try simp only [go_sem]
             | true =>
               refine zb fun K hK=>?_;simp only [go_sem,q0,q1];(try simp (disch:=omega) only [zI])
               refine zh (in_ok m.h 0 (r.teams - 1)) rfl (by simp only [go_sem,i64,ints,q0,q1]) (by simp only [go_sem,i64,ints,q0,q1]) (by first | exact .inl rfl | exact .inr rfl) ?_
               (try simp only [go_sem,q0,q1]);(try simp (disch:=omega) only [zI])
               refine zh (in_ok m.a 0 (r.teams - 1)) rfl (by simp only [go_sem,i64,ints,q0,q1]) (by simp only [go_sem,i64,ints,q0,q1]) (by first | exact .inl rfl | exact .inr rfl) ?_
               (try simp only [go_sem,q0,q1]);refine hK _ ?_;clear hK K
               refine ⟨(),trivial,zj [] ?_ ?_⟩
               · try simp only [go_sem]
                 simp [hB,q0,q1]
                 try simp [bne]
               · try simp only [go_sem]
         intro _ vs _
         cases hhb : hB r m with
         | false =>
           rw [hbad (by rw [matchOk_hg,hhb]; rfl)]
           refine zc rfl (fun hc=>?_) (fun hc=>?_) <;> (try simp only [go_sem] at hc)
           refine zq ?_
           refine zb fun K hK=>?_;simp only [go_sem];refine hK _ ?_;clear hK K;refine ze ?_;simp only [go_sem]
         | true =>
           refine zc rfl (fun hc=>?_) (fun hc=>?_) <;> (try simp only [go_sem] at hc)
           refine zx ?_
           try simp only [go_sem]
           refine zq ?_
           refine awp_joinV (n:=162) (fun (_ : Unit) vs=>[(1,.r (mtsR l)),(2,.r (.rp (trC r))),(7,.r (i64 (i : Int))),(160,.r (.bo (!gB r m)))]) (fun _ vs=>[]) (fun _=>True) (fun _ h=>h) ?_ ?_
           · cases hp : m.p with
             | true =>
               cases q3 : inB m.f 0 r.legs with
               | false =>
                 refine zb fun K hK=>?_;simp only [go_sem,hp,q3]
                 refine zh (in_ok m.f 0 r.legs) rfl (by simp only [go_sem,i64,ints,hp,q3]) (by simp only [go_sem,i64,ints,hp,q3]) (by first | exact .inl rfl | exact .inr rfl) ?_
                 (try simp only [go_sem,hp,q3]);refine hK _ ?_;clear hK K
                 refine ⟨(),trivial,zj [] ?_ ?_⟩
                 · try simp only [go_sem]
                   simp [gB,hp,q3]
                 · try simp only [go_sem]
               | true =>
                 have u3:=q3
                 simp only [Bool.and_eq_true,decide_eq_true_eq] at u3
                 have hww : IntKind.i64.wrap (r.legs - m.f) = r.legs - m.f:=by rw [zI] <;> omega
                 cases q4 : (m.g != r.legs - m.f) with
                 | true =>
                   refine zb fun K hK=>?_;simp only [go_sem,hp,q3,q4,hww]
                   refine zh (in_ok m.f 0 r.legs) rfl (by simp only [go_sem,i64,ints,hp,q3,q4,hww]) (by simp only [go_sem,i64,ints,hp,q3,q4,hww]) (by first | exact .inl rfl | exact .inr rfl) ?_
                   (try simp only [go_sem,hp,q3,q4,hww]);refine hK _ ?_;clear hK K
                   refine ⟨(),trivial,zj [] ?_ ?_⟩
                   · try simp only [go_sem]
                     simp [gB,hp,q3,q4]
                   · try simp only [go_sem]
                 | false =>
                   refine zb fun K hK=>?_;simp only [go_sem,hp,q3,q4,hww]
                   refine zh (in_ok m.f 0 r.legs) rfl (by simp only [go_sem,i64,ints,hp,q3,q4,hww]) (by simp only [go_sem,i64,ints,hp,q3,q4,hww]) (by first | exact .inl rfl | exact .inr rfl) ?_
                   (try simp only [go_sem,hp,q3,q4,hww]);refine hK _ ?_;clear hK K
                   refine ⟨(),trivial,zj [] ?_ ?_⟩
                   · try simp only [go_sem]
                     simp [gB,hp,q3,q4]
                   · try simp only [go_sem]
             | false =>
               cases q5 : (m.f != 0) with
               | true =>
                 refine zb fun K hK=>?_;simp only [go_sem,hp,q5];refine hK _ ?_;clear hK K
                 refine ⟨(),trivial,zj [] ?_ ?_⟩
                 · try simp only [go_sem]
                   simp [gB,hp,q5]
                 · try simp only [go_sem]
               | false =>
                 refine zb fun K hK=>?_;simp only [go_sem,hp,q5];refine hK _ ?_;clear hK K
                 refine ⟨(),trivial,zj [] ?_ ?_⟩
                 · try simp only [go_sem]
                   simp [gB,hp,q5]
                 · try simp only [go_sem]
           intro _ vs _
           cases hgb : gB r m with
           | false =>
             rw [hbad (by rw [matchOk_hg,hgb,Bool.and_false])]
             refine zc rfl (fun hc=>?_) (fun hc=>?_) <;> (try simp only [go_sem] at hc)
             refine zq ?_
             refine zb fun K hK=>?_;simp only [go_sem];refine hK _ ?_;clear hK K;refine ze ?_;simp only [go_sem]
           | true =>
             refine zc rfl (fun hc=>?_) (fun hc=>?_) <;> (try simp only [go_sem] at hc)
             refine zx ?_
             try simp only [go_sem]
             refine zb fun K hK=>?_;simp only [go_sem];(try simp (disch:=omega) only [zI]);refine hK _ ?_;clear hK K
             try simp only [go_sem]
             refine ⟨by omega,fun z hz=>?_,zj [] ?_ ?_⟩
             · rw [take_of_opt hm,List.mem_append,List.mem_singleton] at hz
               rcases hz with hz | rfl
               · exact hI2 z hz
               · rw [matchOk_hg,hhb,hgb]; rfl
             · try simp only [go_sem]
             · try simp only [go_sem]
       · have hil : i = l.length:=by omega
         subst hil
         rw [List.take_length] at hI2
         have hv : checkV r l = (0,0):=by
          have hb : badM r l = -1:=indexF_none fun x hx=>by simp [hI2 x hx]
          unfold checkV
          rw [if_neg hc0,if_neg (by simp [hrt]),hb,if_neg (by omega)]
         rw [hv]
         refine zf ?_;simp only [go_sem]
         refine zq ?_
         refine zb fun K hK=>?_;simp only [go_sem];refine hK _ ?_;clear hK K;refine ze ?_;simp only [go_sem]
def ctr (r : Tr) (m : Mt) (x : Int) (i : Nat) : Int:=(if m.h.toNat = i then (ptsV r x).1 else 0) + (if m.a.toNat = i then (ptsV r x).2 else 0)
def ctrs (r : Tr) : List Mt → List Int → Nat → Int
 | m :: ms,x :: xs,i=>ctr r m x i + ctrs r ms xs i
 | _,_,_=>0
def truthOf (r : Tr) (left : List Mt) (t : Th) (res : List Int) : Th :=
 ⟨t.res ++ res,(List.range 10).map fun i=>t.pts.getD i 0 + ctrs r left res i,(List.range 10).map fun i=>t.won.getD i 0 + ctrs r left res i⟩
def resL (r : Tr) : Nat → List (List Int)
 | 0=>[[]]
 | n + 1=>(xsOf r).flatMap fun x=>(resL r n).map (x :: ·)
theorem getD_set (l : List Int) (h : Nat) (v : Int) (i : Nat) (hh : h < l.length) : (l.set h v).getD i 0 = if h = i then v else l.getD i 0:=by
 rw [List.getD_eq_getElem?_getD,List.getElem?_set,List.getD_eq_getElem?_getD]
 by_cases e : h = i
 · subst e; rw [if_pos rfl,if_pos rfl,if_pos hh]; rfl
 · rw [if_neg e,if_neg e]
theorem bump_getD (l : List Int) (h a : Nat) (p q : Int) (i : Nat) (hh : h < l.length) (ha : a < l.length) (hne : h ≠ a) : (bump l h a p q).getD i 0 = l.getD i 0 + ((if h = i then p else 0) + (if a = i then q else 0)):=by
 unfold bump
 rw [getD_set _ _ _ _ (by simpa using ha),getD_set _ _ _ _ hh]
 by_cases e : a = i
 · subst e; rw [if_pos rfl,if_pos rfl,if_neg hne]; omega
 · by_cases e2 : h = i
   · subst e2; rw [if_neg e,if_neg e,if_pos rfl,if_pos rfl]; omega
   · rw [if_neg e,if_neg e,if_neg e2,if_neg e2]; omega
theorem range_getD (l : List Int) (h : l.length = 10) : (List.range 10).map (fun i=>l.getD i 0) = l:=by
 refine List.ext_getElem? fun i=>?_
 rw [List.getElem?_map]
 by_cases hi : i < 10
 · rw [List.getElem?_range hi,Option.map_some,List.getD_eq_getElem?_getD,List.getElem?_eq_getElem (by omega)]; rfl
 · rw [List.getElem?_eq_none (by simp; omega),List.getElem?_eq_none (by omega)]; rfl
theorem truthOf_nil (r : Tr) (t : Th) (h : t.pts.length = 10) (h2 : t.won.length = 10) : truthOf r [] t [] = t:=by
 unfold truthOf
 simp only [ctrs,Int.add_zero,List.append_nil];rw [range_getD _ h,range_getD _ h2]
theorem truthOf_cons (r : Tr) (m : Mt) (ms : List Mt) (t : Th) (x : Int) (xs : List Int) (h : t.pts.length = 10) (h2 : t.won.length = 10) (hh : m.h.toNat < 10) (ha : m.a.toNat < 10) (hne : m.h.toNat ≠ m.a.toNat) :
 truthOf r ms (nextT r m x t) xs = truthOf r (m :: ms) t (x :: xs):=by
 unfold truthOf nextT
 simp only [ctrs,List.append_assoc,List.cons_append,List.nil_append]
 congr 1
 · refine List.map_congr_left fun i _=>?_
   rw [bump_getD _ _ _ _ _ _ (by omega) (by omega) hne]
   unfold ctr; omega
 · refine List.map_congr_left fun i _=>?_
   rw [bump_getD _ _ _ _ _ _ (by omega) (by omega) hne]
   unfold ctr; omega
theorem flatMap_ext {α β : Type} {l : List α} {f g : α → List β} (h : ∀ x ∈ l,f x = g x) : l.flatMap f = l.flatMap g:=by
 induction l with
 | nil=>rfl
 | cons x l ih=>rw [List.flatMap_cons,List.flatMap_cons,h x (by simp),ih fun y hy=>h y (by simp [hy])]
theorem truthsV_eq {r : Tr} (hr : RulesI r) : ∀ (left : List Mt) (t : Th),(∀ m ∈ left,MatchI r m) → t.pts.length = 10 → t.won.length = 10 →
 truthsV r left t = (resL r left.length).map (truthOf r left t)
 | [],t,_,h1,h2=>by simp only [truthsV,resL,List.length_nil,List.map_cons,List.map_nil]; rw [truthOf_nil r t h1 h2]
 | m :: ms, t, hm, h1, h2 => by
   have hmi:=hm m (by simp)
   have b1:=hmi.h
   have b2:=hmi.a
   have b3:=hmi.ne
   have b4:=hr.teams
   simp only [truthsV,resL,List.length_cons,List.map_flatMap,List.map_map]
   refine flatMap_ext fun x _=>?_
   rw [truthsV_eq hr ms _ (fun m' h=>hm m' (by simp [h])) (by simp [nextT,bump_len,h1]) (by simp [nextT,bump_len,h2])]
   refine List.map_congr_left fun xs _=>?_
   exact truthOf_cons r m ms t x xs h1 h2 (by omega) (by omega) (by omega)
theorem left_mem {r : Tr} {l : List Mt} (h : ∀ m ∈ l,MatchI r m) : ∀ m ∈ leftV l,MatchI r m:=fun m hm=>h m ((List.mem_filter.1 hm).1)
theorem start_len {r : Tr} (hr : RulesI r) (l : List Mt) : (startT r l).pts.length = 10 ∧ (startT r l).won.length = 10:=by
 obtain ⟨hn,hn2,hn10⟩:=nT_eq hr
 refine ⟨?_,by simp [startT]⟩
 simp only [startT,List.length_append,ptsL_len,List.length_replicate]; omega
theorem truthsL_eq {r : Tr} (hr : RulesI r) {l : List Mt} (hl : ∀ m ∈ l,MatchI r m) : truthsL r l = (resL r (leftV l).length).map (truthOf r (leftV l) (startT r l)) :=
 truthsV_eq hr _ _ (left_mem hl) (start_len hr l).1 (start_len hr l).2
theorem resL_snoc (r : Tr) : ∀ n,resL r (n + 1) = (resL r n).flatMap fun ds=>(xsOf r).map fun x=>ds ++ [x]
 | 0 => by
   simp only [resL,List.flatMap_cons,List.flatMap_nil,List.append_nil,List.map_cons,List.map_nil,List.nil_append]
   induction xsOf r with
   | nil=>rfl
   | cons x xs ih=>simp only [List.flatMap_cons,ih,List.map_cons]; rfl
 | n + 1 => by
   rw [show resL r (n + 2) = (xsOf r).flatMap fun x=>(resL r (n + 1)).map (x :: ·) from rfl]
   conv=>lhs; rw [resL_snoc r n]
   rw [show resL r (n + 1) = (xsOf r).flatMap fun x=>(resL r n).map (x :: ·) from rfl,List.flatMap_assoc]
   refine flatMap_ext fun x _=>?_
   rw [List.map_flatMap,List.flatMap_map]
   refine flatMap_ext fun ds _=>?_
   rw [List.map_map]
   rfl
def digS : Nat → Nat → List Int
 | 0,_=>[]
 | n + 1,x=>digS n (x / 3) ++ [((x % 3 : Nat) : Int)]
theorem digS_len : ∀ n x,(digS n x).length = n
 | 0,x=>rfl
 | n + 1,x=>by simp [digS,digS_len n]
theorem digS_cons : ∀ n x,digS (n + 1) x = ((x / 3 ^ n % 3 : Nat) : Int) :: digS n x
 | 0,x=>by simp [digS]
 | n + 1, x => by
   rw [show digS (n + 2) x = digS (n + 1) (x / 3) ++ [((x % 3 : Nat) : Int)] from rfl,digS_cons n (x / 3),Nat.div_div_eq_div_mul,← Nat.pow_succ']
   rfl
def okX (r : Tr) (x : Int) : Bool:=x != 1 || r.legs % 2 == 0
def okD (r : Tr) (n x : Nat) : Bool:=(digS n x).all (okX r)
theorem range_mul3 : ∀ k,List.range (3 * k) = (List.range k).flatMap fun y=>[3 * y,3 * y + 1,3 * y + 2]
 | 0=>rfl
 | k + 1 => by
   rw [show 3 * (k + 1) = 3 * k + 1 + 1 + 1 by omega,List.range_succ,List.range_succ,List.range_succ,range_mul3 k,List.range_succ,List.flatMap_append]
   simp [List.append_assoc]
theorem xsOf_eq {r : Tr} : xsOf r = [0,1,2].filter (okX r):=by
 unfold xsOf okX
 by_cases h : r.legs % 2 = 1
 · rw [if_pos h]
   have : (r.legs % 2 == 0) = false:=by rw [h]; rfl
   simp [this]
 · rw [if_neg h]
   have h0 : r.legs % 2 = 0:=by omega
   simp [h0]
theorem digs_res (r : Tr) : ∀ n,((List.range (3 ^ n)).filter (okD r n)).map (digS n) = resL r n
 | 0=>by rfl
 | n + 1 => by
   rw [resL_snoc,← digs_res r n,Nat.pow_succ',range_mul3,List.filter_flatMap,List.map_flatMap,List.flatMap_map]
   have hsplit : ∀ (L : List Nat),(L.flatMap fun y=>(([3 * y,3 * y + 1,3 * y + 2].filter (okD r (n + 1))).map (digS (n + 1)))) = (L.filter (okD r n)).flatMap fun y=>(xsOf r).map fun x=>digS n y ++ [x]:=by
    intro L
    induction L with
    | nil=>rfl
    | cons y L ih =>
      rw [List.flatMap_cons,ih]
      have e0 : 3 * y / 3 = y ∧ 3 * y % 3 = 0:=by omega
      have e1 : (3 * y + 1) / 3 = y ∧ (3 * y + 1) % 3 = 1:=by omega
      have e2 : (3 * y + 2) / 3 = y ∧ (3 * y + 2) % 3 = 2:=by omega
      have o : ∀ z,okD r (n + 1) z = (okD r n (z / 3) && okX r ((z % 3 : Nat) : Int)):=fun z=>by unfold okD; simp [digS,List.all_append]
      have d : ∀ z,digS (n + 1) z = digS n (z / 3) ++ [((z % 3 : Nat) : Int)]:=fun z=>rfl
      rw [List.filter_cons (xs:=L)]
      have hf : ([3 * y,3 * y + 1,3 * y + 2].filter (okD r (n + 1))).map (digS (n + 1)) = if okD r n y then (xsOf r).map fun x=>digS n y ++ [x] else []:=by
       cases hy : okD r n y with
       | false=>simp [List.filter_cons,o,e0,e1,e2,hy]
       | true =>
         rw [xsOf_eq]
         simp only [List.filter_cons,o,e0,e1,e2,hy,Bool.true_and]
         cases a0 : okX r 0 <;> cases a1 : okX r 1 <;> cases a2 : okX r 2 <;> simp [a0,a1,a2,d,e0,e1,e2]
      rw [hf]
      cases hy : okD r n y <;> simp
   exact hsplit _
set_option maxRecDepth 8000
set_option maxHeartbeats 4000000
theorem ctr_le {r : Tr} (hr : RulesI r) (m : Mt) (x : Int) (i : Nat) : 0 ≤ ctr r m x i ∧ ctr r m x i ≤ 18:=by
 have:=ptsV_le hr x
 unfold ctr; split <;> split <;> omega
theorem ctrs_le {r : Tr} (hr : RulesI r) (i : Nat) : ∀ (ms : List Mt) (xs : List Int),0 ≤ ctrs r ms xs i ∧ ctrs r ms xs i ≤ 18 * ms.length
 | [],xs=>by simp [ctrs]
 | m :: ms,[]=>by simp [ctrs]; omega
 | m :: ms, x :: xs => by
   have h1:=ctr_le hr m x i
   have h2:=ctrs_le hr i ms xs
   simp only [ctrs,List.length_cons]; omega
theorem truthOf_wf {r : Tr} (hr : RulesI r) {B : Int} (hB : 0 ≤ B) {t : Th} (ht : WfT B t) {ms : List Mt} {xs : List Int} (hl : t.res.length + xs.length ≤ 500) : WfT (B + 18 * ms.length) (truthOf r ms t xs):=by
 refine ⟨by simp [truthOf],by simp [truthOf],fun x hx=>?_,fun x hx=>?_,by simp [truthOf]; omega⟩
 · simp only [truthOf,List.mem_map] at hx
   obtain ⟨i,_,rfl⟩:=hx
   have h1:=ctrs_le hr i ms xs
   have h2:=getD_le ht.pb hB i
   omega
 · simp only [truthOf,List.mem_map] at hx
   obtain ⟨i,_,rfl⟩:=hx
   have h1:=ctrs_le hr i ms xs
   have h2:=getD_le ht.wb hB i
   omega
theorem rangeF_getD (f : Nat → Int) (i : Nat) (h : i < 10) : ((List.range 10).map f).getD i 0 = f i:=by
 rw [List.getD_eq_getElem?_getD,List.getElem?_map,List.getElem?_range h]; rfl
theorem ext10 {A B : List Int} (ha : A.length = 10) (hb : B.length = 10) (h : ∀ i,i < 10 → A.getD i 0 = B.getD i 0) : A = B:=by
 refine List.ext_getElem? fun i=>?_
 by_cases hi : i < 10
 · have:=h i hi
   rw [List.getD_eq_getElem?_getD,List.getD_eq_getElem?_getD,List.getElem?_eq_getElem (by omega),List.getElem?_eq_getElem (by omega)] at this
   rw [List.getElem?_eq_getElem (by omega),List.getElem?_eq_getElem (by omega)]
   exact congrArg some this
 · rw [List.getElem?_eq_none (by omega),List.getElem?_eq_none (by omega)]
theorem truthOf_bump (r : Tr) (m : Mt) (ms : List Mt) (t : Th) (x : Int) (xs : List Int) (h a : Nat) (hh : m.h = h) (ha : m.a = a) (hh10 : h < 10) (ha10 : a < 10) (hne : h ≠ a) :
 bump (truthOf r ms t xs).pts h a (ptsV r x).1 (ptsV r x).2 = (truthOf r (m :: ms) t (x :: xs)).pts ∧ bump (truthOf r ms t xs).won h a (ptsV r x).1 (ptsV r x).2 = (truthOf r (m :: ms) t (x :: xs)).won:=by
 have e1 : m.h.toNat = h:=by omega
 have e2 : m.a.toNat = a:=by omega
 constructor
 · refine ext10 (by simp [bump_len,truthOf]) (by simp [truthOf]) fun i hi=>?_
   rw [bump_getD _ _ _ _ _ _ (by simpa [truthOf] using hh10) (by simpa [truthOf] using ha10) hne]
   simp only [truthOf];rw [rangeF_getD _ _ hi,rangeF_getD _ _ hi]
   simp only [ctrs,ctr,e1,e2]
   omega
 · refine ext10 (by simp [bump_len,truthOf]) (by simp [truthOf]) fun i hi=>?_
   rw [bump_getD _ _ _ _ _ _ (by simpa [truthOf] using hh10) (by simpa [truthOf] using ha10) hne]
   simp only [truthOf];rw [rangeF_getD _ _ hi,rangeF_getD _ _ hi]
   simp only [ctrs,ctr,e1,e2]
   omega
theorem truthOf_pts0 (r : Tr) (t : Th) (h : t.pts.length = 10) : (truthOf r [] t []).pts = t.pts:=by
 unfold truthOf; simp only [ctrs,Int.add_zero]; exact range_getD _ h
theorem truthOf_won0 (r : Tr) (t : Th) (h : t.won.length = 10) : (truthOf r [] t []).won = t.won:=by
 unfold truthOf; simp only [ctrs,Int.add_zero]; exact range_getD _ h
theorem head_cells (L : List Int) (i : Nat) (h : i < L.length) : (List.drop i (L.map aI)).headD (AV.r RV.un) = .r (i64 (L.getD i 0)):=by
 rw [List.headD_eq_head?_getD,List.head?_drop,List.getElem?_map,List.getD_eq_getElem?_getD,List.getElem?_eq_getElem h]; rfl
theorem bnd_app {P W : List Int} {B : Int} (h1 : ∀ x ∈ P,-1000 ≤ x ∧ x ≤ B) (h2 : ∀ x ∈ W,-1000 ≤ x ∧ x ≤ B) (hB : 0 ≤ B) : ∀ i,-1000 ≤ (P ++ W).getD i 0 ∧ (P ++ W).getD i 0 ≤ B :=
 getD_le (fun x hx=>(List.mem_append.1 hx).elim (h1 x) (h2 x)) hB
theorem bnd_set {L : List Int} {B p : Int} (h : ∀ i,-1000 ≤ L.getD i 0 ∧ L.getD i 0 ≤ B) (h0 : 0 ≤ p) (h9 : p ≤ 9) (e : Nat) : ∀ i,-1000 ≤ (L.set e (L.getD e 0 + p)).getD i 0 ∧ (L.set e (L.getD e 0 + p)).getD i 0 ≤ B + 9:=fun i=>by
 have h1:=h i
 have h2:=h e
 by_cases he : e < L.length
 · rw [getD_set _ _ _ _ he]; split <;> omega
 · rw [List.set_eq_of_length_le (by omega)]; omega
theorem bump_all (P W : List Int) (h a : Nat) (p q : Int) (hP : P.length = 10) (hW : W.length = 10) (hh : h < 10) (ha : a < 10) (hne : h ≠ a) :
 ((((P ++ W).set h ((P ++ W).getD h 0 + p)).set (10 + h) (((P ++ W).set h ((P ++ W).getD h 0 + p)).getD (10 + h) 0 + p)).set a ((((P ++ W).set h ((P ++ W).getD h 0 + p)).set (10 + h) (((P ++ W).set h ((P ++ W).getD h 0 + p)).getD (10 + h) 0 + p)).getD a 0 + q)).set (10 + a) (((((P ++ W).set h ((P ++ W).getD h 0 + p)).set (10 + h) (((P ++ W).set h ((P ++ W).getD h 0 + p)).getD (10 + h) 0 + p)).set a ((((P ++ W).set h ((P ++ W).getD h 0 + p)).set (10 + h) (((P ++ W).set h ((P ++ W).getD h 0 + p)).getD (10 + h) 0 + p)).getD a 0 + q)).getD (10 + a) 0 + q) = bump P h a p q ++ bump W h a p q:=by
 rw [getD_app1 (by omega),app_set1 (by omega),getD_app2 (by simp [hP]),app_set2 (by simp [hP]),getD_app1 (by simp [hP]; omega),app_set1 (by simp [hP]; omega),getD_app2 (by simp [hP]),app_set2 (by simp [hP])]
 rw [getD_set _ _ _ _ (by omega),if_neg hne,getD_set _ _ _ _ (by omega),if_neg hne]
 rfl
theorem roL_map : ∀ l : List RV,roL (l.map AV.r) = some l
 | []=>rfl
 | x :: l=>by simp [roL,roL_map l]
def outT (r : Tr) (left : List Mt) (t0 : Th) (x : Nat) : List Th:=((List.range x).filter (okD r left.length)).map fun y=>truthOf r left t0 (digS left.length y)
theorem outT_succ (r : Tr) (left : List Mt) (t0 : Th) (x : Nat) : outT r left t0 (x + 1) = outT r left t0 x ++ (if okD r left.length x then [truthOf r left t0 (digS left.length x)] else []):=by
 unfold outT
 rw [List.range_succ,List.filter_append,List.map_append]
 cases h : okD r left.length x <;> simp [h]
theorem outT_len (r : Tr) (left : List Mt) (t0 : Th) (x : Nat) : (outT r left t0 x).length ≤ x:=by
 unfold outT
 rw [List.length_map]
 have:=List.length_filter_le (okD r left.length) (List.range x)
 rwa [List.length_range] at this
theorem outT_all {r : Tr} (hr : RulesI r) {l : List Mt} (hl : ∀ m ∈ l,MatchI r m) : outT r (leftV l) (startT r l) (3 ^ (leftV l).length) = truthsL r l:=by
 rw [truthsL_eq hr hl,← digs_res]
 unfold outT
 rw [List.map_map]
 rfl
theorem pow3_le : ∀ n,n ≤ 10 → 3 ^ n ≤ 59049:=fun n hn=>by
 have : (3 : Nat) ^ n ≤ 3 ^ 10:=Nat.pow_le_pow_right (by omega) hn
 simpa using this
theorem refTruths_ok (r : Tr) (hr : RulesI r) (l : List Mt) (hl : ∀ m ∈ l,MatchI r m) (hll : l.length ≤ 180) (hle : (leftV l).length ≤ 10) : ACalls Try.prog 33 [trV r,mtsR l] (thsR (truthsL r l)):=by
 obtain ⟨hn,hn2,hn10⟩:=nT_eq hr
 have hn' : r.teams = (nT r : Int):=hn.symm
 have hlf:=refLeft_ok l (by omega)
 have hro:=fun x hx=>refRow_ok r hr l hl (by omega) x hx
 have hlm:=left_mem hl
 have hst0:=wf_start hr hl hll
 rw [← outT_all hr hl]
 have hS : ∃ S,S = startT r l:=⟨_,rfl⟩
 refine acalls_st (rs:=[thsR (outT r (leftV l) (startT r l) (3 ^ (leftV l).length))]) [.tmp 4] Try.func33 rfl (by kernel_rfl) Try.ntmps33 rfl (by simp) rfl fun C vs=>?_
 refine zq ?_
 refine zb fun K hK=>?_;simp only [go_sem];refine hK _ ?_;clear hK K;refine zw (sub_frzP 2 2 (trC r) (by omega) rfl rfl) ?_;refine zw (zk [1,2]) ?_;simp only [go_sem]
 refine zq ?_
 refine zb fun K hK=>?_;simp only [go_sem]
 refine zh (hlf) rfl (by simp only [go_sem,i64,ints]) (by simp only [go_sem,i64,ints]) (by first | exact .inl rfl | exact .inr rfl) ?_
 (try simp only [go_sem]);refine hK _ ?_;clear hK K;refine zw (sub_own 7 146 60 21 (by omega) rfl) ?_;refine zw (zk [1,2,5,6,7]) ?_;simp only [go_sem]
 have hrow : ∀ i,i < nT r → (ptsL r l)[i]? = some (rowT r l i).pts:=fun i hi=>by
  unfold ptsL rowsL; rw [List.getElem?_map,List.getElem?_map,List.getElem?_range hi]; rfl
 have hstp : (startT r l).pts ++ (startT r l).won = ptsK r l (nT r):=by
  unfold startT ptsK
  rw [List.take_of_length_le (by rw [ptsL_len]; omega),List.append_assoc,List.replicate_append_replicate]
  congr 2; omega
 have hstr : (startT r l).res = []:=rfl
 generalize leftV l = left at *
 repeat refine zq ?_
 refine zb fun K hK=>?_;simp only [go_sem];refine hK _ ?_;clear hK K;refine zw (zk [1,2,5,6,7,8]) ?_;simp only [go_sem];refine zd ?_
 refine awp_uptoV (n:=148) left.length (fun i vs=>[(1,.r (mtsR l)),(2,.r (.rp (trC r))),(5,.r (mtsR left)),(6,.r (i64 ((3 ^ i : Nat) : Int))),(7,.os 146 (vs 146) 21 0 0),(8,.r (i64 (i : Int)))])
  (fun i vs=>[(146,.arr 60 21 [])]) (fun _=>True) 0 (zj [] ?_ ?_) (Nat.zero_le _) trivial ?_
 · try simp only [go_sem]
   try rfl
 · try simp only [go_sem]
 · intro i vs hi _
   repeat refine zq ?_
   refine zb fun K hK=>?_;simp only [go_sem]
   intro _
   refine hK _ ?_;clear hK K;refine zw (zk [1,2,5,6,7,8,24]) ?_;simp only [go_sem]
   refine zc rfl (fun hc=>?_) (fun hc=>?_) <;> (try simp only [go_sem] at hc)
   · have hil : i < left.length:=by omega
     have hpw:=pow3_le i (by omega)
     have hps : ((3 ^ i : Nat) : Int) * 3 = ((3 ^ (i + 1) : Nat) : Int):=by rw [Nat.pow_succ]; omega
     have hpl:=pow3_le (i + 1) (by omega)
     generalize 3 ^ (i + 1) = p' at *
     generalize 3 ^ i = p at *
     refine zx ?_
     try simp only [go_sem]
     refine zq ?_
     refine zd ?_;refine zb fun K hK=>?_;simp only [go_sem];(try simp (disch:=omega) only [zI]);refine hK _ ?_;clear hK K;refine zw (zk [1,2,5,6,7,8]) ?_;simp only [go_sem];refine zb fun K hK=>?_;simp only [go_sem];(try simp (disch:=omega) only [zI]);refine hK _ ?_;clear hK K
     try simp only [go_sem]
     refine ⟨by omega,zj [] ?_ ?_⟩
     · try simp only [go_sem]
       try rw [hps]
     · try simp only [go_sem]
   · have hil : i = left.length:=by omega
     subst hil
     have hpw:=pow3_le left.length (by omega)
     refine zf ?_;simp only [go_sem]
     generalize hAll : 3 ^ left.length = all at *
     refine zq ?_
     refine zb fun K hK=>?_;simp only [go_sem];refine hK _ ?_;clear hK K;refine zw (zk [1,2,5,6,7,9]) ?_;simp only [go_sem]
     repeat refine zq ?_
     refine zb fun K hK=>?_;simp only [go_sem];refine hK _ ?_;clear hK K;refine zw (zk [1,2,5,6,7,9,10]) ?_;simp only [go_sem];refine zd ?_
     refine awp_uptoV (n:=148) (nT r) (fun i vs=>[(1,.r (mtsR l)),(2,.r (.rp (trC r))),(5,.r (mtsR left)),(6,.r (i64 (all : Int))),(7,.os 146 (vs 146) 21 0 0),(9,.pt 9 (vs 9) 0),(10,.r (i64 (i : Int)))])
      (fun i vs=>[(9,.box (.r .ns :: (ptsK r l i).map aI)),(146,.arr 60 21 [])]) (fun _=>True) 0 (zj [] ?_ ?_) (Nat.zero_le _) trivial ?_
     · try simp only [go_sem]
       try rfl
     · try simp only [go_sem]
       rfl
     · intro i vs hi _
       repeat refine zq ?_
       refine zb fun K hK=>?_;simp only [go_sem,hn'];refine hK _ ?_;clear hK K;refine zw (zk [1,2,5,6,7,9,10,33]) ?_;simp only [go_sem]
       refine zc rfl (fun hc=>?_) (fun hc=>?_) <;> (try simp only [go_sem] at hc)
       · have hci : i < nT r:=by omega
         have hset:=ptsK_set (hrow i hci) hn10
         have hKl:=ptsK_len (r:=r) (l:=l) (i:=i) (by omega) hn10
         have hroi:=hro i hci
         generalize rowT r l i = x at *
         generalize ptsK r l i = L at hset hKl ⊢
         refine zx ?_
         try simp only [go_sem]
         refine zq ?_
         refine zd ?_
         have d1 : ∀ M : List AV,List.drop (1 + i) (AV.r RV.ns :: M) = M.drop i:=fun M=>by rw [Nat.add_comm]; rfl
         have d2 : ∀ M : List AV,List.take (1 + i) (AV.r RV.ns :: M) = AV.r RV.ns :: M.take i:=fun M=>by rw [Nat.add_comm]; rfl
         have d3 : ∀ M : List AV,List.drop (1 + i + 1) (AV.r RV.ns :: M) = M.drop (i + 1):=fun M=>by rw [show 1 + i + 1 = (i + 1) + 1 by omega]; rfl
         have dM : ∀ v,List.take i (L.map aI) ++ (AV.r (i64 v) :: List.drop (i + 1) (L.map aI)) = (L.set i v).map aI:=fun v=>set_cells _ _ _ (by omega)
         refine zb fun K hK=>?_;simp only [go_sem,Nat.mul_one,d1,d2,d3,dM]
         refine zh (hroi) rfl (by simp only [go_sem,i64,ints,Nat.mul_one,d1,d2,d3,dM]) (by simp only [go_sem,i64,ints,Nat.mul_one,d1,d2,d3,dM]) (by first | exact .inl rfl | exact .inr rfl) ?_
         (try simp only [go_sem,Nat.mul_one,d1,d2,d3,dM])
         repeat refine ⟨by omega,?_⟩
         refine hK _ ?_;clear hK K;refine zw (zk [1,2,5,6,7,9,10]) ?_;simp only [go_sem];refine zb fun K hK=>?_;simp only [go_sem];(try simp (disch:=omega) only [zI]);refine hK _ ?_;clear hK K
         try simp only [go_sem]
         refine ⟨by omega,zj [] ?_ ?_⟩
         · try simp only [go_sem]
         · try simp only [go_sem]
           rw [hset]
       · have hin : i = nT r:=by omega
         subst hin
         refine zf ?_;simp only [go_sem]
         have hcel : .r .ns :: (ptsK r l (nT r)).map aI = (RV.ns :: ((startT r l).pts ++ (startT r l).won).map fun x=>i64 x).map AV.r:=by rw [hstp]; simp [Function.comp_def]
         rw [hcel]
         have hs1:=hst0.pl
         have hs2:=hst0.wl
         generalize startT r l = S at *
         refine zw (sub_frzP 9 9 (RV.ns :: (S.pts ++ S.won).map fun x=>i64 x) (by omega) rfl rfl) ?_;refine zw (zk [2,5,6,7,9]) ?_;simp only [go_sem]
         repeat refine zq ?_
         refine zb fun K hK=>?_;simp only [go_sem];refine hK _ ?_;clear hK K;refine zw (zk [2,5,6,7,9,11]) ?_;simp only [go_sem];refine zd ?_
         refine awp_uptoV (n:=148) all (fun x vs=>[(2,.r (.rp (trC r))),(5,.r (mtsR left)),(6,.r (i64 (all : Int))),(7,.os 146 (vs 146) 21 0 (outT r left S x).length),(9,.r (.rp (RV.ns :: (S.pts ++ S.won).map fun x=>i64 x))),(11,.r (i64 (x : Int)))])
          (fun x vs=>[(146,.arr 60 21 ((outT r left S x).map thC))]) (fun _=>True) 0 (zj [] ?_ ?_) (Nat.zero_le _) trivial ?_
         · try simp only [go_sem]
           try rfl
         · try simp only [go_sem]
           try rfl
         · intro x vs hx _
           have hoS:=outT_succ r left S x
           have hoL:=outT_len r left S x
           repeat refine zq ?_
           refine zb fun K hK=>?_;simp only [go_sem];refine hK _ ?_;clear hK K;refine zw (zk [2,5,6,7,9,11,46]) ?_;simp only [go_sem]
           refine zc rfl (fun hc=>?_) (fun hc=>?_) <;> (try simp only [go_sem] at hc)
           · have hxa : x < all:=by omega
             generalize outT r left S x = O at *
             generalize outT r left S (x + 1) = O' at *
             refine zx ?_
             try simp only [go_sem]
             refine zq ?_
             refine zd ?_
             have h21 : (RV.ns :: (S.pts ++ S.won).map fun x=>i64 x).length = 21:=by simp [hs1,hs2]
             have h20 : (S.pts ++ S.won).length = 20:=by simp [hs1,hs2]
             have htk : List.take 21 (RV.ns :: (S.pts ++ S.won).map fun x=>i64 x) = RV.ns :: (S.pts ++ S.won).map fun x=>i64 x:=List.take_of_length_le (by omega)
             refine zq ?_
             refine zb fun K hK=>?_;simp only [go_sem,h21,h20,htk];refine hK _ ?_;clear hK K;refine zw (zk [2,5,6,7,9,11,12,13,14]) ?_;simp only [go_sem]
             refine zq ?_
             refine zb fun K hK=>?_;simp only [go_sem];repeat first | intro _ | refine ⟨by omega,?_⟩
             refine hK _ ?_;clear hK K;refine zw (zk [2,5,6,7,9,11,12,13,14]) ?_;simp only [go_sem]
             repeat refine zq ?_
             refine zb fun K hK=>?_;simp only [go_sem];(try simp (disch:=omega) only [zI])
             intro _
             refine hK _ ?_;clear hK K;refine zw (zk [2,5,6,7,9,11,12,13,14,15]) ?_;simp only [go_sem]
             have hrow1 : ∀ j,j ≤ left.length → True:=fun _ _=>trivial
             refine zd ?_
             refine awp_uptoV (n:=148) left.length (fun j vs=>[(2,.r (.rp (trC r))),(5,.r (mtsR left)),(6,.r (i64 (all : Int))),(7,.os 146 (vs 146) 21 0 O.length),(9,.r (.rp (RV.ns :: (S.pts ++ S.won).map fun x=>i64 x))),(11,.r (i64 (x : Int))),(12,.pt 12 (vs 12) 0),(13,.r (i64 ((x / 3 ^ j : Nat) : Int))),(14,.r (.bo (okD r j x))),(15,.r (i64 ((left.length : Int) - 1 - (j : Int))))])
              (fun j vs=>[(12,.box (.os 53 (vs 53) 1 0 left.length :: ((truthOf r (left.drop (left.length - j)) S (digS j x)).pts ++ (truthOf r (left.drop (left.length - j)) S (digS j x)).won).map aI)),(53,.arr 3 1 ((List.replicate (left.length - j) 0 ++ digS j x).map fun x=>[i64 x])),(146,.arr 60 21 (O.map thC))]) (fun _=>True) 0 (zj [] ?_ ?_) (Nat.zero_le _) trivial ?_
             · try simp only [go_sem]
               exact ⟨by simp,by simp [okD,digS]⟩
             · try simp only [go_sem]
               rw [List.drop_length,show digS 0 x = [] from rfl,truthOf_pts0 r S hs1,truthOf_won0 r S hs2]
               simp [Function.comp_def]
             · intro j vs hj _
               repeat refine zq ?_
               refine zb fun K hK=>?_;simp only [go_sem];refine hK _ ?_;clear hK K;refine zw (zk [2,5,6,7,9,11,12,13,14,15,59]) ?_;simp only [go_sem]
               refine zc rfl (fun hc=>?_) (fun hc=>?_) <;> (try simp only [go_sem] at hc)
               · have hjn : j < left.length:=by omega
                 obtain ⟨k,hk⟩ : ∃ k,left.length = k + 1 + j:=⟨left.length - 1 - j,by omega⟩
                 have hkl : k < left.length:=by omega
                 obtain ⟨m,hm⟩:=opt_of_lt hkl
                 have hmi:=hlm m (mem_of_opt hm)
                 obtain ⟨h,hh⟩:=Int.eq_ofNat_of_zero_le hmi.h.1
                 obtain ⟨a,ha⟩:=Int.eq_ofNat_of_zero_le hmi.a.1
                 have hrt:=hr.teams
                 have hh10 : h < 10:=by have:=hmi.h; omega
                 have ha10 : a < 10:=by have:=hmi.a; omega
                 have hne : h ≠ a:=fun e=>hmi.ne (by rw [hh,ha,e])
                 have hcast : (left.length : Int) - 1 - (j : Int) = (k : Int):=by omega
                 have hdr : left.drop (left.length - j) = left.drop (k + 1):=by congr 1; omega
                 have hdr2 : left.drop (left.length - (j + 1)) = m :: left.drop (k + 1):=by rw [← drop_of_opt hm]; congr 1; omega
                 have hds:=digS_cons j x
                 have hok : okD r (j + 1) x = (okX r ((x / 3 ^ j % 3 : Nat) : Int) && okD r j x):=by unfold okD; rw [hds]; rfl
                 have hdv : x / 3 ^ (j + 1) = x / 3 ^ j / 3:=by rw [Nat.div_div_eq_div_mul,Nat.pow_succ]
                 have hdl:=digS_len j x
                 have hxz : x / 3 ^ j ≤ 59049:=Nat.le_trans (Nat.div_le_self _ _) (by omega)
                 have hz3 : x / 3 ^ j % 3 < 3:=Nat.mod_lt _ (by omega)
                 have hbt:=truthOf_bump r m (left.drop (k + 1)) S ((x / 3 ^ j % 3 : Nat) : Int) (digS j x) h a hh ha hh10 ha10 hne
                 have hwf:=truthOf_wf hr (show (0 : Int) ≤ 6000 by omega) hst0 (ms:=left.drop (k + 1)) (xs:=digS j x) (by rw [hstr]; simp; omega)
                 have hlen : ((left.drop (k + 1)).length : Int) ≤ 10:=by rw [List.length_drop]; omega
                 rw [hcast,hdr]
                 rw [hds,hok,hdv,hdr2]
                 have hrp : left.length - j = k + 1:=by omega
                 have hrp2 : left.length - (j + 1) = k:=by omega
                 rw [hrp,hrp2]
                 obtain ⟨p1,p2,p3,p4,_⟩:=hwf
                 generalize truthOf r (left.drop (k + 1)) S (digS j x) = T0 at *
                 generalize truthOf r (m :: left.drop (k + 1)) S (((x / 3 ^ j % 3 : Nat) : Int) :: digS j x) = T1 at *
                 generalize digS j x = D at *
                 generalize okD r j x = ok at *
                 generalize x / 3 ^ j = z at *
                 have hEl : (List.replicate (k + 1) (0 : Int) ++ D).length = left.length:=by simp [hdl]; omega
                 have hEs : (List.replicate (k + 1) (0 : Int) ++ D).set k ((z % 3 : Nat) : Int) = List.replicate k 0 ++ ((z % 3 : Nat) : Int) :: D:=by
                  rw [List.replicate_succ',List.append_assoc,List.set_append_right _ _ (by simp)]
                  simp
                 generalize List.replicate (k + 1) (0 : Int) ++ D = E at *
                 refine zx ?_
                 try simp only [go_sem]
                 refine zq ?_
                 refine zd ?_
                 have hq : Int.tmod (z : Int) 3 = ((z % 3 : Nat) : Int):=rfl
                 have hd : Int.tdiv (z : Int) 3 = ((z / 3 : Nat) : Int):=rfl
                 obtain ⟨e0,he0⟩:=opt_of_lt (show k < E.length by omega)
                 refine zq ?_
                 refine zb fun K hK=>?_;simp only [go_sem,hq,hd,he0,hEl];(try simp (disch:=omega) only [zI])
                 repeat refine ⟨by omega,?_⟩
                 refine hK _ ?_;clear hK K;refine zw (zk [2,5,6,7,9,11,12,13,14,15]) ?_;simp only [go_sem]
                 have hEm : (List.map (fun x=>[i64 x]) E).set k [RV.it IntKind.i64 ((z % 3 : Nat) : Int)] = (E.set k ((z % 3 : Nat) : Int)).map fun x=>[i64 x]:=by rw [List.map_set]
                 rw [hEm,hEs]
                 have hEk : (List.replicate k (0 : Int) ++ ((z % 3 : Nat) : Int) :: D)[k]? = some ((z % 3 : Nat) : Int):=by rw [List.getElem?_append_right (by simp)]; simp
                 have hEl2 : (List.replicate k (0 : Int) ++ ((z % 3 : Nat) : Int) :: D).length = left.length:=by rw [← hEs,List.length_set]; exact hEl
                 clear hEm hEs he0 hEl
                 generalize List.replicate k (0 : Int) ++ ((z % 3 : Nat) : Int) :: D = E' at *
                 generalize z / 3 = z' at *
                 generalize z % 3 = dn at *
                 refine zq ?_
                 refine zb fun K hK=>?_;simp only [go_sem];refine hK _ ?_;clear hK K;refine zw (zk [2,5,6,7,9,11,12,13,14,15,16,17]) ?_;simp only [go_sem]
                 repeat refine zq ?_
                 refine zb fun K hK=>?_;simp only [go_sem,hEk,hEl2]
                 refine ⟨by omega,?_⟩
                 refine hK _ ?_;clear hK K;refine zw (zk [2,5,6,7,9,11,12,13,14,15,16,17,74]) ?_;simp only [go_sem]
                 have hpl:=ptsV_le hr (dn : Int)
                 have hleg:=hr.legs
                 have hrem : r.legs.tmod 2 = r.legs % 2:=Int.tmod_eq_emod_of_nonneg (by omega)
                 refine awp_joinV (n:=148) (fun (_ : Unit) vs=>[(2,.r (.rp (trC r))),(5,.r (mtsR left)),(6,.r (i64 (all : Int))),(7,.os 146 (vs 146) 21 0 O.length),(9,.r (.rp (RV.ns :: (S.pts ++ S.won).map fun x=>i64 x))),(11,.r (i64 (x : Int))),(12,.pt 12 (vs 12) 0),(13,.r (i64 (z' : Int))),(14,.r (.bo (okX r (dn : Int) && ok))),(15,.r (i64 (k : Int))),(16,.r (i64 (ptsV r (dn : Int)).1)),(17,.r (i64 (ptsV r (dn : Int)).2))])
                  (fun _ vs=>[(12,.box (.os 53 (vs 53) 1 0 left.length :: (T0.pts ++ T0.won).map aI)),(53,.arr 3 1 (E'.map fun x=>[i64 x])),(146,.arr 60 21 (O.map thC))]) (fun _=>True) (fun _ h=>h) ?_ ?_
                 · skip
                   refine zd ?_
                   rcases (show dn = 0 ∨ dn = 1 ∨ dn = 2 by omega) with rfl | rfl | rfl
                   · refine zq ?_
                     refine zb fun K hK=>?_;simp only [go_sem];refine hK _ ?_;clear hK K;refine zw (zk [2,5,6,7,9,11,12,13,14,15,16,17,74,77]) ?_;simp only [go_sem]
                     refine zc rfl (fun hc=>?_) (fun hc=>?_) <;> (try simp only [go_sem] at hc)
                     refine zb fun K hK=>?_;simp only [go_sem];refine hK _ ?_;clear hK K
                     refine ⟨(),zj [] ?_ ?_⟩
                     · try simp only [go_sem]
                       simp [okX,ptsV]
                     · try simp only [go_sem]
                   · refine zq ?_
                     refine zb fun K hK=>?_;simp only [go_sem];refine hK _ ?_;clear hK K;refine zw (zk [2,5,6,7,9,11,12,13,14,15,16,17,74,77]) ?_;simp only [go_sem]
                     refine zc rfl (fun hc=>?_) (fun hc=>?_) <;> (try simp only [go_sem] at hc)
                     refine zq ?_
                     refine zb fun K hK=>?_;simp only [go_sem];refine hK _ ?_;clear hK K;refine zw (zk [2,5,6,7,9,11,12,13,14,15,16,17,74,81]) ?_;simp only [go_sem]
                     refine zc rfl (fun hc=>?_) (fun hc=>?_) <;> (try simp only [go_sem] at hc)
                     refine zq ?_
                     refine zg follows (by decide +kernel) (by kernel_rfl) fun K hK=>?_;simp only [go_sem];refine hK _ ?_;clear hK K;refine zw (zk [2,5,6,7,9,11,12,13,14,15,16,17]) ?_;simp only [go_sem]
                     cases ok with
                     | false =>
                       refine zb fun K hK=>?_;simp only [go_sem,hrem];refine hK _ ?_;clear hK K
                       refine ⟨(),zj [] ?_ ?_⟩
                       · try simp only [go_sem]
                         simp [ptsV]
                       · try simp only [go_sem]
                     | true =>
                       refine zb fun K hK=>?_;simp only [go_sem,hrem];refine hK _ ?_;clear hK K
                       refine ⟨(),zj [] ?_ ?_⟩
                       · try simp only [go_sem]
                         simp [okX,ptsV]
                       · try simp only [go_sem]
                   · refine zq ?_
                     refine zb fun K hK=>?_;simp only [go_sem];refine hK _ ?_;clear hK K;refine zw (zk [2,5,6,7,9,11,12,13,14,15,16,17,74,77]) ?_;simp only [go_sem]
                     refine zc rfl (fun hc=>?_) (fun hc=>?_) <;> (try simp only [go_sem] at hc)
                     refine zq ?_
                     refine zb fun K hK=>?_;simp only [go_sem];refine hK _ ?_;clear hK K;refine zw (zk [2,5,6,7,9,11,12,13,14,15,16,17,74,81]) ?_;simp only [go_sem]
                     refine zc rfl (fun hc=>?_) (fun hc=>?_) <;> (try simp only [go_sem] at hc)
                     refine zb fun K hK=>?_;simp only [go_sem];refine hK _ ?_;clear hK K
                     refine ⟨(),zj [] ?_ ?_⟩
                     · try simp only [go_sem]
                       simp [okX,ptsV]
                     · try simp only [go_sem]
                 intro _ vs _
                 have hL0 : (T0.pts ++ T0.won).length = 20:=by simp [p1,p2]
                 have hb0:=bnd_app p3 p4 (show (0 : Int) ≤ 6000 + 18 * ((left.drop (k + 1)).length : Int) by omega)
                 have hB : (6000 : Int) + 18 * ((left.drop (k + 1)).length : Int) ≤ 10000:=by omega
                 have hbm:=bump_all (T0.pts) (T0.won) h a (ptsV r (dn : Int)).1 (ptsV r (dn : Int)).2 p1 p2 hh10 ha10 hne
                 rw [hbt.1,hbt.2] at hbm
                 generalize (6000 : Int) + 18 * ((left.drop (k + 1)).length : Int) = B at *
                 generalize hL00 : T0.pts ++ T0.won = L0 at *
                 generalize (ptsV r (dn : Int)).1 = p at *
                 generalize (ptsV r (dn : Int)).2 = q at *
                 have d1 : ∀ M : List AV,List.drop (1 + h) (AV.os 53 (vs 53) 1 0 left.length :: M) = M.drop (h):=fun M=>by rw [show 1 + h = (h) + 1 by omega]; rfl
                 have d2 : ∀ M : List AV,List.take (1 + h) (AV.os 53 (vs 53) 1 0 left.length :: M) = AV.os 53 (vs 53) 1 0 left.length :: M.take (h):=fun M=>by rw [show 1 + h = (h) + 1 by omega]; rfl
                 have d3 : ∀ M : List AV,List.drop (1 + h + 1) (AV.os 53 (vs 53) 1 0 left.length :: M) = M.drop ((h) + 1):=fun M=>by rw [show 1 + h + 1 = ((h) + 1) + 1 by omega]; rfl
                 have dh : (List.drop (h) (L0.map aI)).headD (AV.r RV.un) = .r (i64 (L0.getD (h) 0)):=head_cells _ _ (by omega)
                 have dM : ∀ v,List.take (h) (L0.map aI) ++ (AV.r (i64 v) :: List.drop (h + 1) (L0.map aI)) = (L0.set (h) v).map aI:=fun v=>set_cells _ _ _ (by omega)
                 have wv : IntKind.i64.wrap (L0.getD (h) 0 + p) = L0.getD (h) 0 + p:=by have:=hb0 (h); rw [zI] <;> omega
                 refine zq ?_
                 refine zb fun K hK=>?_;simp only [go_sem,hm,hkl,hh,Nat.mul_one,d1,d2,d3,dh,dM,wv]
                 repeat refine ⟨by omega,?_⟩
                 refine hK _ ?_;clear hK K;refine zw (zk [2,5,6,7,9,11,12,13,14,15,16,17]) ?_;simp only [go_sem]
                 clear d1 d2 d3 dh dM wv
                 have hL1 : (L0.set (h) (L0.getD (h) 0 + p)).length = 20:=by rw [List.length_set]; exact hL0
                 have hb1:=bnd_set hb0 (show 0 ≤ p by omega) (show p ≤ 9 by omega) (h)
                 obtain ⟨L1,gL1⟩ : ∃ L,L = L0.set (h) (L0.getD (h) 0 + p):=⟨_,rfl⟩
                 rw [← gL1] at hL1 hb1 ⊢
                 have d1 : ∀ M : List AV,List.drop (11 + h) (AV.os 53 (vs 53) 1 0 left.length :: M) = M.drop (10 + h):=fun M=>by rw [show 11 + h = (10 + h) + 1 by omega]; rfl
                 have d2 : ∀ M : List AV,List.take (11 + h) (AV.os 53 (vs 53) 1 0 left.length :: M) = AV.os 53 (vs 53) 1 0 left.length :: M.take (10 + h):=fun M=>by rw [show 11 + h = (10 + h) + 1 by omega]; rfl
                 have d3 : ∀ M : List AV,List.drop (11 + h + 1) (AV.os 53 (vs 53) 1 0 left.length :: M) = M.drop ((10 + h) + 1):=fun M=>by rw [show 11 + h + 1 = ((10 + h) + 1) + 1 by omega]; rfl
                 have dh : (List.drop (10 + h) (L1.map aI)).headD (AV.r RV.un) = .r (i64 (L1.getD (10 + h) 0)):=head_cells _ _ (by omega)
                 have dM : ∀ v,List.take (10 + h) (L1.map aI) ++ (AV.r (i64 v) :: List.drop (10 + h + 1) (L1.map aI)) = (L1.set (10 + h) v).map aI:=fun v=>set_cells _ _ _ (by omega)
                 have wv : IntKind.i64.wrap (L1.getD (10 + h) 0 + p) = L1.getD (10 + h) 0 + p:=by have:=hb1 (10 + h); rw [zI] <;> omega
                 refine zq ?_
                 refine zb fun K hK=>?_;simp only [go_sem,hm,hkl,hh,Nat.mul_one,d1,d2,d3,dh,dM,wv]
                 repeat refine ⟨by omega,?_⟩
                 refine hK _ ?_;clear hK K;refine zw (zk [2,5,6,7,9,11,12,13,14,15,16,17]) ?_;simp only [go_sem]
                 clear d1 d2 d3 dh dM wv
                 have hL2 : (L1.set (10 + h) (L1.getD (10 + h) 0 + p)).length = 20:=by rw [List.length_set]; exact hL1
                 have hb2:=bnd_set hb1 (show 0 ≤ p by omega) (show p ≤ 9 by omega) (10 + h)
                 obtain ⟨L2,gL2⟩ : ∃ L,L = L1.set (10 + h) (L1.getD (10 + h) 0 + p):=⟨_,rfl⟩
                 rw [← gL2] at hL2 hb2 ⊢
                 have d1 : ∀ M : List AV,List.drop (1 + a) (AV.os 53 (vs 53) 1 0 left.length :: M) = M.drop (a):=fun M=>by rw [show 1 + a = (a) + 1 by omega]; rfl
                 have d2 : ∀ M : List AV,List.take (1 + a) (AV.os 53 (vs 53) 1 0 left.length :: M) = AV.os 53 (vs 53) 1 0 left.length :: M.take (a):=fun M=>by rw [show 1 + a = (a) + 1 by omega]; rfl
                 have d3 : ∀ M : List AV,List.drop (1 + a + 1) (AV.os 53 (vs 53) 1 0 left.length :: M) = M.drop ((a) + 1):=fun M=>by rw [show 1 + a + 1 = ((a) + 1) + 1 by omega]; rfl
                 have dh : (List.drop (a) (L2.map aI)).headD (AV.r RV.un) = .r (i64 (L2.getD (a) 0)):=head_cells _ _ (by omega)
                 have dM : ∀ v,List.take (a) (L2.map aI) ++ (AV.r (i64 v) :: List.drop (a + 1) (L2.map aI)) = (L2.set (a) v).map aI:=fun v=>set_cells _ _ _ (by omega)
                 have wv : IntKind.i64.wrap (L2.getD (a) 0 + q) = L2.getD (a) 0 + q:=by have:=hb2 (a); rw [zI] <;> omega
                 refine zq ?_
                 refine zb fun K hK=>?_;simp only [go_sem,hm,hkl,ha,Nat.mul_one,d1,d2,d3,dh,dM,wv]
                 repeat refine ⟨by omega,?_⟩
                 refine hK _ ?_;clear hK K;refine zw (zk [2,5,6,7,9,11,12,13,14,15,16,17]) ?_;simp only [go_sem]
                 clear d1 d2 d3 dh dM wv
                 have hL3 : (L2.set (a) (L2.getD (a) 0 + q)).length = 20:=by rw [List.length_set]; exact hL2
                 have hb3:=bnd_set hb2 (show 0 ≤ q by omega) (show q ≤ 9 by omega) (a)
                 obtain ⟨L3,gL3⟩ : ∃ L,L = L2.set (a) (L2.getD (a) 0 + q):=⟨_,rfl⟩
                 rw [← gL3] at hL3 hb3 ⊢
                 have d1 : ∀ M : List AV,List.drop (11 + a) (AV.os 53 (vs 53) 1 0 left.length :: M) = M.drop (10 + a):=fun M=>by rw [show 11 + a = (10 + a) + 1 by omega]; rfl
                 have d2 : ∀ M : List AV,List.take (11 + a) (AV.os 53 (vs 53) 1 0 left.length :: M) = AV.os 53 (vs 53) 1 0 left.length :: M.take (10 + a):=fun M=>by rw [show 11 + a = (10 + a) + 1 by omega]; rfl
                 have d3 : ∀ M : List AV,List.drop (11 + a + 1) (AV.os 53 (vs 53) 1 0 left.length :: M) = M.drop ((10 + a) + 1):=fun M=>by rw [show 11 + a + 1 = ((10 + a) + 1) + 1 by omega]; rfl
                 have dh : (List.drop (10 + a) (L3.map aI)).headD (AV.r RV.un) = .r (i64 (L3.getD (10 + a) 0)):=head_cells _ _ (by omega)
                 have dM : ∀ v,List.take (10 + a) (L3.map aI) ++ (AV.r (i64 v) :: List.drop (10 + a + 1) (L3.map aI)) = (L3.set (10 + a) v).map aI:=fun v=>set_cells _ _ _ (by omega)
                 have wv : IntKind.i64.wrap (L3.getD (10 + a) 0 + q) = L3.getD (10 + a) 0 + q:=by have:=hb3 (10 + a); rw [zI] <;> omega
                 refine zb fun K hK=>?_;simp only [go_sem,hm,hkl,ha,Nat.mul_one,d1,d2,d3,dh,dM,wv]
                 repeat refine ⟨by omega,?_⟩
                 refine hK _ ?_;clear hK K;refine zw (zk [2,5,6,7,9,11,12,13,14,15]) ?_;simp only [go_sem]
                 clear d1 d2 d3 dh dM wv
                 have hL4 : (L3.set (10 + a) (L3.getD (10 + a) 0 + q)).length = 20:=by rw [List.length_set]; exact hL3
                 have hb4:=bnd_set hb3 (show 0 ≤ q by omega) (show q ≤ 9 by omega) (10 + a)
                 obtain ⟨L4,gL4⟩ : ∃ L,L = L3.set (10 + a) (L3.getD (10 + a) 0 + q):=⟨_,rfl⟩
                 rw [← gL4] at hL4 hb4 ⊢
                 have hL4e : L4 = T1.pts ++ T1.won:=by rw [gL4,gL3,gL2,gL1]; exact hbm
                 rw [hL4e]
                 refine zb fun K hK=>?_;simp only [go_sem];(try simp (disch:=omega) only [zI]);refine hK _ ?_;clear hK K
                 try simp only [go_sem]
                 refine ⟨by omega,zj [] ?_ ?_⟩
                 · try simp only [go_sem]
                   omega
                 · try simp only [go_sem]
               · have hjn : j = left.length:=by omega
                 subst hjn
                 have hdl:=digS_len left.length x
                 have hresx : (truthOf r left S (digS left.length x)).res = digS left.length x:=by simp [truthOf,hstr]
                 have hwf:=truthOf_wf hr (show (0 : Int) ≤ 6000 by omega) hst0 (ms:=left) (xs:=digS left.length x) (by rw [hstr]; simp; omega)
                 have h210:=thC_len hwf
                 rw [Nat.sub_self,List.drop_zero,List.replicate_zero,List.nil_append]
                 obtain ⟨T,hT⟩ : ∃ T,T = truthOf r left S (digS left.length x):=⟨_,rfl⟩
                 rw [← hT] at hoS hresx h210 ⊢
                 refine zf ?_;simp only [go_sem];refine zw (sub_frzB 12 0 53 (by omega) (by omega) rfl rfl rfl (by simp [hdl])) ?_;refine zw (zk [2,5,6,7,9,11,12,14]) ?_;simp only [go_sem]
                 have hc12 : AV.r (.sl 1 (List.take left.length (List.map (fun x=>[i64 x]) (digS left.length x)))) :: (T.pts ++ T.won).map aI = (thC T).map AV.r:=by
                  rw [List.take_of_length_le (by simp [hdl])]
                  unfold thC
                  rw [hresx]
                  simp [Function.comp_def]
                 rw [hc12]
                 refine zw (sub_frzP 12 12 (thC T) (by omega) rfl rfl) ?_
                 refine zq ?_
                 refine zb fun K hK=>?_;simp only [go_sem];refine hK _ ?_;clear hK K;refine zw (zk [2,5,6,7,9,11,12,142]) ?_;simp only [go_sem]
                 have hroT : roL ((thC T).map AV.r) = some (thC T):=roL_map _
                 have htkT : List.take 21 (thC T) = thC T:=List.take_of_length_le (by omega)
                 refine awp_joinV (n:=148) (fun (_ : Unit) vs=>[(2,.r (.rp (trC r))),(5,.r (mtsR left)),(6,.r (i64 (all : Int))),(7,.os 146 (vs 146) 21 0 O'.length),(9,.r (.rp (RV.ns :: (S.pts ++ S.won).map fun x=>i64 x))),(11,.r (i64 (x : Int)))])
                  (fun _ vs=>[(146,.arr 60 21 (O'.map thC))]) (fun _=>True) (fun _ h=>h) ?_ ?_
                 · cases hok : okD r left.length x with
                   | true =>
                     rw [hok,if_pos rfl] at hoS
                     rw [hoS]
                     refine zc rfl (fun hc=>?_) (fun hc=>?_) <;> (try simp only [go_sem] at hc)
                     refine zb fun K hK=>?_;simp only [go_sem,h210,htkT,hroT,List.length_map]
                     refine ⟨by omega,?_⟩
                     refine hK _ ?_;clear hK K
                     refine ⟨(),trivial,zj [] ?_ ?_⟩
                     · try simp only [go_sem]
                       simp
                     · try simp only [go_sem]
                       simp
                   | false =>
                     rw [hok] at hoS
                     simp only [Bool.false_eq_true,if_false,List.append_nil] at hoS
                     rw [hoS]
                     refine zc rfl (fun hc=>?_) (fun hc=>?_) <;> (try simp only [go_sem] at hc)
                     refine zx ?_
                     try simp only [go_sem]
                     refine ⟨(),zj [] ?_ ?_⟩
                     · try simp only [go_sem]
                     · try simp only [go_sem]
                 intro _ vs _
                 refine zb fun K hK=>?_;simp only [go_sem];(try simp (disch:=omega) only [zI]);refine hK _ ?_;clear hK K
                 try simp only [go_sem]
                 refine ⟨by omega,zj [] ?_ ?_⟩
                 · try simp only [go_sem]
                 · try simp only [go_sem]
           · have hxa : x = all:=by omega
             subst hxa
             refine zf ?_;simp only [go_sem]
             refine zq ?_
             refine zb fun K hK=>?_;simp only [go_sem];refine hK _ ?_;clear hK K;refine zw (zk [4]) ?_;simp only [go_sem];refine zw (sub_frz 4 146 (by omega) rfl rfl (by simp)) ?_
             have htp : List.take (outT r left S x).length (List.drop 0 ((outT r left S x).map thC)) = (outT r left S x).map thC:=by rw [List.drop_zero]; exact List.take_of_length_le (by rw [List.length_map]; exact Nat.le_refl _)
             rw [htp]
             refine ze ?_;simp only [go_sem]
theorem resL_len (r : Tr) : ∀ n,1 ≤ (resL r n).length ∧ (resL r n).length ≤ 3 ^ n
 | 0=>by simp [resL]
 | n + 1 => by
   obtain ⟨h1,h2⟩:=resL_len r n
   have e : (resL r (n + 1)).length = (xsOf r).length * (resL r n).length:=by
    simp only [resL]
    induction xsOf r with
    | nil=>simp
    | cons x xs ih=>rw [List.flatMap_cons,List.length_append,List.length_map,ih,List.length_cons,Nat.succ_mul]; omega
   have hx : (xsOf r).length = 2 ∨ (xsOf r).length = 3:=by unfold xsOf; split <;> simp
   rw [e,Nat.pow_succ]
   rcases hx with hx | hx <;> rw [hx] <;> omega
theorem truthsL_len {r : Tr} (hr : RulesI r) {l : List Mt} (hl : ∀ m ∈ l,MatchI r m) (hn : (leftV l).length ≤ 10) : 1 ≤ (truthsL r l).length ∧ (truthsL r l).length ≤ 59049:=by
 rw [truthsL_eq hr hl,List.length_map]
 obtain ⟨h1,h2⟩:=resL_len r (leftV l).length
 have:=pow3_le _ hn
 omega
theorem places_ord (t : Th) (x : Nat) : ∀ m,(placesV m t x).1 ≤ (placesV m t x).2
 | 0=>by simp [placesV]
 | m + 1 => by
   have h:=places_ord t x m
   rw [places_succ]
   unfold plS
   simp only
   by_cases e : m = x
   · subst e
     rw [if_neg (by omega)]
     split <;> omega
   · by_cases h1 : t.pts.getD x 0 < t.pts.getD m 0
     · rw [if_pos h1,if_pos ⟨by omega,by omega⟩]; omega
     · rw [if_neg h1]; split <;> omega
theorem span_ord' (n : Nat) (x : Nat) : ∀ (ts : List Th) (s : Int × Int),s.1 ≤ s.2 → (ts.foldl (spanS n x) s).1 ≤ (ts.foldl (spanS n x) s).2
 | [],s,h=>h
 | t :: ts, s, h => by
   rw [List.foldl_cons]
   refine span_ord' n x ts _ ?_
   unfold spanS; simp only; omega
theorem span_ord {n x : Nat} {ts : List Th} (h : ts ≠ []) : (spanF n ts x).1 ≤ (spanF n ts x).2:=by
 cases ts with
 | nil=>exact absurd rfl h
 | cons t ts =>
   unfold spanF
   rw [List.foldl_cons]
   refine span_ord' n x ts _ ?_
   have:=places_ord t x n
   unfold spanS; simp only; omega
theorem eqn79 : eqN Try.prog 79 = some 2:=by kernel_rfl
theorem eqn88 : eqN Try.prog 88 = some 2:=by kernel_rfl
theorem places_law (r : Tr) (l : List Mt) (hw : Wf r l) : ACalls Try.prog 9 [trV r,mtsR l] (.bo true):=by
 have hgr:=great_ok r l
 have hkn:=known_ok
 refine acalls_st (rs:=[.bo true]) [.tmp 4] Try.func9 rfl (by kernel_rfl) Try.ntmps9 rfl (by simp) rfl fun C vs=>?_
 refine zq ?_
 refine zb fun K hK=>?_;simp only [go_sem];refine hK _ ?_;clear hK K;refine zw (sub_frzP 2 2 (trC r) (by omega) rfl rfl) ?_;refine zw (zk [1,2]) ?_;simp only [go_sem]
 by_cases hG : 200 < l.length ∨ 20 < r.ded.length
 · have hGb : (decide (200 < l.length) || decide (20 < r.ded.length)) = true:=by simpa using hG
   rw [hGb] at hgr
   repeat refine zq ?_
   refine zb fun K hK=>?_;simp only [go_sem]
   refine zh (hgr) rfl (by simp only [go_sem,i64,ints]) (by simp only [go_sem,i64,ints]) (by first | exact .inl rfl | exact .inr rfl) ?_
   (try simp only [go_sem]);refine hK _ ?_;clear hK K;refine zw (zk [1,2,21]) ?_;simp only [go_sem]
   refine zc rfl (fun hc=>?_) (fun hc=>?_) <;> (try simp only [go_sem] at hc)
   refine zq ?_
   refine zb fun K hK=>?_;simp only [go_sem]
   refine zh (hkn) rfl (by simp only [go_sem,i64,ints]) (by simp only [go_sem,i64,ints]) (by first | exact .inl rfl | exact .inr rfl) ?_
   (try simp only [go_sem]);refine hK _ ?_;clear hK K;refine zw (zk [4]) ?_;simp only [go_sem];refine ze ?_;simp only [go_sem]
 have hGb : (decide (200 < l.length) || decide (20 < r.ded.length)) = false:=by simp; omega
 rw [hGb] at hgr
 have hma:=many_ok l (by omega)
 cases hMb : manyB l with
 | true =>
   rw [hMb] at hma
   repeat refine zq ?_
   refine zb fun K hK=>?_;simp only [go_sem]
   refine zh (hgr) rfl (by simp only [go_sem,i64,ints]) (by simp only [go_sem,i64,ints]) (by first | exact .inl rfl | exact .inr rfl) ?_
   (try simp only [go_sem])
   refine zh (hma) rfl (by simp only [go_sem,i64,ints]) (by simp only [go_sem,i64,ints]) (by first | exact .inl rfl | exact .inr rfl) ?_
   (try simp only [go_sem]);refine hK _ ?_;clear hK K;refine zw (zk [1,2,21]) ?_;simp only [go_sem]
   refine zc rfl (fun hc=>?_) (fun hc=>?_) <;> (try simp only [go_sem] at hc)
   refine zq ?_
   refine zb fun K hK=>?_;simp only [go_sem]
   refine zh (hkn) rfl (by simp only [go_sem,i64,ints]) (by simp only [go_sem,i64,ints]) (by first | exact .inl rfl | exact .inr rfl) ?_
   (try simp only [go_sem]);refine hK _ ?_;clear hK K;refine zw (zk [4]) ?_;simp only [go_sem];refine ze ?_;simp only [go_sem]
 | false =>
 rw [hMb] at hma
 have how:=own_ok r (by omega)
 have hco:=copied_ok l (by omega)
 have hpl:=Places_ok r l hw
 have hre:=refCheck_ok r l hw
 have hlf:=refLeft_ok l (by omega)
 have hsa:=same_ok l l
 rw [decide_eq_true rfl] at hsa
 obtain ⟨FR,hFR,hFR1⟩ : ∃ FR : RV,ACalls Try.prog 40 [trV r,mtsR l] (.tu [FR,i64 (errV r l)]) ∧ (FR = if errV r l = 0 then .sl 2 ((spansL r l).map (fateR r)) else .ns):=by
  by_cases he : errV r l = 0
  · exact ⟨_,by rw [he]; exact Fates_ok r l hw he,by rw [if_pos he]⟩
  · exact ⟨_,Fates_bad r l hw he,by rw [if_neg he]⟩
 rw [hFR1] at hFR
 repeat refine zq ?_
 refine zb fun K hK=>?_;simp only [go_sem]
 refine zh (hgr) rfl (by simp only [go_sem,i64,ints]) (by simp only [go_sem,i64,ints]) (by first | exact .inl rfl | exact .inr rfl) ?_
 (try simp only [go_sem])
 refine zh (hma) rfl (by simp only [go_sem,i64,ints]) (by simp only [go_sem,i64,ints]) (by first | exact .inl rfl | exact .inr rfl) ?_
 (try simp only [go_sem]);refine hK _ ?_;clear hK K;refine zw (zk [1,2,21]) ?_;simp only [go_sem]
 refine zc rfl (fun hc=>?_) (fun hc=>?_) <;> (try simp only [go_sem] at hc)
 refine zx ?_
 try simp only [go_sem]
 refine zq ?_
 refine zb fun K hK=>?_;simp only [go_sem]
 refine zh (hco) rfl (by simp only [go_sem,i64,ints]) (by simp only [go_sem,i64,ints]) (by first | exact .inl rfl | exact .inr rfl) ?_
 (try simp only [go_sem]);refine hK _ ?_;clear hK K;refine zw (zk [1,2,5]) ?_;simp only [go_sem]
 refine zq ?_
 refine zb fun K hK=>?_;simp only [go_sem]
 refine zh (how) rfl (by simp only [go_sem,i64,ints]) (by simp only [go_sem,i64,ints]) (by first | exact .inl rfl | exact .inr rfl) ?_
 (try simp only [go_sem])
 refine zh (hpl) rfl (by simp only [go_sem,i64,ints]) (by simp only [go_sem,i64,ints]) (by first | exact .inl rfl | exact .inr rfl) ?_
 (try simp only [go_sem]);refine hK _ ?_;clear hK K;refine zw (zk [1,2,5,6,7]) ?_;simp only [go_sem]
 refine zq ?_
 refine zb fun K hK=>?_;simp only [go_sem]
 refine zh (how) rfl (by simp only [go_sem,i64,ints]) (by simp only [go_sem,i64,ints]) (by first | exact .inl rfl | exact .inr rfl) ?_
 (try simp only [go_sem])
 refine zh (hco) rfl (by simp only [go_sem,i64,ints]) (by simp only [go_sem,i64,ints]) (by first | exact .inl rfl | exact .inr rfl) ?_
 (try simp only [go_sem])
 refine zh (hFR) rfl (by simp only [go_sem,i64,ints]) (by simp only [go_sem,i64,ints]) (by first | exact .inl rfl | exact .inr rfl) ?_
 (try simp only [go_sem]);refine hK _ ?_;clear hK K;refine zw (zk [1,2,5,6,7,8,9]) ?_;simp only [go_sem]
 repeat refine zq ?_
 refine zb fun K hK=>?_;simp only [go_sem]
 refine zh (hsa) rfl (by simp only [go_sem,i64,ints]) (by simp only [go_sem,i64,ints]) (by first | exact .inl rfl | exact .inr rfl) ?_
 (try simp only [go_sem]);refine hK _ ?_;clear hK K;refine zw (zk [1,2,6,7,8,9,43]) ?_;simp only [go_sem]
 refine zc rfl (fun hc=>?_) (fun hc=>?_) <;> (try simp only [go_sem] at hc)
 refine zx ?_
 try simp only [go_sem]
 refine zq ?_
 refine zb fun K hK=>?_;simp only [go_sem]
 refine zh (hre) rfl (by simp only [go_sem,i64,ints]) (by simp only [go_sem,i64,ints]) (by first | exact .inl rfl | exact .inr rfl) ?_
 (try simp only [go_sem]);refine hK _ ?_;clear hK K;refine zw (zk [1,2,6,7,8,9,11]) ?_;simp only [go_sem]
 repeat refine zq ?_
 refine awp_joinV (n:=129) (fun (_ : Unit) vs=>[(1,.r (mtsR l)),(2,.r (.rp (trC r))),(6,.r (if errV r l = 0 then .sl 2 ((spansL r l).map spR) else .ns)),(7,.r (i64 (errV r l))),(8,.r (if errV r l = 0 then .sl 2 ((spansL r l).map (fateR r)) else .ns)),(9,.r (i64 (errV r l))),(11,.r (i64 (checkV r l).2)),(57,.r (.bo (decide ((checkV r l).2 = 0 ∧ 10 < (leftV l).length))))]) (fun _ _=>[]) (fun _=>True) (fun _ h=>h) ?_ ?_
 · by_cases h0 : (checkV r l).2 = 0
   · have h0b : ((checkV r l).2 == 0) = true:=by simpa using h0
     refine zb fun K hK=>?_;simp only [go_sem,h0b]
     refine zh (hlf) rfl (by simp only [go_sem,i64,ints,h0b]) (by simp only [go_sem,i64,ints,h0b]) (by first | exact .inl rfl | exact .inr rfl) ?_
     (try simp only [go_sem,h0b])
     intro _
     refine hK _ ?_;clear hK K
     refine ⟨(),trivial,zj [] ?_ ?_⟩
     · try simp only [go_sem]
       simp [h0]
       try omega
     · try simp only [go_sem]
   · have h0b : ((checkV r l).2 == 0) = false:=by simpa using h0
     refine zb fun K hK=>?_;simp only [go_sem,h0b];refine hK _ ?_;clear hK K
     refine ⟨(),trivial,zj [] ?_ ?_⟩
     · try simp only [go_sem]
       simp [h0]
     · try simp only [go_sem]
 intro _ vs _
 refine awp_joinV (n:=129) (fun (_ : Unit) vs=>[(1,.r (mtsR l)),(2,.r (.rp (trC r))),(6,.r (if errV r l = 0 then .sl 2 ((spansL r l).map spR) else .ns)),(7,.r (i64 (errV r l))),(8,.r (if errV r l = 0 then .sl 2 ((spansL r l).map (fateR r)) else .ns)),(9,.r (i64 (errV r l))),(11,.r (i64 (errV r l)))]) (fun _ _=>[]) (fun _=>True) (fun _ h=>h) ?_ ?_
 · skip
   refine zc rfl (fun hc=>?_) (fun hc=>?_) <;> (try simp only [go_sem] at hc)
   · have hc' : (checkV r l).2 = 0 ∧ 10 < (leftV l).length:=by simpa using hc
     have hev : errV r l = 8:=by unfold errV fullV; rw [if_pos hc'.1,if_pos hc'.2]
     rw [hev]
     refine zb fun K hK=>?_;simp only [go_sem];refine hK _ ?_;clear hK K
     refine ⟨(),trivial,zj [] ?_ ?_⟩
     · try simp only [go_sem]
     · try simp only [go_sem]
   · have hc' : ¬ ((checkV r l).2 = 0 ∧ 10 < (leftV l).length):=by simpa using hc
     have hev : errV r l = (checkV r l).2:=by
      unfold errV
      by_cases h0 : (checkV r l).2 = 0
      · rw [if_pos h0,h0]; unfold fullV; rw [if_neg (fun h=>hc' ⟨h0,h⟩)]
      · rw [if_neg h0]
     rw [← hev]
     refine zx ?_
     try simp only [go_sem]
     refine ⟨(),zj [] ?_ ?_⟩
     · try simp only [go_sem]
     · try simp only [go_sem]
 intro _ vs _
 by_cases h0 : errV r l = 0
 · obtain ⟨h1,hR,hM,_⟩:=checkV_zero (errV_zero h0).1
   have hfl:=(errV_zero h0).2
   have hl10 : (leftV l).length ≤ 10:=by
    unfold fullV at hfl
    by_cases h : 10 < (leftV l).length
    · rw [if_pos h] at hfl; cases hfl
    · omega
   have hrt:=refTruths_ok r hR l hM h1 hl10
   have hwf:=truthsL_wf hR hM h1
   obtain ⟨hn,hn2,hn10⟩:=nT_eq hR
   have hn' : r.teams = (nT r : Int):=hn.symm
   obtain ⟨ht1,ht2⟩:=truthsL_len hR hM hl10
   have hsl:=spansL_len r l
   have hsg : ∀ i,i < nT r → (spansL r l)[i]? = some (spanF (nT r) (truthsL r l) i):=fun i hi=>by
    unfold spansL; rw [List.getElem?_map,List.getElem?_range hi]; rfl
   have hsp:=fun i hi=>refSpan_ok r hR (truthsL r l) hwf (by omega) i hi
   have hne : truthsL r l ≠ []:=fun e=>by rw [e] at ht1; simp at ht1
   rw [h0]
   simp only [if_true]
   generalize truthsL r l = ts at *
   generalize spansL r l = SS at *
   have hz : ((0 : Int) != 0) = false:=rfl
   repeat refine zq ?_
   refine zb fun K hK=>?_;simp only [go_sem,hz];refine hK _ ?_;clear hK K;refine zw (zk [1,2,6,7,8,9,11,59]) ?_;simp only [go_sem]
   refine zc rfl (fun hc=>?_) (fun hc=>?_) <;> (try simp only [go_sem] at hc)
   refine zx ?_
   try simp only [go_sem]
   have hnn : ((nT r : Int) != (nT r : Int)) = false:=bne_self_eq_false _
   repeat refine zq ?_
   refine zb fun K hK=>?_;simp only [go_sem,hz,hn',hsl,hnn]
   repeat intro _
   refine hK _ ?_;clear hK K;refine zw (zk [1,2,6,8,98]) ?_;simp only [go_sem]
   refine zc rfl (fun hc=>?_) (fun hc=>?_) <;> (try simp only [go_sem] at hc)
   refine zx ?_
   try simp only [go_sem]
   refine zq ?_
   refine zb fun K hK=>?_;simp only [go_sem]
   refine zh (hrt) rfl (by simp only [go_sem,i64,ints]) (by simp only [go_sem,i64,ints]) (by first | exact .inl rfl | exact .inr rfl) ?_
   (try simp only [go_sem]);refine hK _ ?_;clear hK K;refine zw (zk [2,6,8,12]) ?_;simp only [go_sem]
   repeat refine zq ?_
   refine zb fun K hK=>?_;simp only [go_sem];refine hK _ ?_;clear hK K;refine zw (zk [2,6,8,12,13]) ?_;simp only [go_sem];refine zd ?_
   refine awp_uptoV (n:=129) (nT r) (fun i vs=>[(2,.r (.rp (trC r))),(6,.r (.sl 2 (SS.map spR))),(8,.r (.sl 2 (SS.map (fateR r)))),(12,.r (thsR ts)),(13,.r (i64 (i : Int)))])
    (fun i vs=>[]) (fun _=>True) 0 (zj [] ?_ ?_) (Nat.zero_le _) trivial ?_
   · try simp only [go_sem]
     try rfl
   · try simp only [go_sem]
   · intro i vs hi _
     repeat refine zq ?_
     refine zb fun K hK=>?_;simp only [go_sem,hn'];refine hK _ ?_;clear hK K;refine zw (zk [2,6,8,12,13,105]) ?_;simp only [go_sem]
     refine zc rfl (fun hc=>?_) (fun hc=>?_) <;> (try simp only [go_sem] at hc)
     · have hin : i < nT r:=by omega
       have hsi:=hsg i hin
       have hspi:=hsp i hin
       rw [span99_eq hin (by omega) hne] at hspi
       have hord:=span_ord (n:=nT r) (x:=i) hne
       generalize spanF (nT r) ts i = s at *
       have hfa:=refFate_ok r s hR hord
       refine zx ?_
       try simp only [go_sem]
       refine zq ?_
       refine zd ?_
       refine zq ?_
       refine zb fun K hK=>?_;simp only [go_sem]
       refine zh (hspi) rfl (by simp only [go_sem,i64,ints]) (by simp only [go_sem,i64,ints]) (by first | exact .inl rfl | exact .inr rfl) ?_
       (try simp only [go_sem]);refine hK _ ?_;clear hK K;refine zw (sub_frzP 14 14 (spR s) (by omega) rfl rfl) ?_;refine zw (zk [2,6,8,12,13,14]) ?_;simp only [go_sem]
       refine zq ?_
       refine zg follows (by decide +kernel) (by kernel_rfl) fun K hK=>?_;simp only [go_sem,fateR,hsi,hsl,eqn79,eqn88,beq_self_eq_true,Bool.and_self,Bool.not_true]
       repeat refine ⟨by omega,?_⟩
       refine zh (hfa) rfl (by simp only [go_sem,i64,ints,fateR,hsi,hsl,eqn79,eqn88,beq_self_eq_true,Bool.and_self,Bool.not_true]) (by simp only [go_sem,i64,ints,fateR,hsi,hsl,eqn79,eqn88,beq_self_eq_true,Bool.and_self,Bool.not_true]) (by first | exact .inl rfl | exact .inr rfl) ?_
       (try simp only [go_sem,fateR,hsi,hsl,eqn79,eqn88,beq_self_eq_true,Bool.and_self,Bool.not_true]);refine hK _ ?_;clear hK K;refine zw (zk [2,6,8,12,13,127]) ?_;simp only [go_sem]
       refine zc rfl (fun hc=>?_) (fun hc=>?_) <;> (try simp only [go_sem] at hc)
       refine zx ?_
       try simp only [go_sem]
       refine zb fun K hK=>?_;simp only [go_sem];(try simp (disch:=omega) only [zI]);refine hK _ ?_;clear hK K
       try simp only [go_sem]
       refine ⟨by omega,zj [] ?_ ?_⟩
       · try simp only [go_sem]
       · try simp only [go_sem]
     · refine zf ?_;simp only [go_sem]
       refine zq ?_
       refine zb fun K hK=>?_;simp only [go_sem]
       refine zh (hkn) rfl (by simp only [go_sem,i64,ints]) (by simp only [go_sem,i64,ints]) (by first | exact .inl rfl | exact .inr rfl) ?_
       (try simp only [go_sem]);refine hK _ ?_;clear hK K;refine zw (zk [4]) ?_;simp only [go_sem];refine ze ?_;simp only [go_sem]
 · have h0b : (errV r l != 0) = true:=by simpa using h0
   rw [if_neg h0,if_neg h0]
   repeat refine zq ?_
   refine zb fun K hK=>?_;simp only [go_sem,h0b];refine hK _ ?_;clear hK K;refine zw (zk [1,2,6,7,8,9,11,59]) ?_;simp only [go_sem]
   refine zc rfl (fun hc=>?_) (fun hc=>?_) <;> (try simp only [go_sem] at hc)
   refine zq ?_
   refine zb fun K hK=>?_;simp only [go_sem,beq_self_eq_true];(try simp (disch:=omega) only [zI])
   refine ⟨fun _=>?_,fun h=>by first | (cases h; done) | (simp at h)⟩
   refine zh (hkn) rfl (by simp only [go_sem,i64,ints,beq_self_eq_true]) (by simp only [go_sem,i64,ints,beq_self_eq_true]) (by first | exact .inl rfl | exact .inr rfl) ?_
   (try simp only [go_sem,beq_self_eq_true]);refine hK _ ?_;clear hK K;refine zw (zk [4]) ?_;simp only [go_sem];refine ze ?_;simp only [go_sem]
end Go.Proofs.Ytobokbhpeaakjaa
