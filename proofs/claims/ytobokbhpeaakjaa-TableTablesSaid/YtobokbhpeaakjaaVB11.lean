/- Part 11 of the texts of this claim. -/
import Derived.Test.YtobokbhpeaakjaaVB10
namespace Go.Proofs.Ytobokbhpeaakjaa
open Go Go.Oc
set_option linter.unusedSimpArgs false
set_option linter.unusedVariables false
set_option maxRecDepth 8000
set_option maxHeartbeats 4000000
theorem in_ok (n a b : Int) : ACalls Try.prog 65 [i64 n,i64 a,i64 b] (.bo (decide (a ≤ n) && decide (n ≤ b))):=by
 refine acalls_st (rs:=[.bo (decide (a ≤ n) && decide (n ≤ b))]) [.tmp 6] Try.func65 rfl (by kernel_rfl) Try.ntmps65 rfl (by simp) rfl fun C vs=>?_
 repeat refine zq ?_
 refine zb fun K hK=>?_;simp only [go_sem];(try simp (disch:=omega) only [zI]);repeat first | intro _ | refine ⟨by omega,?_⟩
 refine hK _ ?_;clear hK K
 by_cases h : a ≤ n
 · have h' : decide (a ≤ n) = true:=by simpa using h
   repeat refine zq ?_
   refine zb fun K hK=>?_;simp only [go_sem,h'];(try simp (disch:=omega) only [zI]);repeat first | intro _ | refine ⟨by omega,?_⟩
   refine hK _ ?_;clear hK K;refine ze ?_;simp only [go_sem]
   simp [h]
 · have h' : decide (a ≤ n) = false:=by simpa using h
   repeat refine zq ?_
   refine zb fun K hK=>?_;simp only [go_sem,h'];(try simp (disch:=omega) only [zI]);repeat first | intro _ | refine ⟨by omega,?_⟩
   refine hK _ ?_;clear hK K;refine ze ?_;simp only [go_sem]
   simp [h]
abbrev thsR (ts : List Th) : RV:=.sl 21 (ts.map thC)
def span99 (n : Nat) (ts : List Th) (x : Nat) : Int × Int:=ts.foldl (spanS n x) (99,0)
def canB (x : Nat) (m : Nat) (ts : List Th) : Bool:=ts.any fun t=>t.won.getD x 0 == (m : Int)
def sureB (n x : Nat) (place : Int) (m : Nat) (ts : List Th) : Bool:=ts.all fun t=>!(decide ((m : Int) ≤ t.won.getD x 0) && decide (place < (placesV n t x).2))
def magB (n x : Nat) (place : Int) (ts : List Th) (m : Nat) : Bool:=canB x m ts && sureB n x place m ts
def refMagicV (n x : Nat) (place : Int) (ts : List Th) : Int:=match (List.range 91).find? (magB n x place ts) with | some m=>(m : Int) | none=>-1
def betB (a b : Rw) : Bool :=
 if a.pts ≠ b.pts then decide (b.pts < a.pts) else if a.f - a.g ≠ b.f - b.g then decide (b.f - b.g < a.f - a.g) else if a.f ≠ b.f then decide (b.f < a.f) else decide (a.team < b.team)
theorem better_ok (a b : Rw) (ha : SmallW 200 a) (hb : SmallW 200 b) : ACalls Try.prog 67 [.ag (rwR a),.ag (rwR b)] (.bo (betB a b)):=by
 have a1:=ha.f
 have a2:=ha.g
 have b1:=hb.f
 have b2:=hb.g
 refine acalls_st (rs:=[.bo (betB a b)]) [.tmp 4] Try.func67 rfl (by kernel_rfl) Try.ntmps67 rfl (by simp) rfl fun C vs=>?_
 repeat refine zq ?_
 refine zb fun K hK=>?_;simp only [go_sem];(try simp (disch:=omega) only [zI]);repeat first | intro _ | refine ⟨by omega,?_⟩
 refine hK _ ?_;clear hK K;refine zw (sub_frzP 2 2 (rwR a) (by omega) rfl rfl) ?_;refine zw (sub_frzP 3 3 (rwR b) (by omega) rfl rfl) ?_;refine zw (zk [2,3]) ?_;simp only [go_sem]
 repeat refine zq ?_
 refine zb fun K hK=>?_;simp only [go_sem];(try simp (disch:=omega) only [zI]);repeat first | intro _ | refine ⟨by omega,?_⟩
 refine hK _ ?_;clear hK K;refine zw (zk [2,3,9]) ?_;simp only [go_sem]
 repeat refine zq ?_
 refine zc rfl (fun hc=>?_) (fun hc=>?_) <;> (try simp only [go_sem] at hc)
 · have hc' : a.pts ≠ b.pts:=by simpa using hc
   have hv : betB a b = decide (b.pts < a.pts):=by unfold betB; rw [if_pos hc']
   rw [hv]
   repeat refine zq ?_
   refine zb fun K hK=>?_;simp only [go_sem];(try simp (disch:=omega) only [zI]);repeat first | intro _ | refine ⟨by omega,?_⟩
   refine hK _ ?_;clear hK K;refine ze ?_;simp only [go_sem]
 have hc1 : ¬ a.pts ≠ b.pts:=by simpa using hc
 refine zx ?_
 try simp only [go_sem]
 repeat refine zq ?_
 refine zb fun K hK=>?_;simp only [go_sem];(try simp (disch:=omega) only [zI]);repeat first | intro _ | refine ⟨by omega,?_⟩
 refine hK _ ?_;clear hK K;refine zw (zk [2,3,25]) ?_;simp only [go_sem]
 repeat refine zq ?_
 refine zc rfl (fun hc=>?_) (fun hc=>?_) <;> (try simp only [go_sem] at hc)
 · have hc' : a.f - a.g ≠ b.f - b.g:=by simpa using hc
   have hv : betB a b = decide (b.f - b.g < a.f - a.g):=by unfold betB; rw [if_neg hc1,if_pos hc']
   rw [hv]
   repeat refine zq ?_
   refine zb fun K hK=>?_;simp only [go_sem];(try simp (disch:=omega) only [zI]);repeat first | intro _ | refine ⟨by omega,?_⟩
   refine hK _ ?_;clear hK K;refine ze ?_;simp only [go_sem]
 have hc2 : ¬ a.f - a.g ≠ b.f - b.g:=by simpa using hc
 refine zx ?_
 try simp only [go_sem]
 repeat refine zq ?_
 refine zb fun K hK=>?_;simp only [go_sem];(try simp (disch:=omega) only [zI]);repeat first | intro _ | refine ⟨by omega,?_⟩
 refine hK _ ?_;clear hK K;refine zw (zk [2,3,41]) ?_;simp only [go_sem]
 repeat refine zq ?_
 refine zc rfl (fun hc=>?_) (fun hc=>?_) <;> (try simp only [go_sem] at hc)
 · have hc' : a.f ≠ b.f:=by simpa using hc
   have hv : betB a b = decide (b.f < a.f):=by unfold betB; rw [if_neg hc1,if_neg hc2,if_pos hc']
   rw [hv]
   repeat refine zq ?_
   refine zb fun K hK=>?_;simp only [go_sem];(try simp (disch:=omega) only [zI]);repeat first | intro _ | refine ⟨by omega,?_⟩
   refine hK _ ?_;clear hK K;refine ze ?_;simp only [go_sem]
 have hc3 : ¬ a.f ≠ b.f:=by simpa using hc
 have hv : betB a b = decide (a.team < b.team):=by unfold betB; rw [if_neg hc1,if_neg hc2,if_neg hc3]
 rw [hv]
 refine zx ?_
 try simp only [go_sem]
 repeat refine zq ?_
 refine zb fun K hK=>?_;simp only [go_sem];(try simp (disch:=omega) only [zI]);repeat first | intro _ | refine ⟨by omega,?_⟩
 refine hK _ ?_;clear hK K;refine ze ?_;simp only [go_sem]
abbrev rwA (x : Rw) : List AV:=[.r (i64 x.team),.r (i64 x.pl),.r (i64 x.won),.r (i64 x.dr),.r (i64 x.lo),.r (i64 x.f),.r (i64 x.g),.r (i64 x.pts)]
theorem refRow_ok (r : Tr) (hr : RulesI r) (l : List Mt) (hm : ∀ m ∈ l,MatchI r m) (hl : l.length ≤ 200) (x : Nat) (hx : x < nT r) : ACalls Try.prog 66 [trV r,mtsR l,i64 (x : Int)] (.ag (rwR (rowT r l x))):=by
 obtain ⟨hn,hn2,hn10⟩:=nT_eq hr
 have hlg:=hr.legs
 have hwi:=hr.win
 have hdw:=hr.draw
 refine acalls_st (rs:=[.ag (rwR (rowT r l x))]) [.cell 6 49] Try.func66 rfl (by kernel_rfl) Try.ntmps66 rfl (by simp) rfl fun C vs=>?_
 repeat refine zq ?_
 refine zb fun K hK=>?_;simp only [go_sem];(try simp (disch:=omega) only [zI]);repeat first | intro _ | refine ⟨by omega,?_⟩
 refine hK _ ?_;clear hK K;refine zw (sub_frzP 3 3 (trC r) (by omega) rfl rfl) ?_;refine zw (zk [1,2,3,6]) ?_;simp only [go_sem]
 repeat refine zq ?_
 refine zb fun K hK=>?_;simp only [go_sem];(try simp (disch:=omega) only [zI]);repeat first | intro _ | refine ⟨by omega,?_⟩
 refine hK _ ?_;clear hK K;refine zw (zk [1,2,3,6,7]) ?_;simp only [go_sem]
 repeat refine zq ?_
 refine zb fun K hK=>?_;simp only [go_sem];(try simp (disch:=omega) only [zI]);repeat first | intro _ | refine ⟨by omega,?_⟩
 refine hK _ ?_;clear hK K;refine zw (zk [1,2,3,6,7,17]) ?_;simp only [go_sem]
 repeat refine zq ?_
 refine awp_joinV (n:=110) (fun (_ : Unit) vs=>[(1,.r (mtsR l)),(2,.r (i64 (x : Int))),(3,.r (.rp (trC r))),(6,.pt 6 (vs 6) 0),(7,.pt 7 (vs 7) 0)])
  (fun _ vs=>[(6,.box [.r (i64 0),.r (i64 0),.r (i64 0),.r (i64 0),.r (i64 0),.r (i64 0),.r (i64 0),.r (i64 0)]),(7,.box (rwA (startW r x)))]) (fun _=>True) (fun _ h=>h) ?_ ?_
 · rcases hr.ded with hd | ⟨hd,hd2⟩
   · have hst : startW r x = ⟨x,0,0,0,0,0,0,0⟩:=by unfold startW; rw [if_pos hd]
     rw [hst]
     repeat refine zq ?_
     refine zc rfl (fun hc=>?_) (fun hc=>?_) <;> (try simp only [go_sem] at hc)
     · exfalso
       rw [hd] at hc
       simp at hc
     · refine zx ?_
       try simp only [go_sem]
       refine ⟨(),zj [] ?_ ?_⟩
       · try simp only [go_sem]
       · try simp only [go_sem]
   · have hne : r.ded ≠ []:=by intro e; rw [e] at hd; simp at hd; omega
     obtain ⟨y,hy⟩:=opt_of_lt (show x < r.ded.length by omega)
     have hyb:=hd2 y (mem_of_opt hy)
     have hyD : r.ded.getD x 0 = y:=by rw [List.getD_eq_getElem?_getD,hy]; rfl
     have hst : startW r x = ⟨x,0,0,0,0,0,0,-y⟩:=by unfold startW; rw [if_neg hne,hyD]
     rw [hst]
     repeat refine zq ?_
     refine zc rfl (fun hc=>?_) (fun hc=>?_) <;> (try simp only [go_sem] at hc)
     · repeat refine zq ?_
       refine awp_dreg2 [(7,some 7),(2,none),(3,none)] follows (by decide +kernel) (by kernel_rfl) (by simp only [keysOk,List.mem_cons,List.not_mem_nil,forall_eq_or_imp,Oc.keyOf,go_sem]; simp) fun K hK=>?_
       simp only [go_sem,hy];(try simp (disch:=omega) only [zI]);repeat first | intro _ | refine ⟨by omega,?_⟩
       refine hK _ ?_;clear hK K
       refine ⟨(),trivial,zj [] ?_ ?_⟩
       · try simp only [go_sem]
       · try simp only [go_sem]
         try simp
     · exfalso
       have:=List.length_pos_iff.2 hne
       first | omega | (simp at hc; first | exact hne hc | omega)
 intro _ vs _
 repeat refine zq ?_
 refine zb fun K hK=>?_;simp only [go_sem];(try simp (disch:=omega) only [zI]);repeat first | intro _ | refine ⟨by omega,?_⟩
 refine hK _ ?_;clear hK K;refine zw (zk [1,2,3,6,7,8]) ?_;simp only [go_sem]
 repeat refine zq ?_
 refine zd ?_
 refine awp_uptoV (n:=110) l.length (fun i vs=>[(1,.r (mtsR l)),(2,.r (i64 (x : Int))),(3,.r (.rp (trC r))),(6,.pt 6 (vs 6) 0),(7,.pt 7 (vs 7) 0),(8,.r (i64 (i : Int)))])
  (fun i vs=>[(6,.box [.r (i64 0),.r (i64 0),.r (i64 0),.r (i64 0),.r (i64 0),.r (i64 0),.r (i64 0),.r (i64 0)]),(7,.box (rwA (rowT r (l.take i) x)))]) (fun _=>True) 0 (zj [] ?_ ?_) (Nat.zero_le _) trivial ?_
 · try simp only [go_sem]
 · try simp only [go_sem]
   try rfl
 · intro i vs hi _
   repeat refine zq ?_
   refine zb fun K hK=>?_;simp only [go_sem];(try simp (disch:=omega) only [zI]);repeat first | intro _ | refine ⟨by omega,?_⟩
   refine hK _ ?_;clear hK K;refine zw (zk [1,2,3,6,7,8,30]) ?_;simp only [go_sem]
   repeat refine zq ?_
   refine zc rfl (fun hc=>?_) (fun hc=>?_) <;> (try simp only [go_sem] at hc)
   · have hil : i < l.length:=by omega
     obtain ⟨m,hmm⟩:=opt_of_lt hil
     have hM:=hm m (mem_of_opt hmm)
     have hsm:=(small_row hr hm x i (by omega)).le (B':=200) (by omega)
     have hsn:=rowT_snoc r (l.take i) m x
     rw [← take_of_opt hmm] at hsn
     generalize rowT r (l.take i) x = S at *
     generalize rowT r (l.take (i + 1)) x = S' at *
     refine zx ?_
     try simp only [go_sem]
     repeat refine zq ?_
     refine zd ?_
     repeat refine zq ?_
     refine zb fun K hK=>?_;simp only [go_sem,hmm];(try simp (disch:=omega) only [zI]);repeat first | intro _ | refine ⟨by omega,?_⟩
     refine hK _ ?_;clear hK K;refine zw (sub_frzP 9 9 (mtR m) (by omega) rfl rfl) ?_;refine zw (zk [1,2,3,6,7,8,9]) ?_;simp only [go_sem]
     cases hmp : m.p with
     | false =>
       have hS : S' = S:=by rw [hsn]; unfold stepW; rw [hmp]; rfl
       rw [hS]
       repeat refine zq ?_
       refine zb fun K hK=>?_;simp only [go_sem,hmp];(try simp (disch:=omega) only [zI]);repeat first | intro _ | refine ⟨by omega,?_⟩
       refine hK _ ?_;clear hK K;refine zw (zk [1,2,3,6,7,8,9,51]) ?_;simp only [go_sem]
       repeat refine zq ?_
       refine zc rfl (fun hc=>?_) (fun hc=>?_) <;> (try simp only [go_sem] at hc)
       refine zf ?_;simp only [go_sem]
       repeat refine zq ?_
       refine zb fun K hK=>?_;simp only [go_sem];(try simp (disch:=omega) only [zI]);repeat first | intro _ | refine ⟨by omega,?_⟩
       refine hK _ ?_;clear hK K
       try simp only [go_sem]
       refine ⟨by omega,zj [] ?_ ?_⟩
       · try simp only [go_sem]
       · try simp only [go_sem]
     | true =>
       have hlo : legsOf r m = r.legs:=by unfold legsOf; rw [hmp]; rfl
       have hf:=hM.f
       have hg:=hM.g
       have hne:=hM.ne
       rw [hlo] at hf hg
       obtain ⟨s1,s2,s3,s4,s5,s6,s7⟩:=hsm
       by_cases hh : m.h = (x : Int)
       · have e1 : (m.h != (x : Int)) = false:=by simp [hh]
         have e3 : (m.a == (x : Int)) = false:=by simp; omega
         have hst1 : m.h = (x : Int):=hh
         repeat refine zq ?_
         refine zb fun K hK=>?_;simp only [go_sem,hmp,e1];(try simp (disch:=omega) only [zI]);repeat first | intro _ | refine ⟨by omega,?_⟩
         refine hK _ ?_;clear hK K;refine zw (zk [1,2,3,6,7,8,9,51]) ?_;simp only [go_sem]
         repeat refine zq ?_
         refine zc rfl (fun hc=>?_) (fun hc=>?_) <;> (try simp only [go_sem] at hc)
         refine zx ?_
         try simp only [go_sem]
         repeat refine zq ?_
         refine zg follows (by decide +kernel) (by kernel_rfl) fun K hK=>?_;simp only [go_sem];(try simp (disch:=omega) only [zI]);repeat first | intro _ | refine ⟨by omega,?_⟩
         refine hK _ ?_;clear hK K;refine zw (zk [1,2,3,6,7,8,9,10,11]) ?_;simp only [go_sem]
         repeat refine zq ?_
         refine zb fun K hK=>?_;simp only [go_sem,e3];(try simp (disch:=omega) only [zI]);repeat first | intro _ | refine ⟨by omega,?_⟩
         refine hK _ ?_;clear hK K;refine zw (zk [1,2,3,6,7,8,10,11,59]) ?_;simp only [go_sem]
         repeat refine zq ?_
         refine zc rfl (fun hc=>?_) (fun hc=>?_) <;> (try simp only [go_sem] at hc)
         refine zx ?_
         try simp only [go_sem]
         rcases Int.lt_trichotomy m.g m.f with ht | ht | ht
         · have hS : S' = ⟨S.team,S.pl + 1,S.won + 1,S.dr,S.lo,S.f + m.f,S.g + m.g,S.pts + r.win⟩:=by
            rw [hsn]; simp only [stepW,hmp,hst1,addW,if_true]
            congr 1 <;> (try unfold resV ptsV) <;> (repeat' split) <;> (try simp only) <;> omega
           rw [hS]
           have c1 : decide (m.g < m.f) = true:=by simp; omega
           have c2 : (m.f == m.g) = false:=by simp; omega
           have c3 : decide (m.f < m.g) = false:=by simp; omega
           repeat refine zq ?_
           refine zb fun K hK=>?_;simp only [go_sem];(try simp (disch:=omega) only [zI]);repeat first | intro _ | refine ⟨by omega,?_⟩
           refine hK _ ?_;clear hK K;refine zw (zk [1,2,3,6,7,8,10,11]) ?_;simp only [go_sem]
           repeat refine zq ?_
           refine zb fun K hK=>?_;simp only [go_sem,c1];(try simp (disch:=omega) only [zI]);repeat first | intro _ | refine ⟨by omega,?_⟩
           refine hK _ ?_;clear hK K;refine zw (zk [1,2,3,6,7,8,10,11,78]) ?_;simp only [go_sem]
           repeat refine zq ?_
           refine zc rfl (fun hc=>?_) (fun hc=>?_) <;> (try simp only [go_sem] at hc)
           repeat refine zq ?_
           refine awp_dreg2 [(7,some 7),(3,none)] follows (by decide +kernel) (by kernel_rfl) (by simp only [keysOk,List.mem_cons,List.not_mem_nil,forall_eq_or_imp,Oc.keyOf,go_sem]; simp) fun K hK=>?_
           simp only [go_sem];(try simp (disch:=omega) only [zI]);repeat first | intro _ | refine ⟨by omega,?_⟩
           refine hK _ ?_;clear hK K;refine zw (zk [1,2,3,6,7,8,10,11]) ?_;simp only [go_sem]
           repeat refine zq ?_
           refine zb fun K hK=>?_;simp only [go_sem,c2];(try simp (disch:=omega) only [zI]);repeat first | intro _ | refine ⟨by omega,?_⟩
           refine hK _ ?_;clear hK K;refine zw (zk [1,2,3,6,7,8,10,11,91]) ?_;simp only [go_sem]
           repeat refine zq ?_
           refine zc rfl (fun hc=>?_) (fun hc=>?_) <;> (try simp only [go_sem] at hc)
           refine zx ?_
           try simp only [go_sem]
           repeat refine zq ?_
           refine zb fun K hK=>?_;simp only [go_sem,c3];(try simp (disch:=omega) only [zI]);repeat first | intro _ | refine ⟨by omega,?_⟩
           refine hK _ ?_;clear hK K;refine zw (zk [1,2,3,6,7,8,10,11,104]) ?_;simp only [go_sem]
           repeat refine zq ?_
           refine zc rfl (fun hc=>?_) (fun hc=>?_) <;> (try simp only [go_sem] at hc)
           refine zx ?_
           try simp only [go_sem]
           repeat refine zq ?_
           refine zb fun K hK=>?_;simp only [go_sem];(try simp (disch:=omega) only [zI]);repeat first | intro _ | refine ⟨by omega,?_⟩
           refine hK _ ?_;clear hK K
           try simp only [go_sem]
           refine ⟨by omega,zj [] ?_ ?_⟩
           · try simp only [go_sem]
           · try simp only [go_sem]
         · have hS : S' = ⟨S.team,S.pl + 1,S.won,S.dr + 1,S.lo,S.f + m.f,S.g + m.g,S.pts + r.draw⟩:=by
            rw [hsn]; simp only [stepW,hmp,hst1,addW,if_true]
            congr 1 <;> (try unfold resV ptsV) <;> (repeat' split) <;> (try simp only) <;> omega
           rw [hS]
           have c1 : decide (m.g < m.f) = false:=by simp; omega
           have c2 : (m.f == m.g) = true:=by simp; omega
           have c3 : decide (m.f < m.g) = false:=by simp; omega
           repeat refine zq ?_
           refine zb fun K hK=>?_;simp only [go_sem];(try simp (disch:=omega) only [zI]);repeat first | intro _ | refine ⟨by omega,?_⟩
           refine hK _ ?_;clear hK K;refine zw (zk [1,2,3,6,7,8,10,11]) ?_;simp only [go_sem]
           repeat refine zq ?_
           refine zb fun K hK=>?_;simp only [go_sem,c1];(try simp (disch:=omega) only [zI]);repeat first | intro _ | refine ⟨by omega,?_⟩
           refine hK _ ?_;clear hK K;refine zw (zk [1,2,3,6,7,8,10,11,78]) ?_;simp only [go_sem]
           repeat refine zq ?_
           refine zc rfl (fun hc=>?_) (fun hc=>?_) <;> (try simp only [go_sem] at hc)
           refine zx ?_
           try simp only [go_sem]
           repeat refine zq ?_
           refine zb fun K hK=>?_;simp only [go_sem,c2];(try simp (disch:=omega) only [zI]);repeat first | intro _ | refine ⟨by omega,?_⟩
           refine hK _ ?_;clear hK K;refine zw (zk [1,2,3,6,7,8,10,11,91]) ?_;simp only [go_sem]
           repeat refine zq ?_
           refine zc rfl (fun hc=>?_) (fun hc=>?_) <;> (try simp only [go_sem] at hc)
           repeat refine zq ?_
           refine awp_dreg2 [(7,some 7),(3,none)] follows (by decide +kernel) (by kernel_rfl) (by simp only [keysOk,List.mem_cons,List.not_mem_nil,forall_eq_or_imp,Oc.keyOf,go_sem]; simp) fun K hK=>?_
           simp only [go_sem];(try simp (disch:=omega) only [zI]);repeat first | intro _ | refine ⟨by omega,?_⟩
           refine hK _ ?_;clear hK K;refine zw (zk [1,2,3,6,7,8,10,11]) ?_;simp only [go_sem]
           repeat refine zq ?_
           refine zb fun K hK=>?_;simp only [go_sem,c3];(try simp (disch:=omega) only [zI]);repeat first | intro _ | refine ⟨by omega,?_⟩
           refine hK _ ?_;clear hK K;refine zw (zk [1,2,3,6,7,8,10,11,104]) ?_;simp only [go_sem]
           repeat refine zq ?_
           refine zc rfl (fun hc=>?_) (fun hc=>?_) <;> (try simp only [go_sem] at hc)
           refine zx ?_
           try simp only [go_sem]
           repeat refine zq ?_
           refine zb fun K hK=>?_;simp only [go_sem];(try simp (disch:=omega) only [zI]);repeat first | intro _ | refine ⟨by omega,?_⟩
           refine hK _ ?_;clear hK K
           try simp only [go_sem]
           refine ⟨by omega,zj [] ?_ ?_⟩
           · try simp only [go_sem]
           · try simp only [go_sem]
         · have hS : S' = ⟨S.team,S.pl + 1,S.won,S.dr,S.lo + 1,S.f + m.f,S.g + m.g,S.pts⟩:=by
            rw [hsn]; simp only [stepW,hmp,hst1,addW,if_true]
            congr 1 <;> (try unfold resV ptsV) <;> (repeat' split) <;> (try simp only) <;> omega
           rw [hS]
           have c1 : decide (m.g < m.f) = false:=by simp; omega
           have c2 : (m.f == m.g) = false:=by simp; omega
           have c3 : decide (m.f < m.g) = true:=by simp; omega
           repeat refine zq ?_
           refine zb fun K hK=>?_;simp only [go_sem];(try simp (disch:=omega) only [zI]);repeat first | intro _ | refine ⟨by omega,?_⟩
           refine hK _ ?_;clear hK K;refine zw (zk [1,2,3,6,7,8,10,11]) ?_;simp only [go_sem]
           repeat refine zq ?_
           refine zb fun K hK=>?_;simp only [go_sem,c1];(try simp (disch:=omega) only [zI]);repeat first | intro _ | refine ⟨by omega,?_⟩
           refine hK _ ?_;clear hK K;refine zw (zk [1,2,3,6,7,8,10,11,78]) ?_;simp only [go_sem]
           repeat refine zq ?_
           refine zc rfl (fun hc=>?_) (fun hc=>?_) <;> (try simp only [go_sem] at hc)
           refine zx ?_
           try simp only [go_sem]
           repeat refine zq ?_
           refine zb fun K hK=>?_;simp only [go_sem,c2];(try simp (disch:=omega) only [zI]);repeat first | intro _ | refine ⟨by omega,?_⟩
           refine hK _ ?_;clear hK K;refine zw (zk [1,2,3,6,7,8,10,11,91]) ?_;simp only [go_sem]
           repeat refine zq ?_
           refine zc rfl (fun hc=>?_) (fun hc=>?_) <;> (try simp only [go_sem] at hc)
           refine zx ?_
           try simp only [go_sem]
           repeat refine zq ?_
           refine zb fun K hK=>?_;simp only [go_sem,c3];(try simp (disch:=omega) only [zI]);repeat first | intro _ | refine ⟨by omega,?_⟩
           refine hK _ ?_;clear hK K;refine zw (zk [1,2,3,6,7,8,10,11,104]) ?_;simp only [go_sem]
           repeat refine zq ?_
           refine zc rfl (fun hc=>?_) (fun hc=>?_) <;> (try simp only [go_sem] at hc)
           repeat refine zq ?_
           refine zb fun K hK=>?_;simp only [go_sem];(try simp (disch:=omega) only [zI]);repeat first | intro _ | refine ⟨by omega,?_⟩
           refine hK _ ?_;clear hK K;refine zw (zk [1,2,3,6,7,8]) ?_;simp only [go_sem]
           repeat refine zq ?_
           refine zb fun K hK=>?_;simp only [go_sem];(try simp (disch:=omega) only [zI]);repeat first | intro _ | refine ⟨by omega,?_⟩
           refine hK _ ?_;clear hK K
           try simp only [go_sem]
           refine ⟨by omega,zj [] ?_ ?_⟩
           · try simp only [go_sem]
           · try simp only [go_sem]
       · have e1 : (m.h != (x : Int)) = true:=by simp [hh]
         by_cases ha : m.a = (x : Int)
         · have e2 : (m.a != (x : Int)) = false:=by simp [ha]
           have e3 : (m.a == (x : Int)) = true:=by simp [ha]
           have hst1 : (m.h = (x : Int)) = False:=by simp [hh]
           repeat refine zq ?_
           refine zb fun K hK=>?_;simp only [go_sem,hmp,e1,e2];(try simp (disch:=omega) only [zI]);repeat first | intro _ | refine ⟨by omega,?_⟩
           refine hK _ ?_;clear hK K;refine zw (zk [1,2,3,6,7,8,9,51]) ?_;simp only [go_sem]
           repeat refine zq ?_
           refine zc rfl (fun hc=>?_) (fun hc=>?_) <;> (try simp only [go_sem] at hc)
           refine zx ?_
           try simp only [go_sem]
           repeat refine zq ?_
           refine zg follows (by decide +kernel) (by kernel_rfl) fun K hK=>?_;simp only [go_sem];(try simp (disch:=omega) only [zI]);repeat first | intro _ | refine ⟨by omega,?_⟩
           refine hK _ ?_;clear hK K;refine zw (zk [1,2,3,6,7,8,9,10,11]) ?_;simp only [go_sem]
           repeat refine zq ?_
           refine zb fun K hK=>?_;simp only [go_sem,e3];(try simp (disch:=omega) only [zI]);repeat first | intro _ | refine ⟨by omega,?_⟩
           refine hK _ ?_;clear hK K;refine zw (zk [1,2,3,6,7,8,10,11,59]) ?_;simp only [go_sem]
           repeat refine zq ?_
           refine zc rfl (fun hc=>?_) (fun hc=>?_) <;> (try simp only [go_sem] at hc)
           repeat refine zq ?_
           refine zb fun K hK=>?_;simp only [go_sem];(try simp (disch:=omega) only [zI]);repeat first | intro _ | refine ⟨by omega,?_⟩
           refine hK _ ?_;clear hK K;refine zw (zk [1,2,3,6,7,8,10,11]) ?_;simp only [go_sem]
           rcases Int.lt_trichotomy m.f m.g with ht | ht | ht
           · have hS : S' = ⟨S.team,S.pl + 1,S.won + 1,S.dr,S.lo,S.f + m.g,S.g + m.f,S.pts + r.win⟩:=by
              rw [hsn]; simp only [stepW,hmp,hst1,ha,addW,if_true,if_false]
              congr 1 <;> (try unfold resV ptsV) <;> (repeat' split) <;> (try simp only) <;> omega
             rw [hS]
             have c1 : decide (m.f < m.g) = true:=by simp; omega
             have c2 : (m.g == m.f) = false:=by simp; omega
             have c3 : decide (m.g < m.f) = false:=by simp; omega
             repeat refine zq ?_
             refine zb fun K hK=>?_;simp only [go_sem];(try simp (disch:=omega) only [zI]);repeat first | intro _ | refine ⟨by omega,?_⟩
             refine hK _ ?_;clear hK K;refine zw (zk [1,2,3,6,7,8,10,11]) ?_;simp only [go_sem]
             repeat refine zq ?_
             refine zb fun K hK=>?_;simp only [go_sem,c1];(try simp (disch:=omega) only [zI]);repeat first | intro _ | refine ⟨by omega,?_⟩
             refine hK _ ?_;clear hK K;refine zw (zk [1,2,3,6,7,8,10,11,78]) ?_;simp only [go_sem]
             repeat refine zq ?_
             refine zc rfl (fun hc=>?_) (fun hc=>?_) <;> (try simp only [go_sem] at hc)
             repeat refine zq ?_
             refine awp_dreg2 [(7,some 7),(3,none)] follows (by decide +kernel) (by kernel_rfl) (by simp only [keysOk,List.mem_cons,List.not_mem_nil,forall_eq_or_imp,Oc.keyOf,go_sem]; simp) fun K hK=>?_
             simp only [go_sem];(try simp (disch:=omega) only [zI]);repeat first | intro _ | refine ⟨by omega,?_⟩
             refine hK _ ?_;clear hK K;refine zw (zk [1,2,3,6,7,8,10,11]) ?_;simp only [go_sem]
             repeat refine zq ?_
             refine zb fun K hK=>?_;simp only [go_sem,c2];(try simp (disch:=omega) only [zI]);repeat first | intro _ | refine ⟨by omega,?_⟩
             refine hK _ ?_;clear hK K;refine zw (zk [1,2,3,6,7,8,10,11,91]) ?_;simp only [go_sem]
             repeat refine zq ?_
             refine zc rfl (fun hc=>?_) (fun hc=>?_) <;> (try simp only [go_sem] at hc)
             refine zx ?_
             try simp only [go_sem]
             repeat refine zq ?_
             refine zb fun K hK=>?_;simp only [go_sem,c3];(try simp (disch:=omega) only [zI]);repeat first | intro _ | refine ⟨by omega,?_⟩
             refine hK _ ?_;clear hK K;refine zw (zk [1,2,3,6,7,8,10,11,104]) ?_;simp only [go_sem]
             repeat refine zq ?_
             refine zc rfl (fun hc=>?_) (fun hc=>?_) <;> (try simp only [go_sem] at hc)
             refine zx ?_
             try simp only [go_sem]
             repeat refine zq ?_
             refine zb fun K hK=>?_;simp only [go_sem];(try simp (disch:=omega) only [zI]);repeat first | intro _ | refine ⟨by omega,?_⟩
             refine hK _ ?_;clear hK K
             try simp only [go_sem]
             refine ⟨by omega,zj [] ?_ ?_⟩
             · try simp only [go_sem]
             · try simp only [go_sem]
           · have hS : S' = ⟨S.team,S.pl + 1,S.won,S.dr + 1,S.lo,S.f + m.g,S.g + m.f,S.pts + r.draw⟩:=by
              rw [hsn]; simp only [stepW,hmp,hst1,ha,addW,if_true,if_false]
              congr 1 <;> (try unfold resV ptsV) <;> (repeat' split) <;> (try simp only) <;> omega
             rw [hS]
             have c1 : decide (m.f < m.g) = false:=by simp; omega
             have c2 : (m.g == m.f) = true:=by simp; omega
             have c3 : decide (m.g < m.f) = false:=by simp; omega
             repeat refine zq ?_
             refine zb fun K hK=>?_;simp only [go_sem];(try simp (disch:=omega) only [zI]);repeat first | intro _ | refine ⟨by omega,?_⟩
             refine hK _ ?_;clear hK K;refine zw (zk [1,2,3,6,7,8,10,11]) ?_;simp only [go_sem]
             repeat refine zq ?_
             refine zb fun K hK=>?_;simp only [go_sem,c1];(try simp (disch:=omega) only [zI]);repeat first | intro _ | refine ⟨by omega,?_⟩
             refine hK _ ?_;clear hK K;refine zw (zk [1,2,3,6,7,8,10,11,78]) ?_;simp only [go_sem]
             repeat refine zq ?_
             refine zc rfl (fun hc=>?_) (fun hc=>?_) <;> (try simp only [go_sem] at hc)
             refine zx ?_
             try simp only [go_sem]
             repeat refine zq ?_
             refine zb fun K hK=>?_;simp only [go_sem,c2];(try simp (disch:=omega) only [zI]);repeat first | intro _ | refine ⟨by omega,?_⟩
             refine hK _ ?_;clear hK K;refine zw (zk [1,2,3,6,7,8,10,11,91]) ?_;simp only [go_sem]
             repeat refine zq ?_
             refine zc rfl (fun hc=>?_) (fun hc=>?_) <;> (try simp only [go_sem] at hc)
             repeat refine zq ?_
             refine awp_dreg2 [(7,some 7),(3,none)] follows (by decide +kernel) (by kernel_rfl) (by simp only [keysOk,List.mem_cons,List.not_mem_nil,forall_eq_or_imp,Oc.keyOf,go_sem]; simp) fun K hK=>?_
             simp only [go_sem];(try simp (disch:=omega) only [zI]);repeat first | intro _ | refine ⟨by omega,?_⟩
             refine hK _ ?_;clear hK K;refine zw (zk [1,2,3,6,7,8,10,11]) ?_;simp only [go_sem]
             repeat refine zq ?_
             refine zb fun K hK=>?_;simp only [go_sem,c3];(try simp (disch:=omega) only [zI]);repeat first | intro _ | refine ⟨by omega,?_⟩
             refine hK _ ?_;clear hK K;refine zw (zk [1,2,3,6,7,8,10,11,104]) ?_;simp only [go_sem]
             repeat refine zq ?_
             refine zc rfl (fun hc=>?_) (fun hc=>?_) <;> (try simp only [go_sem] at hc)
             refine zx ?_
             try simp only [go_sem]
             repeat refine zq ?_
             refine zb fun K hK=>?_;simp only [go_sem];(try simp (disch:=omega) only [zI]);repeat first | intro _ | refine ⟨by omega,?_⟩
             refine hK _ ?_;clear hK K
             try simp only [go_sem]
             refine ⟨by omega,zj [] ?_ ?_⟩
             · try simp only [go_sem]
             · try simp only [go_sem]
           · have hS : S' = ⟨S.team,S.pl + 1,S.won,S.dr,S.lo + 1,S.f + m.g,S.g + m.f,S.pts⟩:=by
              rw [hsn]; simp only [stepW,hmp,hst1,ha,addW,if_true,if_false]
              congr 1 <;> (try unfold resV ptsV) <;> (repeat' split) <;> (try simp only) <;> omega
             rw [hS]
             have c1 : decide (m.f < m.g) = false:=by simp; omega
             have c2 : (m.g == m.f) = false:=by simp; omega
             have c3 : decide (m.g < m.f) = true:=by simp; omega
             repeat refine zq ?_
             refine zb fun K hK=>?_;simp only [go_sem];(try simp (disch:=omega) only [zI]);repeat first | intro _ | refine ⟨by omega,?_⟩
             refine hK _ ?_;clear hK K;refine zw (zk [1,2,3,6,7,8,10,11]) ?_;simp only [go_sem]
             repeat refine zq ?_
             refine zb fun K hK=>?_;simp only [go_sem,c1];(try simp (disch:=omega) only [zI]);repeat first | intro _ | refine ⟨by omega,?_⟩
             refine hK _ ?_;clear hK K;refine zw (zk [1,2,3,6,7,8,10,11,78]) ?_;simp only [go_sem]
             repeat refine zq ?_
             refine zc rfl (fun hc=>?_) (fun hc=>?_) <;> (try simp only [go_sem] at hc)
             refine zx ?_
             try simp only [go_sem]
             repeat refine zq ?_
             refine zb fun K hK=>?_;simp only [go_sem,c2];(try simp (disch:=omega) only [zI]);repeat first | intro _ | refine ⟨by omega,?_⟩
             refine hK _ ?_;clear hK K;refine zw (zk [1,2,3,6,7,8,10,11,91]) ?_;simp only [go_sem]
             repeat refine zq ?_
             refine zc rfl (fun hc=>?_) (fun hc=>?_) <;> (try simp only [go_sem] at hc)
             refine zx ?_
             try simp only [go_sem]
             repeat refine zq ?_
             refine zb fun K hK=>?_;simp only [go_sem,c3];(try simp (disch:=omega) only [zI]);repeat first | intro _ | refine ⟨by omega,?_⟩
             refine hK _ ?_;clear hK K;refine zw (zk [1,2,3,6,7,8,10,11,104]) ?_;simp only [go_sem]
             repeat refine zq ?_
             refine zc rfl (fun hc=>?_) (fun hc=>?_) <;> (try simp only [go_sem] at hc)
             repeat refine zq ?_
             refine zb fun K hK=>?_;simp only [go_sem];(try simp (disch:=omega) only [zI]);repeat first | intro _ | refine ⟨by omega,?_⟩
             refine hK _ ?_;clear hK K;refine zw (zk [1,2,3,6,7,8]) ?_;simp only [go_sem]
             repeat refine zq ?_
             refine zb fun K hK=>?_;simp only [go_sem];(try simp (disch:=omega) only [zI]);repeat first | intro _ | refine ⟨by omega,?_⟩
             refine hK _ ?_;clear hK K
             try simp only [go_sem]
             refine ⟨by omega,zj [] ?_ ?_⟩
             · try simp only [go_sem]
             · try simp only [go_sem]
         · have e2 : (m.a != (x : Int)) = true:=by simp [ha]
           have hS : S' = S:=by rw [hsn]; unfold stepW; rw [hmp,if_neg hh,if_neg ha]; rfl
           rw [hS]
           repeat refine zq ?_
           refine zb fun K hK=>?_;simp only [go_sem,hmp,e1,e2];(try simp (disch:=omega) only [zI]);repeat first | intro _ | refine ⟨by omega,?_⟩
           refine hK _ ?_;clear hK K;refine zw (zk [1,2,3,6,7,8,9,51]) ?_;simp only [go_sem]
           repeat refine zq ?_
           refine zc rfl (fun hc=>?_) (fun hc=>?_) <;> (try simp only [go_sem] at hc)
           refine zf ?_;simp only [go_sem]
           repeat refine zq ?_
           refine zb fun K hK=>?_;simp only [go_sem];(try simp (disch:=omega) only [zI]);repeat first | intro _ | refine ⟨by omega,?_⟩
           refine hK _ ?_;clear hK K
           try simp only [go_sem]
           refine ⟨by omega,zj [] ?_ ?_⟩
           · try simp only [go_sem]
           · try simp only [go_sem]
   · have hil : i = l.length:=by omega
     subst hil
     rw [List.take_length]
     refine zf ?_;simp only [go_sem]
     repeat refine zq ?_
     refine zb fun K hK=>?_;simp only [go_sem];(try simp (disch:=omega) only [zI]);repeat first | intro _ | refine ⟨by omega,?_⟩
     refine hK _ ?_;clear hK K;refine zw (zk [6]) ?_;simp only [go_sem];refine ze ?_;simp only [go_sem]
def zeroW : Rw:=⟨0,0,0,0,0,0,0,0⟩
def atK (w : Nat → Rw) (i k : Nat) : Nat:=((List.range k).filter fun j=>betB (w j) (w i)).length
def tabK (w : Nat → Rw) (n i : Nat) : List Rw:=(List.range i).foldl (fun out j=>out.set (atK w j n) (w j)) (List.replicate n zeroW)
theorem atK_succ (w : Nat → Rw) (i k : Nat) : atK w i (k + 1) = atK w i k + if betB (w k) (w i) then 1 else 0:=by
 unfold atK
 rw [List.range_succ,List.filter_append,List.length_append]
 cases h : betB (w k) (w i) <;> simp [h]
theorem atK_le (w : Nat → Rw) (i k : Nat) : atK w i k ≤ k:=by
 have:=List.length_filter_le (fun j=>betB (w j) (w i)) (List.range k)
 rw [List.length_range] at this
 exact this
theorem betB_irr (a : Rw) : betB a a = false:=by simp [betB]
theorem atK_lt (w : Nat → Rw) (i : Nat) : ∀ k,i < k → atK w i k < k
 | 0,h=>by omega
 | k + 1, h => by
   rw [atK_succ]
   by_cases e : i = k
   · subst e
     rw [betB_irr]
     have:=atK_le w i i
     simp; omega
   · have:=atK_lt w i k (by omega)
     split <;> omega
theorem tabK_succ (w : Nat → Rw) (n i : Nat) : tabK w n (i + 1) = (tabK w n i).set (atK w i n) (w i):=by simp [tabK,List.range_succ]
theorem tabK_len (w : Nat → Rw) (n : Nat) : ∀ i,(tabK w n i).length = n
 | 0=>by simp [tabK]
 | i + 1=>by rw [tabK_succ,List.length_set]; exact tabK_len w n i
theorem refTable_ok (r : Tr) (hr : RulesI r) (l : List Mt) (hm : ∀ m ∈ l,MatchI r m) (hl : l.length ≤ 200) : ACalls Try.prog 28 [trV r,mtsR l] (rwsR (tabK (rowT r l) (nT r) (nT r))):=by
 obtain ⟨hn,hn2,hn10⟩:=nT_eq hr
 have hn' : r.teams = (nT r : Int):=hn.symm
 have hro:=fun x hx=>refRow_ok r hr l hm hl x hx
 have hsm : ∀ x,SmallW 200 (rowT r l x):=fun x=>by
  have:=(small_row hr hm x l.length (Nat.le_refl _)).le (B':=200) (by omega)
  rwa [List.take_length] at this
 generalize hw : rowT r l = w at *
 refine acalls_st (rs:=[rwsR (tabK w (nT r) (nT r))]) [.tmp 4] Try.func28 rfl (by kernel_rfl) Try.ntmps28 rfl (by simp) rfl fun C vs=>?_
 repeat refine zq ?_
 refine zb fun K hK=>?_;simp only [go_sem];(try simp (disch:=omega) only [zI]);repeat first | intro _ | refine ⟨by omega,?_⟩
 refine hK _ ?_;clear hK K;refine zw (sub_frzP 2 2 (trC r) (by omega) rfl rfl) ?_;refine zw (zk [1,2]) ?_;simp only [go_sem]
 repeat refine zq ?_
 refine zb fun K hK=>?_;simp only [go_sem,hn'];(try simp (disch:=omega) only [zI]);repeat first | intro _ | refine ⟨by omega,?_⟩
 refine hK _ ?_;clear hK K;refine zw (zk [1,2,5]) ?_;simp only [go_sem]
 repeat refine zq ?_
 refine zb fun K hK=>?_;simp only [go_sem];(try simp (disch:=omega) only [zI]);repeat first | intro _ | refine ⟨by omega,?_⟩
 refine hK _ ?_;clear hK K;refine zw (zk [1,2,5,6]) ?_;simp only [go_sem]
 repeat refine zq ?_
 refine zd ?_
 refine awp_uptoV (n:=42) (nT r) (fun i vs=>[(1,.r (mtsR l)),(2,.r (.rp (trC r))),(5,.os 12 (vs 12) 8 0 (nT r)),(6,.r (i64 (i : Int)))])
  (fun i vs=>[(12,.arr 49 8 ((tabK w (nT r) i).map rwR))]) (fun _=>True) 0 (zj [] ?_ ?_) (Nat.zero_le _) trivial ?_
 · try simp only [go_sem]
 · try simp only [go_sem]
   simp [tabK,zeroW]
 · intro i vs hi _
   have htl:=tabK_len w (nT r) i
   repeat refine zq ?_
   refine zb fun K hK=>?_;simp only [go_sem,hn'];(try simp (disch:=omega) only [zI]);repeat first | intro _ | refine ⟨by omega,?_⟩
   refine hK _ ?_;clear hK K;refine zw (zk [1,2,5,6,16]) ?_;simp only [go_sem]
   repeat refine zq ?_
   refine zc rfl (fun hc=>?_) (fun hc=>?_) <;> (try simp only [go_sem] at hc)
   · have hin : i < nT r:=by omega
     refine zx ?_
     try simp only [go_sem]
     repeat refine zq ?_
     refine zd ?_
     repeat refine zq ?_
     refine zb fun K hK=>?_;simp only [go_sem];(try simp (disch:=omega) only [zI])
     refine zh (hro i hin) rfl (by simp only [go_sem,i64,ints]) (by simp only [go_sem,i64,ints]) (by first | exact .inl rfl | exact .inr rfl) ?_
     (try simp only [go_sem]);(try simp (disch:=omega) only [zI]);repeat first | intro _ | refine ⟨by omega,?_⟩
     refine hK _ ?_;clear hK K;refine zw (sub_frzP 8 8 (rwR (w i)) (by omega) rfl rfl) ?_;refine zw (zk [1,2,5,6,7,8]) ?_;simp only [go_sem]
     repeat refine zq ?_
     refine zb fun K hK=>?_;simp only [go_sem];(try simp (disch:=omega) only [zI]);repeat first | intro _ | refine ⟨by omega,?_⟩
     refine hK _ ?_;clear hK K;refine zw (zk [1,2,5,6,7,8,9]) ?_;simp only [go_sem]
     repeat refine zq ?_
     refine zd ?_
     refine awp_uptoV (n:=42) (nT r) (fun k vs=>[(1,.r (mtsR l)),(2,.r (.rp (trC r))),(5,.os 12 (vs 12) 8 0 (nT r)),(6,.r (i64 (i : Int))),(7,.r (i64 (atK w i k : Int))),(8,.r (.rp (rwR (w i)))),(9,.r (i64 (k : Int)))])
      (fun k vs=>[(12,.arr 49 8 ((tabK w (nT r) i).map rwR))]) (fun _=>True) 0 (zj [] ?_ ?_) (Nat.zero_le _) trivial ?_
     · try simp only [go_sem]
       try rfl
     · try simp only [go_sem]
     · intro k vs hk _
       have hsu:=atK_succ w i k
       have hale:=atK_le w i k
       repeat refine zq ?_
       refine zb fun K hK=>?_;simp only [go_sem,hn'];(try simp (disch:=omega) only [zI]);repeat first | intro _ | refine ⟨by omega,?_⟩
       refine hK _ ?_;clear hK K;refine zw (zk [1,2,5,6,7,8,9,26]) ?_;simp only [go_sem]
       repeat refine zq ?_
       refine zc rfl (fun hc=>?_) (fun hc=>?_) <;> (try simp only [go_sem] at hc)
       · have hkn : k < nT r:=by omega
         refine zx ?_
         try simp only [go_sem]
         repeat refine zq ?_
         refine zd ?_
         repeat refine zq ?_
         refine zg follows (by decide +kernel) (by kernel_rfl) fun K hK=>?_;simp only [go_sem];(try simp (disch:=omega) only [zI])
         refine zh (hro k hkn) rfl (by simp only [go_sem,i64,ints]) (by simp only [go_sem,i64,ints]) (by first | exact .inl rfl | exact .inr rfl) ?_
         (try simp only [go_sem]);(try simp (disch:=omega) only [zI])
         refine zh (better_ok (w k) (w i) (hsm k) (hsm i)) rfl (by simp only [go_sem,i64,ints]) (by simp only [go_sem,i64,ints]) (by first | exact .inl rfl | exact .inr rfl) ?_
         (try simp only [go_sem]);(try simp (disch:=omega) only [zI]);repeat first | intro _ | refine ⟨by omega,?_⟩
         refine hK _ ?_;clear hK K;refine zw (zk [1,2,5,6,7,8,9,34]) ?_;simp only [go_sem]
         cases hb : betB (w k) (w i) with
         | true =>
           rw [hb] at hsu
           repeat refine zq ?_
           refine zc rfl (fun hc=>?_) (fun hc=>?_) <;> (try simp only [go_sem] at hc)
           repeat refine zq ?_
           refine zb fun K hK=>?_;simp only [go_sem];(try simp (disch:=omega) only [zI]);repeat first | intro _ | refine ⟨by omega,?_⟩
           refine hK _ ?_;clear hK K;refine zw (zk [1,2,5,6,7,8,9]) ?_;simp only [go_sem]
           repeat refine zq ?_
           refine zb fun K hK=>?_;simp only [go_sem];(try simp (disch:=omega) only [zI]);repeat first | intro _ | refine ⟨by omega,?_⟩
           refine hK _ ?_;clear hK K
           try simp only [go_sem]
           refine ⟨by omega,zj [] ?_ ?_⟩
           · try simp only [go_sem]
             rw [hsu]; simp
           · try simp only [go_sem]
         | false =>
           rw [hb] at hsu
           repeat refine zq ?_
           refine zc rfl (fun hc=>?_) (fun hc=>?_) <;> (try simp only [go_sem] at hc)
           refine zx ?_
           try simp only [go_sem]
           repeat refine zq ?_
           refine zb fun K hK=>?_;simp only [go_sem];(try simp (disch:=omega) only [zI]);repeat first | intro _ | refine ⟨by omega,?_⟩
           refine hK _ ?_;clear hK K
           try simp only [go_sem]
           refine ⟨by omega,zj [] ?_ ?_⟩
           · try simp only [go_sem]
             rw [hsu]; simp
           · try simp only [go_sem]
       · have hkn : k = nT r:=by omega
         subst hkn
         have hlt:=atK_lt w i (nT r) hin
         have hts:=tabK_succ w (nT r) i
         refine zf ?_;simp only [go_sem]
         obtain ⟨y,hy⟩:=opt_of_lt (show atK w i (nT r) < (tabK w (nT r) i).length by omega)
         have hset : (tabK w (nT r) (i + 1)).map rwR = ((tabK w (nT r) i).map rwR).set (atK w i (nT r)) (rwR (w i)):=by rw [hts,List.map_set]
         repeat refine zq ?_
         refine zb fun K hK=>?_;simp only [go_sem,htl];(try simp (disch:=omega) only [zI]);repeat first | intro _ | refine ⟨by omega,?_⟩
         refine hK _ ?_;clear hK K;refine zw (zk [1,2,5,6]) ?_;simp only [go_sem]
         repeat refine zq ?_
         refine zb fun K hK=>?_;simp only [go_sem];(try simp (disch:=omega) only [zI]);repeat first | intro _ | refine ⟨by omega,?_⟩
         refine hK _ ?_;clear hK K
         try simp only [go_sem]
         refine ⟨by omega,zj [] ?_ ?_⟩
         · try simp only [go_sem]
         · try simp only [go_sem]
           rw [hset,hy]
           rfl
   · have hin : i = nT r:=by omega
     subst hin
     refine zf ?_;simp only [go_sem]
     repeat refine zq ?_
     refine zb fun K hK=>?_;simp only [go_sem];(try simp (disch:=omega) only [zI]);repeat first | intro _ | refine ⟨by omega,?_⟩
     refine hK _ ?_;clear hK K;refine zw (sub_frz 4 12 (by omega) rfl rfl (by simp [htl])) ?_;refine zw (zk [4]) ?_;simp only [go_sem];refine ze ?_;simp only [go_sem];exact List.take_of_length_le (by simp [htl])
theorem orV_step (x y : Int) (L : List Int) : decide (orV (cmpI x y :: L) < 0) = if y ≠ x then decide (x < y) else decide (orV L < 0):=by
 unfold cmpI
 rcases Int.lt_trichotomy x y with h | h | h
 · have h2 : y ≠ x:=by omega
   simp [orV,h,h2]
 · subst h
   simp [orV]
 · have h1 : ¬ x < y:=by omega
   have h2 : y ≠ x:=by omega
   simp [orV,h,h1,h2]
theorem betB_lt (a b : Rw) : betB a b = ltW a b:=by
 unfold betB ltW cmpW
 rw [orV_step,orV_step,orV_step,orV_step]
 by_cases h : b.team ≠ a.team
 · rw [if_pos h]
 · rw [if_neg h]
   have : ¬ a.team < b.team:=by omega
   simp [orV,this]
theorem insB_perm (lt : Rw → Rw → Bool) (x : Rw) : ∀ R,(insB lt x R).Perm (x :: R)
 | []=>by simp [insB]
 | y :: R => by
   unfold insB
   split
   · exact ((insB_perm lt x R).cons y).trans (List.Perm.swap x y R)
   · exact List.Perm.refl _
theorem sortB_perm (lt : Rw → Rw → Bool) : ∀ l R,(sortB lt l R).Perm (l ++ R)
 | [],R=>by simp [sortB]
 | x :: l, R => by
   simp only [sortB]
   refine (sortB_perm lt l _).trans ?_
   refine ((insB_perm lt x R).append_left l).trans ?_
   exact List.perm_middle
theorem sortN_perm (lt : Rw → Rw → Bool) (l : List Rw) : (sortN lt l).Perm l:=by
 unfold sortN
 refine (List.reverse_perm _).trans ?_
 simpa using sortB_perm lt l []
def DescP (lt : Rw → Rw → Bool) (R : List Rw) : Prop:=R.Pairwise fun a b=>lt a b = false
theorem insB_desc {lt : Rw → Rw → Bool} (asym : ∀ a b,lt a b = true → lt b a = false) (trans : ∀ a b c,lt a b = false → lt b c = false → lt a c = false) (x : Rw) : ∀ R,DescP lt R → DescP lt (insB lt x R)
 | [],_=>by simp [insB,DescP]
 | y :: R, h => by
   obtain ⟨h1,h2⟩:=List.pairwise_cons.1 h
   unfold insB
   split
   · rename_i hy
     refine List.pairwise_cons.2 ⟨fun z hz=>?_,insB_desc asym trans x R h2⟩
     rw [mem_insB] at hz
     rcases hz with rfl | hz
     · exact asym _ _ hy
     · exact h1 z hz
   · rename_i hy
     have hy' : lt x y = false:=by simpa using hy
     refine List.pairwise_cons.2 ⟨fun z hz=>?_,h⟩
     rcases List.mem_cons.1 hz with rfl | hz
     · exact hy'
     · exact trans _ _ _ hy' (h1 z hz)
theorem sortB_desc {lt : Rw → Rw → Bool} (asym : ∀ a b,lt a b = true → lt b a = false) (trans : ∀ a b c,lt a b = false → lt b c = false → lt a c = false) : ∀ l R,DescP lt R → DescP lt (sortB lt l R)
 | [],R,h=>h
 | x :: l,R,h=>by simp only [sortB]; exact sortB_desc asym trans l _ (insB_desc asym trans x R h)
theorem sortN_asc {lt : Rw → Rw → Bool} (asym : ∀ a b,lt a b = true → lt b a = false) (trans : ∀ a b c,lt a b = false → lt b c = false → lt a c = false) (l : List Rw) : (sortN lt l).Pairwise fun a b=>lt b a = false:=by
 unfold sortN
 rw [List.pairwise_reverse]
 exact sortB_desc asym trans l [] List.Pairwise.nil
theorem betB_asym (a b : Rw) (h : betB a b = true) : betB b a = false:=by
 unfold betB at *
 (repeat' split at h) <;> (repeat' split) <;> simp at * <;> omega
theorem betB_total (a b : Rw) (h : a.team ≠ b.team) (h2 : betB b a = false) : betB a b = true:=by
 unfold betB at *
 (repeat' split at h2) <;> (repeat' split) <;> simp at * <;> omega
theorem betB_trans (a b c : Rw) (h : betB a b = false) (h2 : betB b c = false) : betB a c = false:=by
 unfold betB at *
 (repeat' split at h) <;> (repeat' split at h2) <;> (repeat' split) <;> simp at * <;> omega
theorem filter_sorted {s : List Rw} (hs : s.Pairwise fun a b=>betB a b = true) : ∀ (p : Nat) (x : Rw),s[p]? = some x → (s.filter fun y=>betB y x).length = p:=by
 induction s with
 | nil=>intro p x h; simp at h
 | cons y s ih =>
   obtain ⟨h1,h2⟩:=List.pairwise_cons.1 hs
   intro p x h
   cases p with
   | zero =>
     simp only [List.getElem?_cons_zero,Option.some.injEq] at h
     subst h
     rw [List.length_eq_zero_iff,List.filter_eq_nil_iff]
     intro z hz
     rcases List.mem_cons.1 hz with rfl | hz
     · simp [betB_irr]
     · simp [betB_asym _ _ (h1 z hz)]
   | succ p =>
     rw [List.getElem?_cons_succ] at h
     have hx:=h1 x (List.mem_of_getElem? h)
     rw [List.filter_cons,if_pos hx,List.length_cons,ih h2 p x h]
theorem team_row (r : Tr) (l : List Mt) (t : Nat) : (rowT r l t).team = t:=by
 induction l using snoc_ind with
 | h0=>rfl
 | h1 l m ih =>
   rw [rowT_snoc]
   unfold stepW
   (repeat' split) <;> simp [addW,ih]
theorem atK_filter (w : Nat → Rw) (i n : Nat) : atK w i n = (((List.range n).map w).filter fun y=>betB y (w i)).length:=by
 unfold atK
 rw [List.filter_map,List.length_map]
 rfl
theorem tabK_get {w : Nat → Rw} {n : Nat} (hinj : ∀ i j,i < n → j < n → atK w i n = atK w j n → i = j) : ∀ i,i ≤ n → ∀ j,j < i → (tabK w n i)[atK w j n]? = some (w j)
 | 0,_,j,h=>by omega
 | i + 1, hi, j, h => by
   rw [tabK_succ]
   by_cases e : j = i
   · subst e
     rw [List.getElem?_set_self (by rw [tabK_len]; exact atK_lt w j n (by omega))]
   · have : atK w i n ≠ atK w j n:=fun e'=>e (hinj i j (by omega) (by omega) e').symm
     rw [List.getElem?_set_ne this]
     exact tabK_get hinj i (by omega) j (by omega)
theorem tab_sort {w : Nat → Rw} {n : Nat} (hw : ∀ i,(w i).team = i) : tabK w n n = sortW ((List.range n).map w):=by
 have hsw : sortW ((List.range n).map w) = sortN betB ((List.range n).map w):=by
  have : betB = ltW:=funext fun a=>funext fun b=>betB_lt a b
  unfold sortW; rw [this]
 rw [hsw]
 have hperm:=sortN_perm betB ((List.range n).map w)
 have hasc:=sortN_asc betB_asym betB_trans ((List.range n).map w)
 generalize sortN betB ((List.range n).map w) = s at *
 have hnd : (s.map (·.team)).Nodup:=by
  refine (hperm.map _).nodup_iff.2 ?_
  rw [List.map_map]
  have : ((fun x : Rw=>x.team) ∘ w) = fun i : Nat=>(i : Int):=funext fun i=>hw i
  rw [this]
  have hN : ∀ l : List Nat,l.Nodup → (l.map fun i : Nat=>(i : Int)).Nodup:=by
   intro l h
   unfold List.Nodup at *
   rw [List.pairwise_map]
   exact h.imp fun hab e=>hab (by omega)
  exact hN _ List.nodup_range
 have hst : s.Pairwise fun a b=>betB a b = true:=by
  have hne : s.Pairwise fun a b=>a.team ≠ b.team:=List.pairwise_map.1 hnd
  exact (hasc.and hne).imp fun ⟨h1,h2⟩=>betB_total _ _ h2 h1
 have hat : ∀ i p,s[p]? = some (w i) → atK w i n = p:=fun i p h=>by
  rw [atK_filter,← (hperm.filter _).length_eq]
  exact filter_sorted hst p (w i) h
 have hpos : ∀ i,i < n → s[atK w i n]? = some (w i):=fun i hi=>by
  have hm : w i ∈ s:=hperm.mem_iff.2 (List.mem_map.2 ⟨i,List.mem_range.2 hi,rfl⟩)
  obtain ⟨p,hp⟩:=List.getElem?_of_mem hm
  rw [hat i p hp]; exact hp
 have hinj : ∀ i j,i < n → j < n → atK w i n = atK w j n → i = j:=fun i j hi hj e=>by
  have h1:=hpos i hi
  rw [e,hpos j hj] at h1
  injection h1 with h1
  have:=congrArg Rw.team h1
  rw [hw,hw] at this
  omega
 have hlen : s.length = n:=by have:=hperm.length_eq; simpa using this
 refine List.ext_getElem? fun p=>?_
 by_cases hp : p < n
 · obtain ⟨x,hx⟩:=opt_of_lt (show p < s.length by omega)
   have hxm:=hperm.mem_iff.1 (List.mem_of_getElem? hx)
   obtain ⟨i,hi,rfl⟩:=List.mem_map.1 hxm
   have hi':=List.mem_range.1 hi
   rw [hx,← hat i p hx]
   exact tabK_get hinj n (Nat.le_refl _) i hi'
 · rw [List.getElem?_eq_none (by rw [tabK_len]; omega),List.getElem?_eq_none (by omega)]
theorem refTab_eq (r : Tr) (l : List Mt) : tabK (rowT r l) (nT r) (nT r) = sortW (rowsL r l):=tab_sort (team_row r l)
set_option maxRecDepth 8000
set_option maxHeartbeats 4000000
abbrev inB (n a b : Int) : Bool:=decide (a ≤ n) && decide (n ≤ b)
def dedB (r : Tr) : Bool:=decide ((r.ded.length : Int) = 0) || decide ((r.ded.length : Int) = r.teams)
def refOk (r : Tr) : Bool:=inB r.teams 2 10 && (inB r.legs 1 25 && (inB r.win 0 9 && (inB r.draw 0 r.win && (dedB r && (inB r.up 0 10 && (inB r.down 0 10 && decide (r.up + r.down ≤ r.teams)))))))
theorem refOk_of {r : Tr} (h : RulesI r) : refOk r = true:=by
 obtain ⟨h1,h2,h3,h4,h5,h6,h7⟩:=h
 unfold refOk dedB inB
 simp only [Bool.and_eq_true,Bool.or_eq_true,decide_eq_true_eq]
 refine ⟨h1,h2,h3,h4,?_,by omega,by omega,by omega⟩
 rcases h5 with h | ⟨h,_⟩
 · left; rw [h]; rfl
 · exact .inr h
theorem of_refOk {r : Tr} (h : refOk r = true) (hd : ∀ x ∈ r.ded,inB x 0 99 = true) : RulesI r:=by
 unfold refOk dedB inB at h
 simp only [Bool.and_eq_true,Bool.or_eq_true,decide_eq_true_eq] at h
 obtain ⟨h1,h2,h3,h4,h5,h6,h7,h8⟩:=h
 refine ⟨h1,h2,h3,h4,?_,by omega,by omega⟩
 rcases h5 with h | h
 · exact .inl (List.length_eq_zero_iff.1 (by omega))
 · exact .inr ⟨h,fun x hx=>by have:=hd x hx; simpa using this⟩
theorem indexF_at {α : Type} {p : α → Bool} : ∀ {l : List α} {i : Nat} {x : α},(∀ y ∈ l.take i,p y = false) → l[i]? = some x → p x = true → indexF p l = i
 | [],i,x,_,h,_=>by simp at h
 | y :: l, 0, x, _, h, hp => by
   have : y = x:=by simpa using h
   subst this; simp [indexF,hp]
 | y :: l, i + 1, x, h1, h, hp => by
   have hy:=h1 y (by simp)
   have ih:=indexF_at (l:=l) (i:=i) (fun z hz=>h1 z (by simp [hz])) (by simpa using h) hp
   unfold indexF
   rw [ih]
   simp only [hy,Bool.false_eq_true,if_false];rw [if_neg (by omega)]
   simp
theorem indexF_none {α : Type} {p : α → Bool} : ∀ {l : List α},(∀ y ∈ l,p y = false) → indexF p l = -1
 | [],_=>rfl
 | y :: l, h => by
   have ih:=indexF_none (l:=l) fun z hz=>h z (by simp [hz])
   unfold indexF
   rw [ih]
   simp [h y (by simp)]
def hB (r : Tr) (m : Mt) : Bool:=inB m.h 0 (r.teams - 1) && (inB m.a 0 (r.teams - 1) && (m.h != m.a))
def gB (r : Tr) (m : Mt) : Bool:=if m.p then inB m.f 0 r.legs && !(m.g != r.legs - m.f) else !(m.f != 0) && !(m.g != 0)
theorem matchOk_hg (r : Tr) (m : Mt) : matchOk r m = (hB r m && gB r m):=by
 refine Bool.eq_iff_iff.2 ?_
 rw [matchOk_iff]
 unfold hB gB inB
 constructor
 · rintro ⟨h1,h2,h3,h4,h5⟩
   unfold legsOf at h4 h5
   simp only [Bool.and_eq_true,decide_eq_true_eq,bne_iff_ne]
   refine ⟨⟨by omega,by omega,h3⟩,?_⟩
   cases hp : m.p <;> rw [hp] at h4 h5 <;> simp at h4 h5 ⊢ <;> omega
 · intro h
   simp only [Bool.and_eq_true,decide_eq_true_eq,bne_iff_ne] at h
   obtain ⟨⟨h1,h2,h3⟩,h4⟩:=h
   refine ⟨by omega,by omega,h3,?_,?_⟩ <;> unfold legsOf <;> cases hp : m.p <;> rw [hp] at h4 <;> simp at h4 ⊢ <;> omega
theorem refCheck_ok (r : Tr) (l : List Mt) (hw : Wf r l) : ACalls Try.prog 27 [trV r,mtsR l] (.tu [i64 (checkV r l).1,i64 (checkV r l).2]):=by
 obtain ⟨w1,w2,w3,w4,w5,w6,w7⟩:=hw.r
 unfold I64 at w1 w2 w3 w4 w6 w7
 refine acalls_st (rs:=[i64 (checkV r l).1,i64 (checkV r l).2]) [.tmp 4,.tmp 5] Try.func27 rfl (by kernel_rfl) Try.ntmps27 rfl (by simp) rfl fun C vs=>?_
 repeat refine zq ?_
 refine zb fun K hK=>?_;simp only [go_sem];(try simp (disch:=omega) only [zI]);repeat first | intro _ | refine ⟨by omega,?_⟩
 refine hK _ ?_;clear hK K;refine zw (sub_frzP 2 2 (trC r) (by omega) rfl rfl) ?_;refine zw (zk [1,2]) ?_;simp only [go_sem]
 repeat refine zq ?_
 refine awp_joinV (n:=162) (fun (_ : Unit) vs=>[(1,.r (mtsR l)),(2,.r (.rp (trC r))),(17,.r (.bo (decide (180 < l.length) || decide (10 < r.ded.length))))]) (fun _ vs=>[]) (fun _=>True) (fun _ h=>h) ?_ ?_
 · by_cases h : 180 < l.length
   · have h' : decide (180 < (l.length : Int)) = true:=by simp; omega
     have h2 : decide (180 < l.length) = true:=by simpa using h
     repeat refine zq ?_
     refine zb fun K hK=>?_;simp only [go_sem,h',h2];(try simp (disch:=omega) only [zI]);repeat first | intro _ | refine ⟨by omega,?_⟩
     refine hK _ ?_;clear hK K
     refine ⟨(),trivial,zj [] ?_ ?_⟩
     · try simp only [go_sem]
       simp [h2]
     · try simp only [go_sem]
   · have h' : decide (180 < (l.length : Int)) = false:=by simp; omega
     have h2 : decide (180 < l.length) = false:=by simpa using h
     repeat refine zq ?_
     refine zb fun K hK=>?_;simp only [go_sem,h',h2];(try simp (disch:=omega) only [zI]);repeat first | intro _ | refine ⟨by omega,?_⟩
     refine hK _ ?_;clear hK K
     refine ⟨(),trivial,zj [] ?_ ?_⟩
     · try simp only [go_sem]
       simp [h2]
       try omega
     · try simp only [go_sem]
 intro _ vs _
 repeat refine zq ?_
 refine zc rfl (fun hc=>?_) (fun hc=>?_) <;> (try simp only [go_sem] at hc)
 · have hc' : 180 < l.length ∨ 10 < r.ded.length:=by simpa using hc
   have hv : checkV r l = (0,5):=by unfold checkV; rw [if_pos hc']
   rw [hv]
   repeat refine zq ?_
   refine zb fun K hK=>?_;simp only [go_sem];(try simp (disch:=omega) only [zI]);repeat first | intro _ | refine ⟨by omega,?_⟩
   refine hK _ ?_;clear hK K;refine ze ?_;simp only [go_sem]
 have hc0 : ¬ (180 < l.length ∨ 10 < r.ded.length):=by simpa using hc
 refine zx ?_
 try simp only [go_sem]
 repeat refine zq ?_
 refine awp_joinV (n:=162) (fun (_ : Unit) vs=>[(1,.r (mtsR l)),(2,.r (.rp (trC r))),(77,.r (.bo (!refOk r)))]) (fun _ vs=>[]) (fun _=>True) (fun _ h=>h) ?_ ?_
 · cases q0 : inB r.teams 2 10 with
   | false =>
     repeat refine zq ?_
     refine zb fun K hK=>?_;simp only [go_sem,q0];(try simp (disch:=omega) only [zI]);repeat first | intro _ | refine ⟨by omega,?_⟩
     refine zh (in_ok r.teams 2 10) rfl (by simp only [go_sem,i64,ints,q0]) (by simp only [go_sem,i64,ints,q0]) (by first | exact .inl rfl | exact .inr rfl) ?_
     (try simp only [go_sem,q0]);(try simp (disch:=omega) only [zI]);repeat first | intro _ | refine ⟨by omega,?_⟩
     refine hK _ ?_;clear hK K
     refine ⟨(),trivial,zj [] ?_ ?_⟩
     · try simp only [go_sem]
       simp [refOk,q0]
       try omega
     · try simp only [go_sem]
   | true =>
     cases q1 : inB r.legs 1 25 with
      | false =>
        repeat refine zq ?_
        refine zb fun K hK=>?_;simp only [go_sem,q0,q1];(try simp (disch:=omega) only [zI]);repeat first | intro _ | refine ⟨by omega,?_⟩
        refine zh (in_ok r.teams 2 10) rfl (by simp only [go_sem,i64,ints,q0,q1]) (by simp only [go_sem,i64,ints,q0,q1]) (by first | exact .inl rfl | exact .inr rfl) ?_
        (try simp only [go_sem,q0,q1]);(try simp (disch:=omega) only [zI]);repeat first | intro _ | refine ⟨by omega,?_⟩
        refine zh (in_ok r.legs 1 25) rfl (by simp only [go_sem,i64,ints,q0,q1]) (by simp only [go_sem,i64,ints,q0,q1]) (by first | exact .inl rfl | exact .inr rfl) ?_
        (try simp only [go_sem,q0,q1]);(try simp (disch:=omega) only [zI]);repeat first | intro _ | refine ⟨by omega,?_⟩
        refine hK _ ?_;clear hK K
        refine ⟨(),trivial,zj [] ?_ ?_⟩
        · try simp only [go_sem]
          simp [refOk,q0,q1]
          try omega
        · try simp only [go_sem]
      | true =>
        cases q2 : inB r.win 0 9 with
         | false =>
           repeat refine zq ?_
           refine zb fun K hK=>?_;simp only [go_sem,q0,q1,q2];(try simp (disch:=omega) only [zI]);repeat first | intro _ | refine ⟨by omega,?_⟩
           refine zh (in_ok r.teams 2 10) rfl (by simp only [go_sem,i64,ints,q0,q1,q2]) (by simp only [go_sem,i64,ints,q0,q1,q2]) (by first | exact .inl rfl | exact .inr rfl) ?_
           (try simp only [go_sem,q0,q1,q2]);(try simp (disch:=omega) only [zI]);repeat first | intro _ | refine ⟨by omega,?_⟩
           refine zh (in_ok r.legs 1 25) rfl (by simp only [go_sem,i64,ints,q0,q1,q2]) (by simp only [go_sem,i64,ints,q0,q1,q2]) (by first | exact .inl rfl | exact .inr rfl) ?_
           (try simp only [go_sem,q0,q1,q2]);(try simp (disch:=omega) only [zI]);repeat first | intro _ | refine ⟨by omega,?_⟩
           refine zh (in_ok r.win 0 9) rfl (by simp only [go_sem,i64,ints,q0,q1,q2]) (by simp only [go_sem,i64,ints,q0,q1,q2]) (by first | exact .inl rfl | exact .inr rfl) ?_
           (try simp only [go_sem,q0,q1,q2]);(try simp (disch:=omega) only [zI]);repeat first | intro _ | refine ⟨by omega,?_⟩
           refine hK _ ?_;clear hK K
           refine ⟨(),trivial,zj [] ?_ ?_⟩
           · try simp only [go_sem]
             simp [refOk,q0,q1,q2]
             try omega
           · try simp only [go_sem]
         | true =>
           cases q3 : inB r.draw 0 r.win with
            | false =>
              repeat refine zq ?_
              refine zb fun K hK=>?_;simp only [go_sem,q0,q1,q2,q3];(try simp (disch:=omega) only [zI]);repeat first | intro _ | refine ⟨by omega,?_⟩
              refine zh (in_ok r.teams 2 10) rfl (by simp only [go_sem,i64,ints,q0,q1,q2,q3]) (by simp only [go_sem,i64,ints,q0,q1,q2,q3]) (by first | exact .inl rfl | exact .inr rfl) ?_
              (try simp only [go_sem,q0,q1,q2,q3]);(try simp (disch:=omega) only [zI]);repeat first | intro _ | refine ⟨by omega,?_⟩
              refine zh (in_ok r.legs 1 25) rfl (by simp only [go_sem,i64,ints,q0,q1,q2,q3]) (by simp only [go_sem,i64,ints,q0,q1,q2,q3]) (by first | exact .inl rfl | exact .inr rfl) ?_
              (try simp only [go_sem,q0,q1,q2,q3]);(try simp (disch:=omega) only [zI]);repeat first | intro _ | refine ⟨by omega,?_⟩
              refine zh (in_ok r.win 0 9) rfl (by simp only [go_sem,i64,ints,q0,q1,q2,q3]) (by simp only [go_sem,i64,ints,q0,q1,q2,q3]) (by first | exact .inl rfl | exact .inr rfl) ?_
              (try simp only [go_sem,q0,q1,q2,q3]);(try simp (disch:=omega) only [zI]);repeat first | intro _ | refine ⟨by omega,?_⟩
              refine zh (in_ok r.draw 0 r.win) rfl (by simp only [go_sem,i64,ints,q0,q1,q2,q3]) (by simp only [go_sem,i64,ints,q0,q1,q2,q3]) (by first | exact .inl rfl | exact .inr rfl) ?_
              (try simp only [go_sem,q0,q1,q2,q3]);(try simp (disch:=omega) only [zI]);repeat first | intro _ | refine ⟨by omega,?_⟩
              refine hK _ ?_;clear hK K
              refine ⟨(),trivial,zj [] ?_ ?_⟩
              · try simp only [go_sem]
                simp [refOk,q0,q1,q2,q3]
                try omega
              · try simp only [go_sem]
            | true =>
              cases q4 : dedB r with
               | false =>
                 have q4p:=q4
                 unfold dedB at q4p
                 rw [Bool.or_eq_false_iff,decide_eq_false_iff_not,decide_eq_false_iff_not] at q4p
                 have d1 : ((r.ded.length : Int) != 0) = true:=bne_iff_ne.2 q4p.1
                 have d2 : ((r.ded.length : Int) != r.teams) = true:=bne_iff_ne.2 q4p.2
                 repeat refine zq ?_
                 refine zb fun K hK=>?_;simp only [go_sem,q0,q1,q2,q3,q4,d1,d2];(try simp (disch:=omega) only [zI]);repeat first | intro _ | refine ⟨by omega,?_⟩
                 refine zh (in_ok r.teams 2 10) rfl (by simp only [go_sem,i64,ints,q0,q1,q2,q3,q4,d1,d2]) (by simp only [go_sem,i64,ints,q0,q1,q2,q3,q4,d1,d2]) (by first | exact .inl rfl | exact .inr rfl) ?_
                 (try simp only [go_sem,q0,q1,q2,q3,q4,d1,d2]);(try simp (disch:=omega) only [zI]);repeat first | intro _ | refine ⟨by omega,?_⟩
                 refine zh (in_ok r.legs 1 25) rfl (by simp only [go_sem,i64,ints,q0,q1,q2,q3,q4,d1,d2]) (by simp only [go_sem,i64,ints,q0,q1,q2,q3,q4,d1,d2]) (by first | exact .inl rfl | exact .inr rfl) ?_
                 (try simp only [go_sem,q0,q1,q2,q3,q4,d1,d2]);(try simp (disch:=omega) only [zI]);repeat first | intro _ | refine ⟨by omega,?_⟩
                 refine zh (in_ok r.win 0 9) rfl (by simp only [go_sem,i64,ints,q0,q1,q2,q3,q4,d1,d2]) (by simp only [go_sem,i64,ints,q0,q1,q2,q3,q4,d1,d2]) (by first | exact .inl rfl | exact .inr rfl) ?_
                 (try simp only [go_sem,q0,q1,q2,q3,q4,d1,d2]);(try simp (disch:=omega) only [zI]);repeat first | intro _ | refine ⟨by omega,?_⟩
                 refine zh (in_ok r.draw 0 r.win) rfl (by simp only [go_sem,i64,ints,q0,q1,q2,q3,q4,d1,d2]) (by simp only [go_sem,i64,ints,q0,q1,q2,q3,q4,d1,d2]) (by first | exact .inl rfl | exact .inr rfl) ?_
                 (try simp only [go_sem,q0,q1,q2,q3,q4,d1,d2]);(try simp (disch:=omega) only [zI]);repeat first | intro _ | refine ⟨by omega,?_⟩
                 refine hK _ ?_;clear hK K
                 refine ⟨(),trivial,zj [] ?_ ?_⟩
                 · try simp only [go_sem]
                   simp [refOk,q0,q1,q2,q3,q4]
                   try omega
                 · try simp only [go_sem]
               | true =>
                 cases q5 : inB r.up 0 10 with
                  | false =>
                    have q4p:=q4
                    unfold dedB at q4p
                    rw [Bool.or_eq_true,decide_eq_true_eq,decide_eq_true_eq] at q4p
                    by_cases d0 : (r.ded.length : Int) = 0
                    · have d1 : ((r.ded.length : Int) != 0) = false:=bne_eq_false_iff_eq.2 d0
                      repeat refine zq ?_
                      refine zb fun K hK=>?_;simp only [go_sem,q0,q1,q2,q3,q4,q5,d1];(try simp (disch:=omega) only [zI]);repeat first | intro _ | refine ⟨by omega,?_⟩
                      refine zh (in_ok r.teams 2 10) rfl (by simp only [go_sem,i64,ints,q0,q1,q2,q3,q4,q5,d1]) (by simp only [go_sem,i64,ints,q0,q1,q2,q3,q4,q5,d1]) (by first | exact .inl rfl | exact .inr rfl) ?_
                      (try simp only [go_sem,q0,q1,q2,q3,q4,q5,d1]);(try simp (disch:=omega) only [zI]);repeat first | intro _ | refine ⟨by omega,?_⟩
                      refine zh (in_ok r.legs 1 25) rfl (by simp only [go_sem,i64,ints,q0,q1,q2,q3,q4,q5,d1]) (by simp only [go_sem,i64,ints,q0,q1,q2,q3,q4,q5,d1]) (by first | exact .inl rfl | exact .inr rfl) ?_
                      (try simp only [go_sem,q0,q1,q2,q3,q4,q5,d1]);(try simp (disch:=omega) only [zI]);repeat first | intro _ | refine ⟨by omega,?_⟩
                      refine zh (in_ok r.win 0 9) rfl (by simp only [go_sem,i64,ints,q0,q1,q2,q3,q4,q5,d1]) (by simp only [go_sem,i64,ints,q0,q1,q2,q3,q4,q5,d1]) (by first | exact .inl rfl | exact .inr rfl) ?_
                      (try simp only [go_sem,q0,q1,q2,q3,q4,q5,d1]);(try simp (disch:=omega) only [zI]);repeat first | intro _ | refine ⟨by omega,?_⟩
                      refine zh (in_ok r.draw 0 r.win) rfl (by simp only [go_sem,i64,ints,q0,q1,q2,q3,q4,q5,d1]) (by simp only [go_sem,i64,ints,q0,q1,q2,q3,q4,q5,d1]) (by first | exact .inl rfl | exact .inr rfl) ?_
                      (try simp only [go_sem,q0,q1,q2,q3,q4,q5,d1]);(try simp (disch:=omega) only [zI]);repeat first | intro _ | refine ⟨by omega,?_⟩
                      refine zh (in_ok r.up 0 10) rfl (by simp only [go_sem,i64,ints,q0,q1,q2,q3,q4,q5,d1]) (by simp only [go_sem,i64,ints,q0,q1,q2,q3,q4,q5,d1]) (by first | exact .inl rfl | exact .inr rfl) ?_
                      (try simp only [go_sem,q0,q1,q2,q3,q4,q5,d1]);(try simp (disch:=omega) only [zI]);repeat first | intro _ | refine ⟨by omega,?_⟩
                      refine hK _ ?_;clear hK K
                      refine ⟨(),trivial,zj [] ?_ ?_⟩
                      · try simp only [go_sem]
                        simp [refOk,q0,q1,q2,q3,q4,q5]
                        try omega
                      · try simp only [go_sem]
                    · have d1 : ((r.ded.length : Int) != 0) = true:=bne_iff_ne.2 d0
                      have d2 : ((r.ded.length : Int) != r.teams) = false:=bne_eq_false_iff_eq.2 (q4p.resolve_left d0)
                      repeat refine zq ?_
                      refine zb fun K hK=>?_;simp only [go_sem,q0,q1,q2,q3,q4,q5,d1,d2];(try simp (disch:=omega) only [zI]);repeat first | intro _ | refine ⟨by omega,?_⟩
                      refine zh (in_ok r.teams 2 10) rfl (by simp only [go_sem,i64,ints,q0,q1,q2,q3,q4,q5,d1,d2]) (by simp only [go_sem,i64,ints,q0,q1,q2,q3,q4,q5,d1,d2]) (by first | exact .inl rfl | exact .inr rfl) ?_
                      (try simp only [go_sem,q0,q1,q2,q3,q4,q5,d1,d2]);(try simp (disch:=omega) only [zI]);repeat first | intro _ | refine ⟨by omega,?_⟩
                      refine zh (in_ok r.legs 1 25) rfl (by simp only [go_sem,i64,ints,q0,q1,q2,q3,q4,q5,d1,d2]) (by simp only [go_sem,i64,ints,q0,q1,q2,q3,q4,q5,d1,d2]) (by first | exact .inl rfl | exact .inr rfl) ?_
                      (try simp only [go_sem,q0,q1,q2,q3,q4,q5,d1,d2]);(try simp (disch:=omega) only [zI]);repeat first | intro _ | refine ⟨by omega,?_⟩
                      refine zh (in_ok r.win 0 9) rfl (by simp only [go_sem,i64,ints,q0,q1,q2,q3,q4,q5,d1,d2]) (by simp only [go_sem,i64,ints,q0,q1,q2,q3,q4,q5,d1,d2]) (by first | exact .inl rfl | exact .inr rfl) ?_
                      (try simp only [go_sem,q0,q1,q2,q3,q4,q5,d1,d2]);(try simp (disch:=omega) only [zI]);repeat first | intro _ | refine ⟨by omega,?_⟩
                      refine zh (in_ok r.draw 0 r.win) rfl (by simp only [go_sem,i64,ints,q0,q1,q2,q3,q4,q5,d1,d2]) (by simp only [go_sem,i64,ints,q0,q1,q2,q3,q4,q5,d1,d2]) (by first | exact .inl rfl | exact .inr rfl) ?_
                      (try simp only [go_sem,q0,q1,q2,q3,q4,q5,d1,d2]);(try simp (disch:=omega) only [zI]);repeat first | intro _ | refine ⟨by omega,?_⟩
                      refine zh (in_ok r.up 0 10) rfl (by simp only [go_sem,i64,ints,q0,q1,q2,q3,q4,q5,d1,d2]) (by simp only [go_sem,i64,ints,q0,q1,q2,q3,q4,q5,d1,d2]) (by first | exact .inl rfl | exact .inr rfl) ?_
                      (try simp only [go_sem,q0,q1,q2,q3,q4,q5,d1,d2]);(try simp (disch:=omega) only [zI]);repeat first | intro _ | refine ⟨by omega,?_⟩
                      refine hK _ ?_;clear hK K
                      refine ⟨(),trivial,zj [] ?_ ?_⟩
                      · try simp only [go_sem]
                        simp [refOk,q0,q1,q2,q3,q4,q5]
                        try omega
                      · try simp only [go_sem]
                  | true =>
                    cases q6 : inB r.down 0 10 with
                     | false =>
                       have u5:=q5
                       simp only [Bool.and_eq_true,decide_eq_true_eq] at u5
                       have q4p:=q4
                       unfold dedB at q4p
                       rw [Bool.or_eq_true,decide_eq_true_eq,decide_eq_true_eq] at q4p
                       by_cases d0 : (r.ded.length : Int) = 0
                       · have d1 : ((r.ded.length : Int) != 0) = false:=bne_eq_false_iff_eq.2 d0
                         repeat refine zq ?_
                         refine zb fun K hK=>?_;simp only [go_sem,q0,q1,q2,q3,q4,q5,q6,d1];(try simp (disch:=omega) only [zI]);repeat first | intro _ | refine ⟨by omega,?_⟩
                         refine zh (in_ok r.teams 2 10) rfl (by simp only [go_sem,i64,ints,q0,q1,q2,q3,q4,q5,q6,d1]) (by simp only [go_sem,i64,ints,q0,q1,q2,q3,q4,q5,q6,d1]) (by first | exact .inl rfl | exact .inr rfl) ?_
                         (try simp only [go_sem,q0,q1,q2,q3,q4,q5,q6,d1]);(try simp (disch:=omega) only [zI]);repeat first | intro _ | refine ⟨by omega,?_⟩
                         refine zh (in_ok r.legs 1 25) rfl (by simp only [go_sem,i64,ints,q0,q1,q2,q3,q4,q5,q6,d1]) (by simp only [go_sem,i64,ints,q0,q1,q2,q3,q4,q5,q6,d1]) (by first | exact .inl rfl | exact .inr rfl) ?_
                         (try simp only [go_sem,q0,q1,q2,q3,q4,q5,q6,d1]);(try simp (disch:=omega) only [zI]);repeat first | intro _ | refine ⟨by omega,?_⟩
                         refine zh (in_ok r.win 0 9) rfl (by simp only [go_sem,i64,ints,q0,q1,q2,q3,q4,q5,q6,d1]) (by simp only [go_sem,i64,ints,q0,q1,q2,q3,q4,q5,q6,d1]) (by first | exact .inl rfl | exact .inr rfl) ?_
                         (try simp only [go_sem,q0,q1,q2,q3,q4,q5,q6,d1]);(try simp (disch:=omega) only [zI]);repeat first | intro _ | refine ⟨by omega,?_⟩
                         refine zh (in_ok r.draw 0 r.win) rfl (by simp only [go_sem,i64,ints,q0,q1,q2,q3,q4,q5,q6,d1]) (by simp only [go_sem,i64,ints,q0,q1,q2,q3,q4,q5,q6,d1]) (by first | exact .inl rfl | exact .inr rfl) ?_
                         (try simp only [go_sem,q0,q1,q2,q3,q4,q5,q6,d1]);(try simp (disch:=omega) only [zI]);repeat first | intro _ | refine ⟨by omega,?_⟩
                         refine zh (in_ok r.up 0 10) rfl (by simp only [go_sem,i64,ints,q0,q1,q2,q3,q4,q5,q6,d1]) (by simp only [go_sem,i64,ints,q0,q1,q2,q3,q4,q5,q6,d1]) (by first | exact .inl rfl | exact .inr rfl) ?_
                         (try simp only [go_sem,q0,q1,q2,q3,q4,q5,q6,d1]);(try simp (disch:=omega) only [zI]);repeat first | intro _ | refine ⟨by omega,?_⟩
                         refine zh (in_ok r.down 0 10) rfl (by simp only [go_sem,i64,ints,q0,q1,q2,q3,q4,q5,q6,d1]) (by simp only [go_sem,i64,ints,q0,q1,q2,q3,q4,q5,q6,d1]) (by first | exact .inl rfl | exact .inr rfl) ?_
                         (try simp only [go_sem,q0,q1,q2,q3,q4,q5,q6,d1]);(try simp (disch:=omega) only [zI]);repeat first | intro _ | refine ⟨by omega,?_⟩
                         refine hK _ ?_;clear hK K
                         refine ⟨(),trivial,zj [] ?_ ?_⟩
                         · try simp only [go_sem]
                           simp [refOk,q0,q1,q2,q3,q4,q5,q6]
                           try omega
                         · try simp only [go_sem]
                       · have d1 : ((r.ded.length : Int) != 0) = true:=bne_iff_ne.2 d0
                         have d2 : ((r.ded.length : Int) != r.teams) = false:=bne_eq_false_iff_eq.2 (q4p.resolve_left d0)
                         repeat refine zq ?_
                         refine zb fun K hK=>?_;simp only [go_sem,q0,q1,q2,q3,q4,q5,q6,d1,d2];(try simp (disch:=omega) only [zI]);repeat first | intro _ | refine ⟨by omega,?_⟩
                         refine zh (in_ok r.teams 2 10) rfl (by simp only [go_sem,i64,ints,q0,q1,q2,q3,q4,q5,q6,d1,d2]) (by simp only [go_sem,i64,ints,q0,q1,q2,q3,q4,q5,q6,d1,d2]) (by first | exact .inl rfl | exact .inr rfl) ?_
                         (try simp only [go_sem,q0,q1,q2,q3,q4,q5,q6,d1,d2]);(try simp (disch:=omega) only [zI]);repeat first | intro _ | refine ⟨by omega,?_⟩
                         refine zh (in_ok r.legs 1 25) rfl (by simp only [go_sem,i64,ints,q0,q1,q2,q3,q4,q5,q6,d1,d2]) (by simp only [go_sem,i64,ints,q0,q1,q2,q3,q4,q5,q6,d1,d2]) (by first | exact .inl rfl | exact .inr rfl) ?_
                         (try simp only [go_sem,q0,q1,q2,q3,q4,q5,q6,d1,d2]);(try simp (disch:=omega) only [zI]);repeat first | intro _ | refine ⟨by omega,?_⟩
                         refine zh (in_ok r.win 0 9) rfl (by simp only [go_sem,i64,ints,q0,q1,q2,q3,q4,q5,q6,d1,d2]) (by simp only [go_sem,i64,ints,q0,q1,q2,q3,q4,q5,q6,d1,d2]) (by first | exact .inl rfl | exact .inr rfl) ?_
                         (try simp only [go_sem,q0,q1,q2,q3,q4,q5,q6,d1,d2]);(try simp (disch:=omega) only [zI]);repeat first | intro _ | refine ⟨by omega,?_⟩
                         refine zh (in_ok r.draw 0 r.win) rfl (by simp only [go_sem,i64,ints,q0,q1,q2,q3,q4,q5,q6,d1,d2]) (by simp only [go_sem,i64,ints,q0,q1,q2,q3,q4,q5,q6,d1,d2]) (by first | exact .inl rfl | exact .inr rfl) ?_
                         (try simp only [go_sem,q0,q1,q2,q3,q4,q5,q6,d1,d2]);(try simp (disch:=omega) only [zI]);repeat first | intro _ | refine ⟨by omega,?_⟩
                         refine zh (in_ok r.up 0 10) rfl (by simp only [go_sem,i64,ints,q0,q1,q2,q3,q4,q5,q6,d1,d2]) (by simp only [go_sem,i64,ints,q0,q1,q2,q3,q4,q5,q6,d1,d2]) (by first | exact .inl rfl | exact .inr rfl) ?_
                         (try simp only [go_sem,q0,q1,q2,q3,q4,q5,q6,d1,d2]);(try simp (disch:=omega) only [zI]);repeat first | intro _ | refine ⟨by omega,?_⟩
                         refine zh (in_ok r.down 0 10) rfl (by simp only [go_sem,i64,ints,q0,q1,q2,q3,q4,q5,q6,d1,d2]) (by simp only [go_sem,i64,ints,q0,q1,q2,q3,q4,q5,q6,d1,d2]) (by first | exact .inl rfl | exact .inr rfl) ?_
                         (try simp only [go_sem,q0,q1,q2,q3,q4,q5,q6,d1,d2]);(try simp (disch:=omega) only [zI]);repeat first | intro _ | refine ⟨by omega,?_⟩
                         refine hK _ ?_;clear hK K
                         refine ⟨(),trivial,zj [] ?_ ?_⟩
                         · try simp only [go_sem]
                           simp [refOk,q0,q1,q2,q3,q4,q5,q6]
                           try omega
                         · try simp only [go_sem]
                     | true =>
                       cases q7 : decide (r.up + r.down ≤ r.teams) with
                        | false =>
                          have d8 : decide (r.teams < r.up + r.down) = true:=decide_eq_true (by have:=of_decide_eq_false q7; omega)
                          have u5:=q5
                          simp only [Bool.and_eq_true,decide_eq_true_eq] at u5
                          have u7:=of_decide_eq_false q7
                          have u6:=q6
                          simp only [Bool.and_eq_true,decide_eq_true_eq] at u6
                          have q4p:=q4
                          unfold dedB at q4p
                          rw [Bool.or_eq_true,decide_eq_true_eq,decide_eq_true_eq] at q4p
                          by_cases d0 : (r.ded.length : Int) = 0
                          · have d1 : ((r.ded.length : Int) != 0) = false:=bne_eq_false_iff_eq.2 d0
                            repeat refine zq ?_
                            refine zb fun K hK=>?_;simp only [go_sem,q0,q1,q2,q3,q4,q5,q6,q7,d1,d8];(try simp (disch:=omega) only [zI]);repeat first | intro _ | refine ⟨by omega,?_⟩
                            refine zh (in_ok r.teams 2 10) rfl (by simp only [go_sem,i64,ints,q0,q1,q2,q3,q4,q5,q6,q7,d1,d8]) (by simp only [go_sem,i64,ints,q0,q1,q2,q3,q4,q5,q6,q7,d1,d8]) (by first | exact .inl rfl | exact .inr rfl) ?_
                            (try simp only [go_sem,q0,q1,q2,q3,q4,q5,q6,q7,d1,d8]);(try simp (disch:=omega) only [zI]);repeat first | intro _ | refine ⟨by omega,?_⟩
                            refine zh (in_ok r.legs 1 25) rfl (by simp only [go_sem,i64,ints,q0,q1,q2,q3,q4,q5,q6,q7,d1,d8]) (by simp only [go_sem,i64,ints,q0,q1,q2,q3,q4,q5,q6,q7,d1,d8]) (by first | exact .inl rfl | exact .inr rfl) ?_
                            (try simp only [go_sem,q0,q1,q2,q3,q4,q5,q6,q7,d1,d8]);(try simp (disch:=omega) only [zI]);repeat first | intro _ | refine ⟨by omega,?_⟩
                            refine zh (in_ok r.win 0 9) rfl (by simp only [go_sem,i64,ints,q0,q1,q2,q3,q4,q5,q6,q7,d1,d8]) (by simp only [go_sem,i64,ints,q0,q1,q2,q3,q4,q5,q6,q7,d1,d8]) (by first | exact .inl rfl | exact .inr rfl) ?_
                            (try simp only [go_sem,q0,q1,q2,q3,q4,q5,q6,q7,d1,d8]);(try simp (disch:=omega) only [zI]);repeat first | intro _ | refine ⟨by omega,?_⟩
                            refine zh (in_ok r.draw 0 r.win) rfl (by simp only [go_sem,i64,ints,q0,q1,q2,q3,q4,q5,q6,q7,d1,d8]) (by simp only [go_sem,i64,ints,q0,q1,q2,q3,q4,q5,q6,q7,d1,d8]) (by first | exact .inl rfl | exact .inr rfl) ?_
                            (try simp only [go_sem,q0,q1,q2,q3,q4,q5,q6,q7,d1,d8]);(try simp (disch:=omega) only [zI]);repeat first | intro _ | refine ⟨by omega,?_⟩
                            refine zh (in_ok r.up 0 10) rfl (by simp only [go_sem,i64,ints,q0,q1,q2,q3,q4,q5,q6,q7,d1,d8]) (by simp only [go_sem,i64,ints,q0,q1,q2,q3,q4,q5,q6,q7,d1,d8]) (by first | exact .inl rfl | exact .inr rfl) ?_
                            (try simp only [go_sem,q0,q1,q2,q3,q4,q5,q6,q7,d1,d8]);(try simp (disch:=omega) only [zI]);repeat first | intro _ | refine ⟨by omega,?_⟩
                            refine zh (in_ok r.down 0 10) rfl (by simp only [go_sem,i64,ints,q0,q1,q2,q3,q4,q5,q6,q7,d1,d8]) (by simp only [go_sem,i64,ints,q0,q1,q2,q3,q4,q5,q6,q7,d1,d8]) (by first | exact .inl rfl | exact .inr rfl) ?_
                            (try simp only [go_sem,q0,q1,q2,q3,q4,q5,q6,q7,d1,d8]);(try simp (disch:=omega) only [zI]);repeat first | intro _ | refine ⟨by omega,?_⟩
                            refine hK _ ?_;clear hK K
                            refine ⟨(),trivial,zj [] ?_ ?_⟩
                            · try simp only [go_sem]
                              simp [refOk,q0,q1,q2,q3,q4,q5,q6,q7]
                              try omega
                            · try simp only [go_sem]
                          · have d1 : ((r.ded.length : Int) != 0) = true:=bne_iff_ne.2 d0
                            have d2 : ((r.ded.length : Int) != r.teams) = false:=bne_eq_false_iff_eq.2 (q4p.resolve_left d0)
                            repeat refine zq ?_
                            refine zb fun K hK=>?_;simp only [go_sem,q0,q1,q2,q3,q4,q5,q6,q7,d1,d2,d8];(try simp (disch:=omega) only [zI]);repeat first | intro _ | refine ⟨by omega,?_⟩
                            refine zh (in_ok r.teams 2 10) rfl (by simp only [go_sem,i64,ints,q0,q1,q2,q3,q4,q5,q6,q7,d1,d2,d8]) (by simp only [go_sem,i64,ints,q0,q1,q2,q3,q4,q5,q6,q7,d1,d2,d8]) (by first | exact .inl rfl | exact .inr rfl) ?_
                            (try simp only [go_sem,q0,q1,q2,q3,q4,q5,q6,q7,d1,d2,d8]);(try simp (disch:=omega) only [zI]);repeat first | intro _ | refine ⟨by omega,?_⟩
                            refine zh (in_ok r.legs 1 25) rfl (by simp only [go_sem,i64,ints,q0,q1,q2,q3,q4,q5,q6,q7,d1,d2,d8]) (by simp only [go_sem,i64,ints,q0,q1,q2,q3,q4,q5,q6,q7,d1,d2,d8]) (by first | exact .inl rfl | exact .inr rfl) ?_
                            (try simp only [go_sem,q0,q1,q2,q3,q4,q5,q6,q7,d1,d2,d8]);(try simp (disch:=omega) only [zI]);repeat first | intro _ | refine ⟨by omega,?_⟩
                            refine zh (in_ok r.win 0 9) rfl (by simp only [go_sem,i64,ints,q0,q1,q2,q3,q4,q5,q6,q7,d1,d2,d8]) (by simp only [go_sem,i64,ints,q0,q1,q2,q3,q4,q5,q6,q7,d1,d2,d8]) (by first | exact .inl rfl | exact .inr rfl) ?_
                            (try simp only [go_sem,q0,q1,q2,q3,q4,q5,q6,q7,d1,d2,d8]);(try simp (disch:=omega) only [zI]);repeat first | intro _ | refine ⟨by omega,?_⟩
                            refine zh (in_ok r.draw 0 r.win) rfl (by simp only [go_sem,i64,ints,q0,q1,q2,q3,q4,q5,q6,q7,d1,d2,d8]) (by simp only [go_sem,i64,ints,q0,q1,q2,q3,q4,q5,q6,q7,d1,d2,d8]) (by first | exact .inl rfl | exact .inr rfl) ?_
                            (try simp only [go_sem,q0,q1,q2,q3,q4,q5,q6,q7,d1,d2,d8]);(try simp (disch:=omega) only [zI]);repeat first | intro _ | refine ⟨by omega,?_⟩
                            refine zh (in_ok r.up 0 10) rfl (by simp only [go_sem,i64,ints,q0,q1,q2,q3,q4,q5,q6,q7,d1,d2,d8]) (by simp only [go_sem,i64,ints,q0,q1,q2,q3,q4,q5,q6,q7,d1,d2,d8]) (by first | exact .inl rfl | exact .inr rfl) ?_
                            (try simp only [go_sem,q0,q1,q2,q3,q4,q5,q6,q7,d1,d2,d8]);(try simp (disch:=omega) only [zI]);repeat first | intro _ | refine ⟨by omega,?_⟩
                            refine zh (in_ok r.down 0 10) rfl (by simp only [go_sem,i64,ints,q0,q1,q2,q3,q4,q5,q6,q7,d1,d2,d8]) (by simp only [go_sem,i64,ints,q0,q1,q2,q3,q4,q5,q6,q7,d1,d2,d8]) (by first | exact .inl rfl | exact .inr rfl) ?_
                            (try simp only [go_sem,q0,q1,q2,q3,q4,q5,q6,q7,d1,d2,d8]);(try simp (disch:=omega) only [zI]);repeat first | intro _ | refine ⟨by omega,?_⟩
                            refine hK _ ?_;clear hK K
                            refine ⟨(),trivial,zj [] ?_ ?_⟩
                            · try simp only [go_sem]
                              simp [refOk,q0,q1,q2,q3,q4,q5,q6,q7]
                              try omega
                            · try simp only [go_sem]
                        | true =>
                          have d8 : decide (r.teams < r.up + r.down) = false:=decide_eq_false (by have:=of_decide_eq_true q7; omega)
                          have u5:=q5
                          simp only [Bool.and_eq_true,decide_eq_true_eq] at u5
                          have u7:=of_decide_eq_true q7
                          have u6:=q6
                          simp only [Bool.and_eq_true,decide_eq_true_eq] at u6
                          have q4p:=q4
                          unfold dedB at q4p
                          rw [Bool.or_eq_true,decide_eq_true_eq,decide_eq_true_eq] at q4p
                          by_cases d0 : (r.ded.length : Int) = 0
                          · have d1 : ((r.ded.length : Int) != 0) = false:=bne_eq_false_iff_eq.2 d0
                            repeat refine zq ?_
                            refine zb fun K hK=>?_;simp only [go_sem,q0,q1,q2,q3,q4,q5,q6,q7,d1,d8];(try simp (disch:=omega) only [zI]);repeat first | intro _ | refine ⟨by omega,?_⟩
                            refine zh (in_ok r.teams 2 10) rfl (by simp only [go_sem,i64,ints,q0,q1,q2,q3,q4,q5,q6,q7,d1,d8]) (by simp only [go_sem,i64,ints,q0,q1,q2,q3,q4,q5,q6,q7,d1,d8]) (by first | exact .inl rfl | exact .inr rfl) ?_
                            (try simp only [go_sem,q0,q1,q2,q3,q4,q5,q6,q7,d1,d8]);(try simp (disch:=omega) only [zI]);repeat first | intro _ | refine ⟨by omega,?_⟩
                            refine zh (in_ok r.legs 1 25) rfl (by simp only [go_sem,i64,ints,q0,q1,q2,q3,q4,q5,q6,q7,d1,d8]) (by simp only [go_sem,i64,ints,q0,q1,q2,q3,q4,q5,q6,q7,d1,d8]) (by first | exact .inl rfl | exact .inr rfl) ?_
                            (try simp only [go_sem,q0,q1,q2,q3,q4,q5,q6,q7,d1,d8]);(try simp (disch:=omega) only [zI]);repeat first | intro _ | refine ⟨by omega,?_⟩
                            refine zh (in_ok r.win 0 9) rfl (by simp only [go_sem,i64,ints,q0,q1,q2,q3,q4,q5,q6,q7,d1,d8]) (by simp only [go_sem,i64,ints,q0,q1,q2,q3,q4,q5,q6,q7,d1,d8]) (by first | exact .inl rfl | exact .inr rfl) ?_
                            (try simp only [go_sem,q0,q1,q2,q3,q4,q5,q6,q7,d1,d8]);(try simp (disch:=omega) only [zI]);repeat first | intro _ | refine ⟨by omega,?_⟩
                            refine zh (in_ok r.draw 0 r.win) rfl (by simp only [go_sem,i64,ints,q0,q1,q2,q3,q4,q5,q6,q7,d1,d8]) (by simp only [go_sem,i64,ints,q0,q1,q2,q3,q4,q5,q6,q7,d1,d8]) (by first | exact .inl rfl | exact .inr rfl) ?_
                            (try simp only [go_sem,q0,q1,q2,q3,q4,q5,q6,q7,d1,d8]);(try simp (disch:=omega) only [zI]);repeat first | intro _ | refine ⟨by omega,?_⟩
                            refine zh (in_ok r.up 0 10) rfl (by simp only [go_sem,i64,ints,q0,q1,q2,q3,q4,q5,q6,q7,d1,d8]) (by simp only [go_sem,i64,ints,q0,q1,q2,q3,q4,q5,q6,q7,d1,d8]) (by first | exact .inl rfl | exact .inr rfl) ?_
                            (try simp only [go_sem,q0,q1,q2,q3,q4,q5,q6,q7,d1,d8]);(try simp (disch:=omega) only [zI]);repeat first | intro _ | refine ⟨by omega,?_⟩
                            refine zh (in_ok r.down 0 10) rfl (by simp only [go_sem,i64,ints,q0,q1,q2,q3,q4,q5,q6,q7,d1,d8]) (by simp only [go_sem,i64,ints,q0,q1,q2,q3,q4,q5,q6,q7,d1,d8]) (by first | exact .inl rfl | exact .inr rfl) ?_
                            (try simp only [go_sem,q0,q1,q2,q3,q4,q5,q6,q7,d1,d8]);(try simp (disch:=omega) only [zI]);repeat first | intro _ | refine ⟨by omega,?_⟩
                            refine hK _ ?_;clear hK K
                            refine ⟨(),trivial,zj [] ?_ ?_⟩
                            · try simp only [go_sem]
                              simp [refOk,q0,q1,q2,q3,q4,q5,q6,q7]
                              try omega
                            · try simp only [go_sem]
                          · have d1 : ((r.ded.length : Int) != 0) = true:=bne_iff_ne.2 d0
                            have d2 : ((r.ded.length : Int) != r.teams) = false:=bne_eq_false_iff_eq.2 (q4p.resolve_left d0)
                            repeat refine zq ?_
                            refine zb fun K hK=>?_;simp only [go_sem,q0,q1,q2,q3,q4,q5,q6,q7,d1,d2,d8];(try simp (disch:=omega) only [zI]);repeat first | intro _ | refine ⟨by omega,?_⟩
                            refine zh (in_ok r.teams 2 10) rfl (by simp only [go_sem,i64,ints,q0,q1,q2,q3,q4,q5,q6,q7,d1,d2,d8]) (by simp only [go_sem,i64,ints,q0,q1,q2,q3,q4,q5,q6,q7,d1,d2,d8]) (by first | exact .inl rfl | exact .inr rfl) ?_
                            (try simp only [go_sem,q0,q1,q2,q3,q4,q5,q6,q7,d1,d2,d8]);(try simp (disch:=omega) only [zI]);repeat first | intro _ | refine ⟨by omega,?_⟩
                            refine zh (in_ok r.legs 1 25) rfl (by simp only [go_sem,i64,ints,q0,q1,q2,q3,q4,q5,q6,q7,d1,d2,d8]) (by simp only [go_sem,i64,ints,q0,q1,q2,q3,q4,q5,q6,q7,d1,d2,d8]) (by first | exact .inl rfl | exact .inr rfl) ?_
                            (try simp only [go_sem,q0,q1,q2,q3,q4,q5,q6,q7,d1,d2,d8]);(try simp (disch:=omega) only [zI]);repeat first | intro _ | refine ⟨by omega,?_⟩
                            refine zh (in_ok r.win 0 9) rfl (by simp only [go_sem,i64,ints,q0,q1,q2,q3,q4,q5,q6,q7,d1,d2,d8]) (by simp only [go_sem,i64,ints,q0,q1,q2,q3,q4,q5,q6,q7,d1,d2,d8]) (by first | exact .inl rfl | exact .inr rfl) ?_
                            (try simp only [go_sem,q0,q1,q2,q3,q4,q5,q6,q7,d1,d2,d8]);(try simp (disch:=omega) only [zI]);repeat first | intro _ | refine ⟨by omega,?_⟩
                            refine zh (in_ok r.draw 0 r.win) rfl (by simp only [go_sem,i64,ints,q0,q1,q2,q3,q4,q5,q6,q7,d1,d2,d8]) (by simp only [go_sem,i64,ints,q0,q1,q2,q3,q4,q5,q6,q7,d1,d2,d8]) (by first | exact .inl rfl | exact .inr rfl) ?_
                            (try simp only [go_sem,q0,q1,q2,q3,q4,q5,q6,q7,d1,d2,d8]);(try simp (disch:=omega) only [zI]);repeat first | intro _ | refine ⟨by omega,?_⟩
                            refine zh (in_ok r.up 0 10) rfl (by simp only [go_sem,i64,ints,q0,q1,q2,q3,q4,q5,q6,q7,d1,d2,d8]) (by simp only [go_sem,i64,ints,q0,q1,q2,q3,q4,q5,q6,q7,d1,d2,d8]) (by first | exact .inl rfl | exact .inr rfl) ?_
                            (try simp only [go_sem,q0,q1,q2,q3,q4,q5,q6,q7,d1,d2,d8]);(try simp (disch:=omega) only [zI]);repeat first | intro _ | refine ⟨by omega,?_⟩
                            refine zh (in_ok r.down 0 10) rfl (by simp only [go_sem,i64,ints,q0,q1,q2,q3,q4,q5,q6,q7,d1,d2,d8]) (by simp only [go_sem,i64,ints,q0,q1,q2,q3,q4,q5,q6,q7,d1,d2,d8]) (by first | exact .inl rfl | exact .inr rfl) ?_
                            (try simp only [go_sem,q0,q1,q2,q3,q4,q5,q6,q7,d1,d2,d8]);(try simp (disch:=omega) only [zI]);repeat first | intro _ | refine ⟨by omega,?_⟩
                            refine hK _ ?_;clear hK K
                            refine ⟨(),trivial,zj [] ?_ ?_⟩
                            · try simp only [go_sem]
                              simp [refOk,q0,q1,q2,q3,q4,q5,q6,q7]
                              try omega
                            · try simp only [go_sem]
 intro _ vs _
 repeat refine zq ?_
 refine zc rfl (fun hc=>?_) (fun hc=>?_) <;> (try simp only [go_sem] at hc)
 · have hf : rulesOk r = false:=by
    cases hr : rulesOk r with
    | false=>rfl
    | true=>rw [refOk_of (rulesOk_iff.1 hr)] at hc; simp at hc
   have hv : checkV r l = (0,2):=by unfold checkV; rw [if_neg hc0,if_pos hf]
   rw [hv]
   repeat refine zq ?_
   refine zb fun K hK=>?_;simp only [go_sem];(try simp (disch:=omega) only [zI]);repeat first | intro _ | refine ⟨by omega,?_⟩
   refine hK _ ?_;clear hK K;refine ze ?_;simp only [go_sem]
 have hrf : refOk r = true:=by simpa using hc
 refine zx ?_
 try simp only [go_sem]
 repeat refine zq ?_
 refine zb fun K hK=>?_;simp only [go_sem];(try simp (disch:=omega) only [zI]);repeat first | intro _ | refine ⟨by omega,?_⟩
 refine hK _ ?_;clear hK K;refine zw (zk [1,2,6]) ?_;simp only [go_sem]
 repeat refine zq ?_
 refine zd ?_
 refine awp_uptoV (n:=162) r.ded.length (fun i vs=>[(1,.r (mtsR l)),(2,.r (.rp (trC r))),(6,.r (i64 (i : Int)))]) (fun _ _=>[]) (fun i=>∀ x ∈ r.ded.take i,inB x 0 99 = true) 0 (zj [] ?_ ?_) (Nat.zero_le _) (by simp) ?_
 · try simp only [go_sem]
   try rfl
 · try simp only [go_sem]
 · intro i vs hi hI
   repeat refine zq ?_
   refine zb fun K hK=>?_;simp only [go_sem];(try simp (disch:=omega) only [zI]);repeat first | intro _ | refine ⟨by omega,?_⟩
   refine hK _ ?_;clear hK K;refine zw (zk [1,2,6,82]) ?_;simp only [go_sem]
   repeat refine zq ?_
   refine zc rfl (fun hc=>?_) (fun hc=>?_) <;> (try simp only [go_sem] at hc)
   · have hil : i < r.ded.length:=by omega
     obtain ⟨x,hx⟩:=opt_of_lt hil
     have hxI:=w5 x (mem_of_opt hx)
     unfold I64 at hxI
     refine zx ?_
     try simp only [go_sem]
     repeat refine zq ?_
     refine zd ?_
     repeat refine zq ?_
     refine zb fun K hK=>?_;simp only [go_sem,hx,hil];(try simp (disch:=omega) only [zI])
     refine zh (in_ok x 0 99) rfl (by simp only [go_sem,i64,ints]) (by simp only [go_sem,i64,ints]) (by first | exact .inl rfl | exact .inr rfl) ?_
     (try simp only [go_sem]);(try simp (disch:=omega) only [zI]);repeat first | intro _ | refine ⟨by omega,?_⟩
     refine hK _ ?_;clear hK K;refine zw (zk [1,2,6,91]) ?_;simp only [go_sem]
     cases hb : inB x 0 99 with
     | false =>
       rw [show (decide (0 ≤ x) && decide (x ≤ 99)) = false from hb]
       repeat refine zq ?_
       refine zc rfl (fun hc=>?_) (fun hc=>?_) <;> (try simp only [go_sem] at hc)
       have hf : rulesOk r = false:=by
        cases hr : rulesOk r with
        | false=>rfl
        | true =>
          exfalso
          rcases (rulesOk_iff.1 hr).ded with h | ⟨_,h⟩
          · rw [h] at hil; simp at hil
          · have:=h x (mem_of_opt hx)
            simp [inB] at hb; omega
       have hv : checkV r l = (0,2):=by unfold checkV; rw [if_neg hc0,if_pos hf]
       rw [hv]
       repeat refine zq ?_
       refine zb fun K hK=>?_;simp only [go_sem];(try simp (disch:=omega) only [zI]);repeat first | intro _ | refine ⟨by omega,?_⟩
       refine hK _ ?_;clear hK K;refine ze ?_;simp only [go_sem]
     | true =>
       rw [show (decide (0 ≤ x) && decide (x ≤ 99)) = true from hb]
       repeat refine zq ?_
       refine zc rfl (fun hc=>?_) (fun hc=>?_) <;> (try simp only [go_sem] at hc)
       refine zx ?_
       try simp only [go_sem]
       repeat refine zq ?_
       refine zb fun K hK=>?_;simp only [go_sem];(try simp (disch:=omega) only [zI]);repeat first | intro _ | refine ⟨by omega,?_⟩
       refine hK _ ?_;clear hK K
       try simp only [go_sem]
       refine ⟨by omega,fun z hz=>?_,zj [] ?_ ?_⟩
       · rw [take_of_opt hx,List.mem_append,List.mem_singleton] at hz
         rcases hz with hz | rfl
         · exact hI z hz
         · exact hb
       · try simp only [go_sem]
       · try simp only [go_sem]
   · have hil : i = r.ded.length:=by omega
     subst hil
     rw [List.take_length] at hI
     have hR:=of_refOk hrf hI
     have hrt:=rulesOk_iff.2 hR
     have ht:=hR.teams
     have hg:=hR.legs
     refine zf ?_;simp only [go_sem]
     repeat refine zq ?_
     refine zb fun K hK=>?_;simp only [go_sem];(try simp (disch:=omega) only [zI]);repeat first | intro _ | refine ⟨by omega,?_⟩
     refine hK _ ?_;clear hK K;refine zw (zk [1,2,7]) ?_;simp only [go_sem]
     repeat refine zq ?_
     refine zd ?_
     refine awp_uptoV (n:=162) l.length (fun i vs=>[(1,.r (mtsR l)),(2,.r (.rp (trC r))),(7,.r (i64 (i : Int)))]) (fun _ _=>[]) (fun i=>∀ x ∈ l.take i,matchOk r x = true) 0 (zj [] ?_ ?_) (Nat.zero_le _) (by simp) ?_
     · try simp only [go_sem]
       try rfl
     · try simp only [go_sem]
     · intro i vs hi hI2
       repeat refine zq ?_
       refine zb fun K hK=>?_;simp only [go_sem];(try simp (disch:=omega) only [zI]);repeat first | intro _ | refine ⟨by omega,?_⟩
       refine hK _ ?_;clear hK K;refine zw (zk [1,2,7,95]) ?_;simp only [go_sem]
       repeat refine zq ?_
       refine zc rfl (fun hc=>?_) (fun hc=>?_) <;> (try simp only [go_sem] at hc)
       · have hil : i < l.length:=by omega
         obtain ⟨m,hm⟩:=opt_of_lt hil
         obtain ⟨m1,m2,m3,m4⟩:=hw.l m (mem_of_opt hm)
         unfold I64 at m1 m2 m3 m4
         have hbad : matchOk r m = false → checkV r l = ((i : Int),2):=fun hf=>by
          have hb : badM r l = i:=indexF_at (fun x hx=>by simp [hI2 x hx]) hm (by simp [hf])
          unfold checkV
          rw [if_neg hc0,if_neg (by simp [hrt]),hb,if_pos (by omega)]
         refine zx ?_
         try simp only [go_sem]
         repeat refine zq ?_
         refine zd ?_
         repeat refine zq ?_
         refine zb fun K hK=>?_;simp only [go_sem,hm,hil];(try simp (disch:=omega) only [zI]);repeat first | intro _ | refine ⟨by omega,?_⟩
         refine hK _ ?_;clear hK K;refine zw (sub_frzP 8 8 (mtR m) (by omega) rfl rfl) ?_;refine zw (zk [1,2,7,8]) ?_;simp only [go_sem]
         repeat refine zq ?_
         refine awp_joinV (n:=162) (fun (_ : Unit) vs=>[(1,.r (mtsR l)),(2,.r (.rp (trC r))),(7,.r (i64 (i : Int))),(8,.r (.rp (mtR m))),(124,.r (.bo (!hB r m)))]) (fun _ vs=>[]) (fun _=>True) (fun _ h=>h) ?_ ?_
         · cases q0 : inB m.h 0 (r.teams - 1) with
           | false =>
             repeat refine zq ?_
             refine zb fun K hK=>?_;simp only [go_sem,q0];(try simp (disch:=omega) only [zI]);repeat first | intro _ | refine ⟨by omega,?_⟩
             refine zh (in_ok m.h 0 (r.teams - 1)) rfl (by simp only [go_sem,i64,ints,q0]) (by simp only [go_sem,i64,ints,q0]) (by first | exact .inl rfl | exact .inr rfl) ?_
             (try simp only [go_sem,q0]);(try simp (disch:=omega) only [zI]);repeat first | intro _ | refine ⟨by omega,?_⟩
             refine hK _ ?_;clear hK K
             refine ⟨(),trivial,zj [] ?_ ?_⟩
             · try simp only [go_sem]
               simp [hB,q0]
             · try simp only [go_sem]
           | true =>
             cases q1 : inB m.a 0 (r.teams - 1) with
             | false =>
               repeat refine zq ?_
               refine zb fun K hK=>?_;simp only [go_sem,q0,q1];(try simp (disch:=omega) only [zI]);repeat first | intro _ | refine ⟨by omega,?_⟩
               refine zh (in_ok m.h 0 (r.teams - 1)) rfl (by simp only [go_sem,i64,ints,q0,q1]) (by simp only [go_sem,i64,ints,q0,q1]) (by first | exact .inl rfl | exact .inr rfl) ?_
               (try simp only [go_sem,q0,q1]);(try simp (disch:=omega) only [zI]);repeat first | intro _ | refine ⟨by omega,?_⟩
               refine zh (in_ok m.a 0 (r.teams - 1)) rfl (by simp only [go_sem,i64,ints,q0,q1]) (by simp only [go_sem,i64,ints,q0,q1]) (by first | exact .inl rfl | exact .inr rfl) ?_
               (try simp only [go_sem,q0,q1]);(try simp (disch:=omega) only [zI]);repeat first | intro _ | refine ⟨by omega,?_⟩
               refine hK _ ?_;clear hK K
               refine ⟨(),trivial,zj [] ?_ ?_⟩
               · try simp only [go_sem]
                 simp [hB,q0,q1]
               · try simp only [go_sem]
             | true =>
               repeat refine zq ?_
               refine zb fun K hK=>?_;simp only [go_sem,q0,q1];(try simp (disch:=omega) only [zI]);repeat first | intro _ | refine ⟨by omega,?_⟩
               refine zh (in_ok m.h 0 (r.teams - 1)) rfl (by simp only [go_sem,i64,ints,q0,q1]) (by simp only [go_sem,i64,ints,q0,q1]) (by first | exact .inl rfl | exact .inr rfl) ?_
               (try simp only [go_sem,q0,q1]);(try simp (disch:=omega) only [zI]);repeat first | intro _ | refine ⟨by omega,?_⟩
               refine zh (in_ok m.a 0 (r.teams - 1)) rfl (by simp only [go_sem,i64,ints,q0,q1]) (by simp only [go_sem,i64,ints,q0,q1]) (by first | exact .inl rfl | exact .inr rfl) ?_
               (try simp only [go_sem,q0,q1]);(try simp (disch:=omega) only [zI]);repeat first | intro _ | refine ⟨by omega,?_⟩
               refine hK _ ?_;clear hK K
               refine ⟨(),trivial,zj [] ?_ ?_⟩
               · try simp only [go_sem]
                 simp [hB,q0,q1]
                 try simp [bne]
               · try simp only [go_sem]
         intro _ vs _
         cases hhb : hB r m with
         | false =>
           rw [hbad (by rw [matchOk_hg,hhb]; rfl)]
           repeat refine zq ?_
           refine zc rfl (fun hc=>?_) (fun hc=>?_) <;> (try simp only [go_sem] at hc)
           repeat refine zq ?_
           refine zb fun K hK=>?_;simp only [go_sem];(try simp (disch:=omega) only [zI]);repeat first | intro _ | refine ⟨by omega,?_⟩
           refine hK _ ?_;clear hK K;refine ze ?_;simp only [go_sem]
         | true =>
           repeat refine zq ?_
           refine zc rfl (fun hc=>?_) (fun hc=>?_) <;> (try simp only [go_sem] at hc)
           refine zx ?_
           try simp only [go_sem]
           repeat refine zq ?_
           refine awp_joinV (n:=162) (fun (_ : Unit) vs=>[(1,.r (mtsR l)),(2,.r (.rp (trC r))),(7,.r (i64 (i : Int))),(160,.r (.bo (!gB r m)))]) (fun _ vs=>[]) (fun _=>True) (fun _ h=>h) ?_ ?_
           · cases hp : m.p with
             | true =>
               cases q3 : inB m.f 0 r.legs with
               | false =>
                 repeat refine zq ?_
                 refine zb fun K hK=>?_;simp only [go_sem,hp,q3];(try simp (disch:=omega) only [zI]);repeat first | intro _ | refine ⟨by omega,?_⟩
                 refine zh (in_ok m.f 0 r.legs) rfl (by simp only [go_sem,i64,ints,hp,q3]) (by simp only [go_sem,i64,ints,hp,q3]) (by first | exact .inl rfl | exact .inr rfl) ?_
                 (try simp only [go_sem,hp,q3]);(try simp (disch:=omega) only [zI]);repeat first | intro _ | refine ⟨by omega,?_⟩
                 refine hK _ ?_;clear hK K
                 refine ⟨(),trivial,zj [] ?_ ?_⟩
                 · try simp only [go_sem]
                   simp [gB,hp,q3]
                 · try simp only [go_sem]
               | true =>
                 have u3:=q3
                 simp only [Bool.and_eq_true,decide_eq_true_eq] at u3
                 have hww : IntKind.i64.wrap (r.legs - m.f) = r.legs - m.f:=by rw [zI] <;> omega
                 cases q4 : (m.g != r.legs - m.f) with
                 | true =>
                   repeat refine zq ?_
                   refine zb fun K hK=>?_;simp only [go_sem,hp,q3,q4,hww];(try simp (disch:=omega) only [zI]);repeat first | intro _ | refine ⟨by omega,?_⟩
                   refine zh (in_ok m.f 0 r.legs) rfl (by simp only [go_sem,i64,ints,hp,q3,q4,hww]) (by simp only [go_sem,i64,ints,hp,q3,q4,hww]) (by first | exact .inl rfl | exact .inr rfl) ?_
                   (try simp only [go_sem,hp,q3,q4,hww]);(try simp (disch:=omega) only [zI]);repeat first | intro _ | refine ⟨by omega,?_⟩
                   refine hK _ ?_;clear hK K
                   refine ⟨(),trivial,zj [] ?_ ?_⟩
                   · try simp only [go_sem]
                     simp [gB,hp,q3,q4]
                   · try simp only [go_sem]
                 | false =>
                   repeat refine zq ?_
                   refine zb fun K hK=>?_;simp only [go_sem,hp,q3,q4,hww];(try simp (disch:=omega) only [zI]);repeat first | intro _ | refine ⟨by omega,?_⟩
                   refine zh (in_ok m.f 0 r.legs) rfl (by simp only [go_sem,i64,ints,hp,q3,q4,hww]) (by simp only [go_sem,i64,ints,hp,q3,q4,hww]) (by first | exact .inl rfl | exact .inr rfl) ?_
                   (try simp only [go_sem,hp,q3,q4,hww]);(try simp (disch:=omega) only [zI]);repeat first | intro _ | refine ⟨by omega,?_⟩
                   refine hK _ ?_;clear hK K
                   refine ⟨(),trivial,zj [] ?_ ?_⟩
                   · try simp only [go_sem]
                     simp [gB,hp,q3,q4]
                   · try simp only [go_sem]
             | false =>
               cases q5 : (m.f != 0) with
               | true =>
                 repeat refine zq ?_
                 refine zb fun K hK=>?_;simp only [go_sem,hp,q5];(try simp (disch:=omega) only [zI]);repeat first | intro _ | refine ⟨by omega,?_⟩
                 refine hK _ ?_;clear hK K
                 refine ⟨(),trivial,zj [] ?_ ?_⟩
                 · try simp only [go_sem]
                   simp [gB,hp,q5]
                 · try simp only [go_sem]
               | false =>
                 repeat refine zq ?_
                 refine zb fun K hK=>?_;simp only [go_sem,hp,q5];(try simp (disch:=omega) only [zI]);repeat first | intro _ | refine ⟨by omega,?_⟩
                 refine hK _ ?_;clear hK K
                 refine ⟨(),trivial,zj [] ?_ ?_⟩
                 · try simp only [go_sem]
                   simp [gB,hp,q5]
                 · try simp only [go_sem]
           intro _ vs _
           cases hgb : gB r m with
           | false =>
             rw [hbad (by rw [matchOk_hg,hgb,Bool.and_false])]
             repeat refine zq ?_
             refine zc rfl (fun hc=>?_) (fun hc=>?_) <;> (try simp only [go_sem] at hc)
             repeat refine zq ?_
             refine zb fun K hK=>?_;simp only [go_sem];(try simp (disch:=omega) only [zI]);repeat first | intro _ | refine ⟨by omega,?_⟩
             refine hK _ ?_;clear hK K;refine ze ?_;simp only [go_sem]
           | true =>
             repeat refine zq ?_
             refine zc rfl (fun hc=>?_) (fun hc=>?_) <;> (try simp only [go_sem] at hc)
             refine zx ?_
             try simp only [go_sem]
             repeat refine zq ?_
             refine zb fun K hK=>?_;simp only [go_sem];(try simp (disch:=omega) only [zI]);repeat first | intro _ | refine ⟨by omega,?_⟩
             refine hK _ ?_;clear hK K
             try simp only [go_sem]
             refine ⟨by omega,fun z hz=>?_,zj [] ?_ ?_⟩
             · rw [take_of_opt hm,List.mem_append,List.mem_singleton] at hz
               rcases hz with hz | rfl
               · exact hI2 z hz
               · rw [matchOk_hg,hhb,hgb]; rfl
             · try simp only [go_sem]
             · try simp only [go_sem]
       · have hil : i = l.length:=by omega
         subst hil
         rw [List.take_length] at hI2
         have hv : checkV r l = (0,0):=by
          have hb : badM r l = -1:=indexF_none fun x hx=>by simp [hI2 x hx]
          unfold checkV
          rw [if_neg hc0,if_neg (by simp [hrt]),hb,if_neg (by omega)]
         rw [hv]
         refine zf ?_;simp only [go_sem]
         repeat refine zq ?_
         refine zb fun K hK=>?_;simp only [go_sem];(try simp (disch:=omega) only [zI]);repeat first | intro _ | refine ⟨by omega,?_⟩
         refine hK _ ?_;clear hK K;refine ze ?_;simp only [go_sem]
end Go.Proofs.Ytobokbhpeaakjaa
