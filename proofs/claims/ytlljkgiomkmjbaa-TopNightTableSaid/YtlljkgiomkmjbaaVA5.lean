/- Part 5 of the texts of this claim. -/
import Derived.Test.YtlljkgiomkmjbaaVA4
import Derived.Test.YtlljkgiomkmjbaaVA3
namespace Go.Proofs.Ytlljkgiomkmjbaa.Tm
open Go Go.Oc
set_option linter.unusedSimpArgs false
set_option linter.unusedVariables false
set_option maxRecDepth 8000
def cmpV (x y : Int) : Int:=if x < y then -1 else if y < x then 1 else 0
theorem compare_ok (x y : Int) : ACalls Try.prog 149 [i64 x,i64 y] (i64 (cmpV x y)):=by
 refine acalls_st (rs:=[i64 (cmpV x y)]) [.tmp 4] Try.func149 rfl (by kernel_rfl) Try.ntmps149 rfl (by simp) rfl fun C vs=>?_
 repeat refine zq ?_
 refine zb fun K hK=>?_;simp only [go_sem];(try simp (disch:=omega) only [zI]);repeat first | intro _ | refine ⟨by omega,?_⟩
 refine hK _ ?_;clear hK K
 repeat refine zq ?_
 refine zb fun K hK=>?_;simp only [go_sem];(try simp (disch:=omega) only [zI])
 refine zh (nan_ok x) rfl (by simp only [go_sem,i64,ints]) (by simp only [go_sem,i64,ints]) (by first | exact .inl rfl | exact .inr rfl) ?_
 (try simp only [go_sem]);(try simp (disch:=omega) only [zI]);repeat first | intro _ | refine ⟨by omega,?_⟩
 refine hK _ ?_;clear hK K
 repeat refine zq ?_
 refine zb fun K hK=>?_;simp only [go_sem];(try simp (disch:=omega) only [zI])
 refine zh (nan_ok y) rfl (by simp only [go_sem,i64,ints]) (by simp only [go_sem,i64,ints]) (by first | exact .inl rfl | exact .inr rfl) ?_
 (try simp only [go_sem]);(try simp (disch:=omega) only [zI]);repeat first | intro _ | refine ⟨by omega,?_⟩
 refine hK _ ?_;clear hK K
 repeat refine zq ?_
 refine zb fun K hK=>?_;simp only [go_sem];(try simp (disch:=omega) only [zI]);repeat first | intro _ | refine ⟨by omega,?_⟩
 refine hK _ ?_;clear hK K
 repeat refine zq ?_
 refine zc rfl (fun hc=>?_) (fun hc=>?_) <;> (try simp only [go_sem] at hc)
 refine zx ?_
 try simp only [go_sem]
 repeat refine zq ?_
 refine zb fun K hK=>?_;simp only [go_sem];(try simp (disch:=omega) only [zI]);repeat first | intro _ | refine ⟨by omega,?_⟩
 refine hK _ ?_;clear hK K
 repeat refine zq ?_
 refine zc rfl (fun hc=>?_) (fun hc=>?_) <;> (try simp only [go_sem] at hc)
 refine zx ?_
 try simp only [go_sem]
 repeat refine zq ?_
 refine zb fun K hK=>?_;simp only [go_sem];(try simp (disch:=omega) only [zI]);repeat first | intro _ | refine ⟨by omega,?_⟩
 refine hK _ ?_;clear hK K
 by_cases h1 : x < y
 · have e1 : decide (x < y) = true:=by simp [h1]
   rw [e1]
   repeat refine zq ?_
   refine zc rfl (fun hc=>?_) (fun hc=>?_) <;> (try simp only [go_sem] at hc)
   repeat refine zq ?_
   refine zb fun K hK=>?_;simp only [go_sem];(try simp (disch:=omega) only [zI]);repeat first | intro _ | refine ⟨by omega,?_⟩
   refine hK _ ?_;clear hK K;refine ze ?_;simp only [go_sem]
   simp [cmpV,h1]
 have e1 : decide (x < y) = false:=by simp [h1]
 rw [e1]
 repeat refine zq ?_
 refine zc rfl (fun hc=>?_) (fun hc=>?_) <;> (try simp only [go_sem] at hc)
 refine zx ?_
 try simp only [go_sem]
 repeat refine zq ?_
 refine zb fun K hK=>?_;simp only [go_sem];(try simp (disch:=omega) only [zI]);repeat first | intro _ | refine ⟨by omega,?_⟩
 refine hK _ ?_;clear hK K
 by_cases h2 : y < x
 · have e1 : decide (y < x) = true:=by simp [h2]
   rw [e1]
   repeat refine zq ?_
   refine zc rfl (fun hc=>?_) (fun hc=>?_) <;> (try simp only [go_sem] at hc)
   repeat refine zq ?_
   refine zb fun K hK=>?_;simp only [go_sem];(try simp (disch:=omega) only [zI]);repeat first | intro _ | refine ⟨by omega,?_⟩
   refine hK _ ?_;clear hK K;refine ze ?_;simp only [go_sem]
   simp [cmpV,h1,h2]
 have e1 : decide (y < x) = false:=by simp [h2]
 rw [e1]
 repeat refine zq ?_
 refine zc rfl (fun hc=>?_) (fun hc=>?_) <;> (try simp only [go_sem] at hc)
 refine zx ?_
 try simp only [go_sem]
 repeat refine zq ?_
 refine zb fun K hK=>?_;simp only [go_sem];(try simp (disch:=omega) only [zI]);repeat first | intro _ | refine ⟨by omega,?_⟩
 refine hK _ ?_;clear hK K;refine ze ?_;simp only [go_sem]
 simp [cmpV,h1,h2]
theorem or_ok (a b : Int) : ACalls Try.prog 148 [.sl 1 [[i64 a],[i64 b]]] (i64 (if a ≠ 0 then a else b)):=by
 refine acalls_st (rs:=[i64 (if a ≠ 0 then a else b)]) [.tmp 2] Try.func148 rfl (by kernel_rfl) Try.ntmps148 rfl (by simp) rfl fun C vs=>?_
 repeat refine zq ?_
 refine zb fun K hK=>?_;simp only [go_sem];(try simp (disch:=omega) only [zI]);repeat first | intro _ | refine ⟨by omega,?_⟩
 refine hK _ ?_;clear hK K
 repeat refine zq ?_
 refine zb fun K hK=>?_;simp only [go_sem];(try simp (disch:=omega) only [zI]);repeat first | intro _ | refine ⟨by omega,?_⟩
 refine hK _ ?_;clear hK K
 repeat refine zq ?_
 refine zb fun K hK=>?_;simp only [go_sem];(try simp (disch:=omega) only [zI]);repeat first | intro _ | refine ⟨by omega,?_⟩
 refine hK _ ?_;clear hK K
 repeat refine zq ?_
 refine zd ?_
 refine awp_upto (n:=18) 2 (fun i vs=>[(3,.r (i64 0)),(6,.r (.sl 1 [[i64 a],[i64 b]])),(7,.r (i64 2)),(8,.r (i64 i))]) (fun _=>[])
  (fun i=>(1 ≤ i → a = 0) ∧ (2 ≤ i → b = 0)) 0 (fit_of [] ?_ rfl) (Nat.zero_le _) ⟨by omega,by omega⟩ ?_
 · try simp only [go_sem]
 · rintro i vs hi ⟨hA,hB⟩
   have h3 : i = 0 ∨ i = 1 ∨ i = 2:=by omega
   rcases h3 with rfl | rfl | rfl
   · repeat refine zq ?_
     refine zb fun K hK=>?_;simp only [go_sem];(try simp (disch:=omega) only [zI]);repeat first | intro _ | refine ⟨by omega,?_⟩
     refine hK _ ?_;clear hK K
     repeat refine zq ?_
     refine zc rfl (fun hc=>?_) (fun hc=>?_) <;> (try simp only [go_sem] at hc)
     refine zx ?_
     repeat refine zq ?_
     refine zd ?_
     repeat refine zq ?_
     refine zb fun K hK=>?_;simp only [go_sem];(try simp (disch:=omega) only [zI]);repeat first | intro _ | refine ⟨by omega,?_⟩
     refine hK _ ?_;clear hK K
     repeat refine zq ?_
     refine zb fun K hK=>?_;simp only [go_sem];(try simp (disch:=omega) only [zI])
     by_cases ha : a = 0
     · have e1 : (a != 0) = false:=by simp [ha]
       rw [e1]
       repeat first | intro _ | refine ⟨by omega,?_⟩
       refine hK _ ?_;clear hK K
       repeat refine zq ?_
       refine zc rfl (fun hc=>?_) (fun hc=>?_) <;> (try simp only [go_sem] at hc)
       refine zx ?_
       try simp only [go_sem]
       repeat refine zq ?_
       refine zb fun K hK=>?_;simp only [go_sem];(try simp (disch:=omega) only [zI]);repeat first | intro _ | refine ⟨by omega,?_⟩
       refine hK _ ?_;clear hK K
       try simp only [go_sem]
       refine ⟨ha,fit_of [] ?_ rfl⟩
       try simp only [go_sem]
     · have e1 : (a != 0) = true:=by simp [ha]
       rw [e1]
       repeat first | intro _ | refine ⟨by omega,?_⟩
       refine hK _ ?_;clear hK K
       repeat refine zq ?_
       refine zc rfl (fun hc=>?_) (fun hc=>?_) <;> (try simp only [go_sem] at hc)
       repeat refine zq ?_
       refine zb fun K hK=>?_;simp only [go_sem];(try simp (disch:=omega) only [zI]);repeat first | intro _ | refine ⟨by omega,?_⟩
       refine hK _ ?_;clear hK K;refine ze ?_;simp only [go_sem]
       simp [ha]
   · have ha:=hA (by omega)
     repeat refine zq ?_
     refine zb fun K hK=>?_;simp only [go_sem];(try simp (disch:=omega) only [zI]);repeat first | intro _ | refine ⟨by omega,?_⟩
     refine hK _ ?_;clear hK K
     repeat refine zq ?_
     refine zc rfl (fun hc=>?_) (fun hc=>?_) <;> (try simp only [go_sem] at hc)
     refine zx ?_
     repeat refine zq ?_
     refine zd ?_
     repeat refine zq ?_
     refine zb fun K hK=>?_;simp only [go_sem];(try simp (disch:=omega) only [zI]);repeat first | intro _ | refine ⟨by omega,?_⟩
     refine hK _ ?_;clear hK K
     repeat refine zq ?_
     refine zb fun K hK=>?_;simp only [go_sem];(try simp (disch:=omega) only [zI])
     by_cases hb : b = 0
     · have e1 : (b != 0) = false:=by simp [hb]
       rw [e1]
       repeat first | intro _ | refine ⟨by omega,?_⟩
       refine hK _ ?_;clear hK K
       repeat refine zq ?_
       refine zc rfl (fun hc=>?_) (fun hc=>?_) <;> (try simp only [go_sem] at hc)
       refine zx ?_
       try simp only [go_sem]
       repeat refine zq ?_
       refine zb fun K hK=>?_;simp only [go_sem];(try simp (disch:=omega) only [zI]);repeat first | intro _ | refine ⟨by omega,?_⟩
       refine hK _ ?_;clear hK K
       try simp only [go_sem]
       refine ⟨⟨ha,hb⟩,fit_of [] ?_ rfl⟩
       try simp only [go_sem]
     · have e1 : (b != 0) = true:=by simp [hb]
       rw [e1]
       repeat first | intro _ | refine ⟨by omega,?_⟩
       refine hK _ ?_;clear hK K
       repeat refine zq ?_
       refine zc rfl (fun hc=>?_) (fun hc=>?_) <;> (try simp only [go_sem] at hc)
       repeat refine zq ?_
       refine zb fun K hK=>?_;simp only [go_sem];(try simp (disch:=omega) only [zI]);repeat first | intro _ | refine ⟨by omega,?_⟩
       refine hK _ ?_;clear hK K;refine ze ?_;simp only [go_sem]
       simp [ha]
   · have ha:=hA (by omega)
     have hb:=hB (by omega)
     repeat refine zq ?_
     refine zb fun K hK=>?_;simp only [go_sem];(try simp (disch:=omega) only [zI]);repeat first | intro _ | refine ⟨by omega,?_⟩
     refine hK _ ?_;clear hK K
     repeat refine zq ?_
     refine zc rfl (fun hc=>?_) (fun hc=>?_) <;> (try simp only [go_sem] at hc)
     refine zf ?_;simp only [go_sem]
     repeat refine zq ?_
     refine zb fun K hK=>?_;simp only [go_sem];(try simp (disch:=omega) only [zI]);repeat first | intro _ | refine ⟨by omega,?_⟩
     refine hK _ ?_;clear hK K;refine ze ?_;simp only [go_sem]
     simp [ha,hb]
def leadW (p l : Int) : Int:=if 0 < p then 0 else if p < 0 then 1 else if 0 < l then 0 else if l < 0 then 1 else 2
theorem winner_ok (p l : Int) : ACalls Try.prog 138 [.ag [i64 p,i64 l]] (i64 (leadW p l)):=by
 refine acalls_st (rs:=[i64 (leadW p l)]) [.tmp 2] Try.func138 rfl (by kernel_rfl) Try.ntmps138 rfl (by simp) rfl fun C vs=>?_
 repeat refine zq ?_
 refine zb fun K hK=>?_;simp only [go_sem];(try simp (disch:=omega) only [zI]);repeat first | intro _ | refine ⟨by omega,?_⟩
 refine hK _ ?_;clear hK K
 repeat refine zq ?_
 refine zg follows (by decide +kernel) (by kernel_rfl) fun K hK=>?_;simp only [go_sem];(try simp (disch:=omega) only [zI])
 refine zh (compare_ok p 0) rfl (by simp only [go_sem,i64,ints]) (by simp only [go_sem,i64,ints]) (by first | exact .inl rfl | exact .inr rfl) ?_
 (try simp only [go_sem]);(try simp (disch:=omega) only [zI])
 refine zh (compare_ok l 0) rfl (by simp only [go_sem,i64,ints]) (by simp only [go_sem,i64,ints]) (by first | exact .inl rfl | exact .inr rfl) ?_
 (try simp only [go_sem]);(try simp (disch:=omega) only [zI])
 refine zh (or_ok (cmpV p 0) (cmpV l 0)) rfl (by simp only [go_sem,i64,ints]) (by simp only [go_sem,i64,ints]) (by first | exact .inl rfl | exact .inr rfl) ?_
 (try simp only [go_sem]);(try simp (disch:=omega) only [zI]);repeat first | intro _ | refine ⟨by omega,?_⟩
 refine hK _ ?_;clear hK K
 have hv : (if cmpV p 0 ≠ 0 then cmpV p 0 else cmpV l 0) = if 0 < p then 1 else if p < 0 then -1 else if 0 < l then 1 else if l < 0 then -1 else 0:=by
  simp only [cmpV]
  (repeat' split) <;> omega
 rw [hv]
 repeat refine zq ?_
 refine zd ?_
 repeat refine zq ?_
 refine zb fun K hK=>?_;simp only [go_sem];(try simp (disch:=omega) only [zI]);repeat first | intro _ | refine ⟨by omega,?_⟩
 refine hK _ ?_;clear hK K
 generalize hz : (if 0 < p then (1 : Int) else if p < 0 then -1 else if 0 < l then 1 else if l < 0 then -1 else 0) = z
 have hw : leadW p l = if z = 1 then 0 else if z = -1 then 1 else 2:=by
  rw [← hz]
  unfold leadW
  (repeat' split) <;> omega
 rw [hw]
 by_cases h1 : z = 1
 · have e1 : (z == 1) = true:=by simp [h1]
   rw [e1]
   repeat refine zq ?_
   refine zc rfl (fun hc=>?_) (fun hc=>?_) <;> (try simp only [go_sem] at hc)
   repeat refine zq ?_
   refine zb fun K hK=>?_;simp only [go_sem];(try simp (disch:=omega) only [zI]);repeat first | intro _ | refine ⟨by omega,?_⟩
   refine hK _ ?_;clear hK K;refine ze ?_;simp only [go_sem]
   simp [h1]
 have e1 : (z == 1) = false:=by simp [h1]
 rw [e1]
 repeat refine zq ?_
 refine zc rfl (fun hc=>?_) (fun hc=>?_) <;> (try simp only [go_sem] at hc)
 repeat refine zq ?_
 refine zb fun K hK=>?_;simp only [go_sem];(try simp (disch:=omega) only [zI]);repeat first | intro _ | refine ⟨by omega,?_⟩
 refine hK _ ?_;clear hK K
 by_cases h2 : z = -1
 · have e1 : (z == -1) = true:=by simp [h2]
   rw [e1]
   repeat refine zq ?_
   refine zc rfl (fun hc=>?_) (fun hc=>?_) <;> (try simp only [go_sem] at hc)
   repeat refine zq ?_
   refine zb fun K hK=>?_;simp only [go_sem];(try simp (disch:=omega) only [zI]);repeat first | intro _ | refine ⟨by omega,?_⟩
   refine hK _ ?_;clear hK K;refine ze ?_;simp only [go_sem]
   simp [h2]
 have e1 : (z == -1) = false:=by simp [h2]
 rw [e1]
 repeat refine zq ?_
 refine zc rfl (fun hc=>?_) (fun hc=>?_) <;> (try simp only [go_sem] at hc)
 refine zx ?_
 try simp only [go_sem]
 repeat refine zq ?_
 refine zb fun K hK=>?_;simp only [go_sem];(try simp (disch:=omega) only [zI]);repeat first | intro _ | refine ⟨by omega,?_⟩
 refine hK _ ?_;clear hK K;refine ze ?_;simp only [go_sem]
 simp [h1,h2]
structure Sheet where
 gm : Int
 ho : Int
 aw : Int
 wk : Int
abbrev sheetC (x : Sheet) : List RV:=[i64 x.gm,i64 x.ho,i64 x.aw,i64 x.wk]
def legsOf (r : Rules) (i : Int) : Int:=match r.gs[i.toNat]? with | some g=>g.lg | none=>0
def sheetB (r : Rules) (x : Sheet) : Bool :=
 withinL 0 ((r.gs.length : Int) - 1) [x.gm] && withinL 0 2 [x.wk] &&
  (if x.wk = 0 then decide (max x.ho x.aw = legsOf r x.gm) && withinL 0 (legsOf r x.gm - 1) [min x.ho x.aw] else decide (x.ho = 0) && decide (x.aw = 0))
theorem isSheet_ok (r : Rules) (x : Sheet) (hr : rulesB r = true) : ACalls Try.prog 77 [.ag (rulesC r),.ag (sheetC x)] (.bo (sheetB r x)):=by
 obtain ⟨_,⟨f3,f4⟩,_,f7,_⟩:=rulesB_facts hr
 refine acalls_st (rs:=[.bo (sheetB r x)]) [.tmp 4] Try.func77 rfl (by kernel_rfl) Try.ntmps77 rfl (by simp) rfl fun C vs=>?_
 repeat refine zq ?_
 refine zb fun K hK=>?_;simp only [go_sem];(try simp (disch:=omega) only [zI]);repeat first | intro _ | refine ⟨by omega,?_⟩
 refine hK _ ?_;clear hK K
 repeat refine zq ?_
 refine zb fun K hK=>?_;simp only [go_sem];(try simp (disch:=omega) only [zI])
 intro _
 refine zh (within_ok 0 ((r.gs.length : Int) - 1) [x.gm]) rfl (by simp only [go_sem,i64,ints]) (by simp only [go_sem,i64,ints]) (by first | exact .inl rfl | exact .inr rfl) ?_
 (try simp only [go_sem]);(try simp (disch:=omega) only [zI])
 cases h1 : withinL 0 ((r.gs.length : Int) - 1) [x.gm]
 · try simp only [go_sem]
   repeat first | intro _ | refine ⟨by omega,?_⟩
   refine hK _ ?_;clear hK K
   repeat refine zq ?_
   refine zc rfl (fun hc=>?_) (fun hc=>?_) <;> (try simp only [go_sem] at hc)
   repeat refine zq ?_
   refine zb fun K hK=>?_;simp only [go_sem];(try simp (disch:=omega) only [zI]);repeat first | intro _ | refine ⟨by omega,?_⟩
   refine hK _ ?_;clear hK K;refine ze ?_;simp only [go_sem]
   simp [sheetB,h1]
 try simp only [go_sem]
 refine zh (within_ok 0 2 [x.wk]) rfl (by simp only [go_sem,i64,ints]) (by simp only [go_sem,i64,ints]) (by first | exact .inl rfl | exact .inr rfl) ?_
 (try simp only [go_sem]);(try simp (disch:=omega) only [zI])
 cases h2 : withinL 0 2 [x.wk]
 · try simp only [go_sem]
   repeat first | intro _ | refine ⟨by omega,?_⟩
   refine hK _ ?_;clear hK K
   repeat refine zq ?_
   refine zc rfl (fun hc=>?_) (fun hc=>?_) <;> (try simp only [go_sem] at hc)
   repeat refine zq ?_
   refine zb fun K hK=>?_;simp only [go_sem];(try simp (disch:=omega) only [zI]);repeat first | intro _ | refine ⟨by omega,?_⟩
   refine hK _ ?_;clear hK K;refine ze ?_;simp only [go_sem]
   simp [sheetB,h1,h2]
 try simp only [go_sem]
 repeat first | intro _ | refine ⟨by omega,?_⟩
 refine hK _ ?_;clear hK K
 repeat refine zq ?_
 refine zc rfl (fun hc=>?_) (fun hc=>?_) <;> (try simp only [go_sem] at hc)
 refine zx ?_
 try simp only [go_sem]
 have g1:=withinL_one h1
 have g2:=withinL_one h2
 obtain ⟨i,hi⟩:=Int.eq_ofNat_of_zero_le g1.1
 obtain ⟨g,hg⟩:=opt_of_lt (l:=r.gs) (i:=i) (by omega)
 obtain ⟨_,⟨g5,g6⟩,_⟩:=f7 g (mem_of_opt hg)
 have hlg : legsOf r x.gm = g.lg:=by rw [legsOf,hi,Int.toNat_natCast,hg]
 have hti : x.gm.toNat = i:=by rw [hi,Int.toNat_natCast]
 have hz0 : (0 : Int) ≤ x.gm:=by omega
 have hz1 : x.gm < r.gs.length:=by omega
 repeat refine zq ?_
 refine zb fun K hK=>?_;simp only [go_sem,hti,hg,hz0,hz1];(try simp (disch:=omega) only [zI]);repeat first | intro _ | refine ⟨by omega,?_⟩
 refine hK _ ?_;clear hK K
 repeat refine zq ?_
 refine zb fun K hK=>?_;simp only [go_sem];(try simp (disch:=omega) only [zI]);repeat first | intro _ | refine ⟨by omega,?_⟩
 refine hK _ ?_;clear hK K
 by_cases h3 : x.wk = 0
 · have e1 : (x.wk != 0) = false:=by simp [h3]
   rw [e1]
   repeat refine zq ?_
   refine zc rfl (fun hc=>?_) (fun hc=>?_) <;> (try simp only [go_sem] at hc)
   refine zx ?_
   try simp only [go_sem]
   repeat refine zq ?_
   refine zb fun K hK=>?_;simp only [go_sem];(try simp (disch:=omega) only [zI])
   by_cases h4 : max x.ho x.aw = g.lg
   · have e2 : (max x.ho x.aw = g.lg) = True:=by simp [h4]
     have e3 : (max x.ho x.aw ≠ g.lg) = False:=by simp [h4]
     simp only [e2,e3,go_sem]
     refine zh (within_ok 0 (g.lg - 1) [min x.ho x.aw]) rfl (by simp only [go_sem,i64,ints]) (by simp only [go_sem,i64,ints]) (by first | exact .inl rfl | exact .inr rfl) ?_
     (try simp only [go_sem]);(try simp (disch:=omega) only [zI]);repeat first | intro _ | refine ⟨by omega,?_⟩
     refine hK _ ?_;clear hK K;refine ze ?_;simp only [go_sem]
     rw [h3] at h2
     simp [sheetB,h1,h2,h3,hlg,h4]
   · have e2 : (max x.ho x.aw = g.lg) = False:=by simp [h4]
     have e3 : (max x.ho x.aw ≠ g.lg) = True:=by simp [h4]
     simp only [e2,e3,go_sem];repeat first | intro _ | refine ⟨by omega,?_⟩
     refine hK _ ?_;clear hK K;refine ze ?_;simp only [go_sem]
     simp [sheetB,h1,h2,h3,hlg,h4]
 · have e1 : (x.wk != 0) = true:=by simp [h3]
   rw [e1]
   repeat refine zq ?_
   refine zc rfl (fun hc=>?_) (fun hc=>?_) <;> (try simp only [go_sem] at hc)
   repeat refine zq ?_
   refine zb fun K hK=>?_;simp only [go_sem];(try simp (disch:=omega) only [zI])
   by_cases h4 : x.ho = 0
   · have e2 : (x.ho = 0) = True:=by simp [h4]
     have e3 : (x.ho ≠ 0) = False:=by simp [h4]
     simp only [e2,e3,go_sem];repeat first | intro _ | refine ⟨by omega,?_⟩
     refine hK _ ?_;clear hK K;refine ze ?_;simp only [go_sem]
     simp [sheetB,h1,h2,h3,h4]
     rfl
   · have e2 : (x.ho = 0) = False:=by simp [h4]
     have e3 : (x.ho ≠ 0) = True:=by simp [h4]
     simp only [e2,e3,go_sem];repeat first | intro _ | refine ⟨by omega,?_⟩
     refine hK _ ?_;clear hK K;refine ze ?_;simp only [go_sem]
     simp [sheetB,h1,h2,h3,h4]
structure Res where
 p0 : Int
 p1 : Int
 g0 : Int
 g1 : Int
 l0 : Int
 l1 : Int
 op : List Int
 w : Int
abbrev resC (t : Res) : List RV:=[i64 t.p0,i64 t.p1,i64 t.g0,i64 t.g1,i64 t.l0,i64 t.l1,ints t.op,i64 t.w]
def zeroR : Res:=⟨0,0,0,0,0,0,[],0⟩
def addL (g : Game) (h a : Int) (t : Res) : Res :=
 ⟨if a > h then t.p0 else t.p0 + g.pt,if a > h then t.p1 + g.pt else t.p1,if a > h then t.g0 else t.g0 + 1,if a > h then t.g1 + 1 else t.g1,t.l0 + h,t.l1 + a,t.op,t.w⟩
def smallR (t : Res) : Prop:=(0 ≤ t.p0 ∧ t.p0 ≤ 100000) ∧ (0 ≤ t.p1 ∧ t.p1 ≤ 100000) ∧ (0 ≤ t.g0 ∧ t.g0 ≤ 100000) ∧ (0 ≤ t.g1 ∧ t.g1 ≤ 100000) ∧ (0 ≤ t.l0 ∧ t.l0 ≤ 100000) ∧ (0 ≤ t.l1 ∧ t.l1 ≤ 100000)
end Go.Proofs.Ytlljkgiomkmjbaa.Tm

namespace Go.Oc
open Go Go.RowKit
set_option linter.unusedSimpArgs false
set_option linter.unusedVariables false
set_option linter.unnecessarySimpa false
def keyOf : AV → Option Nat
 | .pt k _ _=>some k
 | .pe k _ _ _ _=>some k
 | .os k _ _ _ _=>some k
 | .mp k _=>some k
 | .mi k _=>some k
 | .pu k _ _=>some k
 | _=>none
def reads (o : Oper) : Option (List Operand) :=
 match o.op with
 | .load _ a=>some [a]
 | .fieldAddr _ x _=>some [x]
 | .indexAddr _ x _=>some [x]
 | .nilCheck x=>some [x]
 | .slice _ x _ _ none=>some [x]
 | .buildSlice _ _ ps=>some (ps.toList.map (·.2))
 | .build _ ps=>some (ps.toList.map (·.2))
 | .call ⟨.builtin .len,args,ts⟩=>match args.toList,ts.toList with | [x],[_]=>some [x] | _,_=>none
 | _=>none
def writes (o : Oper) : Option (Operand × Option Nat) :=
 match o.op with
 | .store _ a _=>some (a,none)
 | .call ⟨.builtin .append,args,ts⟩=>match args.toList,ts.toList with | [x,_],[t,t']=>if t = t' then some (x,some (o.dst.getD 0)) else none | _,_=>none
 | _=>none
def verOnly (o : Oper) : Bool:=match o.op with
 | .fieldAddr _ _ _=>true
 | .indexAddr _ _ _=>true
 | .nilCheck _=>true
 | _=>false
def isStore (o : Oper) : Bool:=match o.op with
 | .store _ _ _=>true
 | _=>false
def wrow (key : Option Nat) (d : Option Nat) : Option Nat:=match key with | some k=>some k | none=>d
section
variable {P : Program} {s : AS} {ops : Array Oper}
theorem cells_set {r : Row} {k : Nat} {x : AV} (hk : keyOf x ≠ some k) : x.cells? (AS.ver { s with rows:=upd s.rows k r }) = x.cells? s.ver:=by
 have hv : ∀ j,j ≠ k → AS.ver { s with rows:=upd s.rows k r } j = s.ver j:=fun j hj=>by
  show (upd s.rows k r j).ver = _
  rw [upd_other _ _ hj]; rfl
 cases x with
 | pt j n off => have : j ≠ k := fun e => hk (by rw [e]; rfl)
                 simp only [AV.cells?,hv j this]
 | pe j n sz i off => have : j ≠ k := fun e => hk (by rw [e]; rfl)
                      simp only [AV.cells?,hv j this]
 | os j n sz off m => have : j ≠ k := fun e => hk (by rw [e]; rfl)
                      simp only [AV.cells?,hv j this]
 | mp j n => have : j ≠ k := fun e => hk (by rw [e]; rfl)
             simp only [AV.cells?,hv j this]
 | mi j n => have : j ≠ k := fun e => hk (by rw [e]; rfl)
             simp only [AV.cells?,hv j this]
 | pu j n u => have : j ≠ k := fun e => hk (by rw [e]; rfl)
               simp only [AV.cells?,hv j this]
 | r v=>cases v <;> rfl
 | _=>rfl
theorem layE_set {ver ver' : Nat → Nat} {esz : Nat} : ∀ (ps : List (Nat × AV)) (es : List (List RV)),(∀ p ∈ ps,p.2.cells? ver' = p.2.cells? ver) → layE ver' esz es ps = layE ver esz es ps
 | [],_,_=>rfl
 | (i, x) :: rest, es, h => by
   simp only [layE,h (i,x) (by simp)]
   split
   · split
     · exact layE_set rest _ fun p hp=>h p (by simp [hp])
     · rfl
   · rfl
theorem lay_set {ver ver' : Nat → Nat} {place : Nat → Option (Nat × Nat)} : ∀ (ps : List (Nat × AV)) (cs : List AV),(∀ p ∈ ps,p.2.cells? ver' = p.2.cells? ver) → lay ver' place cs ps = lay ver place cs ps
 | [],_,_=>rfl
 | (i, x) :: rest, cs, h => by
   simp only [lay,h (i,x) (by simp)]
   split
   · split
     · exact lay_set rest _ fun p hp=>h p (by simp [hp])
     · rfl
   · rfl
theorem reads_step {o : Oper} {xs : List Operand} (h : reads o = some xs) {k : Nat} (hk : ∀ x ∈ xs,keyOf (s.ev x) ≠ some k) (r : Row) : step P o { s with rows:=upd s.rows k r } = step P o s:=by
 have hev : ∀ y : Operand,AS.ev { s with rows:=upd s.rows k r } y = s.ev y:=fun y=>ev_rows y
 have hver : ∀ j,j ≠ k → AS.ver { s with rows:=upd s.rows k r } j = s.ver j:=fun j hj=>by
  show (upd s.rows k r j).ver = _
  rw [upd_other _ _ hj]; rfl
 unfold reads at h
 split at h <;> rename_i ho <;> first
  | (injection h with h; subst h)
  | (cases h; done)
  | skip
 · have hk:=hk _ (List.mem_singleton.2 rfl)
   simp only [step,ho,hev]
   unfold sLoad
   split <;> first
    | rfl
    | (rename_i e; rw [e] at hk; simp only [keyOf,ne_eq,Option.some.injEq] at hk; simp only [upd_other _ _ hk])
 · have hk:=hk _ (List.mem_singleton.2 rfl)
   simp only [step,ho,hev]
   unfold sField
   split
   · split
     · split <;> first
        | rfl
        | (rename_i e; rw [e] at hk; simp only [keyOf,ne_eq,Option.some.injEq] at hk; simp only [hver _ hk])
     · rfl
   · rfl
 · have hk:=hk _ (List.mem_singleton.2 rfl)
   simp only [step,ho,hev]
   unfold sIndex
   split
   · split <;> first
      | rfl
      | (rename_i e; rw [e] at hk; simp only [keyOf,ne_eq,Option.some.injEq] at hk; simp only [hver _ hk])
   · split <;> first
      | rfl
      | (rename_i e; rw [e] at hk; simp only [keyOf,ne_eq,Option.some.injEq] at hk; simp only [hver _ hk])
   · rfl
 · have hk:=hk _ (List.mem_singleton.2 rfl)
   simp only [step,ho,hev]
   unfold sNil
   split <;> first
    | rfl
    | (rename_i e; rw [e] at hk; simp only [keyOf,ne_eq,Option.some.injEq] at hk; simp only [hver _ hk])
 · have hk:=hk _ (List.mem_singleton.2 rfl)
   have hb : ∀ lo : Option Operand,lo.map (AS.ev { s with rows:=upd s.rows k r }) = lo.map s.ev:=fun lo=>by cases lo <;> simp [hev]
   simp only [step,ho,hev,hb,Option.map_none]
   unfold sSlice
   split
   · split <;> first
      | rfl
      | (rename_i e; rw [e] at hk; simp only [keyOf,ne_eq,Option.some.injEq] at hk; simp only [hver _ hk,upd_other _ _ hk])
   · rename_i e; cases e
   · rfl
   · rfl
 · rename_i t n ps
   simp only [step,ho]
   have hps : (ps.toList.map fun (x : Nat × Operand)=>(x.1,AS.ev { s with rows:=upd s.rows k r } x.2)) = ps.toList.map fun (x : Nat × Operand)=>(x.1,s.ev x.2):=by
    simp only [hev]
   show sBuildSlice P _ t n (ps.toList.map fun (x : Nat × Operand)=>(x.1,AS.ev { s with rows:=upd s.rows k r } x.2)) = sBuildSlice P s t n (ps.toList.map fun (x : Nat × Operand)=>(x.1,s.ev x.2))
   rw [hps]
   unfold sBuildSlice
   have hl : ∀ es ez,layE (AS.ver { s with rows:=upd s.rows k r }) ez es (ps.toList.map fun (x : Nat × Operand)=>(x.1,s.ev x.2)) = layE s.ver ez es (ps.toList.map fun (x : Nat × Operand)=>(x.1,s.ev x.2)):=fun es ez=>layE_set _ _ fun p hp=>by
    obtain ⟨x,hx,rfl⟩:=List.mem_map.1 hp
    exact cells_set (hk x.2 (List.mem_map.2 ⟨x,hx,rfl⟩))
   simp only [hl]
 · rename_i t ps
   simp only [step,ho]
   have hps : (ps.toList.map fun (x : Nat × Operand)=>(x.1,AS.ev { s with rows:=upd s.rows k r } x.2)) = ps.toList.map fun (x : Nat × Operand)=>(x.1,s.ev x.2):=by
    simp only [hev]
   show sBuild P _ t (ps.toList.map fun (x : Nat × Operand)=>(x.1,AS.ev { s with rows:=upd s.rows k r } x.2)) = sBuild P s t (ps.toList.map fun (x : Nat × Operand)=>(x.1,s.ev x.2))
   rw [hps]
   unfold sBuild
   have hl : ∀ pl cs,lay (AS.ver { s with rows:=upd s.rows k r }) pl cs (ps.toList.map fun (x : Nat × Operand)=>(x.1,s.ev x.2)) = lay s.ver pl cs (ps.toList.map fun (x : Nat × Operand)=>(x.1,s.ev x.2)):=fun pl cs=>lay_set _ _ fun p hp=>by
    obtain ⟨x,hx,rfl⟩:=List.mem_map.1 hp
    exact cells_set (hk x.2 (List.mem_map.2 ⟨x,hx,rfl⟩))
   simp only [hl]
 · split at h
   · rename_i x' t' hx ht
     injection h with h; subst h
     have hk:=hk _ (List.mem_singleton.2 rfl)
     simp only [step,ho,hev,hx,ht,List.map_cons,List.map_nil,sBuiltin]
     unfold sLen
     split <;> first
      | rfl
      | (rename_i e; rw [e] at hk; simp only [keyOf,ne_eq,Option.some.injEq] at hk; simp only [upd_other _ _ hk,hver _ hk])
   · cases h
theorem reads_cls {o : Oper} {xs : List Operand} (h : reads o = some xs) : cls o = 1:=by
 unfold reads at h
 split at h <;> rename_i ho <;> first
  | (simp [cls,ho]; done)
  | (cases h; done)
theorem reads_mk {o : Oper} {xs : List Operand} (h : reads o = some xs) {y : Yi} : ¬ mk o y:=fun hm=>by
 have hc:=reads_cls h
 rcases hm with hm | ⟨hm,_⟩
 · omega
 · unfold vcall at hm
   split at hm
   · rename_i ho; simp [reads,ho] at h
   · cases hm
theorem reads_AY {o : Oper} {xs : List Operand} (h : reads o = some xs) {y : Yi} : AY P o s y ↔ rx o (step P o s) y:=by
 unfold AY
 split
 · rename_i ho; simp [reads,ho] at h
 · refine ⟨fun hy=>hy.elim id fun hy=>?_,.inl⟩
   obtain ⟨x,z,t,d,rv,h1,_⟩:=hy
   simp [reads,h1] at h
theorem writes_cls {o : Oper} {a : Operand × Option Nat} (h : writes o = some a) : cls o = 3:=by
 unfold writes at h
 split at h <;> rename_i ho <;> first
  | (simp [cls,ho]; done)
  | (cases h; done)
theorem writes_mk {o : Oper} {a : Operand × Option Nat} (h : writes o = some a) {y : Yi} : ¬ mk o y:=fun hm=>by
 have hc:=writes_cls h
 rcases hm with hm | ⟨hm,_⟩
 · omega
 · rw [vcall_cls hm] at hc; omega
theorem writes_eff {o : Oper} {a : Operand} {d : Option Nat} (h : writes o = some (a,d)) {y : Yi} (hy : AY P o s y) : ∃ k r,wrow (keyOf (s.ev a)) d = some k ∧ y.eff = [(k,r)]:=by
 unfold writes at h
 split at h
 · rename_i t a' x ho
   injection h with h; injection h with h1 h2; subst h1; subst h2
   unfold AY at hy
   split at hy
   · rename_i ho'; rw [ho] at ho'; cases ho'
   · rcases hy with hy | hy
     case inr=>exact (hy.no (by simp [isApp,ho])).elim
     obtain ⟨hp,rfl⟩:=rx_no hy (by simp [isBS,ho])
     simp only [step,ho] at hp ⊢
     unfold sStore at hp ⊢
     split at hp
     · rename_i k n off xs _ e _
       split at hp
       · exact ⟨k,_,by rw [e]; rfl,rfl⟩
       · exact hp.elim
     · rename_i k n sz idx off xs _ e _
       split at hp
       · exact ⟨k,_,by rw [e]; rfl,rfl⟩
       · exact ⟨k,_,by rw [e]; rfl,rfl⟩
       · exact hp.elim
     · exact hp.elim
 · rename_i args ts ho
   split at h
   · rename_i x y' t t' hx ht
     split at h
     · rename_i htt
       injection h with h; injection h with h1 h2; subst h1; subst h2; subst htt
       unfold AY at hy
       split at hy
       · rename_i ho'; rw [ho] at ho'; cases ho'
       · rcases hy with hy | hy
         case inr =>
          obtain ⟨x2,z2,t2,d2,rv2,q1,q2,q3,⟨b2,q4⟩,q6,_⟩:=hy
          rw [ho] at q1
          injection q1 with q1; injection q1 with _ q1 _
          subst q1
          injection hx with hx _
          subst hx
          subst q6
          exact ⟨d2,_,by rw [q4,q2]; rfl,rfl⟩
         obtain ⟨hp,rfl⟩:=rx_no hy (by simp [isBS,ho])
         simp only [step,ho,hx,ht,List.map_cons,List.map_nil,sBuiltin,if_true] at hp ⊢
         unfold sAppend at hp ⊢
         split at hp
         · rename_i _ _ e _
           exact ⟨o.dst.getD 0,_,by rw [e]; rfl,rfl⟩
         · rename_i _ _ e _
           exact ⟨o.dst.getD 0,_,by rw [e]; rfl,rfl⟩
         · rename_i k n sz0 off m _ _ _ _ e _
           split at hp
           · exact ⟨_,_,by rw [e]; rfl,rfl⟩
           · split
             · exact ⟨_,_,by rw [e]; rfl,rfl⟩
             · exact ⟨_,_,by rw [e]; rfl,rfl⟩
           · exact hp.elim
         · exact hp.elim
     · cases h
   · cases h
 · cases h
theorem reads_none {oi : Oper} {xs : List Operand} (hr : reads oi = some xs) {y : Yi} (hy : YieldsA P ops oi y s) : y.eff = []:=by
 have ci:=reads_cls hr
 rcases hy with ⟨_,hy,_⟩ | ⟨_,rfl⟩
 · rcases AY_eff hy (by omega) with ⟨_,h⟩ | ⟨h,_⟩
   · exact h
   · exact (reads_mk hr h).elim
 · rfl
theorem writes_rows {oj : Oper} {a : Operand} {d : Option Nat} (hw : writes oj = some (a,d)) {k : Nat} (hka : wrow (keyOf (s.ev a)) d = some k) {z : Yi} (hz : YieldsA P ops oj z s) : ∃ r,z.rows s.rows = upd s.rows k r:=by
 rcases hz with ⟨_,hz,_⟩ | ⟨_,rfl⟩
 · obtain ⟨k',r,h1,h2⟩:=writes_eff hw hz
   rw [hka] at h1
   injection h1 with h1; subst h1
   exact ⟨r,by simp [Yi.rows,h2]⟩
 · refine ⟨s.rows k,?_⟩
   show s.rows = _
   exact (upd_self s.rows k).symm
theorem app_states {oi oj : Oper} {y z : Yi} (hap2 : ∀ d,oi.dst = some d → oj.dst ≠ some d) (h : y.eff = [] ∨ z.eff = []) : (s.app oj.dst z).app oi.dst y = (s.app oi.dst y).app oj.dst z:=by
 refine AS.ext (by simp only [app_n]) ?_ ?_
 · rw [app_tm,app_tm,app_tm,app_tm]
   cases hi : oi.dst with
   | none=>cases oj.dst <;> rfl
   | some d =>
     cases hj : oj.dst with
     | none=>rfl
     | some d' =>
       have : d ≠ d':=fun e=>hap2 d hi (by rw [hj,e])
       exact upd_comm _ (Ne.symm this) _ _
 · rw [app_rows,app_rows,app_rows,app_rows]
   rcases h with h | h <;> simp [Yi.rows,h]
theorem exchange2 {oi oj : Oper} {y z : Yi} {xs : List Operand} {a : Operand} {d : Option Nat} {k : Nat} (hap : oi.apart ops oj = true) (hr : reads oi = some xs) (hw : writes oj = some (a,d)) (hka : wrow (keyOf (s.ev a)) d = some k) (hkx : ∀ x ∈ xs,keyOf (s.ev x) ≠ some k)
 (hy : YieldsA P ops oi y s) (hz : YieldsA P ops oj z (s.app oi.dst y)) :
 YieldsA P ops oj z s ∧ YieldsA P ops oi y (s.app oj.dst z) ∧ (s.app oj.dst z).app oi.dst y = (s.app oi.dst y).app oj.dst z:=by
 obtain ⟨hap1,hap2,hap3⟩:=Oper.apart_spec hap
 have ci:=reads_cls hr
 have cj:=writes_cls hw
 have wj : wantA ops (s.app oi.dst y) oj = wantA ops s oj:=wantA_put hap1 _
 have wi : wantA ops (s.app oj.dst z) oi = wantA ops s oi:=wantA_put hap3 _
 have hye:=reads_none hr hy
 have hyr : y.rows s.rows = s.rows:=by simp [Yi.rows,hye]
 have tmj : ∀ x ∈ oj.op.operands,(s.app oi.dst y).ev x = s.ev x:=fun x hx=>by
  show (AS.put { s with rows:=y.rows s.rows } oi.dst y.av).ev x = s.ev x
  rw [ev_put (fun t ht e=>hap1 t ht (by subst e; exact List.mem_append_left _ (List.mem_filterMap.2 ⟨.tmp t,by simpa using hx,rfl⟩)))]
  exact ev_rows x
 have hz' : YieldsA P ops oj z s:=by
  rcases hz with ⟨hw',hz,hdead⟩ | ⟨hw',hz⟩
  · refine .inl ⟨by rw [← wj]; exact hw',?_,fun h=>(writes_mk hw h).elim⟩
    exact AY_congr (s:=s.app oi.dst y) (by rw [app_rows,hyr]) (fun x hx=>(tmj x hx).symm) hz
  · exact .inr ⟨by rw [← wj]; exact hw',hz⟩
 obtain ⟨r,hzr⟩:=writes_rows hw hka hz'
 refine ⟨hz',?_,app_states hap2 (.inl hye)⟩
 rcases hy with ⟨hw',hy,hdead⟩ | ⟨hw',hy⟩
 · refine .inl ⟨by rw [wi]; exact hw',?_,fun h=>(reads_mk hr h).elim⟩
   have tmi : ∀ x ∈ oi.op.operands,(s.app oj.dst z).ev x = s.ev x:=fun x hx=>by
    show (AS.put { s with rows:=z.rows s.rows } oj.dst z.av).ev x = s.ev x
    rw [ev_put (fun t ht e=>hap3 t ht (by subst e; exact List.mem_append_left _ (List.mem_filterMap.2 ⟨.tmp t,by simpa using hx,rfl⟩)))]
    exact ev_rows x
   have h1 : AY P oi { s with rows:=z.rows s.rows } y:=by
    rw [hzr,reads_AY hr,reads_step hr hkx r,← reads_AY hr]
    exact hy
   exact AY_congr (s:={ s with rows:=z.rows s.rows }) (by rw [app_rows]) (fun x hx=>by rw [tmi x hx]; exact (ev_rows x).symm) h1
 · exact .inr ⟨by rw [wi]; exact hw',hy⟩
theorem exchange3 {oi oj : Oper} {y z : Yi} {xs : List Operand} {a : Operand} {d : Option Nat} {k : Nat} (hap : oi.apart ops oj = true) (hr : reads oj = some xs) (hw : writes oi = some (a,d)) (hka : wrow (keyOf (s.ev a)) d = some k) (hkx : ∀ x ∈ xs,keyOf (s.ev x) ≠ some k)
 (hy : YieldsA P ops oi y s) (hz : YieldsA P ops oj z (s.app oi.dst y)) :
 YieldsA P ops oj z s ∧ YieldsA P ops oi y (s.app oj.dst z) ∧ (s.app oj.dst z).app oi.dst y = (s.app oi.dst y).app oj.dst z:=by
 obtain ⟨hap1,hap2,hap3⟩:=Oper.apart_spec hap
 have cj:=reads_cls hr
 have ci:=writes_cls hw
 have wj : wantA ops (s.app oi.dst y) oj = wantA ops s oj:=wantA_put hap1 _
 have wi : wantA ops (s.app oj.dst z) oi = wantA ops s oi:=wantA_put hap3 _
 have hze:=reads_none hr hz
 obtain ⟨r,hyr⟩:=writes_rows hw hka hy
 have tmj : ∀ x ∈ oj.op.operands,(s.app oi.dst y).ev x = s.ev x:=fun x hx=>by
  show (AS.put { s with rows:=y.rows s.rows } oi.dst y.av).ev x = s.ev x
  rw [ev_put (fun t ht e=>hap1 t ht (by subst e; exact List.mem_append_left _ (List.mem_filterMap.2 ⟨.tmp t,by simpa using hx,rfl⟩)))]
  exact ev_rows x
 have hz' : YieldsA P ops oj z s:=by
  rcases hz with ⟨hw',hz,hdead⟩ | ⟨hw',hz⟩
  · refine .inl ⟨by rw [← wj]; exact hw',?_,fun h=>(reads_mk hr h).elim⟩
    have h1 : AY P oj { s with rows:=y.rows s.rows } z:=AY_congr (s:=s.app oi.dst y) (by rw [app_rows]) (fun x hx=>by rw [tmj x hx]; exact ev_rows x) hz
    rw [hyr,reads_AY hr,reads_step hr hkx r,← reads_AY hr] at h1
    exact h1
  · exact .inr ⟨by rw [← wj]; exact hw',hz⟩
 refine ⟨hz',?_,app_states hap2 (.inr hze)⟩
 rcases hy with ⟨hw',hy,hdead⟩ | ⟨hw',hy⟩
 · refine .inl ⟨by rw [wi]; exact hw',?_,fun h=>(writes_mk hw h).elim⟩
   have tmi : ∀ x ∈ oi.op.operands,(s.app oj.dst z).ev x = s.ev x:=fun x hx=>by
    show (AS.put { s with rows:=z.rows s.rows } oj.dst z.av).ev x = s.ev x
    rw [ev_put (fun t ht e=>hap3 t ht (by subst e; exact List.mem_append_left _ (List.mem_filterMap.2 ⟨.tmp t,by simpa using hx,rfl⟩)))]
    exact ev_rows x
   have hzr : z.rows s.rows = s.rows:=by simp [Yi.rows,hze]
   exact AY_congr (s:=s) (by rw [app_rows,hzr]) (fun x hx=>tmi x hx) hy
 · exact .inr ⟨by rw [wi]; exact hw',hy⟩
theorem verOnly_reads {o : Oper} (h : verOnly o = true) : ∃ xs,reads o = some xs:=by
 unfold verOnly at h
 split at h <;> first
  | (rename_i ho; exact ⟨_,by unfold reads; rw [ho]⟩)
  | cases h
theorem verOnly_step {o : Oper} (h : verOnly o = true) {k : Nat} {r : Row} (hv : r.ver = (s.rows k).ver) : step P o { s with rows:=upd s.rows k r } = step P o s:=by
 have hev : ∀ y : Operand,AS.ev { s with rows:=upd s.rows k r } y = s.ev y:=fun y=>ev_rows y
 have hver : AS.ver { s with rows:=upd s.rows k r } = s.ver:=by
  funext j
  show (upd s.rows k r j).ver = (s.rows j).ver
  unfold upd; split
  · rename_i e; subst e; exact hv
  · rfl
 unfold verOnly at h
 split at h <;> first
  | (rename_i ho; simp only [step,ho,hev,sField,sIndex,sNil,hver]; done)
  | cases h
theorem isStore_writes {o : Oper} (h : isStore o = true) : ∃ a,writes o = some (a,none):=by
 unfold isStore at h
 split at h
 · rename_i ho; exact ⟨_,by unfold writes; rw [ho]⟩
 · cases h
theorem isStore_eff {o : Oper} (h : isStore o = true) {y : Yi} (hy : AY P o s y) : ∃ k r,y.eff = [(k,r)] ∧ r.ver = (s.rows k).ver:=by
 unfold isStore at h
 split at h
 · rename_i t a x ho
   unfold AY at hy
   split at hy
   · rename_i ho'; rw [ho] at ho'; cases ho'
   · rcases hy with hy | hy
     case inr=>exact (hy.no (by simp [isApp,ho])).elim
     obtain ⟨hp,rfl⟩:=rx_no hy (by simp [isBS,ho])
     simp only [step,ho] at hp ⊢
     unfold sStore at hp ⊢
     split at hp
     · rename_i k n off xs _ e _
       split at hp
       · rename_i n' cs e5
         exact ⟨k,_,rfl,by rw [e5]⟩
       · exact hp.elim
     · rename_i k n sz idx off xs _ e _
       split at hp
       · rename_i n' t' sz' es _ e5 _
         exact ⟨k,_,rfl,by rw [e5]⟩
       · rename_i n' t' sz' cs e5
         exact ⟨k,_,rfl,by rw [e5]⟩
       · exact hp.elim
     · exact hp.elim
 · cases h
theorem isStore_rows {oj : Oper} (h : isStore oj = true) {z : Yi} (hz : YieldsA P ops oj z s) : ∃ k r,z.rows s.rows = upd s.rows k r ∧ r.ver = (s.rows k).ver:=by
 rcases hz with ⟨_,hz,_⟩ | ⟨_,rfl⟩
 · obtain ⟨k,r,h1,h2⟩:=isStore_eff h hz
   exact ⟨k,r,by simp [Yi.rows,h1],h2⟩
 · exact ⟨0,s.rows 0,(upd_self s.rows 0).symm,rfl⟩
theorem exchange2v {oi oj : Oper} {y z : Yi} (hap : oi.apart ops oj = true) (hro : verOnly oi = true) (hso : isStore oj = true)
 (hy : YieldsA P ops oi y s) (hz : YieldsA P ops oj z (s.app oi.dst y)) :
 YieldsA P ops oj z s ∧ YieldsA P ops oi y (s.app oj.dst z) ∧ (s.app oj.dst z).app oi.dst y = (s.app oi.dst y).app oj.dst z:=by
 obtain ⟨hap1,hap2,hap3⟩:=Oper.apart_spec hap
 obtain ⟨xs,hr⟩:=verOnly_reads hro
 obtain ⟨a,hw⟩:=isStore_writes hso
 have ci:=reads_cls hr
 have cj:=writes_cls hw
 have wj : wantA ops (s.app oi.dst y) oj = wantA ops s oj:=wantA_put hap1 _
 have wi : wantA ops (s.app oj.dst z) oi = wantA ops s oi:=wantA_put hap3 _
 have hye:=reads_none hr hy
 have hyr : y.rows s.rows = s.rows:=by simp [Yi.rows,hye]
 have tmj : ∀ x ∈ oj.op.operands,(s.app oi.dst y).ev x = s.ev x:=fun x hx=>by
  show (AS.put { s with rows:=y.rows s.rows } oi.dst y.av).ev x = s.ev x
  rw [ev_put (fun t ht e=>hap1 t ht (by subst e; exact List.mem_append_left _ (List.mem_filterMap.2 ⟨.tmp t,by simpa using hx,rfl⟩)))]
  exact ev_rows x
 have hz' : YieldsA P ops oj z s:=by
  rcases hz with ⟨hw',hz,hdead⟩ | ⟨hw',hz⟩
  · refine .inl ⟨by rw [← wj]; exact hw',?_,fun h=>(writes_mk hw h).elim⟩
    exact AY_congr (s:=s.app oi.dst y) (by rw [app_rows,hyr]) (fun x hx=>(tmj x hx).symm) hz
  · exact .inr ⟨by rw [← wj]; exact hw',hz⟩
 obtain ⟨k,r,hzr,hvr⟩:=isStore_rows hso hz'
 refine ⟨hz',?_,app_states hap2 (.inl hye)⟩
 rcases hy with ⟨hw',hy,hdead⟩ | ⟨hw',hy⟩
 · refine .inl ⟨by rw [wi]; exact hw',?_,fun h=>(reads_mk hr h).elim⟩
   have tmi : ∀ x ∈ oi.op.operands,(s.app oj.dst z).ev x = s.ev x:=fun x hx=>by
    show (AS.put { s with rows:=z.rows s.rows } oj.dst z.av).ev x = s.ev x
    rw [ev_put (fun t ht e=>hap3 t ht (by subst e; exact List.mem_append_left _ (List.mem_filterMap.2 ⟨.tmp t,by simpa using hx,rfl⟩)))]
    exact ev_rows x
   have h1 : AY P oi { s with rows:=z.rows s.rows } y:=by
    rw [hzr,reads_AY hr,verOnly_step hro hvr,← reads_AY hr]
    exact hy
   exact AY_congr (s:={ s with rows:=z.rows s.rows }) (by rw [app_rows]) (fun x hx=>by rw [tmi x hx]; exact (ev_rows x).symm) h1
 · exact .inr ⟨by rw [wi]; exact hw',hy⟩
theorem exchange3v {oi oj : Oper} {y z : Yi} (hap : oi.apart ops oj = true) (hro : verOnly oj = true) (hso : isStore oi = true)
 (hy : YieldsA P ops oi y s) (hz : YieldsA P ops oj z (s.app oi.dst y)) :
 YieldsA P ops oj z s ∧ YieldsA P ops oi y (s.app oj.dst z) ∧ (s.app oj.dst z).app oi.dst y = (s.app oi.dst y).app oj.dst z:=by
 obtain ⟨hap1,hap2,hap3⟩:=Oper.apart_spec hap
 obtain ⟨xs,hr⟩:=verOnly_reads hro
 obtain ⟨a,hw⟩:=isStore_writes hso
 have cj:=reads_cls hr
 have ci:=writes_cls hw
 have wj : wantA ops (s.app oi.dst y) oj = wantA ops s oj:=wantA_put hap1 _
 have wi : wantA ops (s.app oj.dst z) oi = wantA ops s oi:=wantA_put hap3 _
 have hze:=reads_none hr hz
 obtain ⟨k,r,hyr,hvr⟩:=isStore_rows hso hy
 have tmj : ∀ x ∈ oj.op.operands,(s.app oi.dst y).ev x = s.ev x:=fun x hx=>by
  show (AS.put { s with rows:=y.rows s.rows } oi.dst y.av).ev x = s.ev x
  rw [ev_put (fun t ht e=>hap1 t ht (by subst e; exact List.mem_append_left _ (List.mem_filterMap.2 ⟨.tmp t,by simpa using hx,rfl⟩)))]
  exact ev_rows x
 have hz' : YieldsA P ops oj z s:=by
  rcases hz with ⟨hw',hz,hdead⟩ | ⟨hw',hz⟩
  · refine .inl ⟨by rw [← wj]; exact hw',?_,fun h=>(reads_mk hr h).elim⟩
    have h1 : AY P oj { s with rows:=y.rows s.rows } z:=AY_congr (s:=s.app oi.dst y) (by rw [app_rows]) (fun x hx=>by rw [tmj x hx]; exact ev_rows x) hz
    rw [hyr,reads_AY hr,verOnly_step hro hvr,← reads_AY hr] at h1
    exact h1
  · exact .inr ⟨by rw [← wj]; exact hw',hz⟩
 refine ⟨hz',?_,app_states hap2 (.inr hze)⟩
 rcases hy with ⟨hw',hy,hdead⟩ | ⟨hw',hy⟩
 · refine .inl ⟨by rw [wi]; exact hw',?_,fun h=>(writes_mk hw h).elim⟩
   have tmi : ∀ x ∈ oi.op.operands,(s.app oj.dst z).ev x = s.ev x:=fun x hx=>by
    show (AS.put { s with rows:=z.rows s.rows } oj.dst z.av).ev x = s.ev x
    rw [ev_put (fun t ht e=>hap3 t ht (by subst e; exact List.mem_append_left _ (List.mem_filterMap.2 ⟨.tmp t,by simpa using hx,rfl⟩)))]
    exact ev_rows x
   have hzr : z.rows s.rows = s.rows:=by simp [Yi.rows,hze]
   exact AY_congr (s:=s) (by rw [app_rows,hzr]) (fun x hx=>tmi x hx) hy
 · exact .inr ⟨by rw [wi]; exact hw',hy⟩
end
def makes (o : Oper) : Option Nat :=
 match o.op,o.dst with
 | .makeSlice _ _ _,some d=>some d
 | .alloc _,some d=>some d
 | _,_=>none
def puts (o : Oper) : Option (Operand × Option Nat × Operand) :=
 match o.op with
 | .store _ a x=>some (a,none,x)
 | .call ⟨.builtin .append,args,ts⟩=>match args.toList,ts.toList with | [x,y],[t,t']=>if t = t' then some (x,some (o.dst.getD 0),y) else none | _,_=>none
 | _=>none
section
variable {P : Program} {s : AS} {ops : Array Oper}
theorem makes_cls {o : Oper} {d : Nat} (h : makes o = some d) : cls o = 2 ∧ o.dst = some d:=by
 unfold makes at h
 split at h
 · rename_i ho hd; injection h with h; subst h; exact ⟨by simp [cls,ho],hd⟩
 · rename_i ho hd; injection h with h; subst h; exact ⟨by simp [cls,ho],hd⟩
 · cases h
theorem puts_writes {o : Oper} {a x : Operand} {dd : Option Nat} (h : puts o = some (a,dd,x)) : writes o = some (a,dd):=by
 unfold puts at h
 split at h
 · rename_i ho
   injection h with h; injection h with h1 h2; injection h2 with h2 h3; subst h1; subst h2
   simp [writes,ho]
 · rename_i args ts ho
   split at h
   · rename_i x' y' t t' hx ht
     split at h
     · rename_i htt
       injection h with h; injection h with h1 h2; injection h2 with h2 h3; subst h1; subst h2; subst htt
       simp [writes,ho,hx,ht]
     · cases h
   · cases h
 · cases h
theorem puts_cls {o : Oper} {a x : Operand} {dd : Option Nat} (h : puts o = some (a,dd,x)) : cls o = 3:=writes_cls (puts_writes h)
theorem puts_mk {o : Oper} {a x : Operand} {dd : Option Nat} (h : puts o = some (a,dd,x)) {y : Yi} : ¬ mk o y:=writes_mk (puts_writes h)
theorem makes_step {o : Oper} {d k : Nat} (h : makes o = some d) (hk : k ≠ d) (r : Row) : step P o { s with rows:=upd s.rows k r } = step P o s:=by
 have hev : ∀ y : Operand,AS.ev { s with rows:=upd s.rows k r } y = s.ev y:=fun y=>ev_rows y
 unfold makes at h
 split at h
 · rename_i ho hd
   injection h with h; subst h
   simp only [step,ho,hev,hd,Option.getD_some]
   unfold sMakeSlice
   simp only [upd_other _ _ (Ne.symm hk)]
 · rename_i ho hd
   injection h with h; subst h
   simp only [step,ho,hev,hd,Option.getD_some]
   unfold sAlloc
   simp only [upd_other _ _ (Ne.symm hk)]
 · cases h
theorem makes_AY {o : Oper} {d : Nat} (h : makes o = some d) {y : Yi} : AY P o s y ↔ (step P o s).pre ∧ y = (step P o s).y:=by
 unfold AY
 split
 · rename_i ho; simp [makes,ho] at h
 · refine ⟨fun hy=>hy.elim (fun hy=>rx_no hy ?_) fun hy=>?_,fun hy=>.inl ⟨hy.1,.inl hy.2⟩⟩
   · unfold makes at h
     split at h <;> rename_i ho _ <;> first
      | (simp [isBS,ho]; done)
      | cases h
   · obtain ⟨x,z,t,d,rv,h1,_⟩:=hy
     simp [makes,h1] at h
theorem makes_eff {o : Oper} {d : Nat} (h : makes o = some d) {y : Yi} (hy : AY P o s y) : ∃ r,y.eff = [(d,r)]:=by
 obtain ⟨hp,rfl⟩:=(makes_AY h).1 hy
 unfold makes at h
 split at h
 · rename_i ho hd
   injection h with h; subst h
   simp only [step,ho,hd,Option.getD_some] at hp ⊢
   unfold sMakeSlice at hp ⊢
   (repeat' split at hp) <;> first | exact hp.elim | exact ⟨_,rfl⟩
 · rename_i ho hd
   injection h with h; subst h
   simp only [step,ho,hd,Option.getD_some] at hp ⊢
   unfold sAlloc at hp ⊢
   (repeat' split at hp) <;> first | exact hp.elim | exact ⟨_,rfl⟩
 · cases h
theorem news_set {d : Nat} {r : Row} {y : AV} (hy : keyOf y ≠ some d) : news? { s with rows:=upd s.rows d r } y = news? s y:=by
 unfold news?
 split <;> first
  | rfl
  | (simp only [keyOf,ne_eq,Option.some.injEq] at hy; simp only [upd_other _ _ hy]; done)
  | (simp only [keyOf, ne_eq, Option.some.injEq] at hy
     have hv : AS.ver { s with rows:=upd s.rows d r } _ = s.ver _:=by show (upd s.rows d r _).ver = _; rw [upd_other _ _ hy]; rfl
     simp only [upd_other _ _ hy,hv])
theorem puts_step {o : Oper} {a x : Operand} {dd : Option Nat} {d k : Nat} (h : puts o = some (a,dd,x)) (hka : wrow (keyOf (s.ev a)) dd = some k) (hkd : k ≠ d) (hx : keyOf (s.ev x) ≠ some d) (r : Row) : step P o { s with rows:=upd s.rows d r } = step P o s:=by
 have hev : ∀ y : Operand,AS.ev { s with rows:=upd s.rows d r } y = s.ev y:=fun y=>ev_rows y
 have ha : keyOf (s.ev a) ≠ some d:=fun e=>by rw [e] at hka; injection hka with hka; exact hkd hka.symm
 unfold puts at h
 split at h
 · rename_i t a' x' ho
   injection h with h; injection h with h1 h2; injection h2 with h2 h3; subst h1; subst h2; subst h3
   simp only [step,ho,hev]
   unfold sStore
   rw [cells_set hx]
   split <;> first
    | rfl
    | (rename_i e _; rw [e] at ha; simp only [keyOf,ne_eq,Option.some.injEq] at ha; simp only [upd_other _ _ ha])
 · rename_i args ts ho
   split at h
   · rename_i x' y' t t' hx' ht
     split at h
     · rename_i htt
       injection h with h; injection h with h1 h2; injection h2 with h2 h3; subst h1; subst h2; subst h3; subst htt
       simp only [step,ho,hx',ht,List.map_cons,List.map_nil,sBuiltin,if_true,hev]
       unfold sAppend
       rw [news_set hx]
       split
       · rename_i e _
         rw [e] at hka
         have hk : o.dst.getD 0 = k:=by simpa [keyOf,wrow] using hka
         rw [hk]
         simp only [upd_other _ _ hkd]
       · rename_i e _
         rw [e] at hka
         have hk : o.dst.getD 0 = k:=by simpa [keyOf,wrow] using hka
         rw [hk]
         simp only [upd_other _ _ hkd]
       · rename_i k' n sz0 off m _ _ _ _ e _
         rw [e] at ha
         simp only [keyOf,ne_eq,Option.some.injEq] at ha
         simp only [upd_other _ _ ha]
       · rfl
     · cases h
   · cases h
 · cases h
theorem puts_AY {o : Oper} {a x : Operand} {dd : Option Nat} (h : puts o = some (a,dd,x)) {y : Yi} : AY P o s y ↔ ((step P o s).pre ∧ y = (step P o s).y) ∨ AYf P o s y:=by
 unfold AY
 split
 · rename_i ho; simp [puts,ho] at h
 · have hb : isBS o = false:=by
    unfold puts at h
    split at h <;> rename_i ho <;> first
     | (simp [isBS,ho]; done)
     | cases h
   exact ⟨fun hy=>hy.imp (fun hy=>rx_no hy hb) id,fun hy=>hy.imp (fun hy=>⟨hy.1,.inl hy.2⟩) id⟩
theorem puts_AYf {o : Oper} {a x : Operand} {dd : Option Nat} {d k : Nat} (h : puts o = some (a,dd,x)) (hka : wrow (keyOf (s.ev a)) dd = some k) (hkd : k ≠ d) (hx : keyOf (s.ev x) ≠ some d) (r : Row) {y : Yi} : AYf P o { s with rows:=upd s.rows d r } y = AYf P o s y:=by
 have hev : ∀ y : Operand,AS.ev { s with rows:=upd s.rows d r } y = s.ev y:=fun y=>ev_rows y
 have key : ∀ x2 z2 t2 d2 rv2 b2,o.op = .call ⟨.builtin .append,#[x2,z2],#[t2,t2]⟩ → o.dst = some d2 → s.ev x2 = .r b2 → (d2 ≠ d ∧ frz P o { s with rows:=upd s.rows d r } x2 z2 t2 d2 rv2 = frz P o s x2 z2 t2 d2 rv2):=by
  intro x2 z2 t2 d2 rv2 b2 q1 q2 q4
  have hp:=h
  unfold puts at h
  rw [q1] at h
  simp only [if_true,Option.some.injEq,Prod.mk.injEq] at h
  obtain ⟨rfl,rfl,rfl⟩:=h
  rw [q4,q2] at hka
  have e : d2 = k:=by simpa [keyOf,wrow] using hka
  have hd2 : d2 ≠ d:=by rw [e]; exact hkd
  refine ⟨hd2,?_⟩
  unfold frz
  rw [puts_step hp (by rw [q4,q2]; exact hka) hkd hx r,hev,hev,news_set hx]
  simp only [upd_other _ _ hd2]
 unfold AYf
 refine propext ⟨?_,?_⟩
 · rintro ⟨x2,z2,t2,d2,rv2,q1,q2,q3,⟨b2,q4⟩,q5,q6⟩
   rw [hev] at q4
   obtain ⟨k1,k2⟩:=key x2 z2 t2 d2 rv2 b2 q1 q2 q4
   rw [k2] at q6
   simp only [upd_other _ _ k1] at q5
   exact ⟨x2,z2,t2,d2,rv2,q1,q2,q3,⟨b2,q4⟩,q5,q6⟩
 · rintro ⟨x2,z2,t2,d2,rv2,q1,q2,q3,⟨b2,q4⟩,q5,q6⟩
   obtain ⟨k1,k2⟩:=key x2 z2 t2 d2 rv2 b2 q1 q2 q4
   rw [← k2] at q6
   refine ⟨x2,z2,t2,d2,rv2,q1,q2,q3,⟨b2,by rw [hev]; exact q4⟩,?_,q6⟩
   simp only [upd_other _ _ k1];exact q5
theorem eff_comm {y z : Yi} {d k : Nat} (hdk : d ≠ k) (hy : y.eff = [] ∨ ∃ r,y.eff = [(d,r)]) (hz : z.eff = [] ∨ ∃ r,z.eff = [(k,r)]) (f : Nat → Row) : y.rows (z.rows f) = z.rows (y.rows f):=by
 rcases hy with hy | ⟨r,hy⟩
 · simp [Yi.rows,hy]
 · rcases hz with hz | ⟨r',hz⟩
   · simp [Yi.rows,hz]
   · simp only [Yi.rows,hy,hz,List.foldl_cons,List.foldl_nil];exact upd_comm _ (Ne.symm hdk) _ _
theorem app_states3 {oi oj : Oper} {y z : Yi} (hap2 : ∀ d,oi.dst = some d → oj.dst ≠ some d) (h : y.rows (z.rows s.rows) = z.rows (y.rows s.rows)) : (s.app oj.dst z).app oi.dst y = (s.app oi.dst y).app oj.dst z:=by
 refine AS.ext (by simp only [app_n]) ?_ ?_
 · rw [app_tm,app_tm,app_tm,app_tm]
   cases hi : oi.dst with
   | none=>cases oj.dst <;> rfl
   | some d =>
     cases hj : oj.dst with
     | none=>rfl
     | some d' =>
       have : d ≠ d':=fun e=>hap2 d hi (by rw [hj,e])
       exact upd_comm _ (Ne.symm this) _ _
 · rw [app_rows,app_rows,app_rows,app_rows]
   exact h
theorem makes_effs {o : Oper} {d : Nat} (h : makes o = some d) {y : Yi} (hy : YieldsA P ops o y s) : y.eff = [] ∨ ∃ r,y.eff = [(d,r)]:=by
 rcases hy with ⟨_,hy,_⟩ | ⟨_,rfl⟩
 · exact .inr (makes_eff h hy)
 · exact .inl rfl
theorem puts_effs {o : Oper} {a x : Operand} {dd : Option Nat} {k : Nat} (h : puts o = some (a,dd,x)) (hka : wrow (keyOf (s.ev a)) dd = some k) {z : Yi} (hz : YieldsA P ops o z s) : z.eff = [] ∨ ∃ r,z.eff = [(k,r)]:=by
 rcases hz with ⟨_,hz,_⟩ | ⟨_,rfl⟩
 · obtain ⟨k',r,h1,h2⟩:=writes_eff (puts_writes h) hz
   rw [hka] at h1
   injection h1 with h1; subst h1
   exact .inr ⟨r,h2⟩
 · exact .inl rfl
theorem rows_upd {y : Yi} {d : Nat} (hy : y.eff = [] ∨ ∃ r,y.eff = [(d,r)]) (f : Nat → Row) : ∃ r,y.rows f = upd f d r:=by
 rcases hy with hy | ⟨r,hy⟩
 · exact ⟨f d,by rw [upd_self]; simp [Yi.rows,hy]⟩
 · exact ⟨r,by simp [Yi.rows,hy]⟩
theorem exchange4 {oi oj : Oper} {y z : Yi} {a x : Operand} {dd : Option Nat} {d k : Nat} (hap : oi.apart ops oj = true) (hr : makes oi = some d) (hw : puts oj = some (a,dd,x)) (hka : wrow (keyOf (s.ev a)) dd = some k) (hkd : k ≠ d) (hkx : keyOf (s.ev x) ≠ some d)
 (hy : YieldsA P ops oi y s) (hz : YieldsA P ops oj z (s.app oi.dst y)) :
 YieldsA P ops oj z s ∧ YieldsA P ops oi y (s.app oj.dst z) ∧ (s.app oj.dst z).app oi.dst y = (s.app oi.dst y).app oj.dst z:=by
 obtain ⟨hap1,hap2,hap3⟩:=Oper.apart_spec hap
 have ci:=(makes_cls hr).1
 have cj:=puts_cls hw
 have wj : wantA ops (s.app oi.dst y) oj = wantA ops s oj:=wantA_put hap1 _
 have wi : wantA ops (s.app oj.dst z) oi = wantA ops s oi:=wantA_put hap3 _
 have hye:=makes_effs hr hy
 obtain ⟨r,hyr⟩:=rows_upd hye s.rows
 have tmj : ∀ x ∈ oj.op.operands,(s.app oi.dst y).ev x = s.ev x:=fun x hx=>by
  show (AS.put { s with rows:=y.rows s.rows } oi.dst y.av).ev x = s.ev x
  rw [ev_put (fun t ht e=>hap1 t ht (by subst e; exact List.mem_append_left _ (List.mem_filterMap.2 ⟨.tmp t,by simpa using hx,rfl⟩)))]
  exact ev_rows x
 have hz' : YieldsA P ops oj z s:=by
  rcases hz with ⟨hw',hz,hdead⟩ | ⟨hw',hz⟩
  · refine .inl ⟨by rw [← wj]; exact hw',?_,fun h=>(puts_mk hw h).elim⟩
    have h1 : AY P oj { s with rows:=y.rows s.rows } z:=AY_congr (s:=s.app oi.dst y) (by rw [app_rows]) (fun x hx=>by rw [tmj x hx]; exact ev_rows x) hz
    rw [hyr,puts_AY hw,puts_step hw hka hkd hkx r,puts_AYf hw hka hkd hkx r,← puts_AY hw] at h1
    exact h1
  · exact .inr ⟨by rw [← wj]; exact hw',hz⟩
 have hze:=puts_effs hw hka hz'
 obtain ⟨r',hzr⟩:=rows_upd hze s.rows
 refine ⟨hz',?_,app_states3 hap2 (eff_comm (Ne.symm hkd) hye hze _)⟩
 rcases hy with ⟨hw',hy,hdead⟩ | ⟨hw',hy⟩
 · refine .inl ⟨by rw [wi]; exact hw',?_,fun h=>?_⟩
   · have tmi : ∀ x ∈ oi.op.operands,(s.app oj.dst z).ev x = s.ev x:=fun x hx=>by
      show (AS.put { s with rows:=z.rows s.rows } oj.dst z.av).ev x = s.ev x
      rw [ev_put (fun t ht e=>hap3 t ht (by subst e; exact List.mem_append_left _ (List.mem_filterMap.2 ⟨.tmp t,by simpa using hx,rfl⟩)))]
      exact ev_rows x
     have h1 : AY P oi { s with rows:=z.rows s.rows } y:=by
      rw [hzr,makes_AY hr,makes_step hr hkd r',← makes_AY hr]
      exact hy
     exact AY_congr (s:={ s with rows:=z.rows s.rows }) (by rw [app_rows]) (fun x hx=>by rw [tmi x hx]; exact (ev_rows x).symm) h1
   · obtain ⟨h1,h2⟩:=hdead h
     refine ⟨?_,h2⟩
     rw [(makes_cls hr).2,Option.getD_some] at h1 ⊢
     rw [app_rows,hzr,upd_other _ _ (Ne.symm hkd)]
     exact h1
 · exact .inr ⟨by rw [wi]; exact hw',hy⟩
theorem exchange5 {oi oj : Oper} {y z : Yi} {a x : Operand} {dd : Option Nat} {d k : Nat} (hap : oi.apart ops oj = true) (hr : makes oj = some d) (hw : puts oi = some (a,dd,x)) (hka : wrow (keyOf (s.ev a)) dd = some k) (hkd : k ≠ d) (hkx : keyOf (s.ev x) ≠ some d)
 (hy : YieldsA P ops oi y s) (hz : YieldsA P ops oj z (s.app oi.dst y)) :
 YieldsA P ops oj z s ∧ YieldsA P ops oi y (s.app oj.dst z) ∧ (s.app oj.dst z).app oi.dst y = (s.app oi.dst y).app oj.dst z:=by
 obtain ⟨hap1,hap2,hap3⟩:=Oper.apart_spec hap
 have cj:=(makes_cls hr).1
 have ci:=puts_cls hw
 have wj : wantA ops (s.app oi.dst y) oj = wantA ops s oj:=wantA_put hap1 _
 have wi : wantA ops (s.app oj.dst z) oi = wantA ops s oi:=wantA_put hap3 _
 have hye:=puts_effs hw hka hy
 obtain ⟨r,hyr⟩:=rows_upd hye s.rows
 have tmj : ∀ x ∈ oj.op.operands,(s.app oi.dst y).ev x = s.ev x:=fun x hx=>by
  show (AS.put { s with rows:=y.rows s.rows } oi.dst y.av).ev x = s.ev x
  rw [ev_put (fun t ht e=>hap1 t ht (by subst e; exact List.mem_append_left _ (List.mem_filterMap.2 ⟨.tmp t,by simpa using hx,rfl⟩)))]
  exact ev_rows x
 have hz' : YieldsA P ops oj z s:=by
  rcases hz with ⟨hw',hz,hdead⟩ | ⟨hw',hz⟩
  · refine .inl ⟨by rw [← wj]; exact hw',?_,fun h=>?_⟩
    · have h1 : AY P oj { s with rows:=y.rows s.rows } z:=AY_congr (s:=s.app oi.dst y) (by rw [app_rows]) (fun x hx=>by rw [tmj x hx]; exact ev_rows x) hz
      rw [hyr,makes_AY hr,makes_step hr hkd r,← makes_AY hr] at h1
      exact h1
    · obtain ⟨h1,h2⟩:=hdead h
      refine ⟨?_,h2⟩
      rw [(makes_cls hr).2,Option.getD_some] at h1 ⊢
      rw [app_rows,hyr,upd_other _ _ (Ne.symm hkd)] at h1
      exact h1
  · exact .inr ⟨by rw [← wj]; exact hw',hz⟩
 have hze:=makes_effs hr hz'
 obtain ⟨r',hzr⟩:=rows_upd hze s.rows
 refine ⟨hz',?_,app_states3 hap2 (eff_comm hkd hye hze _)⟩
 rcases hy with ⟨hw',hy,hdead⟩ | ⟨hw',hy⟩
 · refine .inl ⟨by rw [wi]; exact hw',?_,fun h=>(puts_mk hw h).elim⟩
   have tmi : ∀ x ∈ oi.op.operands,(s.app oj.dst z).ev x = s.ev x:=fun x hx=>by
    show (AS.put { s with rows:=z.rows s.rows } oj.dst z.av).ev x = s.ev x
    rw [ev_put (fun t ht e=>hap3 t ht (by subst e; exact List.mem_append_left _ (List.mem_filterMap.2 ⟨.tmp t,by simpa using hx,rfl⟩)))]
    exact ev_rows x
   have h1 : AY P oi { s with rows:=z.rows s.rows } y:=by
    rw [hzr,puts_AY hw,puts_step hw hka hkd hkx r',puts_AYf hw hka hkd hkx r',← puts_AY hw]
    exact hy
   exact AY_congr (s:={ s with rows:=z.rows s.rows }) (by rw [app_rows]) (fun x hx=>by rw [tmi x hx]; exact (ev_rows x).symm) h1
 · exact .inr ⟨by rw [wi]; exact hw',hy⟩
end
def defAt : List Oper → Nat → Nat → Option Nat
 | [],_,_=>none
 | o :: l,i,t=>if o.dst = some t then some i else defAt l (i + 1) t
def defOf (ops : Array Oper) (t : Nat) : Option Nat:=defAt ops.toList 0 t
theorem defAt_spec {t : Nat} : ∀ {l : List Oper} {i j : Nat},defAt l i t = some j → i ≤ j ∧ ∃ o,l[j - i]? = some o ∧ o.dst = some t
 | [],_,_,h=>by simp [defAt] at h
 | o :: l, i, j, h => by
   unfold defAt at h
   split at h
   · rename_i e
     injection h with h; subst h
     exact ⟨Nat.le_refl _,o,by simp,e⟩
   · obtain ⟨h1,o',h2,h3⟩:=defAt_spec h
     refine ⟨by omega,o',?_,h3⟩
     rw [show j - i = (j - (i + 1)) + 1 from by omega]
     simpa using h2
theorem defAt_none {t : Nat} : ∀ {l : List Oper} {i : Nat},defAt l i t = none → ∀ o ∈ l,o.dst ≠ some t
 | [],_,_,o,ho=>by simp at ho
 | o' :: l, i, h, o, ho => by
   unfold defAt at h
   split at h
   · cases h
   · rename_i e
     rcases List.mem_cons.1 ho with rfl | ho
     · exact e
     · exact defAt_none h o ho
theorem defOf_some {ops : Array Oper} {t j : Nat} (h : defOf ops t = some j) : ∃ o,ops[j]? = some o ∧ o.dst = some t:=by
 obtain ⟨_,o,h1,h2⟩:=defAt_spec h
 exact ⟨o,by simpa using h1,h2⟩
theorem defOf_none {ops : Array Oper} {t j : Nat} {o : Oper} (h : defOf ops t = none) (ho : ops[j]? = some o) : o.dst ≠ some t:=by
 obtain ⟨hi,rfl⟩:=Array.getElem?_eq_some_iff.1 ho
 exact defAt_none h _ (by simp)
def steady (o : Oper) : Option Operand :=
 if o.guard.isSome then none else
 match o.op with
 | .fieldAddr _ x _=>some x
 | .indexAddr _ x _=>some x
 | .nilCheck x=>some x
 | .move x=>some x
 | _=>none
def plainOf (o : Oper) : Option Operand :=
 if o.guard.isSome then none else
 match o.op with
 | .load _ a=>some a
 | _=>none
def sure (o : Oper) : Bool:=o.guard.isNone && (match o.op with | .buildSlice _ _ _=>true | .binOp ..=>true | .build _ _=>true | _=>false)
def lookK : List (Nat × Option Nat) → Nat → Option (Option Nat)
 | [],_=>none
 | (t,k) :: l,u=>if u = t then some k else lookK l u
def freshOf (o : Oper) : Option (Option Nat):=if o.guard.isSome then none else match o.op,o.dst with | .alloc _,some d=>some (some d) | _,_=>none
def apnd (o : Oper) : Option (Operand × Nat) :=
 if o.guard.isSome then none else
 match o.op,o.dst with
 | .call ⟨.builtin .append,args,ts⟩,some d=>match args.toList,ts.toList with | [x,_],[t,t']=>if t = t' then some (x,d) else none | _,_=>none
 | _,_=>none
def outKey (ops : Array Oper) (κ : List (Nat × Option Nat)) : Nat → Nat → Option (Option Nat)
 | 0,_=>none
 | n + 1, e =>
   let inKey (u : Nat) : Option (Option Nat):=match defOf ops u with
    | none=>lookK κ u
    | some e'=>if (deps ops e).contains e' then outKey ops κ n e' else if waits ops ops.size e' e then lookK κ u else none
   match ops[e]? with
   | some o => match steady o with
     | some (.tmp u)=>inKey u
     | _ => match plainOf o with
       | some (.tmp u)=>match inKey u with | some none=>some none | _=>none
       | _ => if sure o then some none else match apnd o with
         | some (.tmp u,d)=>(match inKey u with | some (some key)=>some (some key) | _=>none)
         | _=>freshOf o
   | none=>none
def inKey (ops : Array Oper) (κ : List (Nat × Option Nat)) (n j u : Nat) : Option (Option Nat):=match defOf ops u with
 | none=>lookK κ u
 | some e=>if (deps ops j).contains e then outKey ops κ n e else if waits ops ops.size e j then lookK κ u else none
def clear (ops : Array Oper) (κ : List (Nat × Option Nat)) (j k : Nat) : List Operand → Bool
 | []=>true
 | .tmp t :: xs=>(match inKey ops κ ops.size j t with | some k1=>k1 != some k | none=>false) && clear ops κ j k xs
 | _ :: xs=>clear ops κ j k xs
def wkey (ops : Array Oper) (κ : List (Nat × Option Nat)) (j : Nat) (a : Operand × Option Nat) : Option Nat :=
 match a.1 with
 | .tmp u=>match inKey ops κ ops.size j u with | some key=>wrow key a.2 | none=>none
 | .const _=>a.2
 | _=>none
def rdOk (ops : Array Oper) (κ : List (Nat × Option Nat)) (i j : Nat) : Bool :=
 match ops[i]?,ops[j]? with
 | some x, some y =>
   x.apart ops y && (
    (match reads x,writes y with
    | some xs,some a=>match wkey ops κ j a with | some k=>clear ops κ i k xs | none=>false
    | _,_=>false) ||
    (match writes x,reads y with
    | some a,some xs=>match wkey ops κ i a with | some k=>clear ops κ j k xs | none=>false
    | _,_=>false) ||
    (match makes x,puts y with
    | some d,some (a,dd,v)=>(match wkey ops κ j (a,dd) with | some k=>decide (k ≠ d) && clear ops κ j d [v] | none=>false)
    | _,_=>false) ||
    (match puts x,makes y with
    | some (a,dd,v),some d=>(match wkey ops κ i (a,dd) with | some k=>decide (k ≠ d) && clear ops κ i d [v] | none=>false)
    | _,_=>false) ||
    (verOnly x && isStore y) || (isStore x && verOnly y))
 | _,_=>false
def uniq : List Oper → Bool
 | []=>true
 | o :: l=>(match o.dst with | some t=>l.all fun o'=>o'.dst != some t | none=>true) && uniq l
def lexOk2 (ops : Array Oper) (κ : List (Nat × Option Nat)) : Bool :=
 uniq ops.toList &&
 (List.range ops.size).all fun i=>(deps ops i).all (fun e=>decide (e < i)) &&
  (List.range ops.size).all fun j=>!decide (i < j) || waits ops ops.size j i ||
   (match ops[i]?,ops[j]? with | some x,some y=>okPair ops x y | _,_=>true) || rdOk ops κ i j
def keysOk (κ : List (Nat × Option Nat)) (s : AS) : Prop:=∀ p ∈ κ,keyOf (s.tm p.1) = p.2
section
variable {P : Program} {s : AS} {ops : Array Oper} {κ : List (Nat × Option Nat)}
theorem lookK_mem : ∀ {l : List (Nat × Option Nat)} {t : Nat} {k : Option Nat},lookK l t = some k → (t,k) ∈ l
 | [],_,_,h=>by simp [lookK] at h
 | (u, k') :: l, t, k, h => by
   unfold lookK at h
   split at h
   · rename_i e; subst e; injection h with h; subst h; simp
   · simp [lookK_mem h]
theorem uniq_spec : ∀ {l : List Oper} {i j : Nat} {x y : Oper} {t : Nat},uniq l = true → l[i]? = some x → l[j]? = some y → x.dst = some t → y.dst = some t → i = j
 | [],_,_,_,_,_,_,h,_,_,_=>by simp at h
 | o :: l, i, j, x, y, t, hu, hi, hj, hx, hy => by
   simp only [uniq,Bool.and_eq_true] at hu
   have one : ∀ {j : Nat} {x y : Oper},x.dst = some t → o = x → l[j]? = some y → y.dst = some t → False:=fun hx e hj hy=>by
    subst e
    have h1:=hu.1
    rw [hx] at h1
    have:=List.all_eq_true.1 h1 _ (List.mem_of_getElem? hj)
    simp [hy] at this
   cases i with
   | zero =>
     cases j with
     | zero=>rfl
     | succ j =>
       simp only [List.getElem?_cons_zero,Option.some.injEq,List.getElem?_cons_succ] at hi hj
       exact (one hx hi hj hy).elim
   | succ i =>
     cases j with
     | zero =>
       simp only [List.getElem?_cons_zero,Option.some.injEq,List.getElem?_cons_succ] at hi hj
       exact (one hy hj hi hx).elim
     | succ j =>
       simp only [List.getElem?_cons_succ] at hi hj
       rw [uniq_spec hu.2 hi hj hx hy]
def Told (ops : Array Oper) (κ : List (Nat × Option Nat)) (listed : Array Bool) (s : AS) : Prop :=
 (∀ t k,lookK κ t = some k → (∀ e o,ops[e]? = some o → o.dst = some t → listed.getD e false = false) → keyOf (s.tm t) = k) ∧
 ∀ n e t k,defOf ops t = some e → listed.getD e false = true → outKey ops κ n e = some k → keyOf (s.tm t) = k
theorem told_start (h : keysOk κ s) {listed : Array Bool} (hl : ∀ j,j < ops.size → listed.getD j false = false) : Told ops κ listed s:=⟨fun t k hk _=>h _ (lookK_mem hk),fun n e t k hd hj _=>by
 obtain ⟨o,ho,_⟩:=defOf_some hd
 have : e < ops.size:=(Array.getElem?_eq_some_iff.1 ho).1
 rw [hl e this] at hj; cases hj⟩
theorem told_in (hu : uniq ops.toList = true) {listed : Array Bool} (h : Told ops κ listed s) (hdown : down ops listed) {n j u : Nat} {k : Option Nat} (hr : j ∈ Region.ready .any ops listed) (hk : inKey ops κ n j u = some k) : keyOf (s.tm u) = k:=by
 unfold inKey at hk
 split at hk
 · rename_i hd
   exact h.1 u k hk fun e o ho hdst=>absurd hdst (defOf_none hd ho)
 · rename_i e hd
   split at hk
   · rename_i hc
     exact h.2 n e u k hd (ready_deps hr e (by simpa using hc)) hk
   · split at hk
     · rename_i hw
       refine h.1 u k hk fun e' o ho hdst=>?_
       obtain ⟨o',ho',hdst'⟩:=defOf_some hd
       have : e' = e:=uniq_spec hu (by simpa using ho) (by simpa using ho') hdst hdst'
       subst this
       refine Bool.eq_false_iff.2 fun hl=>?_
       have h2:=waits_listed hdown _ _ _ (hdown _ hl) hw
       have h3:=(mem_ready.1 hr).1
       rcases Nat.lt_or_ge j listed.size with h' | h'
       · simp [h'] at h2 h3; rw [h3] at h2; cases h2
       · simp [Array.getElem?_eq_none h'] at h2
     · cases hk
theorem steady_key {o : Oper} {x : Operand} (h : steady o = some x) {y : Yi} (hy : AY P o s y) : keyOf y.av = keyOf (s.ev x):=by
 unfold steady at h
 split at h
 · cases h
 · unfold AY at hy
   split at h <;> rename_i ho <;> first
    | (injection h with h; subst h)
    | (cases h; done)
   all_goals
    split at hy
    · rename_i ho'; rw [ho] at ho'; cases ho'
    · rcases hy with hy | hy
      case inr=>exact (hy.no (by simp [isApp,ho])).elim
      obtain ⟨hp,rfl⟩:=rx_no hy (by simp [isBS,ho])
      simp only [step,ho] at hp ⊢
      first
       | (unfold sField at hp ⊢; (repeat' split at hp) <;> first | (simp only [*]; rfl) | exact hp.elim)
       | (unfold sIndex at hp ⊢; (repeat' split at hp) <;> first | (simp only [*]; rfl) | exact hp.elim)
       | (unfold sNil at hp ⊢; (repeat' split at hp) <;> first | (simp only [*]; rfl) | exact hp.elim)
       | rfl
theorem steady_guard {o : Oper} {x : Operand} (h : steady o = some x) : o.guard = none:=by
 unfold steady at h
 split at h
 · cases h
 · rename_i hg; simpa using hg
theorem plain_guard {o : Oper} {x : Operand} (h : plainOf o = some x) : o.guard = none:=by
 unfold plainOf at h
 split at h
 · cases h
 · rename_i hg; simpa using hg
theorem plain_key {o : Oper} {x : Operand} (h : plainOf o = some x) {y : Yi} (hx : keyOf (s.ev x) = none) (hy : AY P o s y) : keyOf y.av = none:=by
 unfold plainOf at h
 split at h
 · cases h
 · unfold AY at hy
   split at h <;> rename_i ho <;> first
    | (injection h with h; subst h)
    | (cases h; done)
   split at hy
   · rename_i ho'; rw [ho] at ho'; cases ho'
   · rcases hy with hy | hy
     case inr=>exact (hy.no (by simp [isApp,ho])).elim
     obtain ⟨hp,rfl⟩:=rx_no hy (by simp [isBS,ho])
     simp only [step,ho] at hp ⊢
     unfold sLoad at hp ⊢
     split at hp
     · rfl
     · rename_i e; rw [e] at hx; cases hx
     · rename_i e; rw [e] at hx; cases hx
     · exact hp.elim
theorem sure_guard {o : Oper} (h : sure o = true) : o.guard = none:=by
 simp only [sure,Bool.and_eq_true,Option.isNone_iff_eq_none] at h
 exact h.1
theorem fresh_guard {o : Oper} {k : Option Nat} (h : freshOf o = some k) : o.guard = none:=by
 unfold freshOf at h
 split at h
 · cases h
 · rename_i hg; simpa using hg
theorem fresh_key {o : Oper} {k : Option Nat} (h : freshOf o = some k) {y : Yi} (hy : AY P o s y) : keyOf y.av = k:=by
 unfold freshOf at h
 split at h
 · cases h
 · split at h
   · rename_i ho hd
     injection h with h
     subst h
     unfold AY at hy
     split at hy
     · rename_i ho'; rw [ho] at ho'; cases ho'
     · rcases hy with hy | hy
       case inr=>exact (hy.no (by simp [isApp,ho])).elim
       obtain ⟨hp,rfl⟩:=rx_no hy (by simp [isBS,ho])
       simp only [step,ho,hd,Option.getD_some] at hp ⊢
       unfold sAlloc at hp ⊢
       split
       · rfl
       · rename_i e; rw [e] at hp; exact hp.elim
   · cases h
theorem sure_key {o : Oper} (h : sure o = true) {y : Yi} (hy : AY P o s y) : keyOf y.av = none:=by
 simp only [sure,Bool.and_eq_true] at h
 have h:=h.2
 unfold AY at hy
 split at h
 · rename_i ho
   split at hy
   · rename_i ho'; rw [ho] at ho'; cases ho'
   · rcases hy with hy | hy
     case inr=>exact (hy.no (by simp [isApp,ho])).elim
     rcases hy with ⟨hp,rfl | ⟨_,_,_,_,_,rfl⟩⟩
     rotate_left
     · rfl
     simp only [step,ho] at hp ⊢
     unfold sBuildSlice at hp ⊢
     split at hp
     · split
       · rfl
       · split
         · rfl
         · rfl
     · exact hp.elim
 · rename_i ho
   split at hy
   · rename_i ho'; rw [ho] at ho'; cases ho'
   · rcases hy with hy | hy
     case inr=>exact (hy.no (by simp [isApp,ho])).elim
     obtain ⟨hp,rfl⟩:=rx_no hy (by simp [isBS,ho])
     simp only [step,ho] at hp ⊢
     unfold sBin sEq at hp ⊢
     (repeat' split at hp) <;> first | rfl | exact hp.elim
 · rename_i ho
   split at hy
   · rename_i ho'; rw [ho] at ho'; cases ho'
   · rcases hy with hy | hy
     case inr=>exact (hy.no (by simp [isApp,ho])).elim
     obtain ⟨hp,rfl⟩:=rx_no hy (by simp [isBS,ho])
     simp only [step,ho] at hp ⊢
     unfold sBuild at hp ⊢
     (repeat' split at hp) <;> first | rfl | exact hp.elim
 · cases h
theorem apnd_guard {o : Oper} {x : Operand} {d : Nat} (h : apnd o = some (x,d)) : o.guard = none:=by
 unfold apnd at h
 split at h
 · cases h
 · rename_i hg
   cases hgo : o.guard with
   | none=>rfl
   | some g=>simp [hgo] at hg
theorem apnd_key {o : Oper} {x : Operand} {d key : Nat} (h : apnd o = some (x,d)) {y : Yi} (hy : AY P o s y) (hkey : keyOf (s.ev x) = some key) : keyOf y.av = some key:=by
 rw [← show wrow (keyOf (s.ev x)) (some d) = some key by rw [hkey]; rfl]
 unfold apnd at h
 split at h
 · cases h
 · split at h
   · rename_i args ts d' ho hd
     split at h
     · rename_i x' y' t t' hx ht
       split at h
       · rename_i htt
         injection h with h; injection h with h1 h2; subst h1; subst h2; subst htt
         unfold AY at hy
         split at hy
         · rename_i ho'; rw [ho] at ho'; cases ho'
         · rcases hy with hy | hy
           case inr =>
            obtain ⟨x2,z2,t2,d2,rv2,q1,q2,q3,⟨b2,q4⟩,q6,_⟩:=hy
            rw [ho] at q1
            injection q1 with q1; injection q1 with _ q1 _
            subst q1
            injection hx with hx _
            subst hx
            rw [q4] at hkey
            cases hkey
           obtain ⟨hp,rfl⟩:=rx_no hy (by simp [isBS,ho])
           simp only [step,ho,hd,hx,ht,List.map_cons,List.map_nil,sBuiltin,if_true,Option.getD_some] at hp ⊢
           unfold sAppend at hp ⊢
           split at hp
           · rename_i e _
             rw [e]; rfl
           · rename_i e _
             rw [e]; rfl
           · rename_i k n sz0 off m _ _ _ _ e _
             rw [e]
             split at hp
             · rfl
             · split <;> rfl
             · exact hp.elim
           · exact hp.elim
       · cases h
     · cases h
   · cases h
theorem told_step (hu : uniq ops.toList = true) {listed : Array Bool} (h : Told ops κ listed s) (hdown : down ops listed) {j : Nat} {o : Oper} (ho : ops[j]? = some o) (hr : j ∈ Region.ready .any ops listed) {y : Yi} (hy : YieldsA P ops o y s) :
 Told ops κ (listed.setIfInBounds j true) (s.app o.dst y):=by
 have htm : ∀ t,o.dst ≠ some t → (s.app o.dst y).tm t = s.tm t:=fun t hne=>by
  rw [app_tm]
  cases hod : o.dst with
  | none=>rfl
  | some d=>exact upd_other _ _ (fun e=>hne (by rw [hod,e]))
 have hjl : j < listed.size:=by
  refine Decidable.byContradiction fun hn=>?_
  have h3:=(mem_ready.1 hr).1
  simp [Array.getElem?_eq_none (Nat.le_of_not_lt hn)] at h3
 refine ⟨fun t k hk hno=>?_,fun n e t k hd he hk=>?_⟩
 · have hne : o.dst ≠ some t:=fun e=>by
    have:=hno j o ho e
    simp [hjl] at this
   rw [htm t hne]
   refine h.1 t k hk fun e' o' ho' hd'=>?_
   have hej : j ≠ e':=fun e=>by subst e; rw [ho] at ho'; injection ho' with ho'; subst ho'; exact hne hd'
   have:=hno e' o' ho' hd'
   rwa [getD_set_ne false hej] at this
 · obtain ⟨o',ho',hdst⟩:=defOf_some hd
   by_cases hej : e = j
   · subst hej
     rw [ho] at ho'; injection ho' with ho'; subst ho'
     cases n with
     | zero=>simp [outKey] at hk
     | succ n =>
       have hin : ∀ {u : Nat} {k : Option Nat},inKey ops κ n e u = some k → keyOf (s.tm u) = k:=fun hk=>told_in hu h hdown hr hk
       have hk' : (match steady o with
        | some (.tmp u)=>inKey ops κ n e u
        | _ => match plainOf o with
          | some (.tmp u)=>match inKey ops κ n e u with | some none=>some none | _=>none
          | _ => if sure o then some none else match apnd o with
            | some (.tmp u,d)=>(match inKey ops κ n e u with | some (some key)=>some (some key) | _=>none)
            | _=>freshOf o) = some k:=by
        unfold outKey at hk
        rw [ho] at hk
        exact hk
       clear hk
       rw [app_tm,hdst]
       show keyOf (upd s.tm t y.av t) = k
       rw [upd_same]
       split at hk'
       · rename_i u hs
         rcases hy with ⟨_,hy,_⟩ | ⟨hw,_⟩
         · rw [steady_key hs hy]; exact hin hk'
         · simp [wantA,steady_guard hs] at hw
       · split at hk'
         · rename_i u hs
           split at hk'
           · rename_i hu0
             injection hk' with hk'; subst hk'
             rcases hy with ⟨_,hy,_⟩ | ⟨hw,_⟩
             · exact plain_key hs (hin hu0) hy
             · simp [wantA,plain_guard hs] at hw
           · cases hk'
         · split at hk'
           · rename_i hsu
             injection hk' with hk'; subst hk'
             rcases hy with ⟨_,hy,_⟩ | ⟨hw,_⟩
             · exact sure_key hsu hy
             · simp [wantA,sure_guard hsu] at hw
           · split at hk'
             · rename_i u d hap
               split at hk'
               · rename_i key hkey
                 injection hk' with hk'; subst hk'
                 rcases hy with ⟨_,hy,_⟩ | ⟨hw,_⟩
                 · exact apnd_key hap hy (hin hkey)
                 · simp [wantA,apnd_guard hap] at hw
               · cases hk'
             · rcases hy with ⟨_,hy,_⟩ | ⟨hw,_⟩
               · exact fresh_key hk' hy
               · simp [wantA,fresh_guard hk'] at hw
   · have hne : o.dst ≠ some t:=fun hod=>hej (uniq_spec hu (by simpa using ho') (by simpa using ho) hdst hod)
     rw [htm t hne]
     refine h.2 n e t k hd ?_ hk
     rw [getD_set_ne false (Ne.symm hej)] at he; exact he
theorem clear_told (hu : uniq ops.toList = true) {listed : Array Bool} (h : Told ops κ listed s) (hdown : down ops listed) {j k : Nat} (hr : j ∈ Region.ready .any ops listed) : ∀ {xs : List Operand},clear ops κ j k xs = true → ∀ x ∈ xs,keyOf (s.ev x) ≠ some k
 | [],_,x,hx=>by simp at hx
 | y :: xs, hc, x, hx => by
   cases y with
   | tmp t =>
     simp only [clear,Bool.and_eq_true] at hc
     rcases List.mem_cons.1 hx with rfl | hx
     · have h2:=hc.1
       split at h2
       · rename_i k1 e1
         show keyOf (s.tm t) ≠ some k
         rw [told_in hu h hdown hr e1]
         simpa using h2
       · cases h2
     · exact clear_told hu h hdown hr hc.2 x hx
   | const v =>
     simp only [clear] at hc
     rcases List.mem_cons.1 hx with rfl | hx
     · simp [AS.ev,keyOf]
     · exact clear_told hu h hdown hr hc x hx
   | global g =>
     simp only [clear] at hc
     rcases List.mem_cons.1 hx with rfl | hx
     · simp [AS.ev,keyOf]
     · exact clear_told hu h hdown hr hc x hx
   | func f =>
     simp only [clear] at hc
     rcases List.mem_cons.1 hx with rfl | hx
     · simp [AS.ev,keyOf]
     · exact clear_told hu h hdown hr hc x hx
theorem wkey_told (hu : uniq ops.toList = true) {listed : Array Bool} (h : Told ops κ listed s) (hdown : down ops listed) {j k : Nat} {a : Operand × Option Nat} (hr : j ∈ Region.ready .any ops listed) (hk : wkey ops κ j a = some k) : wrow (keyOf (s.ev a.1)) a.2 = some k:=by
 obtain ⟨a,d⟩:=a
 unfold wkey at hk
 dsimp only at hk
 split at hk
 · rename_i u
   split at hk
   · rename_i key e1
     show wrow (keyOf (s.tm u)) d = some k
     rw [told_in hu h hdown hr e1]
     exact hk
   · cases hk
 · exact hk
 · cases hk
theorem anyA_first2 {Q : AS → Prop} {n i : Nat} {oi : Oper} {y : Yi} (hu : uniq ops.toList = true) (hi : ops[i]? = some oi) (hdst : dstOk ops n = true) :
 ∀ (fuel : Nat) (listed : Array Bool) (s : AS),s.n = n → NE s → down ops listed → Told ops κ listed s →
 (∀ j oj,ops[j]? = some oj → j ≠ i → listed.getD j true = false → waits ops ops.size j i = false → okPair ops oi oj = true ∨ rdOk ops κ i j = true) →
 i ∈ Region.ready .any ops listed → YieldsA P ops oi y s → anyA P ops Q fuel (listed.setIfInBounds i true) (s.app oi.dst y) → anyA P ops Q (fuel + 1) listed s:=by
 intro fuel
 induction fuel with
 | zero =>
   intro listed s hn hne hdown _ _ hr hy H
   refine ⟨fun h=>(by rw [h] at hr; cases hr),fun j hj=>?_⟩
   by_cases hji : j = i
   · subst hji; unfold qA; rw [hi]; exact ⟨y,hy,H⟩
   · have:=ready_mono hj hji
     rw [H.1] at this
     cases this
 | succ fuel ih =>
   intro listed s hn hne hdown htold hfree hr hy H
   refine ⟨fun h=>(by rw [h] at hr; cases hr),fun j hj=>?_⟩
   by_cases hji : j = i
   · subst hji; unfold qA; rw [hi]; exact ⟨y,hy,H⟩
   · have h1:=H.2 j (ready_mono hj hji)
     obtain ⟨hjun,oj,hoj,_⟩:=mem_ready.1 hj
     have hjun' : listed.getD j true = false:=hjun
     have hnw : waits ops ops.size j i = false:=by
      refine Decidable.byContradiction fun hw=>?_
      have hw : waits ops ops.size j i = true:=by simpa using hw
      have h2:=waits_listed hdown _ _ _ (ready_deps hj) hw
      have h3:=(mem_ready.1 hr).1
      rcases Nat.lt_or_ge i listed.size with h' | h'
      · simp [h'] at h2 h3; rw [h3] at h2; cases h2
      · simp [Array.getElem?_eq_none h'] at h2
     have hpair:=hfree j oj hoj hji hjun' hnw
     unfold qA at h1 ⊢
     rw [hoj] at h1 ⊢
     obtain ⟨z,hz,hK⟩:=h1
     have hex : YieldsA P ops oj z s ∧ YieldsA P ops oi y (s.app oj.dst z) ∧ (s.app oj.dst z).app oi.dst y = (s.app oi.dst y).app oj.dst z:=by
      rcases hpair with hpair | hpair
      · exact exchange hpair hne hy hz
      · unfold rdOk at hpair
        simp only [hi,hoj,Bool.and_eq_true,Bool.or_eq_true] at hpair
        obtain ⟨hap,hpair⟩:=hpair
        rcases hpair with ((((hpair | hpair) | hpair) | hpair) | hpair) | hpair
        rotate_left 4
        · exact exchange2v hap hpair.1 hpair.2 hy hz
        · exact exchange3v hap hpair.2 hpair.1 hy hz
        · split at hpair
          · rename_i xs a hrd hwr
            split at hpair
            · rename_i k hk
              exact exchange2 hap hrd hwr (k:=k) (wkey_told hu htold hdown hj hk) (clear_told hu htold hdown hr hpair) hy hz
            · cases hpair
          · cases hpair
        · split at hpair
          · rename_i a xs hwr hrd
            split at hpair
            · rename_i k hk
              exact exchange3 hap hrd hwr (k:=k) (wkey_told hu htold hdown hr hk) (clear_told hu htold hdown hj hpair) hy hz
            · cases hpair
          · cases hpair
        · split at hpair
          · rename_i d a dd v hmk hst
            split at hpair
            · rename_i k hk
              simp only [Bool.and_eq_true,decide_eq_true_eq] at hpair
              exact exchange4 hap hmk hst (k:=k) (wkey_told hu htold hdown hj hk) hpair.1 (clear_told hu htold hdown hj hpair.2 v (by simp)) hy hz
            · cases hpair
          · cases hpair
        · split at hpair
          · rename_i a dd v d hst hmk
            split at hpair
            · rename_i k hk
              simp only [Bool.and_eq_true,decide_eq_true_eq] at hpair
              exact exchange5 hap hmk hst (k:=k) (wkey_told hu htold hdown hr hk) hpair.1 (clear_told hu htold hdown hr hpair.2 v (by simp)) hy hz
            · cases hpair
          · cases hpair
     obtain ⟨hz',hy',heq⟩:=hex
     refine ⟨z,hz',?_⟩
     refine ih (listed.setIfInBounds j true) (s.app oj.dst z) (by rw [app_n]; exact hn) (hne.app hz' (by rw [hn]; exact dstOk_get hdst hoj)) (down_set hdown hj) (told_step hu htold hdown hoj hj hz') (fun k ok hk hki hun hno=>?_) (ready_mono hr (Ne.symm hji)) hy' ?_
     · refine hfree k ok hk hki ?_ hno
       by_cases hjk : j = k
       · subst hjk; exact hjun'
       · rw [getD_set_ne true hjk] at hun; exact hun
     · rw [Array.setIfInBounds_comm _ _ hji,heq]
       exact hK
theorem lexOk2_spec (h : lexOk2 ops κ = true) : uniq ops.toList = true ∧ ∀ i,i < ops.size → (∀ e ∈ deps ops i,e < i) ∧ ∀ j,i < j → j < ops.size → waits ops ops.size j i = false → ∀ x y,ops[i]? = some x → ops[j]? = some y → okPair ops x y = true ∨ rdOk ops κ i j = true:=by
 unfold lexOk2 at h
 simp only [Bool.and_eq_true] at h
 obtain ⟨h1,h⟩:=h
 refine ⟨h1,fun i hi=>?_⟩
 have:=List.all_eq_true.1 h i (by simpa using hi)
 simp only [Bool.and_eq_true,List.all_eq_true,decide_eq_true_eq] at this
 refine ⟨this.1,fun j hij hj hw x y hx hy=>?_⟩
 have h2:=this.2 j (by simpa using hj)
 rw [hx,hy] at h2
 simpa [hij,hw] using h2
theorem anyA_lex2 {Q : AS → Prop} {n : Nat} (hB : lexOk2 ops κ = true) (hdst : dstOk ops n = true) : ∀ (l : List Oper) (k : Nat) (listed : Array Bool) (s : AS),(∀ j,l[j]? = ops[k + j]?) → k + l.length = ops.size → listed.size = ops.size →
 (∀ j,j < ops.size → listed.getD j false = decide (j < k)) → s.n = n → NE s → Told ops κ listed s → lexA P ops Q l s → anyA P ops Q l.length listed s
 | [], k, listed, s, _, hlen, hsz, hl, _, _, _, h => by
   refine ⟨?_,h⟩
   refine List.eq_nil_iff_forall_not_mem.2 fun j hj=>?_
   obtain ⟨h1,o,ho,_⟩:=mem_ready.1 hj
   have hj' : j < ops.size:=(Array.getElem?_eq_some_iff.1 ho).1
   have h2:=hl j hj'
   simp only [List.length_nil,Nat.add_zero] at hlen
   have hjl : j < listed.size:=by omega
   simp [hjl] at h1 h2
   rw [h1] at h2
   have : j < k:=by omega
   simp [this] at h2
 | o :: l, k, listed, s, hlk, hlen, hsz, hl, hn, hne, htold, h => by
   simp only [List.length_cons] at hlen
   have hk : k < ops.size:=by omega
   have ho : ops[k]? = some o:=by simpa using (hlk 0).symm
   obtain ⟨hu,hsp⟩:=lexOk2_spec hB
   obtain ⟨hdeps,hpairs⟩:=hsp k hk
   obtain ⟨y,hy,hrest⟩:=h
   have hunk : listed.getD k false = false:=by rw [hl k hk]; simp
   have hsame : ∀ j,j < ops.size → listed.getD j true = listed.getD j false:=fun j hj=>by
    have : j < listed.size:=by omega
    simp [this]
   have hready : k ∈ Region.ready .any ops listed:=by
    refine mem_ready.2 ⟨by rw [hsame k hk]; exact hunk,o,ho,fun e he hb=>?_⟩
    have : e.on < k:=hdeps e.on (by unfold deps; rw [ho]; exact List.mem_map.2 ⟨e,List.mem_filter.2 ⟨by simpa using he,hb⟩,rfl⟩)
    rw [hl e.on (by omega)]; simpa using this
   have hdown : down ops listed:=fun j hj e he=>by
    by_cases hjs : j < ops.size
    · rw [hl j hjs] at hj
      have hjk : j < k:=by simpa using hj
      have:=(hsp j hjs).1 e he
      rw [hl e (by omega)]; simp; omega
    · have : ¬ j < listed.size:=by omega
      simp [Array.getElem?_eq_none (Nat.le_of_not_lt this)] at hj
   refine anyA_first2 hu ho hdst l.length listed s hn hne hdown htold (fun j oj hj hjk hun hw=>?_) hready hy ?_
   · have hj' : j < ops.size:=(Array.getElem?_eq_some_iff.1 hj).1
     rw [hsame j hj',hl j hj'] at hun
     have : k < j:=by simp at hun; omega
     exact hpairs j this hj' hw o oj ho hj
   · refine anyA_lex2 hB hdst l (k + 1) _ _ (fun j=>by have:=hlk (j + 1); simpa [Nat.add_assoc,Nat.add_comm 1 j] using this) (by omega) (by simpa using hsz) (fun j hj=>?_) (by rw [app_n]; exact hn) (hne.app hy (by rw [hn]; exact dstOk_get hdst ho))
      (told_step hu htold hdown ho hready hy) hrest
     by_cases hjk : k = j
     · subst hjk
       have : k < listed.size:=by omega
       simp [this]
     · rw [getD_set_ne false hjk,hl j hj]
       simp; omega
theorem region_draw2 {C : Ctx} {id : Nat} {a : Act} {w : World} {Q : AS → Prop} {Q' : Exit → Act → World → Prop} (hm : P.follows .mixedOrders = true) (hB : lexOk2 ops κ = true) (hd : dstOk ops s.n = true) (hk : keysOk κ s)
 (hs : SRel C s a w) (hQ : ∀ s a w,Q s → SRel C s a w → Q' .normal a w) (h : lexA P ops Q ops.toList s) : (Code.region id ops true).wpIn (fnc C.rd) 0 P Q' a w:=by
 obtain ⟨p,hs⟩:=hs
 have hs' : SR C p s a { w with drawn:=w.drawn + 1 }:=hs.below (w':=w.drew) ((Below.refl _ _).drew) (fun _ h=>h) (fun _ h=>.inl h) hs.rb
 refine wpIn_region_any hm (anyA_sound hQ _ _ _ _ _ p hd ?_ hs')
 have:=anyA_lex2 (n:=s.n) hB hd ops.toList 0 (Array.replicate ops.size false) s (by simp) (by simp) (by simp) (fun j hj=>by simp [hj]) rfl ⟨C,p,a,w,hs⟩ (told_start hk fun j hj=>by simp [hj]) h
 simpa using this
theorem awp_draw2 {C : Ctx} {Q : Exit → AS → Prop} {id : Nat} {l : List Oper} (hm : P.follows .mixedOrders = true) (hB : lexOk2 l.toArray κ = true) (hd : dstOk l.toArray s.n = true) (hk : keysOk κ s) (h : aops P true l.toArray l (Q .normal) s) :
 awp P C (.region id l.toArray true) Q s:=fun a w hs=>by
 obtain ⟨p,hp⟩:=hs
 exact region_draw2 hm hB hd hk ⟨p,hp⟩ (fun s a w hq hs=>⟨s,hs,hq⟩) (aops_lex l s hd ⟨C,p,a,w,hp⟩ h)
theorem awp_dreg2 {C : Ctx} {Q : Exit → AS → Prop} {id : Nat} {l : List Oper} (κ : List (Nat × Option Nat)) (hm : P.follows .mixedOrders = true) (hB : lexOk2 l.toArray κ = true) (hd : dstOk l.toArray s.n = true) (hk : keysOk κ s)
 (h : ∀ K : AS → Prop,(∀ s,Q .normal s → K s) → aops P true l.toArray l K s) : awp P C (.region id l.toArray true) Q s:=awp_draw2 hm hB hd hk (h _ fun _ h=>h)
end
end Go.Oc

namespace Go.Proofs.Ytlljkgiomkmjbaa.Tm
open Go Go.Oc
set_option linter.unusedSimpArgs false
set_option linter.unusedVariables false
set_option maxRecDepth 8000
def scoreL (r : Rules) (x : Sheet) : Int × Int:=if x.wk = 0 then (x.ho,x.aw) else if x.wk = 1 then (legsOf r x.gm,0) else (0,legsOf r x.gm)
abbrev nightC (r : Rules) (t : Res) (oc mc : RV) : List RV:=[i64 r.squad,games r.gs,i64 r.most,i64 r.bonus,i64 t.p0,i64 t.p1,i64 t.g0,i64 t.g1,i64 t.l0,i64 t.l1,oc,i64 t.w,mc]
theorem sheet_game {r : Rules} {x : Sheet} (hr : rulesB r = true) (h : sheetB r x = true) : ∃ i g,x.gm = ((i : Nat) : Int) ∧ i < r.gs.length ∧ r.gs[i]? = some g ∧ legsOf r x.gm = g.lg ∧ (1 ≤ g.lg ∧ g.lg ≤ 15) ∧ (0 ≤ g.pt ∧ g.pt ≤ 99) ∧ (x.wk = 0 ∨ x.wk = 1 ∨ x.wk = 2) ∧ (0 ≤ (scoreL r x).1 ∧ (scoreL r x).1 ≤ 15 ∧ 0 ≤ (scoreL r x).2 ∧ (scoreL r x).2 ≤ 15):=by
 obtain ⟨_,⟨f3,f4⟩,_,f7,_⟩:=rulesB_facts hr
 simp only [sheetB,Bool.and_eq_true] at h
 obtain ⟨⟨h1,h2⟩,h3⟩:=h
 have g1:=withinL_one h1
 have g2:=withinL_one h2
 obtain ⟨i,hi⟩:=Int.eq_ofNat_of_zero_le g1.1
 obtain ⟨g,hg⟩:=opt_of_lt (l:=r.gs) (i:=i) (by omega)
 obtain ⟨_,g5,g6⟩:=f7 g (mem_of_opt hg)
 have hlg : legsOf r x.gm = g.lg:=by rw [legsOf,hi,Int.toNat_natCast,hg]
 refine ⟨i,g,hi,by omega,hg,hlg,g5,g6,by omega,?_⟩
 rw [hlg] at h3
 unfold scoreL
 rw [hlg]
 split
 · rename_i h0
   rw [if_pos h0] at h3
   simp only [Bool.and_eq_true,decide_eq_true_eq] at h3
   have:=withinL_one h3.2
   simp only
   omega
 · split <;> (simp only; omega)
theorem scores_ok (r : Rules) (t : Res) (oc mc : RV) (x : Sheet) (hr : rulesB r = true) (hx : sheetB r x = true) : ACalls Try.prog 195 [.rp (nightC r t oc mc),.ag (sheetC x)] (.ag [i64 (scoreL r x).1,i64 (scoreL r x).2]):=by
 obtain ⟨i,g,hi,hil,hg,hlg,g5,g6,hwk,_⟩:=sheet_game hr hx
 have hz0 : (0 : Int) ≤ x.gm:=by omega
 have hz1 : x.gm < r.gs.length:=by omega
 have hti : x.gm.toNat = i:=by rw [hi,Int.toNat_natCast]
 refine acalls_st (rs:=[.ag [i64 (scoreL r x).1,i64 (scoreL r x).2]]) [.cell 4 40] Try.func195 rfl (by kernel_rfl) Try.ntmps195 rfl (by simp) rfl fun C vs=>?_
 repeat refine zq ?_
 refine zb fun K hK=>?_;simp only [go_sem];(try simp (disch:=omega) only [zI]);repeat first | intro _ | refine ⟨by omega,?_⟩
 refine hK _ ?_;clear hK K
 repeat refine zq ?_
 refine zg follows (by decide +kernel) (by kernel_rfl) fun K hK=>?_;simp only [go_sem,hti,hg,hz0,hz1];(try simp (disch:=omega) only [zI]);repeat first | intro _ | refine ⟨by omega,?_⟩
 refine hK _ ?_;clear hK K
 repeat refine zq ?_
 refine zb fun K hK=>?_;simp only [go_sem];(try simp (disch:=omega) only [zI])
 rcases hwk with h | h | h
 · simp only [h,go_sem]
   refine ⟨by decide,?_⟩
   repeat first | intro _ | refine ⟨by omega,?_⟩
   refine hK _ ?_;clear hK K;refine ze ?_;simp only [go_sem]
   simp [scoreL,h]
 · simp only [h,go_sem]
   refine ⟨by decide,?_⟩
   repeat first | intro _ | refine ⟨by omega,?_⟩
   refine hK _ ?_;clear hK K;refine ze ?_;simp only [go_sem]
   simp [scoreL,h,hlg]
 · simp only [h,go_sem]
   refine ⟨by decide,?_⟩
   repeat first | intro _ | refine ⟨by omega,?_⟩
   refine hK _ ?_;clear hK K;refine ze ?_;simp only [go_sem]
   simp [scoreL,h,hlg]
def openP (r : Rules) (op : List Int) : Int:=(op.map fun i=>match r.gs[i.toNat]? with | some g=>g.pt | none=>0).sum
def openG (r : Rules) (op : List Int) : Int:=(op.map fun i=>legsOf r i).sum
theorem open_bounds {r : Rules} (hr : rulesB r = true) (q : List Int) : (0 ≤ openP r q ∧ openP r q ≤ 99 * q.length) ∧ 0 ≤ openG r q ∧ openG r q ≤ 15 * q.length:=by
 obtain ⟨_,_,_,f7,_⟩:=rulesB_facts hr
 have h1:=sum_le 99 (q.map fun i=>match r.gs[i.toNat]? with | some g=>g.pt | none=>0) (fun y hy=>by
  obtain ⟨i,_,rfl⟩:=List.mem_map.1 hy
  cases h : r.gs[i.toNat]? with
  | none=>simp
  | some g=>have:=(f7 g (mem_of_opt h)).2.2; simpa using this)
 have h2:=sum_le 15 (q.map fun i=>legsOf r i) (fun y hy=>by
  obtain ⟨i,_,rfl⟩:=List.mem_map.1 hy
  unfold legsOf
  cases h : r.gs[i.toNat]? with
  | none=>simp
  | some g=>have:=(f7 g (mem_of_opt h)).2.1; simp only; omega)
 rw [List.length_map] at h1 h2
 exact ⟨h1,h2⟩
theorem openP_snoc {r : Rules} {q : List Int} {i : Nat} {g : Game} (hg : r.gs[i]? = some g) : openP r (q ++ [(i : Int)]) = openP r q + g.pt ∧ openG r (q ++ [(i : Int)]) = openG r q + g.lg:=by
 unfold openP openG legsOf
 rw [List.map_append,List.map_append,List.sum_append,List.sum_append]
 simp [hg]
theorem ends_ok (r : Rules) (t : Res) (oc mc : RV) (hr : rulesB r = true) (ht : smallR t) (hoc : oc = ints t.op ∨ (oc = .ns ∧ t.op = [])) (hop : ∀ i ∈ t.op,0 ≤ i ∧ i < r.gs.length) (hol : t.op.length ≤ 25) :
 ACalls Try.prog 137 [.rp (nightC r t oc mc)] (.tu [.ag [i64 (t.p0 - t.p1 + openP r t.op),i64 (t.l0 - t.l1 + openG r t.op)],.ag [i64 (t.p0 - t.p1 - openP r t.op),i64 (t.l0 - t.l1 - openG r t.op)]]):=by
 obtain ⟨q1,q2,q3,q4,q5,q6⟩:=ht
 obtain ⟨_,⟨f3,f4⟩,_,f7,_⟩:=rulesB_facts hr
 refine acalls_st (rs:=[.ag [i64 (t.p0 - t.p1 + openP r t.op),i64 (t.l0 - t.l1 + openG r t.op)],.ag [i64 (t.p0 - t.p1 - openP r t.op),i64 (t.l0 - t.l1 - openG r t.op)]]) [.cell 2 303,.cell 3 303] Try.func137 rfl (by kernel_rfl) Try.ntmps137 rfl (by simp) rfl fun C vs=>?_
 repeat refine zq ?_
 refine zb fun K hK=>?_;simp only [go_sem];(try simp (disch:=omega) only [zI]);repeat first | intro _ | refine ⟨by omega,?_⟩
 refine hK _ ?_;clear hK K
 repeat refine zq ?_
 refine zg follows (by decide +kernel) (by kernel_rfl) fun K hK=>?_;simp only [go_sem];(try simp (disch:=omega) only [zI]);repeat first | intro _ | refine ⟨by omega,?_⟩
 refine hK _ ?_;clear hK K
 repeat refine zq ?_
 refine zb fun K hK=>?_;simp only [go_sem];(try simp (disch:=omega) only [zI]);repeat first | intro _ | refine ⟨by omega,?_⟩
 refine hK _ ?_;clear hK K
 rcases hoc with rfl | ⟨rfl,he⟩
 · repeat refine zq ?_
   refine zb fun K hK=>?_;simp only [go_sem];(try simp (disch:=omega) only [zI])
   intro _
   repeat first | intro _ | refine ⟨by omega,?_⟩
   refine hK _ ?_;clear hK K
   repeat refine zq ?_
   refine zd ?_
   refine awp_upto (n:=81) t.op.length (fun k vs=>[(0,.r (.rp (nightC r t (ints t.op) mc))),(2,.pt 2 (vs 2) 0),(3,.pt 3 (vs 3) 0),(39,.r (ints t.op)),(40,.r (i64 t.op.length)),(41,.r (i64 k))])
    (fun k=>[(2,.box [.r (i64 (t.p0 - t.p1 + openP r (t.op.take k))),.r (i64 (t.l0 - t.l1 + openG r (t.op.take k)))]),(3,.box [.r (i64 (t.p0 - t.p1 - openP r (t.op.take k))),.r (i64 (t.l0 - t.l1 - openG r (t.op.take k)))])])
    (fun _=>True) 0 (fit_of [] ?_ ?_) (Nat.zero_le _) trivial ?_
   · try simp only [go_sem]
   · try simp only [go_sem]
     simp [openP,openG]
   · intro k vs hk _
     have hb:=open_bounds hr (t.op.take k)
     simp only [List.length_take] at hb
     repeat refine zq ?_
     refine zb fun K hK=>?_;simp only [go_sem];(try simp (disch:=omega) only [zI]);repeat first | intro _ | refine ⟨by omega,?_⟩
     refine hK _ ?_;clear hK K
     repeat refine zq ?_
     refine zc rfl (fun hc=>?_) (fun hc=>?_) <;> (try simp only [go_sem] at hc)
     · have hck:=hc
       obtain ⟨x,hx⟩:=opt_of_lt hck
       have hxo:=hop x (mem_of_opt hx)
       obtain ⟨i,hi⟩:=Int.eq_ofNat_of_zero_le hxo.1
       subst hi
       have hil : i < r.gs.length:=by omega
       obtain ⟨g,hg⟩:=opt_of_lt hil
       obtain ⟨_,g5,g6⟩:=f7 g (mem_of_opt hg)
       have hsn:=openP_snoc (q:=t.op.take k) hg
       refine zx ?_
       repeat refine zq ?_
       refine zd ?_
       repeat refine zq ?_
       refine zb fun K hK=>?_;simp only [go_sem,hx,hck];(try simp (disch:=omega) only [zI]);repeat first | intro _ | refine ⟨by omega,?_⟩
       refine hK _ ?_;clear hK K
       repeat refine zq ?_
       refine zb fun K hK=>?_;simp only [go_sem,hg,hil];(try simp (disch:=omega) only [zI]);repeat first | intro _ | refine ⟨by omega,?_⟩
       refine hK _ ?_;clear hK K
       repeat refine zq ?_
       refine awp_dreg2 [(2,some 2),(6,some 6)] follows (by decide +kernel) (by kernel_rfl) (by simp only [keysOk,List.mem_cons,List.not_mem_nil,forall_eq_or_imp,Oc.keyOf,go_sem]; simp) fun K hK=>?_
       simp only [go_sem];(try simp (disch:=omega) only [zI]);repeat first | intro _ | refine ⟨by omega,?_⟩
       refine hK _ ?_;clear hK K
       repeat refine zq ?_
       refine awp_dreg2 [(3,some 3),(6,some 6)] follows (by decide +kernel) (by kernel_rfl) (by simp only [keysOk,List.mem_cons,List.not_mem_nil,forall_eq_or_imp,Oc.keyOf,go_sem]; simp) fun K hK=>?_
       simp only [go_sem];(try simp (disch:=omega) only [zI]);repeat first | intro _ | refine ⟨by omega,?_⟩
       refine hK _ ?_;clear hK K
       try simp only [go_sem]
       repeat refine zq ?_
       refine zb fun K hK=>?_;simp only [go_sem];(try simp (disch:=omega) only [zI]);repeat first | intro _ | refine ⟨by omega,?_⟩
       refine hK _ ?_;clear hK K
       try simp only [go_sem]
       refine ⟨hck,fit_of [6] ?_ ?_⟩
       · try simp only [go_sem]
       · try simp only [go_sem]
         rw [take_of_opt hx,hsn.1,hsn.2]
         simp only [Int.add_assoc,Int.sub_sub]
     · have : k = t.op.length:=by omega
       subst this
       rw [List.take_length]
       refine zf ?_;simp only [go_sem]
       repeat refine zq ?_
       refine awp_dreg2 [(2,some 2),(3,some 3)] follows (by decide +kernel) (by kernel_rfl) (by simp only [keysOk,List.mem_cons,List.not_mem_nil,forall_eq_or_imp,Oc.keyOf,go_sem]; simp) fun K hK=>?_
       simp only [go_sem];(try simp (disch:=omega) only [zI]);repeat first | intro _ | refine ⟨by omega,?_⟩
       refine hK _ ?_;clear hK K;refine ze ?_;simp only [go_sem]
 · repeat refine zq ?_
   refine zb fun K hK=>?_;simp only [go_sem];(try simp (disch:=omega) only [zI]);repeat first | intro _ | refine ⟨by omega,?_⟩
   refine hK _ ?_;clear hK K
   repeat refine zq ?_
   refine zd ?_
   refine awp_upto (n:=81) 0 (fun k vs=>[(0,.r (.rp (nightC r t .ns mc))),(2,.pt 2 (vs 2) 0),(3,.pt 3 (vs 3) 0),(40,.r (i64 0)),(41,.r (i64 0))])
    (fun k=>[(2,.box [.r (i64 (t.p0 - t.p1)),.r (i64 (t.l0 - t.l1))]),(3,.box [.r (i64 (t.p0 - t.p1)),.r (i64 (t.l0 - t.l1))])])
    (fun _=>True) 0 (fit_of [] ?_ ?_) (Nat.zero_le _) trivial ?_
   · try simp only [go_sem]
   · try simp only [go_sem]
   · intro k vs hk _
     repeat refine zq ?_
     refine zb fun K hK=>?_;simp only [go_sem];(try simp (disch:=omega) only [zI]);repeat first | intro _ | refine ⟨by omega,?_⟩
     refine hK _ ?_;clear hK K
     repeat refine zq ?_
     refine zc rfl (fun hc=>?_) (fun hc=>?_) <;> (try simp only [go_sem] at hc)
     refine zf ?_;simp only [go_sem]
     repeat refine zq ?_
     refine awp_dreg2 [(2,some 2),(3,some 3)] follows (by decide +kernel) (by kernel_rfl) (by simp only [keysOk,List.mem_cons,List.not_mem_nil,forall_eq_or_imp,Oc.keyOf,go_sem]; simp) fun K hK=>?_
     simp only [go_sem];(try simp (disch:=omega) only [zI]);repeat first | intro _ | refine ⟨by omega,?_⟩
     refine hK _ ?_;clear hK K;refine ze ?_;simp only [go_sem];rw [he]
     simp [openP,openG]
abbrev nightB (r : Rules) (t : Res) (oc : AV) : List AV:=[.r (i64 r.squad),.r (games r.gs),.r (i64 r.most),.r (i64 r.bonus),.r (i64 t.p0),.r (i64 t.p1),.r (i64 t.g0),.r (i64 t.g1),.r (i64 t.l0),.r (i64 t.l1),oc,.r (i64 t.w),.mp 1001 0]
theorem add_ok (r : Rules) (t : Res) (x : Sheet) (M : List (RV × RV)) (i : Nat) (g : Game) (q : List Int) (hr : rulesB r = true) (hx : sheetB r x = true) (hi : x.gm = (i : Int)) (hg : r.gs[i]? = some g) (ht : smallR t) :
 MCalls Try.prog 136 [(1000,.box (nightB r t (.os 1002 0 1 0 q.length))),(1001,.mp M),(1002,.arr 3 1 (q.map fun x=>[i64 x]))] [(1000,.box (nightB r (addL g (scoreL r x).1 (scoreL r x).2 t) (.os 1002 0 1 0 q.length))),(1001,.mp M),(1002,.arr 3 1 (q.map fun x=>[i64 x]))] [.pt 1000 0 0,.ag [.r (i64 x.gm),.r (i64 x.ho),.r (i64 x.aw),.r (i64 x.wk)]] (.tu []):=by
 obtain ⟨j,g',hj,hjl,hg',hlg,g5,g6,hwk,hsc⟩:=sheet_game hr hx
 obtain rfl : i = j:=by omega
 obtain rfl : g = g':=by rw [hg] at hg'; injection hg'
 have hz0 : (0 : Int) ≤ x.gm:=by omega
 have hz1 : x.gm < r.gs.length:=by omega
 have hti : x.gm.toNat = i:=by rw [hi,Int.toNat_natCast]
 obtain ⟨q1,q2,q3,q4,q5,q6⟩:=ht
 refine mcalls_st (n:=69) (rs:=[]) _ _ [] Try.func136 rfl (by kernel_rfl) Try.ntmps136 rfl (by simp) rfl rfl fun C=>?_
 repeat refine zq ?_
 refine zb fun K hK=>?_;simp only [go_sem];(try simp (disch:=omega) only [zI]);repeat first | intro _ | refine ⟨by omega,?_⟩
 refine hK _ ?_;clear hK K
 repeat refine zq ?_
 refine zb fun K hK=>?_;simp only [go_sem];(try simp (disch:=omega) only [zI])
 refine zh (scores_ok r t (ints q) .un x hr hx) rfl (by simp only [go_sem,i64,ints]) (by simp only [go_sem,i64,ints]) (by first | exact .inl rfl | exact .inr rfl) ?_
 (try simp only [go_sem]);(try simp (disch:=omega) only [zI]);repeat first | intro _ | refine ⟨by omega,?_⟩
 refine hK _ ?_;clear hK K
 generalize hq1 : (scoreL r x).1 = h at *
 generalize hq2 : (scoreL r x).2 = a at *
 repeat refine zq ?_
 refine zb fun K hK=>?_;simp only [go_sem];(try simp (disch:=omega) only [zI]);repeat first | intro _ | refine ⟨by omega,?_⟩
 refine hK _ ?_;clear hK K
 by_cases hs : h < a
 · have e1 : decide (h < a) = true:=by simp [hs]
   rw [e1]
   repeat refine zq ?_
   refine zc rfl (fun hc=>?_) (fun hc=>?_) <;> (try simp only [go_sem] at hc)
   repeat refine zq ?_
   refine zb fun K hK=>?_;simp only [go_sem];(try simp (disch:=omega) only [zI]);repeat first | intro _ | refine ⟨by omega,?_⟩
   refine hK _ ?_;clear hK K
   try simp only [go_sem]
   repeat refine zq ?_
   refine zg follows (by decide +kernel) (by kernel_rfl) fun K hK=>?_;simp only [go_sem,hti,hg,hz0,hz1];(try simp (disch:=omega) only [zI]);repeat first | intro _ | refine ⟨by omega,?_⟩
   refine hK _ ?_;clear hK K
   repeat refine zq ?_
   refine zg follows (by decide +kernel) (by kernel_rfl) fun K hK=>?_;simp only [go_sem];(try simp (disch:=omega) only [zI]);repeat first | intro _ | refine ⟨by omega,?_⟩
   refine hK _ ?_;clear hK K
   try simp only [go_sem]
   repeat refine zq ?_
   refine zb fun K hK=>?_;simp only [go_sem];(try simp (disch:=omega) only [zI]);repeat first | intro _ | refine ⟨by omega,?_⟩
   refine hK _ ?_;clear hK K
   repeat refine zq ?_
   refine zd ?_
   refine awp_upto (n:=69) 2 (fun k vs=>[(0,.pt 1000 (vs 1000) 0),(4,.pt 4 (vs 4) 0),(50,.r (i64 k))])
    (fun k=>[(4,.box [.r (i64 h),.r (i64 a)]),(1000,.box (nightB r ⟨t.p0,t.p1 + g.pt,t.g0,t.g1 + 1,if k = 0 then t.l0 else t.l0 + h,if k ≤ 1 then t.l1 else t.l1 + a,t.op,t.w⟩ (.os 1002 0 1 0 q.length))),(1001,.mp M),(1002,.arr 3 1 (q.map fun x=>[i64 x]))])
    (fun _=>True) 0 (fit_of [3] ?_ ?_) (Nat.zero_le _) trivial ?_
   · try simp only [go_sem]
   · try simp only [go_sem]
   · intro k vs hk _
     have h3 : k = 0 ∨ k = 1 ∨ k = 2:=by omega
     rcases h3 with rfl | rfl | rfl
     · repeat refine zq ?_
       refine zb fun K hK=>?_;simp only [go_sem];(try simp (disch:=omega) only [zI]);repeat first | intro _ | refine ⟨by omega,?_⟩
       refine hK _ ?_;clear hK K
       repeat refine zq ?_
       refine zc rfl (fun hc=>?_) (fun hc=>?_) <;> (try simp only [go_sem] at hc)
       refine zx ?_
       repeat refine zq ?_
       refine zd ?_
       repeat refine zq ?_
       refine zb fun K hK=>?_;simp only [go_sem];(try simp (disch:=omega) only [zI]);repeat first | intro _ | refine ⟨by omega,?_⟩
       refine hK _ ?_;clear hK K
       repeat refine zq ?_
       refine zg follows (by decide +kernel) (by kernel_rfl) fun K hK=>?_;simp only [go_sem];(try simp (disch:=omega) only [zI]);repeat first | intro _ | refine ⟨by omega,?_⟩
       refine hK _ ?_;clear hK K
       try simp only [go_sem]
       repeat refine zq ?_
       refine zb fun K hK=>?_;simp only [go_sem];(try simp (disch:=omega) only [zI]);repeat first | intro _ | refine ⟨by omega,?_⟩
       refine hK _ ?_;clear hK K
       try simp only [go_sem]
       refine fit_of [] ?_ ?_
       · try simp only [go_sem]
       · try simp only [go_sem]
     · repeat refine zq ?_
       refine zb fun K hK=>?_;simp only [go_sem];(try simp (disch:=omega) only [zI]);repeat first | intro _ | refine ⟨by omega,?_⟩
       refine hK _ ?_;clear hK K
       repeat refine zq ?_
       refine zc rfl (fun hc=>?_) (fun hc=>?_) <;> (try simp only [go_sem] at hc)
       refine zx ?_
       repeat refine zq ?_
       refine zd ?_
       repeat refine zq ?_
       refine zb fun K hK=>?_;simp only [go_sem];(try simp (disch:=omega) only [zI]);repeat first | intro _ | refine ⟨by omega,?_⟩
       refine hK _ ?_;clear hK K
       repeat refine zq ?_
       refine zg follows (by decide +kernel) (by kernel_rfl) fun K hK=>?_;simp only [go_sem];(try simp (disch:=omega) only [zI]);repeat first | intro _ | refine ⟨by omega,?_⟩
       refine hK _ ?_;clear hK K
       try simp only [go_sem]
       repeat refine zq ?_
       refine zb fun K hK=>?_;simp only [go_sem];(try simp (disch:=omega) only [zI]);repeat first | intro _ | refine ⟨by omega,?_⟩
       refine hK _ ?_;clear hK K
       try simp only [go_sem]
       refine fit_of [] ?_ ?_
       · try simp only [go_sem]
       · try simp only [go_sem]
     · repeat refine zq ?_
       refine zb fun K hK=>?_;simp only [go_sem];(try simp (disch:=omega) only [zI]);repeat first | intro _ | refine ⟨by omega,?_⟩
       refine hK _ ?_;clear hK K
       repeat refine zq ?_
       refine zc rfl (fun hc=>?_) (fun hc=>?_) <;> (try simp only [go_sem] at hc)
       refine zf ?_;simp only [go_sem]
       simp [addL,hs]
 · have e1 : decide (h < a) = false:=by simp [hs]
   rw [e1]
   repeat refine zq ?_
   refine zc rfl (fun hc=>?_) (fun hc=>?_) <;> (try simp only [go_sem] at hc)
   refine zx ?_
   try simp only [go_sem]
   repeat refine zq ?_
   refine zg follows (by decide +kernel) (by kernel_rfl) fun K hK=>?_;simp only [go_sem,hti,hg,hz0,hz1];(try simp (disch:=omega) only [zI]);repeat first | intro _ | refine ⟨by omega,?_⟩
   refine hK _ ?_;clear hK K
   repeat refine zq ?_
   refine zg follows (by decide +kernel) (by kernel_rfl) fun K hK=>?_;simp only [go_sem];(try simp (disch:=omega) only [zI]);repeat first | intro _ | refine ⟨by omega,?_⟩
   refine hK _ ?_;clear hK K
   try simp only [go_sem]
   repeat refine zq ?_
   refine zb fun K hK=>?_;simp only [go_sem];(try simp (disch:=omega) only [zI]);repeat first | intro _ | refine ⟨by omega,?_⟩
   refine hK _ ?_;clear hK K
   repeat refine zq ?_
   refine zd ?_
   refine awp_upto (n:=69) 2 (fun k vs=>[(0,.pt 1000 (vs 1000) 0),(4,.pt 4 (vs 4) 0),(50,.r (i64 k))])
    (fun k=>[(4,.box [.r (i64 h),.r (i64 a)]),(1000,.box (nightB r ⟨t.p0 + g.pt,t.p1,t.g0 + 1,t.g1,if k = 0 then t.l0 else t.l0 + h,if k ≤ 1 then t.l1 else t.l1 + a,t.op,t.w⟩ (.os 1002 0 1 0 q.length))),(1001,.mp M),(1002,.arr 3 1 (q.map fun x=>[i64 x]))])
    (fun _=>True) 0 (fit_of [3] ?_ ?_) (Nat.zero_le _) trivial ?_
   · try simp only [go_sem]
   · try simp only [go_sem]
   · intro k vs hk _
     have h3 : k = 0 ∨ k = 1 ∨ k = 2:=by omega
     rcases h3 with rfl | rfl | rfl
     · repeat refine zq ?_
       refine zb fun K hK=>?_;simp only [go_sem];(try simp (disch:=omega) only [zI]);repeat first | intro _ | refine ⟨by omega,?_⟩
       refine hK _ ?_;clear hK K
       repeat refine zq ?_
       refine zc rfl (fun hc=>?_) (fun hc=>?_) <;> (try simp only [go_sem] at hc)
       refine zx ?_
       repeat refine zq ?_
       refine zd ?_
       repeat refine zq ?_
       refine zb fun K hK=>?_;simp only [go_sem];(try simp (disch:=omega) only [zI]);repeat first | intro _ | refine ⟨by omega,?_⟩
       refine hK _ ?_;clear hK K
       repeat refine zq ?_
       refine zg follows (by decide +kernel) (by kernel_rfl) fun K hK=>?_;simp only [go_sem];(try simp (disch:=omega) only [zI]);repeat first | intro _ | refine ⟨by omega,?_⟩
       refine hK _ ?_;clear hK K
       try simp only [go_sem]
       repeat refine zq ?_
       refine zb fun K hK=>?_;simp only [go_sem];(try simp (disch:=omega) only [zI]);repeat first | intro _ | refine ⟨by omega,?_⟩
       refine hK _ ?_;clear hK K
       try simp only [go_sem]
       refine fit_of [] ?_ ?_
       · try simp only [go_sem]
       · try simp only [go_sem]
     · repeat refine zq ?_
       refine zb fun K hK=>?_;simp only [go_sem];(try simp (disch:=omega) only [zI]);repeat first | intro _ | refine ⟨by omega,?_⟩
       refine hK _ ?_;clear hK K
       repeat refine zq ?_
       refine zc rfl (fun hc=>?_) (fun hc=>?_) <;> (try simp only [go_sem] at hc)
       refine zx ?_
       repeat refine zq ?_
       refine zd ?_
       repeat refine zq ?_
       refine zb fun K hK=>?_;simp only [go_sem];(try simp (disch:=omega) only [zI]);repeat first | intro _ | refine ⟨by omega,?_⟩
       refine hK _ ?_;clear hK K
       repeat refine zq ?_
       refine zg follows (by decide +kernel) (by kernel_rfl) fun K hK=>?_;simp only [go_sem];(try simp (disch:=omega) only [zI]);repeat first | intro _ | refine ⟨by omega,?_⟩
       refine hK _ ?_;clear hK K
       try simp only [go_sem]
       repeat refine zq ?_
       refine zb fun K hK=>?_;simp only [go_sem];(try simp (disch:=omega) only [zI]);repeat first | intro _ | refine ⟨by omega,?_⟩
       refine hK _ ?_;clear hK K
       try simp only [go_sem]
       refine fit_of [] ?_ ?_
       · try simp only [go_sem]
       · try simp only [go_sem]
     · repeat refine zq ?_
       refine zb fun K hK=>?_;simp only [go_sem];(try simp (disch:=omega) only [zI]);repeat first | intro _ | refine ⟨by omega,?_⟩
       refine hK _ ?_;clear hK K
       repeat refine zq ?_
       refine zc rfl (fun hc=>?_) (fun hc=>?_) <;> (try simp only [go_sem] at hc)
       refine zf ?_;simp only [go_sem]
       simp [addL,hs]
end Go.Proofs.Ytlljkgiomkmjbaa.Tm

namespace Go.Oc
open Go Go.RowKit
set_option linter.unusedVariables false
theorem relV_set {w : World} {p : Plan} {ver : Nat → Nat} {y : AV} : ∀ {xs : List AV} {vs : List Value} {i : Nat},AV.relV w p ver xs vs → (∀ u,vs[i]? = some u → y.rel w p ver u) → AV.relV w p ver (xs.set i y) vs
 | [],vs,i,h,_=>by simpa using h
 | x :: xs, vs, 0, h, hy => by
   simp only [AV.relV] at h
   obtain ⟨u,us,rfl,h1,h2⟩:=h
   simp only [List.set_cons_zero,AV.relV];exact ⟨u,us,rfl,hy u rfl,h2⟩
 | x :: xs, vs, i + 1, h, hy => by
   simp only [AV.relV] at h
   obtain ⟨u,us,rfl,h1,h2⟩:=h
   simp only [List.set_cons_succ,AV.relV];exact ⟨u,us,rfl,h1,relV_set h2 fun v hv=>hy v (by simpa using hv)⟩
theorem SR.cell {C : Ctx} {p : Plan} {a : Act} {w : World} {s : AS} (hp : SR C p s a w) (kb i : Nat) {cells : List AV} {x y : AV} (hbox : (s.rows kb).c = .box cells) (hi : cells[i]? = some x)
 (hy : ∀ {u : Value},x.rel w p s.ver u → y.rel w p s.ver u) : SR C p { s with rows:=upd s.rows kb ⟨(s.rows kb).ver,.box (cells.set i y)⟩ } a w:=by
 have hr:=hp.rw kb
 rw [hbox] at hr
 simp only [rowRel] at hr
 obtain ⟨b,cs,t,h1,h2,h3,h4⟩:=hr
 refine hp.setRow (w':=w) kb _ (by rw [hbox]; rfl) (fun _ _ _ _ h=>by cases h) h1 rfl rfl rfl rfl (fun _ _=>rfl) fun _=>?_
 simp only [rowRel]
 refine ⟨b,cs,t,h1,h2,relV_set h3 (fun u hu=>?_),h4⟩
 obtain ⟨u',hu',hx⟩:=AV.relV_get h3 hi
 rw [hu] at hu'
 injection hu' with e
 subst e
 exact hy hx
theorem sub_freezeB (s : AS) (kb i k v sz off m : Nat) {cells : List AV} (hk0 : k < 1000) (hne : kb ≠ k) (hbox : (s.rows kb).c = .box cells) (hi : cells[i]? = some (.os k v sz off m)) (hv : v = s.ver k)
 (hc : match (s.rows k).c with | .arr _ sz' es=>sz = sz' ∧ off + m ≤ es.length | .arc _ sz' es _=>sz = sz' ∧ off + m ≤ es.length | _=>False) :
 Sub s { s with rows:=upd (upd s.rows k ⟨(s.rows k).ver + 1,.dead⟩) kb ⟨(s.rows kb).ver,.box (cells.set i (.r (match (s.rows k).c with | .arr _ _ es=>RV.sl sz ((es.drop off).take m) | .arc _ _ es _=>RV.sl sz ((es.drop off).take m) | _=>.un)))⟩ }:=fun C a w ⟨p,hp⟩=>by
 have h1:=hp.reRow (w':=w) k hk0 .dead rfl none 1 (by simp [maxLen]) rfl rfl rfl (Nat.le_refl _) (fun _ _ _=>rfl) (fun _ h=>by cases h) (fun p' ver' _ hβ hγ _=>by simp only [rowRel]; exact ⟨hβ,hγ⟩)
 have hr:=hp.rw kb
 rw [hbox] at hr
 simp only [rowRel] at hr
 obtain ⟨b,cs,t,g1,g2,g3,g4⟩:=hr
 obtain ⟨u,hu,hval⟩:=AV.relV_get g3 hi
 have put : ∀ {p2 : Plan},SR C p2 { s with rows:=upd s.rows k ⟨(s.rows k).ver + 1,.dead⟩ } a w → p2.β kb = p.β kb → (∀ b,p.R b → p2.R b) → (∀ b,p.β k = some b → p2.R b) →
  SRel C { s with rows:=upd (upd s.rows k ⟨(s.rows k).ver + 1,.dead⟩) kb ⟨(s.rows kb).ver,.box (cells.set i (.r (match (s.rows k).c with | .arr _ _ es=>RV.sl sz ((es.drop off).take m) | .arc _ _ es _=>RV.sl sz ((es.drop off).take m) | _=>.un)))⟩ } a w:=fun {p2} h2 hβ2 hR hR2=>by
  have hr2:=h2.rw kb
  rw [show (upd s.rows k ⟨(s.rows k).ver + 1,.dead⟩ kb).c = .box cells by rw [upd_other _ _ hne]; exact hbox] at hr2
  simp only [rowRel] at hr2
  obtain ⟨b',cs',t',f1,f2,f3,f4⟩:=hr2
  have eb : b' = b:=by rw [hβ2,g1] at f1; injection f1 with e; exact e.symm
  subst eb
  rw [g2] at f2
  injection f2 with e
  injection e with e1 e2 e3
  subst e1
  have:=h2.setRow (w':=w) kb (.box (cells.set i (.r (match (s.rows k).c with | .arr _ _ es=>RV.sl sz ((es.drop off).take m) | .arc _ _ es _=>RV.sl sz ((es.drop off).take m) | _=>.un))))
   (by rw [show (upd s.rows k ⟨(s.rows k).ver + 1,.dead⟩ kb).c = .box cells by rw [upd_other _ _ hne]; exact hbox]; rfl) (fun _ _ _ _ h=>by cases h) f1 rfl rfl rfl rfl (fun _ _=>rfl) (fun _=>by
    simp only [rowRel]
    refine ⟨b',cs,t',f1,by rw [g2,e2],relV_set f3 (fun u' hu'=>?_),f4⟩
    rw [hu] at hu'
    injection hu' with e
    subst e
    simp only [AV.rel];exact snap_os hp hv hc hval hR hR2)
  rw [show (upd s.rows k ⟨(s.rows k).ver + 1,.dead⟩ kb).ver = (s.rows kb).ver by rw [upd_other _ _ hne]] at this
  exact ⟨p2,this⟩
 cases hβ : p.β k with
 | none=>exact put h1 (upd_other _ _ hne) (fun _ h=>h) (fun b hb=>by rw [hβ] at hb; cases hb)
 | some b =>
   obtain ⟨g1,_,g2⟩:=hp.bl k b hβ
   have h2:=h1.publish (b:=b) g1 (g2.imp id fun h=>h.resolve_left (fun h=>by omega)) (fun j hj=>by
    have hj' : upd p.β k none j = some b:=hj
    by_cases e : j = k
    · subst e; rw [upd_same] at hj'; cases hj'
    · rw [upd_other _ _ e] at hj'; exact e (hp.ij j k b hj' hβ)) (hp.ex.publish hβ)
   exact put h2 (upd_other _ _ hne) (fun _ h=>.inl h) (fun b' hb'=>by rw [hβ] at hb'; injection hb' with e; exact .inr e.symm)
section
variable {n : Nat} {l : List (Nat × AV)} {vs : Nat → Nat} {cs : List (Nat × RowC)}
theorem sub_frzB (kb i k : Nat) {cells : List AV} {sz off m ty : Nat} {es : List (List RV)} (hk0 : k < 1000) (hne : kb ≠ k) (hb : lookc cs kb = .box cells) (hi : cells[i]? = some (.os k (vs k) sz off m)) (hc : lookc cs k = .arr ty sz es) (hle : off + m ≤ es.length) :
 Sub (st n l vs cs) (st n l (upd vs k (vs k + 1)) (insc (delc cs k) kb (.box (cells.set i (.r (.sl sz ((es.drop off).take m))))))):=by
 have:=sub_freezeB (st n l vs cs) kb i k (vs k) sz off m hk0 hne hb hi rfl (by show match lookc cs k with | .arr _ sz' es=>sz = sz' ∧ off + m ≤ es.length | .arc _ sz' es _=>sz = sz' ∧ off + m ≤ es.length | _=>False; rw [hc]; exact ⟨rfl,hle⟩)
 have e : ({ st n l vs cs with rows:=upd (upd (st n l vs cs).rows k ⟨((st n l vs cs).rows k).ver + 1,.dead⟩) kb ⟨((st n l vs cs).rows kb).ver,.box (cells.set i (.r (match ((st n l vs cs).rows k).c with | .arr _ _ es=>RV.sl sz ((es.drop off).take m) | .arc _ _ es _=>RV.sl sz ((es.drop off).take m) | _=>.un)))⟩ } : AS)
  = st n l (upd vs k (vs k + 1)) (insc (delc cs k) kb (.box (cells.set i (.r (.sl sz ((es.drop off).take m)))))):=by
  simp only [st,AS.mk.injEq,true_and]
  funext j
  rw [lookc_insc,lookc_delc,hc]
  unfold upd
  split
  · rename_i e; subst e; rw [if_neg hne]
  · split <;> rfl
 rwa [e] at this
def Lent (vs : Nat → Nat) : Prop:=∀ k,1000 ≤ k → vs k = 0
theorem lent_zero : Lent (fun _=>0):=fun _ _=>rfl
theorem lent_upd {vs : Nat → Nat} {k m : Nat} (hk : k < 1000) (h : Lent vs) : Lent (upd vs k m):=fun j hj=>by
 rw [upd_other _ _ (by omega)]; exact h j hj
theorem lent_kill : ∀ {ks : List Nat} {vs : Nat → Nat},small ks = true → Lent vs → Lent (killV vs ks)
 | [],_,_,h=>h
 | k :: ks, vs, hs, h => by
   simp only [small,Bool.and_eq_true,decide_eq_true_eq] at hs
   show Lent (killV (upd vs k (vs k + 1)) ks)
   exact lent_kill hs.2 (lent_upd hs.1 h)
def Fit0 (n : Nat) (F : (Nat → Nat) → List (Nat × AV)) (R : List (Nat × RowC)) (s : AS) : Prop:=∃ vs,Lent vs ∧ Sub s (st n (F vs) vs R)
theorem fit0_of (ks : List Nat) (h0 : Lent vs) {F : (Nat → Nat) → List (Nat × AV)} {R : List (Nat × RowC)} (h1 : allEq l (F (killV vs ks))) (h2 : killC cs ks = R) (h3 : small ks = true:=by rfl) : Fit0 n F R (st n l vs cs):=by
 refine ⟨killV vs ks,lent_kill h3 h0,(sub_kills ks vs cs h3).trans ?_⟩
 subst h2
 exact sub_look _ (allEq_mem h1)
theorem awp_upto0 {P : Program} {C : Ctx} {c : Code} {Q : Exit → AS → Prop} {s : AS} (N : Nat) (F : Nat → (Nat → Nat) → List (Nat × AV)) (R : Nat → List (Nat × RowC)) (I : Nat → Prop) (i0 : Nat)
 (h0 : Fit0 n (F i0) (R i0) s) (hi : i0 ≤ N) (hI : I i0)
 (round : ∀ i vs,Lent vs → i ≤ N → I i → awp P C c (andThen (fun s'=>i < N ∧ I (i + 1) ∧ Fit0 n (F (i + 1)) (R (i + 1)) s') Q) (st n (F i vs) vs (R i))) : awp P C (.loop c) Q s:=by
 refine awp_loop (fun k s=>∃ i,(i ≤ N ∧ I i) ∧ N - i = k ∧ Fit0 n (F i) (R i) s) (N - i0) ⟨i0,⟨hi,hI⟩,rfl,h0⟩ ?_
 rintro k s ⟨i,⟨hi,hI⟩,rfl,vs,hv,hs⟩
 refine zw hs (awp_mono ?_ (round i vs hv hi hI))
 intro e s' hq
 cases e with
 | normal =>
   obtain ⟨h1,h2,h3⟩:=hq
   exact ⟨N - (i + 1),by omega,i + 1,⟨h1,h2⟩,rfl,h3⟩
 | _=>exact hq
end
end Go.Oc

namespace Go.Oc
open Go Go.RowKit
set_option linter.unusedVariables false
theorem sub_adoptB (s : AS) (kb i k e sz : Nat) {cells : List AV} (hk0 : k < 1000) (hne : kb ≠ k) (hbox : (s.rows kb).c = .box cells) (hi : cells[i]? = some (.r .ns)) :
 Sub s { s with rows:=upd (upd s.rows k ⟨(s.rows k).ver + 1,.arr e sz []⟩) kb ⟨(s.rows kb).ver,.box (cells.set i (.os k ((s.rows k).ver + 1) sz 0 0))⟩ }:=fun C a w ⟨p,hp⟩=>by
 have h1:=hp.reRow (w':=w) k hk0 (.arr e sz []) rfl none 0 (Nat.zero_le _) rfl rfl rfl (Nat.le_refl _) (fun _ _ _=>rfl) (fun _ h=>by cases h) (fun p' ver' _ hβ hγ _=>by simp [rowRel,hβ,hγ])
 have:=h1.cell (x:=.r .ns) (y:=.os k ((s.rows k).ver + 1) sz 0 0) kb i (cells:=cells) (by show (upd s.rows k ⟨(s.rows k).ver + 1,.arr e sz []⟩ kb).c = _; rw [upd_other _ _ hne]; exact hbox) hi (fun {u} hx=>by
  simp only [AV.rel,RV.rel] at hx
  obtain ⟨A,hA⟩:=hx
  simp only [AV.rel,AS.ver,upd_same];exact ⟨Nat.le_refl _,fun _=>.inl ⟨trivial,trivial,trivial,trivial,A,hA⟩⟩)
 rw [show (upd s.rows k ⟨(s.rows k).ver + 1,.arr e sz []⟩ kb).ver = (s.rows kb).ver by rw [upd_other _ _ hne]] at this
 exact ⟨_,this⟩
section
variable {n : Nat} {l : List (Nat × AV)} {vs : Nat → Nat} {cs : List (Nat × RowC)}
theorem sub_ownB (kb i k e sz : Nat) {cells : List AV} (hk0 : k < 1000) (hne : kb ≠ k) (hb : lookc cs kb = .box cells) (hi : cells[i]? = some (.r .ns)) :
 Sub (st n l vs cs) (st n l (upd vs k (vs k + 1)) (insc (insc cs k (.arr e sz [])) kb (.box (cells.set i (.os k (vs k + 1) sz 0 0))))):=by
 have:=sub_adoptB (st n l vs cs) kb i k e sz hk0 hne hb hi
 have e : ({ st n l vs cs with rows:=upd (upd (st n l vs cs).rows k ⟨((st n l vs cs).rows k).ver + 1,.arr e sz []⟩) kb ⟨((st n l vs cs).rows kb).ver,.box (cells.set i (.os k (((st n l vs cs).rows k).ver + 1) sz 0 0))⟩ } : AS)
  = st n l (upd vs k (vs k + 1)) (insc (insc cs k (.arr e sz [])) kb (.box (cells.set i (.os k (vs k + 1) sz 0 0)))):=by
  simp only [st,AS.mk.injEq,true_and]
  funext j
  rw [lookc_insc,lookc_insc]
  unfold upd
  split
  · rename_i e; subst e; rw [if_neg hne]
  · split <;> rfl
 rwa [e] at this
def FitW (n : Nat) (F : (Nat → Nat) → List (Nat × AV)) (R : (Nat → Nat) → List (Nat × RowC)) (s : AS) : Prop:=∃ vs,Lent vs ∧ Sub s (st n (F vs) vs (R vs))
theorem fitW_of (ks : List Nat) (h0 : Lent vs) {F : (Nat → Nat) → List (Nat × AV)} {R : (Nat → Nat) → List (Nat × RowC)} (h1 : allEq l (F (killV vs ks))) (h2 : killC cs ks = R (killV vs ks)) (h3 : small ks = true:=by rfl) : FitW n F R (st n l vs cs):=by
 refine ⟨killV vs ks,lent_kill h3 h0,(sub_kills ks vs cs h3).trans ?_⟩
 rw [← h2]
 exact sub_look _ (allEq_mem h1)
theorem awp_uptoW {P : Program} {C : Ctx} {c : Code} {Q : Exit → AS → Prop} {s : AS} (N : Nat) (F : Nat → (Nat → Nat) → List (Nat × AV)) (R : Nat → (Nat → Nat) → List (Nat × RowC)) (I : Nat → Prop) (i0 : Nat)
 (h0 : FitW n (F i0) (R i0) s) (hi : i0 ≤ N) (hI : I i0)
 (round : ∀ i vs,Lent vs → i ≤ N → I i → awp P C c (andThen (fun s'=>i < N ∧ I (i + 1) ∧ FitW n (F (i + 1)) (R (i + 1)) s') Q) (st n (F i vs) vs (R i vs))) : awp P C (.loop c) Q s:=by
 refine awp_loop (fun k s=>∃ i,(i ≤ N ∧ I i) ∧ N - i = k ∧ FitW n (F i) (R i) s) (N - i0) ⟨i0,⟨hi,hI⟩,rfl,h0⟩ ?_
 rintro k s ⟨i,⟨hi,hI⟩,rfl,vs,hv,hs⟩
 refine zw hs (awp_mono ?_ (round i vs hv hi hI))
 intro e s' hq
 cases e with
 | normal =>
   obtain ⟨h1,h2,h3⟩:=hq
   exact ⟨N - (i + 1),by omega,i + 1,⟨h1,h2⟩,rfl,h3⟩
 | _=>exact hq
end
def agIs (ks : List (Nat × RowC)) (rows : Nat → Row) : AV → List AV → Prop
 | .ag cs,cs0=>frzPL ks rows cs ∧ frzL ks rows cs = cs0
 | _,_=>False
theorem agIs_ag {ks : List (Nat × RowC)} {rows : Nat → Row} {cs cs0 : List AV} : agIs ks rows (.ag cs) cs0 = (frzPL ks rows cs ∧ frzL ks rows cs = cs0):=rfl
def mpostG (P : Program) (rv : ResultVar) (cs0 : List AV) (L L' : List (Nat × RowC)) : Exit → AS → Prop
 | .normal,s=>resC (resA P s rv) (fun x=>agIs L s.rows x cs0) ∧ mfin L s.rows L L'
 | .ret,s=>resC (resA P s rv) (fun x=>agIs L s.rows x cs0) ∧ mfin L s.rows L L'
 | _,_=>False
theorem mpostG_normal {P : Program} {s : AS} {rv : ResultVar} {cs0 : List AV} {L L' : List (Nat × RowC)} : mpostG P rv cs0 L L' .normal s = (resC (resA P s rv) (fun x=>agIs L s.rows x cs0) ∧ mfin L s.rows L L'):=rfl
theorem mpostG_ret {P : Program} {s : AS} {rv : ResultVar} {cs0 : List AV} {L L' : List (Nat × RowC)} : mpostG P rv cs0 L L' .ret s = (resC (resA P s rv) (fun x=>agIs L s.rows x cs0) ∧ mfin L s.rows L L'):=rfl
section
variable {P : Program} {C : Ctx} {p p0 : Plan} {s : AS} {a : Act} {w : World}
end
attribute [go_sem] agIs_ag mpostG_normal mpostG_ret
end Go.Oc

namespace Go.Proofs.Ytlljkgiomkmjbaa.Tm
open Go Go.Oc
set_option linter.unusedSimpArgs false
set_option linter.unusedVariables false
set_option maxRecDepth 8000
def stepN (r : Rules) (F : Int → Option Sheet) (t : Res) (i : Nat) : Res :=
 match F i,r.gs[i]? with
 | some x,some g=>addL g (scoreL r x).1 (scoreL r x).2 t
 | _,_=>{ t with op:=t.op ++ [(i : Int)] }
def sumN (r : Rules) (F : Int → Option Sheet) : Nat → Res
 | 0=>zeroR
 | k + 1=>stepN r F (sumN r F k) k
def homeR (r : Rules) (t : Res) : Int:=leadW (t.p0 - t.p1 + openP r t.op) (t.l0 - t.l1 + openG r t.op)
def awayR (r : Rules) (t : Res) : Int:=leadW (t.p0 - t.p1 - openP r t.op) (t.l0 - t.l1 - openG r t.op)
def endR (r : Rules) (t : Res) : Res :=
 let w:=if homeR r t = awayR r t then homeR r t else -1
 if t.op = [] ∧ w ≠ 2 then { t with w:=w,p0:=if w = 0 then t.p0 + r.bonus else t.p0,p1:=if w = 0 then t.p1 else t.p1 + r.bonus } else { t with w:=w }
def nightR (r : Rules) (F : Int → Option Sheet) : Res:=endR r (sumN r F r.gs.length)
def OkF (r : Rules) (F : Int → Option Sheet) : Prop:=∀ i x,F i = some x → sheetB r x = true ∧ x.gm = i
theorem leadW_in (p l : Int) : leadW p l = 0 ∨ leadW p l = 1 ∨ leadW p l = 2:=by
 unfold leadW; split
 · simp
 · split
   · simp
   · split
     · simp
     · split <;> simp
theorem sumN_facts {r : Rules} {F : Int → Option Sheet} (hr : rulesB r = true) (hF : OkF r F) : ∀ k,k ≤ r.gs.length →
 ((0 ≤ (sumN r F k).p0 ∧ (sumN r F k).p0 ≤ 99 * k) ∧ (0 ≤ (sumN r F k).p1 ∧ (sumN r F k).p1 ≤ 99 * k) ∧ (0 ≤ (sumN r F k).g0 ∧ (sumN r F k).g0 ≤ k) ∧ (0 ≤ (sumN r F k).g1 ∧ (sumN r F k).g1 ≤ k) ∧ (0 ≤ (sumN r F k).l0 ∧ (sumN r F k).l0 ≤ 15 * k) ∧ (0 ≤ (sumN r F k).l1 ∧ (sumN r F k).l1 ≤ 15 * k)) ∧
 (sumN r F k).w = 0 ∧ (sumN r F k).op.length ≤ k ∧ ∀ i ∈ (sumN r F k).op,0 ≤ i ∧ i < k
 | 0,_=>by simp [sumN,zeroR]
 | k + 1, hk => by
   obtain ⟨⟨h1,h2,h3,h4,h5,h6⟩,h7,h8,h9⟩:=sumN_facts hr hF k (by omega)
   obtain ⟨g,hg⟩:=opt_of_lt (l:=r.gs) (i:=k) (by omega)
   rw [sumN]
   unfold stepN
   rw [hg]
   cases hx : F k with
   | none =>
     refine ⟨⟨?_,?_,?_,?_,?_,?_⟩,h7,?_,fun i hi=>?_⟩ <;> (try simp only)
     · omega
     · omega
     · omega
     · omega
     · omega
     · omega
     · rw [List.length_append]; simp; omega
     · simp only [List.mem_append,List.mem_singleton] at hi
       rcases hi with hi | hi
       · have:=h9 i hi; omega
       · omega
   | some x =>
     obtain ⟨hb,he⟩:=hF _ _ hx
     obtain ⟨i,g',hi,hil,hg',hlg,g5,g6,_,hsc⟩:=sheet_game hr hb
     have hik : i = k:=by omega
     subst hik
     have hgg : g' = g:=by rw [hg] at hg'; injection hg' with e; exact e.symm
     subst hgg
     refine ⟨⟨?_,?_,?_,?_,?_,?_⟩,?_,?_,fun j hj=>?_⟩ <;> (try simp only [addL])
     · split <;> omega
     · split <;> omega
     · split <;> omega
     · split <;> omega
     · omega
     · omega
     · exact h7
     · omega
     · have:=h9 j hj; omega
theorem sumN_small {r : Rules} {F : Int → Option Sheet} (hr : rulesB r = true) (hF : OkF r F) {k : Nat} (hk : k ≤ r.gs.length) : smallR (sumN r F k):=by
 obtain ⟨_,⟨f3,f4⟩,_⟩:=rulesB_facts hr
 obtain ⟨⟨h1,h2,h3,h4,h5,h6⟩,_⟩:=sumN_facts hr hF k hk
 refine ⟨?_,?_,?_,?_,?_,?_⟩ <;> omega
abbrev encS (e : Int × Sheet) : RV × RV:=(i64 e.1,.ag (sheetC e.2))
def findS (p : Int) : List (Int × Sheet) → Nat → Option (Nat × Sheet)
 | [],_=>none
 | e :: l,i=>if p = e.1 then some (i,e.2) else findS p l (i + 1)
theorem findK_S (p : Int) : ∀ (M : List (Int × Sheet)) (i : Nat),findK (i64 p) (M.map encS) i = some ((findS p M i).map fun x=>(x.1,.ag (sheetC x.2)))
 | [],i=>rfl
 | e :: M, i => by
   simp only [List.map_cons,findK,sameK,if_true,findS]
   by_cases h : p = e.1
   · have : (p == e.1) = true:=by simp [h]
     rw [this]; simp [h]
   · have : (p == e.1) = false:=by simp [h]
     rw [this,if_neg h]
     exact findK_S p M (i + 1)
def mapS (M : List (Int × Sheet)) (p : Int) : Option Sheet:=(findS p M 0).map (·.2)
theorem close_ok (r : Rules) (M : List (Int × Sheet)) (hr : rulesB r = true) (hF : OkF r (mapS M)) :
 MCalls Try.prog 78 [(1000,.box (nightB r zeroR (.r .ns))),(1001,.mp (M.map encS))]
  [(1000,.box (nightB r (nightR r (mapS M)) (.r (ints (nightR r (mapS M)).op)))),(1001,.mp (M.map encS))] [.pt 1000 0 0] (.tu []):=by
 obtain ⟨_,⟨f3,f4⟩,_,f7,f8⟩:=rulesB_facts hr
 refine mcalls_st (n:=100) (rs:=[]) _ _ [] Try.func78 rfl (by kernel_rfl) Try.ntmps78 rfl (by simp) rfl rfl fun C=>?_
 repeat refine zq ?_
 refine zb fun K hK=>?_;simp only [go_sem];(try simp (disch:=omega) only [zI])
 intros
 repeat first | intro _ | refine ⟨by omega,?_⟩
 refine hK _ ?_;clear hK K
 repeat refine zq ?_
 refine zd ?_;refine zw (sub_ownB 1000 10 38 3 1 (by omega) (by omega) rfl rfl) ?_;simp only [go_sem]
 refine awp_uptoW (n:=100) r.gs.length (fun k vs=>[(0,.pt 1000 0 0),(13,.r (i64 r.gs.length)),(14,.r (i64 k))])
  (fun k vs=>[(38,.arr 3 1 ((sumN r (mapS M) k).op.map fun x=>[i64 x])),(1000,.box (nightB r (sumN r (mapS M) k) (.os 38 (vs 38) 1 0 (sumN r (mapS M) k).op.length))),(1001,.mp (M.map encS))])
  (fun _=>True) 0 (fitW_of [] (lent_upd (by omega) lent_zero) ?_ ?_) (Nat.zero_le _) trivial ?_
 · try simp only [go_sem]
 · rfl
 · intro k vs hv hk _
   have hv0:=hv 1000 (by omega)
   have hv1:=hv 1001 (by omega)
   have hfk:=findK_S k M 0
   have hsm:=sumN_small hr hF hk
   obtain ⟨sb,sw,sl,so⟩:=sumN_facts hr hF k hk
   repeat refine zq ?_
   refine zb fun K hK=>?_;simp only [go_sem];(try simp (disch:=omega) only [zI]);repeat first | intro _ | refine ⟨by omega,?_⟩
   refine hK _ ?_;clear hK K
   repeat refine zq ?_
   refine zc rfl (fun hc=>?_) (fun hc=>?_) <;> (try simp only [go_sem] at hc)
   · have hck:=hc
     obtain ⟨g,hg⟩:=opt_of_lt hck
     refine zx ?_
     repeat refine zq ?_
     refine zd ?_
     repeat refine zq ?_
     refine zb fun K hK=>?_;simp only [go_sem];(try simp (disch:=omega) only [zI]);repeat first | intro _ | refine ⟨by omega,?_⟩
     refine hK _ ?_;clear hK K
     cases hf : findS k M 0 with
     | none =>
       rw [hf] at hfk
       have hstep : sumN r (mapS M) (k + 1) = { sumN r (mapS M) k with op:=(sumN r (mapS M) k).op ++ [(k : Int)] }:=by
        rw [sumN,stepN,mapS,hf]; rfl
       repeat refine zq ?_
       refine zb fun K hK=>?_;simp only [go_sem,hfk,hv0,hv1,Option.map_none];(try simp (disch:=omega) only [zI]);repeat first | intro _ | refine ⟨by omega,?_⟩
       refine hK _ ?_;clear hK K
       try simp only [go_sem]
       repeat refine zq ?_
       refine zb fun K hK=>?_;simp only [go_sem];(try simp (disch:=omega) only [zI]);repeat first | intro _ | refine ⟨by omega,?_⟩
       refine hK _ ?_;clear hK K
       repeat refine zq ?_
       refine zc rfl (fun hc=>?_) (fun hc=>?_) <;> (try simp only [go_sem] at hc)
       repeat refine zq ?_
       refine zb fun K hK=>?_;simp only [go_sem,hv0];(try simp (disch:=omega) only [zI])
       refine ⟨by omega,?_⟩
       repeat first | intro _ | refine ⟨by omega,?_⟩
       refine hK _ ?_;clear hK K
       try simp only [go_sem]
       repeat refine zq ?_
       refine zb fun K hK=>?_;simp only [go_sem];(try simp (disch:=omega) only [zI]);repeat first | intro _ | refine ⟨by omega,?_⟩
       refine hK _ ?_;clear hK K
       try simp only [go_sem]
       refine ⟨hck,fitW_of [3] (by intro j hj; simp only [upd]; (repeat' split); all_goals first | rfl | omega | exact hv _ hj) ?_ ?_⟩
       · try simp only [go_sem]
       · try simp only [go_sem]
         rw [hstep]
         simp [hv0,hv1]
     | some jx =>
       obtain ⟨j,x⟩:=jx
       rw [hf] at hfk
       have hFx : mapS M k = some x:=by rw [mapS,hf]; rfl
       obtain ⟨hxb,hxg⟩:=hF k x hFx
       have hstep : sumN r (mapS M) (k + 1) = addL g (scoreL r x).1 (scoreL r x).2 (sumN r (mapS M) k):=by
        rw [sumN,stepN,hFx,hg]
       repeat refine zq ?_
       refine zb fun K hK=>?_;simp only [go_sem,hfk,hv0,hv1,Option.map_some];(try simp (disch:=omega) only [zI]);repeat first | intro _ | refine ⟨by omega,?_⟩
       refine hK _ ?_;clear hK K
       try simp only [go_sem]
       repeat refine zq ?_
       refine zb fun K hK=>?_;simp only [go_sem];(try simp (disch:=omega) only [zI]);repeat first | intro _ | refine ⟨by omega,?_⟩
       refine hK _ ?_;clear hK K
       repeat refine zq ?_
       refine zc rfl (fun hc=>?_) (fun hc=>?_) <;> (try simp only [go_sem] at hc)
       repeat refine zq ?_
       refine zb fun K hK=>?_;simp only [go_sem,hv0];(try simp (disch:=omega) only [zI])
       refine xcall_mut (add_ok r (sumN r (mapS M) k) x (M.map encS) k g (sumN r (mapS M) k).op hr hxb hxg hg hsm) [(1000,1000),(1001,1001),(1002,38)] rfl (by simp only [go_sem,i64,ints,hv0,hv1]) (by simp only [go_sem,i64,ints,hv0,hv1]) (by rfl) (by rfl) ?_
       (try simp only [go_sem,hv0,hv1]);(try simp (disch:=omega) only [zI]);repeat first | intro _ | refine ⟨by omega,?_⟩
       refine hK _ ?_;clear hK K
       try simp only [go_sem]
       repeat refine zq ?_
       refine zb fun K hK=>?_;simp only [go_sem];(try simp (disch:=omega) only [zI]);repeat first | intro _ | refine ⟨by omega,?_⟩
       refine hK _ ?_;clear hK K
       try simp only [go_sem]
       refine ⟨hck,fitW_of [3] (by intro j hj; simp only [upd]; (repeat' split); all_goals first | rfl | omega | exact hv _ hj) ?_ ?_⟩
       · try simp only [go_sem]
       · try simp only [go_sem]
         rw [hstep]
         simp [hv0,hv1,addL]
   · have : k = r.gs.length:=by omega
     subst this
     generalize htd : sumN r (mapS M) r.gs.length = t at *
     have hnr : nightR r (mapS M) = endR r t:=by rw [nightR,htd]
     rw [hnr]
     have hob:=open_bounds hr t.op
     refine zf ?_;simp only [go_sem]
     repeat refine zq ?_
     refine zb fun K hK=>?_;simp only [go_sem,hv0];(try simp (disch:=omega) only [zI])
     refine zh (ends_ok r t (ints t.op) .un hr hsm (.inl rfl) so (by omega)) rfl (by simp only [go_sem,i64,ints,hv0,hv1]) (by simp only [go_sem,i64,ints,hv0,hv1]) (by first | exact .inl rfl | exact .inr rfl) ?_
     (try simp only [go_sem,hv0,hv1]);(try simp (disch:=omega) only [zI]);repeat first | intro _ | refine ⟨by omega,?_⟩
     refine hK _ ?_;clear hK K
     repeat refine zq ?_
     refine zb fun K hK=>?_;simp only [go_sem,hv0];(try simp (disch:=omega) only [zI]);repeat first | intro _ | refine ⟨by omega,?_⟩
     refine hK _ ?_;clear hK K
     repeat refine zq ?_
     refine zg follows (by decide +kernel) (by kernel_rfl) fun K hK=>?_;simp only [go_sem];(try simp (disch:=omega) only [zI])
     refine zh (winner_ok (t.p0 - t.p1 + openP r t.op) (t.l0 - t.l1 + openG r t.op)) rfl (by simp only [go_sem,i64,ints]) (by simp only [go_sem,i64,ints]) (by first | exact .inl rfl | exact .inr rfl) ?_
     (try simp only [go_sem]);(try simp (disch:=omega) only [zI])
     refine zh (winner_ok (t.p0 - t.p1 - openP r t.op) (t.l0 - t.l1 - openG r t.op)) rfl (by simp only [go_sem,i64,ints]) (by simp only [go_sem,i64,ints]) (by first | exact .inl rfl | exact .inr rfl) ?_
     (try simp only [go_sem]);(try simp (disch:=omega) only [zI]);repeat first | intro _ | refine ⟨by omega,?_⟩
     refine hK _ ?_;clear hK K
     have hA : leadW (t.p0 - t.p1 + openP r t.op) (t.l0 - t.l1 + openG r t.op) = homeR r t:=rfl
     have hB : leadW (t.p0 - t.p1 - openP r t.op) (t.l0 - t.l1 - openG r t.op) = awayR r t:=rfl
     have hW:=leadW_in (t.p0 - t.p1 + openP r t.op) (t.l0 - t.l1 + openG r t.op)
     simp only [hA,hB] at hW ⊢
     have hnil : t.op = [] → homeR r t = awayR r t:=fun h=>by simp [homeR,awayR,h,openP,openG]
     by_cases h1 : homeR r t = awayR r t
     · have e1 : (homeR r t == awayR r t) = true:=by simp [h1]
       rw [e1]
       repeat refine zq ?_
       refine zc rfl (fun hc=>?_) (fun hc=>?_) <;> (try simp only [go_sem] at hc)
       repeat refine zq ?_
       refine zb fun K hK=>?_;simp only [go_sem];(try simp (disch:=omega) only [zI])
       refine zh (winner_ok (t.p0 - t.p1 + openP r t.op) (t.l0 - t.l1 + openG r t.op)) rfl (by simp only [go_sem,i64,ints]) (by simp only [go_sem,i64,ints]) (by first | exact .inl rfl | exact .inr rfl) ?_
       (try simp only [go_sem]);(try simp (disch:=omega) only [zI]);repeat first | intro _ | refine ⟨by omega,?_⟩
       refine hK _ ?_;clear hK K;simp only [hA]
       try simp only [go_sem]
       by_cases h2 : t.op = []
       · have h3 : ((t.op.length : Int) = 0) = True:=by simp [h2]
         have h3' : ((t.op.length : Int) ≠ 0) = False:=by simp [h2]
         have m0 : ((0 : Int) != 2) = true:=by decide
         have m1 : ((1 : Int) != 2) = true:=by decide
         have m2 : ((2 : Int) != 2) = false:=by decide
         rcases hW with hW | hW | hW
         · have h4 : homeR r t ≠ 2:=by omega
           repeat refine zq ?_
           refine zb fun K hK=>?_;simp only [go_sem,hv0,h3,h3',hW,m0,m1,m2];(try simp (disch:=omega) only [zI])
           intros
           repeat first | intro _ | refine ⟨by omega,?_⟩
           refine hK _ ?_;clear hK K
           repeat refine zq ?_
           refine zc rfl (fun hc=>?_) (fun hc=>?_) <;> (try simp only [go_sem] at hc)
           repeat refine zq ?_
           refine zg follows (by decide +kernel) (by kernel_rfl) fun K hK=>?_;simp only [go_sem,hv0,h3,hW];(try simp (disch:=omega) only [zI]);repeat first | intro _ | refine ⟨by omega,?_⟩
           refine hK _ ?_;clear hK K
           try simp only [go_sem]
           simp [endR,← h1,hW,h2]
         · repeat refine zq ?_
           refine zb fun K hK=>?_;simp only [go_sem,hv0,h3,h3',hW,m0,m1,m2];(try simp (disch:=omega) only [zI])
           intros
           repeat first | intro _ | refine ⟨by omega,?_⟩
           refine hK _ ?_;clear hK K
           repeat refine zq ?_
           refine zc rfl (fun hc=>?_) (fun hc=>?_) <;> (try simp only [go_sem] at hc)
           repeat refine zq ?_
           refine zg follows (by decide +kernel) (by kernel_rfl) fun K hK=>?_;simp only [go_sem,hv0,h3,hW];(try simp (disch:=omega) only [zI]);repeat first | intro _ | refine ⟨by omega,?_⟩
           refine hK _ ?_;clear hK K
           try simp only [go_sem]
           simp [endR,← h1,hW,h2]
         · repeat refine zq ?_
           refine zb fun K hK=>?_;simp only [go_sem,hv0,h3,h3',hW,m0,m1,m2];(try simp (disch:=omega) only [zI])
           intros
           repeat first | intro _ | refine ⟨by omega,?_⟩
           refine hK _ ?_;clear hK K
           repeat refine zq ?_
           refine zc rfl (fun hc=>?_) (fun hc=>?_) <;> (try simp only [go_sem] at hc)
           refine zx ?_
           try simp only [go_sem]
           simp [endR,← h1,hW,h2]
       · have h3 : ((t.op.length : Int) = 0) = False:=by simp [h2]
         repeat refine zq ?_
         refine zb fun K hK=>?_;simp only [go_sem,hv0,h3];(try simp (disch:=omega) only [zI])
         intros
         repeat first | intro _ | refine ⟨by omega,?_⟩
         refine hK _ ?_;clear hK K
         repeat refine zq ?_
         refine zc rfl (fun hc=>?_) (fun hc=>?_) <;> (try simp only [go_sem] at hc)
         refine zx ?_
         try simp only [go_sem]
         simp [endR,← h1,h2]
     · have e1 : (homeR r t == awayR r t) = false:=by simp [h1]
       rw [e1]
       repeat refine zq ?_
       refine zc rfl (fun hc=>?_) (fun hc=>?_) <;> (try simp only [go_sem] at hc)
       refine zx ?_
       have h2 : t.op ≠ []:=fun h=>h1 (hnil h)
       have h3 : ((t.op.length : Int) = 0) = False:=by simp [h2]
       repeat refine zq ?_
       refine zb fun K hK=>?_;simp only [go_sem,hv0,h3];(try simp (disch:=omega) only [zI])
       intros
       repeat first | intro _ | refine ⟨by omega,?_⟩
       refine hK _ ?_;clear hK K
       repeat refine zq ?_
       refine zc rfl (fun hc=>?_) (fun hc=>?_) <;> (try simp only [go_sem] at hc)
       refine zx ?_
       try simp only [go_sem]
       simp [endR,h1,h2]
abbrev sheets (l : List Sheet) : RV:=.sl 4 (l.map sheetC)
def sameS (x y : Sheet) : Bool:=x.gm == y.gm && (x.ho == y.ho && (x.aw == y.aw && (x.wk == y.wk && true)))
theorem sameS_eq {x y : Sheet} : sameS x y = true ↔ x = y:=by
 cases x; cases y; simp [sameS]
def seenL (p : List Sheet) (i : Int) : Option Sheet:=p.find? fun x=>x.gm == i
def scanN (r : Rules) : List Sheet → List Sheet → Option (Nat × Int)
 | _,[]=>none
 | p, x :: l =>
   if sheetB r x = true then
    match seenL p x.gm with
    | some y=>if sameS y x = true then scanN r (p ++ [x]) l else some (p.length,6)
    | none=>scanN r (p ++ [x]) l
   else some (p.length,2)
def nightV (r : Rules) (l : List Sheet) : Res × Int × Int :=
 if rulesB r = false then (zeroR,0,2) else if 200 < l.length then (zeroR,0,5) else
 match scanN r [] l with
 | some (k,e)=>(zeroR,k,e)
 | none=>(nightR r (seenL l),0,0)
theorem seen_some {p : List Sheet} {i : Int} {y : Sheet} (h : seenL p i = some y) : y ∈ p ∧ y.gm = i:=by
 have h1:=List.mem_of_find?_eq_some h
 have h2:=List.find?_some h
 exact ⟨h1,by simpa using h2⟩
theorem seen_app (p : List Sheet) (x : Sheet) (i : Int) : seenL (p ++ [x]) i = (seenL p i).or (if x.gm = i then some x else none):=by
 simp only [seenL,List.find?_append,List.find?_cons,List.find?_nil]
 by_cases h : x.gm = i
 · simp [h]
 · have : (x.gm == i) = false:=by simp [h]
   rw [this,if_neg h]
theorem findS_some {p : Int} : ∀ {M : List (Int × Sheet)} {i j : Nat} {v : Sheet},findS p M i = some (j,v) → i ≤ j ∧ M[j - i]? = some (p,v)
 | [],_,_,_,h=>by simp [findS] at h
 | e :: M, i, j, v, h => by
   unfold findS at h
   split at h
   · rename_i he
     injection h with h; injection h with h1 h2
     subst h1 h2
     refine ⟨Nat.le_refl _,?_⟩
     rw [Nat.sub_self]
     simp [he]
   · obtain ⟨h1,h2⟩:=findS_some h
     refine ⟨by omega,?_⟩
     rw [show j - i = (j - (i + 1)) + 1 by omega]
     simpa using h2
theorem findS_app (M : List (Int × Sheet)) (e : Int × Sheet) (p : Int) : ∀ i,(findS p (M ++ [e]) i).map (·.2) = ((findS p M i).map (·.2)).or (if p = e.1 then some e.2 else none):=by
 induction M with
 | nil=>intro i; by_cases h : p = e.1 <;> simp [findS,h]
 | cons a M ih =>
   intro i
   by_cases h : p = a.1
   · simp [findS,h]
   · simp only [List.cons_append,findS,if_neg h];exact ih (i + 1)
theorem mapS_app (M : List (Int × Sheet)) (x : Sheet) (i : Int) : mapS (M ++ [(x.gm,x)]) i = (mapS M i).or (if x.gm = i then some x else none):=by
 rw [mapS,findS_app,mapS]
 by_cases h : x.gm = i
 · rw [if_pos h,if_pos h.symm]
 · rw [if_neg h,if_neg (fun e=>h e.symm)]
theorem sheet_same (x y : Sheet) : (x.gm == y.gm && (x.ho == y.ho && (x.aw == y.aw && (x.wk == y.wk && true)))) = sameS x y:=rfl
theorem encS_set {M : List (Int × Sheet)} {j : Nat} {p : Int} {x : Sheet} (h : M[j]? = some (p,x)) : (M.map encS).set j (i64 p,.ag (sheetC x)) = M.map encS:=by
 refine List.ext_getElem? fun i=>?_
 rw [List.getElem?_set,List.getElem?_map]
 split
 · rename_i e
   subst e
   have:=(List.getElem?_eq_some_iff.1 h).1
   rw [List.length_map,if_pos this,h]; rfl
 · rfl
theorem eqnS : eqN Try.prog 114 = some 4:=by kernel_rfl
theorem night_ok (r : Rules) (l : List Sheet) : ACalls Try.prog 38 [.ag (rulesC r),sheets l] (.tu [.ag (resC (nightV r l).1),i64 (nightV r l).2.1,i64 (nightV r l).2.2]):=by
 refine acalls_st (rs:=[.ag (resC (nightV r l).1),i64 (nightV r l).2.1,i64 (nightV r l).2.2]) [.cell 4 116,.tmp 5,.tmp 6] Try.func38 rfl (by kernel_rfl) Try.ntmps38 rfl (by simp) rfl fun C vs=>?_
 repeat refine zq ?_
 refine zb fun K hK=>?_;simp only [go_sem];(try simp (disch:=omega) only [zI]);repeat first | intro _ | refine ⟨by omega,?_⟩
 refine hK _ ?_;clear hK K
 repeat refine zq ?_
 refine zd ?_
 repeat refine zq ?_
 refine zb fun K hK=>?_;simp only [go_sem];(try simp (disch:=omega) only [zI])
 refine zh (check_ok r) rfl (by simp only [go_sem,i64,ints]) (by simp only [go_sem,i64,ints]) (by first | exact .inl rfl | exact .inr rfl) ?_
 (try simp only [go_sem]);(try simp (disch:=omega) only [zI]);repeat first | intro _ | refine ⟨by omega,?_⟩
 refine hK _ ?_;clear hK K
 have n2 : ((2 : Int) != 0) = true:=by decide
 have n0 : ((0 : Int) != 0) = false:=by decide
 by_cases hr : rulesB r = true
 case neg =>
  have e0 : rulesB r = false:=by simpa using hr
  have hv : nightV r l = (zeroR,0,2):=by rw [nightV,if_pos e0]
  rw [hv]
  simp only [e0,errC,n2,go_sem]
  repeat refine zq ?_
  refine zc rfl (fun hc=>?_) (fun hc=>?_) <;> (try simp only [go_sem] at hc)
  repeat refine zq ?_
  refine zb fun K hK=>?_;simp only [go_sem];(try simp (disch:=omega) only [zI]);repeat first | intro _ | refine ⟨by omega,?_⟩
  refine hK _ ?_;clear hK K;refine ze ?_;simp only [go_sem]
  simp [zeroR]
 simp only [hr,errC,n0,go_sem]
 repeat refine zq ?_
 refine zc rfl (fun hc=>?_) (fun hc=>?_) <;> (try simp only [go_sem] at hc)
 repeat refine zq ?_
 refine zb fun K hK=>?_;simp only [go_sem];(try simp (disch:=omega) only [zI])
 intro hlen
 repeat first | intro _ | refine ⟨by omega,?_⟩
 refine hK _ ?_;clear hK K
 by_cases h1 : 200 < l.length
 · have hv : nightV r l = (zeroR,0,5):=by rw [nightV,if_neg (by simp [hr]),if_pos h1]
   rw [hv]
   have e1 : decide ((200 : Int) < (l.length : Int)) = true:=by simp; omega
   rw [e1]
   repeat refine zq ?_
   refine zc rfl (fun hc=>?_) (fun hc=>?_) <;> (try simp only [go_sem] at hc)
   repeat refine zq ?_
   refine zb fun K hK=>?_;simp only [go_sem];(try simp (disch:=omega) only [zI]);repeat first | intro _ | refine ⟨by omega,?_⟩
   refine hK _ ?_;clear hK K;refine ze ?_;simp only [go_sem]
   simp [zeroR]
 have e1 : decide ((200 : Int) < (l.length : Int)) = false:=by simp; omega
 rw [e1]
 repeat refine zq ?_
 refine zc rfl (fun hc=>?_) (fun hc=>?_) <;> (try simp only [go_sem] at hc)
 refine zx ?_
 try simp only [go_sem]
 repeat refine zq ?_
 refine zb fun K hK=>?_;simp only [go_sem];(try simp (disch:=omega) only [zI]);repeat first | intro _ | refine ⟨by omega,?_⟩
 refine hK _ ?_;clear hK K
 try simp only [go_sem]
 repeat refine zq ?_
 refine zb fun K hK=>?_;simp only [go_sem];(try simp (disch:=omega) only [zI])
 intros
 repeat first | intro _ | refine ⟨by omega,?_⟩
 refine hK _ ?_;clear hK K
 repeat refine zq ?_
 refine zd ?_
 refine awp_whileV (n:=75) (fun (y : Nat × List (Int × Sheet)) vs=>[(1,.r (sheets l)),(4,.pt 4 (vs 4) 0),(7,.pt 26 (vs 26) 0),(27,.r (sheets l)),(28,.r (i64 l.length)),(29,.r (i64 y.1))])
  (fun y vs=>[(4,.box [.r (i64 0),.r (i64 0),.r (i64 0),.r (i64 0),.r (i64 0),.r (i64 0),.r .ns,.r (i64 0)]),(24,.mp (y.2.map encS)),(26,.box [.r (i64 r.squad),.r (games r.gs),.r (i64 r.most),.r (i64 r.bonus),.r (i64 0),.r (i64 0),.r (i64 0),.r (i64 0),.r (i64 0),.r (i64 0),.r .ns,.r (i64 0),.mp 24 (vs 24)])])
  (fun y=>y.1 ≤ l.length ∧ (∀ i,mapS y.2 i = seenL (l.take y.1) i) ∧ (∀ x ∈ l.take y.1,sheetB r x = true) ∧ scanN r [] l = scanN r (l.take y.1) (l.drop y.1)) (fun y=>l.length - y.1) (0,[]) (zj [2] ?_ ?_) ⟨Nat.zero_le _,fun _=>rfl,by simp,by simp⟩ ?_
 · try simp only [go_sem]
 · try simp only [go_sem]
 · rintro ⟨k,M⟩ vs ⟨hk,hM,hI,hS⟩
   simp only at hk hM hI hS
   repeat refine zq ?_
   refine zb fun K hK=>?_;simp only [go_sem];(try simp (disch:=omega) only [zI]);repeat first | intro _ | refine ⟨by omega,?_⟩
   refine hK _ ?_;clear hK K
   repeat refine zq ?_
   refine zc rfl (fun hc=>?_) (fun hc=>?_) <;> (try simp only [go_sem] at hc)
   · have hck:=hc
     obtain ⟨x,hx⟩:=opt_of_lt hck
     refine zx ?_
     repeat refine zq ?_
     refine zd ?_
     repeat refine zq ?_
     refine zb fun K hK=>?_;simp only [go_sem,hx,hck];(try simp (disch:=omega) only [zI]);repeat first | intro _ | refine ⟨by omega,?_⟩
     refine hK _ ?_;clear hK K
     repeat refine zq ?_
     refine zg follows (by decide +kernel) (by kernel_rfl) fun K hK=>?_;simp only [go_sem];(try simp (disch:=omega) only [zI])
     refine zh (isSheet_ok r x hr) rfl (by simp only [go_sem,i64,ints]) (by simp only [go_sem,i64,ints]) (by first | exact .inl rfl | exact .inr rfl) ?_
     (try simp only [go_sem]);(try simp (disch:=omega) only [zI])
     cases hb : sheetB r x with
     | false =>
       have hv : nightV r l = (zeroR,((k : Nat) : Int),2):=by
        rw [nightV,if_neg (by simp [hr]),if_neg h1,hS,drop_of_opt hx,scanN,if_neg (by simp [hb])]
        simp; omega
       repeat first | intro _ | refine ⟨by omega,?_⟩
       refine hK _ ?_;clear hK K;rw [hv]
       repeat refine zq ?_
       refine zc rfl (fun hc=>?_) (fun hc=>?_) <;> (try simp only [go_sem] at hc)
       repeat refine zq ?_
       refine zb fun K hK=>?_;simp only [go_sem];(try simp (disch:=omega) only [zI]);repeat first | intro _ | refine ⟨by omega,?_⟩
       refine hK _ ?_;clear hK K;refine ze ?_;simp only [go_sem]
       simp [zeroR]
     | true =>
       repeat first | intro _ | refine ⟨by omega,?_⟩
       refine hK _ ?_;clear hK K
       repeat refine zq ?_
       refine zc rfl (fun hc=>?_) (fun hc=>?_) <;> (try simp only [go_sem] at hc)
       refine zx ?_
       try simp only [go_sem]
       have hfk:=findK_S x.gm M 0
       have hse:=hM x.gm
       cases hf : findS x.gm M 0 with
       | none =>
         rw [hf] at hfk
         have hse' : seenL (l.take k) x.gm = none:=by rw [← hse,mapS,hf]; rfl
         have hsc : scanN r [] l = scanN r (l.take (k + 1)) (l.drop (k + 1)):=by
          rw [hS,drop_of_opt hx,scanN,if_pos hb,hse',take_of_opt hx]
         repeat refine zq ?_
         refine zg follows (by decide +kernel) (by kernel_rfl) fun K hK=>?_;simp only [go_sem,hfk,Option.map_none];(try simp (disch:=omega) only [zI]);repeat first | intro _ | refine ⟨by omega,?_⟩
         refine hK _ ?_;clear hK K
         try simp only [go_sem]
         repeat refine zq ?_
         refine zb fun K hK=>?_;simp only [go_sem];(try simp (disch:=omega) only [zI]);repeat first | intro _ | refine ⟨by omega,?_⟩
         refine hK _ ?_;clear hK K
         repeat refine zq ?_
         refine zc rfl (fun hc=>?_) (fun hc=>?_) <;> (try simp only [go_sem] at hc)
         refine zx ?_
         try simp only [go_sem]
         repeat refine zq ?_
         refine zg follows (by decide +kernel) (by kernel_rfl) fun K hK=>?_;simp only [go_sem,hfk];(try simp (disch:=omega) only [zI]);repeat first | intro _ | refine ⟨by omega,?_⟩
         refine hK _ ?_;clear hK K
         try simp only [go_sem]
         repeat refine zq ?_
         refine zb fun K hK=>?_;simp only [go_sem];(try simp (disch:=omega) only [zI]);repeat first | intro _ | refine ⟨by omega,?_⟩
         refine hK _ ?_;clear hK K
         try simp only [go_sem]
         refine ⟨(k + 1,M ++ [(x.gm,x)]),⟨hck,fun i=>?_,?_,hsc⟩,?_,zj [9,10] ?_ ?_⟩
         · rw [mapS_app,hM,take_of_opt hx,seen_app]
         · rw [take_of_opt hx]
           intro z hz
           simp only [List.mem_append,List.mem_singleton] at hz
           rcases hz with hz | rfl
           · exact hI z hz
           · exact hb
         · simp only; omega
         · try simp only [go_sem]
         · try simp only [go_sem]
           simp
       | some jy =>
         obtain ⟨j,y⟩:=jy
         rw [hf] at hfk
         have hse' : seenL (l.take k) x.gm = some y:=by rw [← hse,mapS,hf]; rfl
         repeat refine zq ?_
         refine zg follows (by decide +kernel) (by kernel_rfl) fun K hK=>?_;simp only [go_sem,hfk,Option.map_some];(try simp (disch:=omega) only [zI]);repeat first | intro _ | refine ⟨by omega,?_⟩
         refine hK _ ?_;clear hK K
         try simp only [go_sem]
         repeat refine zq ?_
         refine zb fun K hK=>?_;simp only [go_sem,sheet_same,eqnS];(try simp (disch:=omega) only [zI])
         cases hsm : sameS y x with
         | false =>
           have hv : nightV r l = (zeroR,((k : Nat) : Int),6):=by
            rw [nightV,if_neg (by simp [hr]),if_neg h1,hS,drop_of_opt hx,scanN,if_pos hb,hse']
            simp only [hsm]
            simp; omega
           repeat first | intro _ | refine ⟨by omega,?_⟩
           refine hK _ ?_;clear hK K;rw [hv]
           repeat refine zq ?_
           refine zc rfl (fun hc=>?_) (fun hc=>?_) <;> (try simp only [go_sem] at hc)
           repeat refine zq ?_
           refine zb fun K hK=>?_;simp only [go_sem];(try simp (disch:=omega) only [zI]);repeat first | intro _ | refine ⟨by omega,?_⟩
           refine hK _ ?_;clear hK K;refine ze ?_;simp only [go_sem]
           simp [zeroR]
         | true =>
           have hyx:=sameS_eq.1 hsm
           subst hyx
           obtain ⟨_,hj⟩:=findS_some hf
           rw [Nat.sub_zero] at hj
           have hset:=encS_set hj
           have hsc : scanN r [] l = scanN r (l.take (k + 1)) (l.drop (k + 1)):=by
            rw [hS,drop_of_opt hx,scanN,if_pos hb,hse',take_of_opt hx]
            simp only [hsm,if_true]
           repeat first | intro _ | refine ⟨by omega,?_⟩
           refine hK _ ?_;clear hK K
           repeat refine zq ?_
           refine zc rfl (fun hc=>?_) (fun hc=>?_) <;> (try simp only [go_sem] at hc)
           refine zx ?_
           try simp only [go_sem]
           repeat refine zq ?_
           refine zg follows (by decide +kernel) (by kernel_rfl) fun K hK=>?_;simp only [go_sem,hfk,Option.map_some];(try simp (disch:=omega) only [zI]);repeat first | intro _ | refine ⟨by omega,?_⟩
           refine hK _ ?_;clear hK K
           try simp only [go_sem]
           repeat refine zq ?_
           refine zb fun K hK=>?_;simp only [go_sem];(try simp (disch:=omega) only [zI]);repeat first | intro _ | refine ⟨by omega,?_⟩
           refine hK _ ?_;clear hK K
           try simp only [go_sem]
           refine ⟨(k + 1,M),⟨hck,fun i=>?_,?_,hsc⟩,?_,zj [9,10] ?_ ?_⟩
           · rw [hM,take_of_opt hx,seen_app]
             by_cases hi : y.gm = i
             · subst hi; rw [hse']; rfl
             · rw [if_neg hi]; simp
           · rw [take_of_opt hx]
             intro z hz
             simp only [List.mem_append,List.mem_singleton] at hz
             rcases hz with hz | rfl
             · exact hI z hz
             · exact hb
           · simp only; omega
           · try simp only [go_sem]
           · try simp only [go_sem]
             simp [hset]
   · have : k = l.length:=by omega
     subst this
     rw [List.take_length] at hM hI
     have hfun : mapS M = seenL l:=funext hM
     have hF : OkF r (mapS M):=fun i x hx=>by
      rw [hM] at hx
      obtain ⟨h2,h3⟩:=seen_some hx
      exact ⟨hI x h2,h3⟩
     have hv : nightV r l = (nightR r (mapS M),0,0):=by
      rw [nightV,if_neg (by simp [hr]),if_neg h1,hS,List.drop_length,scanN,hfun]
     rw [hv]
     refine zf ?_;simp only [go_sem]
     repeat refine zq ?_
     refine zb fun K hK=>?_;simp only [go_sem];(try simp (disch:=omega) only [zI])
     refine xcall_mut (close_ok r M hr hF) [(1000,26),(1001,24)] rfl (by simp only [go_sem,i64,ints,zeroR]) (by simp only [go_sem,i64,ints,zeroR]) (by rfl) (by rfl) ?_
     (try simp only [go_sem,zeroR]);(try simp (disch:=omega) only [zI]);repeat first | intro _ | refine ⟨by omega,?_⟩
     refine hK _ ?_;clear hK K
     repeat refine zq ?_
     refine zb fun K hK=>?_;simp only [go_sem];(try simp (disch:=omega) only [zI]);repeat first | intro _ | refine ⟨by omega,?_⟩
     refine hK _ ?_;clear hK K;refine ze ?_;simp only [go_sem]
end Go.Proofs.Ytlljkgiomkmjbaa.Tm
