/- Part 6 of the texts of this claim. -/
import Derived.Test.YtlljkgiomkmjbaaVB5
import Derived.Test.YtlljkgiomkmjbaaVB4
import Derived.KernelRfl
namespace Go.Proofs.Ytlljkgiomkmjbaa.Du
open Go Go.Oc
set_option linter.unusedSimpArgs false
set_option linter.unusedVariables false
set_option maxRecDepth 8000
structure Bd where
 b : Int
 lo : Int
 hi : Int
structure Am where
 at_ : Int
 beds : List Bd
def bedR (x : Bd) : List RV:=[i64 x.b,i64 x.lo,i64 x.hi]
abbrev bedV (x : Bd) : RV:=.ag [i64 x.b,i64 x.lo,i64 x.hi]
abbrev bedsR (l : List Bd) : RV:=.sl 3 (l.map bedR)
def aimR (a : Am) : List RV:=[i64 a.at_,bedsR a.beds]
abbrev aimV (a : Am) : RV:=.ag [i64 a.at_,bedsR a.beds]
abbrev aimsR (l : List Am) : RV:=.sl 2 (l.map aimR)
abbrev lawV (d : Int) (l : List Am) : RV:=.ag [i64 d,aimsR l]
abbrev chV (a : Am) (d : Int) : RV:=.ag [i64 a.at_,bedsR a.beds,i64 d]
def I64 (n : Int) : Prop:=-9223372036854775808 ≤ n ∧ n ≤ 9223372036854775807
theorem within1_ok (n a b : Int) : ACalls Try.prog 186 [i64 n,.rp [i64 a],.rp [i64 b]] (.bo (decide (n < a) || decide (b < n))):=by
 refine acalls_st (rs:=[.bo (decide (n < a) || decide (b < n))]) [.tmp 4] Try.func186 rfl (by kernel_rfl) Try.ntmps186 rfl (by simp) rfl fun C vs=>?_
 repeat refine zq ?_
 refine zb fun K hK=>?_;simp only [go_sem];(try simp (disch:=omega) only [zI]);repeat first | intro _ | refine ⟨by omega,?_⟩
 refine hK _ ?_;clear hK K
 repeat refine zq ?_
 refine zb fun K hK=>?_;simp only [go_sem];(try simp (disch:=omega) only [zI])
 refine ⟨fun h=>?_,fun h=>?_⟩ <;>
 · repeat first | intro _ | refine ⟨by omega,?_⟩
   refine hK _ ?_;clear hK K;refine ze ?_;simp only [go_sem]
   try simp [h]
theorem index_ok (p : Int → Bool) (f : Nat) (caps : List RV) (l : List Int) (h : ∀ x ∈ l,ACalls Try.prog f (i64 x :: caps) (.bo (p x))) : ACalls Try.prog 160 [ints l,.fn f caps] (i64 (indexF p l)):=by
 refine acalls_st (rs:=[i64 (indexF p l)]) [.tmp 4] Try.func160 rfl (by kernel_rfl) Try.ntmps160 rfl (by simp) rfl fun C vs=>?_
 repeat refine zq ?_
 refine zb fun K hK=>?_;simp only [go_sem];(try simp (disch:=omega) only [zI]);repeat first | intro _ | refine ⟨by omega,?_⟩
 refine hK _ ?_;clear hK K
 repeat refine zq ?_
 refine zb fun K hK=>?_;simp only [go_sem];(try simp (disch:=omega) only [zI])
 intro hl
 repeat first | intro _ | refine ⟨by omega,?_⟩
 refine hK _ ?_;clear hK K
 repeat refine zq ?_
 refine zd ?_
 refine awp_upto (n:=19) l.length (fun i vs=>[(0,.r (ints l)),(1,.r (.fn f caps)),(7,.r (i64 l.length)),(8,.r (i64 i))]) (fun _=>[])
  (fun i=>indexF p l = if indexF p (l.drop i) < 0 then -1 else i + indexF p (l.drop i)) 0 (fit_of [] ?_ rfl) (Nat.zero_le _) ?_ ?_
 · try simp only [go_sem]
 · simp only [List.drop_zero]
   have:=indexF_ge p l
   split
   · omega
   · simp
 · intro i vs hi hI
   repeat refine zq ?_
   refine zb fun K hK=>?_;simp only [go_sem];(try simp (disch:=omega) only [zI]);repeat first | intro _ | refine ⟨by omega,?_⟩
   refine hK _ ?_;clear hK K
   repeat refine zq ?_
   refine zc rfl (fun hc=>?_) (fun hc=>?_) <;> (try simp only [go_sem] at hc)
   · obtain ⟨x,hx⟩:=opt_of_lt hc
     rw [drop_of_opt hx] at hI
     refine zx ?_
     repeat refine zq ?_
     refine zd ?_
     repeat refine zq ?_
     refine zb fun K hK=>?_;simp only [go_sem];(try simp (disch:=omega) only [zI]);repeat first | intro _ | refine ⟨by omega,?_⟩
     refine hK _ ?_;clear hK K
     repeat refine zq ?_
     refine zb fun K hK=>?_;simp only [go_sem,hx,hc,bedR,aimR];(try simp (disch:=omega) only [zI])
     refine zh (h x (mem_of_opt hx)) rfl (by simp only [go_sem,i64,ints]) (by simp only [go_sem,i64,ints]) (by first | exact .inl rfl | exact .inr rfl) ?_
     (try simp only [go_sem]);(try simp (disch:=omega) only [zI]);repeat first | intro _ | refine ⟨by omega,?_⟩
     refine hK _ ?_;clear hK K
     repeat refine zq ?_
     refine zc rfl (fun hc=>?_) (fun hc=>?_) <;> (try simp only [go_sem] at hc)
     · repeat refine zq ?_
       refine zb fun K hK=>?_;simp only [go_sem];(try simp (disch:=omega) only [zI]);repeat first | intro _ | refine ⟨by omega,?_⟩
       refine hK _ ?_;clear hK K;refine ze ?_;simp only [go_sem]
       simp [hI,indexF,hc]
     · refine zx ?_
       try simp only [go_sem]
       repeat refine zq ?_
       refine zb fun K hK=>?_;simp only [go_sem];(try simp (disch:=omega) only [zI]);repeat first | intro _ | refine ⟨by omega,?_⟩
       refine hK _ ?_;clear hK K
       try simp only [go_sem]
       refine ⟨‹_›,?_,fit_of [] ?_ rfl⟩
       · rw [hI]
         simp only [indexF,hc,Bool.false_eq_true,if_false]
         have:=indexF_ge p (l.drop (i + 1))
         (repeat' split) <;> omega
       · try simp only [go_sem]
   · refine zf ?_;simp only [go_sem]
     repeat refine zq ?_
     refine zb fun K hK=>?_;simp only [go_sem];(try simp (disch:=omega) only [zI]);repeat first | intro _ | refine ⟨by omega,?_⟩
     refine hK _ ?_;clear hK K;refine ze ?_;simp only [go_sem]
     have : l.drop i = []:=List.drop_eq_nil_of_le (by omega)
     simp [hI,this,indexF]
theorem contains_ok (p : Int → Bool) (f : Nat) (caps : List RV) (l : List Int) (h : ∀ x ∈ l,ACalls Try.prog f (i64 x :: caps) (.bo (p x))) : ACalls Try.prog 92 [ints l,.fn f caps] (.bo (l.any p)):=by
 refine acalls_st (rs:=[.bo (l.any p)]) [.tmp 4] Try.func92 rfl (by kernel_rfl) Try.ntmps92 rfl (by simp) rfl fun C vs=>?_
 repeat refine zq ?_
 refine zb fun K hK=>?_;simp only [go_sem];(try simp (disch:=omega) only [zI]);repeat first | intro _ | refine ⟨by omega,?_⟩
 refine hK _ ?_;clear hK K
 repeat refine zq ?_
 refine zb fun K hK=>?_;simp only [go_sem];(try simp (disch:=omega) only [zI])
 refine zh (index_ok p f caps l h) rfl (by simp only [go_sem,i64,ints]) (by simp only [go_sem,i64,ints]) (by first | exact .inl rfl | exact .inr rfl) ?_
 (try simp only [go_sem]);(try simp (disch:=omega) only [zI]);repeat first | intro _ | refine ⟨by omega,?_⟩
 refine hK _ ?_;clear hK K;refine ze ?_;simp only [go_sem];rw [← indexF_any]
def withinL (a b : Int) (l : List Int) : Bool:=l.all fun n=>decide (a ≤ n) && decide (n ≤ b)
theorem withinL_not (a b : Int) (l : List Int) : (!(l.any fun n=>decide (n < a) || decide (b < n))) = withinL a b l:=by
 unfold withinL
 rw [List.not_any_eq_all_not]
 congr 1
 funext n
 by_cases h1 : n < a <;> by_cases h2 : b < n <;> simp [h1,h2] <;> omega
theorem within_ok (a b : Int) (l : List Int) : ACalls Try.prog 123 [i64 a,i64 b,ints l] (.bo (withinL a b l)):=by
 refine acalls_st (rs:=[.bo (withinL a b l)]) [.tmp 6] Try.func123 rfl (by kernel_rfl) Try.ntmps123 rfl (by simp) rfl fun C vs=>?_
 repeat refine zq ?_
 refine zb fun K hK=>?_;simp only [go_sem];(try simp (disch:=omega) only [zI]);repeat first | intro _ | refine ⟨by omega,?_⟩
 refine hK _ ?_;clear hK K
 repeat refine zq ?_
 refine zb fun K hK=>?_;simp only [go_sem];(try simp (disch:=omega) only [zI])
 refine zh (contains_ok (fun n=>decide (n < a) || decide (b < n)) 186 [.rp [i64 a],.rp [i64 b]] l fun x _=>within1_ok x a b) rfl (by simp only [go_sem,i64,ints]) (by simp only [go_sem,i64,ints]) (by first | exact .inl rfl | exact .inr rfl) ?_
 (try simp only [go_sem]);(try simp (disch:=omega) only [zI]);repeat first | intro _ | refine ⟨by omega,?_⟩
 refine hK _ ?_;clear hK K;refine ze ?_;simp only [go_sem];rw [← withinL_not]
theorem indexB_ok (p : Bd → Bool) (f : Nat) (caps : List RV) (l : List Bd) (h : ∀ x ∈ l,ACalls Try.prog f (bedV x :: caps) (.bo (p x))) : ACalls Try.prog 240 [bedsR l,.fn f caps] (i64 (indexF p l)):=by
 refine acalls_st (rs:=[i64 (indexF p l)]) [.tmp 4] Try.func240 rfl (by kernel_rfl) Try.ntmps240 rfl (by simp) rfl fun C vs=>?_
 repeat refine zq ?_
 refine zb fun K hK=>?_;simp only [go_sem];(try simp (disch:=omega) only [zI]);repeat first | intro _ | refine ⟨by omega,?_⟩
 refine hK _ ?_;clear hK K
 repeat refine zq ?_
 refine zb fun K hK=>?_;simp only [go_sem];(try simp (disch:=omega) only [zI])
 intro hl
 repeat first | intro _ | refine ⟨by omega,?_⟩
 refine hK _ ?_;clear hK K
 repeat refine zq ?_
 refine zd ?_
 refine awp_upto (n:=19) l.length (fun i vs=>[(0,.r (bedsR l)),(1,.r (.fn f caps)),(7,.r (i64 l.length)),(8,.r (i64 i))]) (fun _=>[])
  (fun i=>indexF p l = if indexF p (l.drop i) < 0 then -1 else i + indexF p (l.drop i)) 0 (fit_of [] ?_ rfl) (Nat.zero_le _) ?_ ?_
 · try simp only [go_sem]
 · simp only [List.drop_zero]
   have:=indexF_ge p l
   split
   · omega
   · simp
 · intro i vs hi hI
   repeat refine zq ?_
   refine zb fun K hK=>?_;simp only [go_sem];(try simp (disch:=omega) only [zI]);repeat first | intro _ | refine ⟨by omega,?_⟩
   refine hK _ ?_;clear hK K
   repeat refine zq ?_
   refine zc rfl (fun hc=>?_) (fun hc=>?_) <;> (try simp only [go_sem] at hc)
   · obtain ⟨x,hx⟩:=opt_of_lt hc
     rw [drop_of_opt hx] at hI
     refine zx ?_
     repeat refine zq ?_
     refine zd ?_
     repeat refine zq ?_
     refine zb fun K hK=>?_;simp only [go_sem];(try simp (disch:=omega) only [zI]);repeat first | intro _ | refine ⟨by omega,?_⟩
     refine hK _ ?_;clear hK K
     repeat refine zq ?_
     refine zb fun K hK=>?_;simp only [go_sem,hx,hc,bedR,aimR];(try simp (disch:=omega) only [zI])
     refine zh (h x (mem_of_opt hx)) rfl (by simp only [go_sem,i64,ints]) (by simp only [go_sem,i64,ints]) (by first | exact .inl rfl | exact .inr rfl) ?_
     (try simp only [go_sem]);(try simp (disch:=omega) only [zI]);repeat first | intro _ | refine ⟨by omega,?_⟩
     refine hK _ ?_;clear hK K
     repeat refine zq ?_
     refine zc rfl (fun hc=>?_) (fun hc=>?_) <;> (try simp only [go_sem] at hc)
     · repeat refine zq ?_
       refine zb fun K hK=>?_;simp only [go_sem];(try simp (disch:=omega) only [zI]);repeat first | intro _ | refine ⟨by omega,?_⟩
       refine hK _ ?_;clear hK K;refine ze ?_;simp only [go_sem]
       simp [hI,indexF,hc]
     · refine zx ?_
       try simp only [go_sem]
       repeat refine zq ?_
       refine zb fun K hK=>?_;simp only [go_sem];(try simp (disch:=omega) only [zI]);repeat first | intro _ | refine ⟨by omega,?_⟩
       refine hK _ ?_;clear hK K
       try simp only [go_sem]
       refine ⟨‹_›,?_,fit_of [] ?_ rfl⟩
       · rw [hI]
         simp only [indexF,hc,Bool.false_eq_true,if_false]
         have:=indexF_ge p (l.drop (i + 1))
         (repeat' split) <;> omega
       · try simp only [go_sem]
   · refine zf ?_;simp only [go_sem]
     repeat refine zq ?_
     refine zb fun K hK=>?_;simp only [go_sem];(try simp (disch:=omega) only [zI]);repeat first | intro _ | refine ⟨by omega,?_⟩
     refine hK _ ?_;clear hK K;refine ze ?_;simp only [go_sem]
     have : l.drop i = []:=List.drop_eq_nil_of_le (by omega)
     simp [hI,this,indexF]
theorem containsB_ok (p : Bd → Bool) (f : Nat) (caps : List RV) (l : List Bd) (h : ∀ x ∈ l,ACalls Try.prog f (bedV x :: caps) (.bo (p x))) : ACalls Try.prog 222 [bedsR l,.fn f caps] (.bo (l.any p)):=by
 refine acalls_st (rs:=[.bo (l.any p)]) [.tmp 4] Try.func222 rfl (by kernel_rfl) Try.ntmps222 rfl (by simp) rfl fun C vs=>?_
 repeat refine zq ?_
 refine zb fun K hK=>?_;simp only [go_sem];(try simp (disch:=omega) only [zI]);repeat first | intro _ | refine ⟨by omega,?_⟩
 refine hK _ ?_;clear hK K
 repeat refine zq ?_
 refine zb fun K hK=>?_;simp only [go_sem];(try simp (disch:=omega) only [zI])
 refine zh (indexB_ok p f caps l h) rfl (by simp only [go_sem,i64,ints]) (by simp only [go_sem,i64,ints]) (by first | exact .inl rfl | exact .inr rfl) ?_
 (try simp only [go_sem]);(try simp (disch:=omega) only [zI]);repeat first | intro _ | refine ⟨by omega,?_⟩
 refine hK _ ?_;clear hK K;refine ze ?_;simp only [go_sem];rw [← indexF_any]
theorem indexA_ok (p : Am → Bool) (f : Nat) (caps : List RV) (l : List Am) (h : ∀ x ∈ l,ACalls Try.prog f (aimV x :: caps) (.bo (p x))) : ACalls Try.prog 221 [aimsR l,.fn f caps] (i64 (indexF p l)):=by
 refine acalls_st (rs:=[i64 (indexF p l)]) [.tmp 4] Try.func221 rfl (by kernel_rfl) Try.ntmps221 rfl (by simp) rfl fun C vs=>?_
 repeat refine zq ?_
 refine zb fun K hK=>?_;simp only [go_sem];(try simp (disch:=omega) only [zI]);repeat first | intro _ | refine ⟨by omega,?_⟩
 refine hK _ ?_;clear hK K
 repeat refine zq ?_
 refine zb fun K hK=>?_;simp only [go_sem];(try simp (disch:=omega) only [zI])
 intro hl
 repeat first | intro _ | refine ⟨by omega,?_⟩
 refine hK _ ?_;clear hK K
 repeat refine zq ?_
 refine zd ?_
 refine awp_upto (n:=19) l.length (fun i vs=>[(0,.r (aimsR l)),(1,.r (.fn f caps)),(7,.r (i64 l.length)),(8,.r (i64 i))]) (fun _=>[])
  (fun i=>indexF p l = if indexF p (l.drop i) < 0 then -1 else i + indexF p (l.drop i)) 0 (fit_of [] ?_ rfl) (Nat.zero_le _) ?_ ?_
 · try simp only [go_sem]
 · simp only [List.drop_zero]
   have:=indexF_ge p l
   split
   · omega
   · simp
 · intro i vs hi hI
   repeat refine zq ?_
   refine zb fun K hK=>?_;simp only [go_sem];(try simp (disch:=omega) only [zI]);repeat first | intro _ | refine ⟨by omega,?_⟩
   refine hK _ ?_;clear hK K
   repeat refine zq ?_
   refine zc rfl (fun hc=>?_) (fun hc=>?_) <;> (try simp only [go_sem] at hc)
   · obtain ⟨x,hx⟩:=opt_of_lt hc
     rw [drop_of_opt hx] at hI
     refine zx ?_
     repeat refine zq ?_
     refine zd ?_
     repeat refine zq ?_
     refine zb fun K hK=>?_;simp only [go_sem];(try simp (disch:=omega) only [zI]);repeat first | intro _ | refine ⟨by omega,?_⟩
     refine hK _ ?_;clear hK K
     repeat refine zq ?_
     refine zb fun K hK=>?_;simp only [go_sem,hx,hc,bedR,aimR];(try simp (disch:=omega) only [zI])
     refine zh (h x (mem_of_opt hx)) rfl (by simp only [go_sem,i64,ints]) (by simp only [go_sem,i64,ints]) (by first | exact .inl rfl | exact .inr rfl) ?_
     (try simp only [go_sem]);(try simp (disch:=omega) only [zI]);repeat first | intro _ | refine ⟨by omega,?_⟩
     refine hK _ ?_;clear hK K
     repeat refine zq ?_
     refine zc rfl (fun hc=>?_) (fun hc=>?_) <;> (try simp only [go_sem] at hc)
     · repeat refine zq ?_
       refine zb fun K hK=>?_;simp only [go_sem];(try simp (disch:=omega) only [zI]);repeat first | intro _ | refine ⟨by omega,?_⟩
       refine hK _ ?_;clear hK K;refine ze ?_;simp only [go_sem]
       simp [hI,indexF,hc]
     · refine zx ?_
       try simp only [go_sem]
       repeat refine zq ?_
       refine zb fun K hK=>?_;simp only [go_sem];(try simp (disch:=omega) only [zI]);repeat first | intro _ | refine ⟨by omega,?_⟩
       refine hK _ ?_;clear hK K
       try simp only [go_sem]
       refine ⟨‹_›,?_,fit_of [] ?_ rfl⟩
       · rw [hI]
         simp only [indexF,hc,Bool.false_eq_true,if_false]
         have:=indexF_ge p (l.drop (i + 1))
         (repeat' split) <;> omega
       · try simp only [go_sem]
   · refine zf ?_;simp only [go_sem]
     repeat refine zq ?_
     refine zb fun K hK=>?_;simp only [go_sem];(try simp (disch:=omega) only [zI]);repeat first | intro _ | refine ⟨by omega,?_⟩
     refine hK _ ?_;clear hK K;refine ze ?_;simp only [go_sem]
     have : l.drop i = []:=List.drop_eq_nil_of_le (by omega)
     simp [hI,this,indexF]
theorem containsA_ok (p : Am → Bool) (f : Nat) (caps : List RV) (l : List Am) (h : ∀ x ∈ l,ACalls Try.prog f (aimV x :: caps) (.bo (p x))) : ACalls Try.prog 183 [aimsR l,.fn f caps] (.bo (l.any p)):=by
 refine acalls_st (rs:=[.bo (l.any p)]) [.tmp 4] Try.func183 rfl (by kernel_rfl) Try.ntmps183 rfl (by simp) rfl fun C vs=>?_
 repeat refine zq ?_
 refine zb fun K hK=>?_;simp only [go_sem];(try simp (disch:=omega) only [zI]);repeat first | intro _ | refine ⟨by omega,?_⟩
 refine hK _ ?_;clear hK K
 repeat refine zq ?_
 refine zb fun K hK=>?_;simp only [go_sem];(try simp (disch:=omega) only [zI])
 refine zh (indexA_ok p f caps l h) rfl (by simp only [go_sem,i64,ints]) (by simp only [go_sem,i64,ints]) (by first | exact .inl rfl | exact .inr rfl) ?_
 (try simp only [go_sem]);(try simp (disch:=omega) only [zI]);repeat first | intro _ | refine ⟨by omega,?_⟩
 refine hK _ ?_;clear hK K;refine ze ?_;simp only [go_sem];rw [← indexF_any]
def bedOk (b : Int) : Bool:=decide (b = 125) || decide (b = 225) || (decide (100 ≤ b) && decide (b ≤ 499) && decide (1 ≤ b % 100) && decide (b % 100 ≤ 20))
theorem tdivN {b : Int} (h : b ≤ 0) : b.tdiv 100 = -((-b) / 100):=by
 rw [← Int.tdiv_eq_ediv_of_nonneg (by omega),Int.neg_tdiv,Int.neg_neg]
theorem tdiv100 {b : Int} (h : I64 b) : IntKind.i64.wrap (b.tdiv 100) = b.tdiv 100:=by
 unfold I64 at h
 by_cases h0 : 0 ≤ b
 · rw [Int.tdiv_eq_ediv_of_nonneg h0,zI] <;> omega
 · rw [tdivN (by omega),zI] <;> omega
theorem tdiv_lt {b : Int} (h : b < 100) : b.tdiv 100 ≤ 0:=by
 by_cases h0 : 0 ≤ b
 · rw [Int.tdiv_eq_ediv_of_nonneg h0]; omega
 · rw [tdivN (by omega)]; omega
theorem bedOk_within (b : Int) : (withinL 1 4 [b.tdiv 100] && withinL 1 20 [b.tmod 100] || b == 125 || b == 225) = bedOk b:=by
 unfold bedOk withinL
 by_cases h : b < 100
 · have h1:=tdiv_lt h
   have e1 : decide (1 ≤ b.tdiv 100) = false:=by simp; omega
   have e2 : decide (100 ≤ b) = false:=by simp; omega
   have e3 : decide (b = 125) = false:=by simp; omega
   have e4 : decide (b = 225) = false:=by simp; omega
   have e5 : (b == 125) = false:=by simp; omega
   have e6 : (b == 225) = false:=by simp; omega
   simp [e1,e2,e3,e4,e5,e6]
 · rw [Int.tdiv_eq_ediv_of_nonneg (by omega),Int.tmod_eq_emod_of_nonneg (by omega)]
   have e : (decide (1 ≤ b / 100) && decide (b / 100 ≤ 4)) = (decide (100 ≤ b) && decide (b ≤ 499)):=by
    by_cases h2 : b ≤ 499
    · have : b / 100 ≤ 4:=by omega
      have : 1 ≤ b / 100:=by omega
      have : 100 ≤ b:=by omega
      simp [*]
    · have : ¬ b / 100 ≤ 4:=by omega
      simp [*]
   simp only [List.all_cons,List.all_nil,Bool.and_true,e]
   have e1 : (b == 125) = decide (b = 125):=by rw [Bool.eq_iff_iff]; simp
   have e2 : (b == 225) = decide (b = 225):=by rw [Bool.eq_iff_iff]; simp
   rw [e1,e2]
   cases decide (b = 125) <;> cases decide (b = 225) <;> simp [Bool.and_assoc]
theorem isBed_ok (b : Int) (hb : I64 b) : ACalls Try.prog 189 [i64 b] (.bo (bedOk b)):=by
 have hq:=tdiv100 hb
 refine acalls_st (rs:=[.bo (bedOk b)]) [.tmp 2] Try.func189 rfl (by kernel_rfl) Try.ntmps189 rfl (by simp) rfl fun C vs=>?_
 repeat refine zq ?_
 refine zb fun K hK=>?_;simp only [go_sem];(try simp (disch:=omega) only [zI]);repeat first | intro _ | refine ⟨by omega,?_⟩
 refine hK _ ?_;clear hK K
 repeat refine zq ?_
 refine zb fun K hK=>?_;simp only [go_sem,hq];(try simp (disch:=omega) only [zI]);repeat first | intro _ | refine ⟨by omega,?_⟩
 refine hK _ ?_;clear hK K
 repeat refine zq ?_
 refine zb fun K hK=>?_;simp only [go_sem];(try simp (disch:=omega) only [zI])
 refine zh (within_ok 1 4 [b.tdiv 100]) rfl (by simp only [go_sem,i64,ints]) (by simp only [go_sem,i64,ints]) (by first | exact .inl rfl | exact .inr rfl) ?_
 (try simp only [go_sem]);(try simp (disch:=omega) only [zI])
 have hw:=bedOk_within b
 refine ⟨fun h1=>?_,fun h1=>?_⟩
 · refine zh (within_ok 1 20 [b.tmod 100]) rfl (by simp only [go_sem,i64,ints]) (by simp only [go_sem,i64,ints]) (by first | exact .inl rfl | exact .inr rfl) ?_
   (try simp only [go_sem]);(try simp (disch:=omega) only [zI])
   repeat' first | intro _ | refine And.intro ?_ ?_
   all_goals first | omega | skip
   all_goals (refine hK _ ?_; clear hK K)
   all_goals (refine ze ?_; simp only [go_sem])
   all_goals (rw [← hw]; clear hw; simp [*])
 · repeat' first | intro _ | refine And.intro ?_ ?_
   all_goals first | omega | skip
   all_goals (refine hK _ ?_; clear hK K)
   all_goals (refine ze ?_; simp only [go_sem])
   all_goals (rw [← hw]; clear hw; simp [*])
def scoreOf (b : Int) : Int:=b / 100 * (b % 100)
theorem score_le {b : Int} (h0 : 0 ≤ b) (h1 : b ≤ 499) : 0 ≤ scoreOf b ∧ scoreOf b ≤ 396:=by
 unfold scoreOf
 have h2 : 0 ≤ b / 100:=by omega
 have h3 : b / 100 ≤ 4:=by omega
 refine ⟨Int.mul_nonneg h2 (by omega),?_⟩
 have:=Int.mul_le_mul h3 (show b % 100 ≤ 99 by omega) (by omega) (by omega)
 omega
theorem score_mul {b : Int} (h0 : 0 ≤ b) (h1 : b ≤ 499) : IntKind.i64.wrap (b.tdiv 100 * b.tmod 100) = scoreOf b:=by
 have:=score_le h0 h1
 rw [Int.tdiv_eq_ediv_of_nonneg h0,Int.tmod_eq_emod_of_nonneg h0]
 show IntKind.i64.wrap (scoreOf b) = _
 rw [zI] <;> omega
def loS (l : List Bd) : Int:=(l.map (·.lo)).sum
def hiS (l : List Bd) : Int:=(l.map (·.hi)).sum
theorem loS_snoc (l : List Bd) (x : Bd) : loS (l ++ [x]) = loS l + x.lo:=by simp [loS]
theorem hiS_snoc (l : List Bd) (x : Bd) : hiS (l ++ [x]) = hiS l + x.hi:=by simp [hiS]
def Small (l : List Bd) : Prop:=∀ x ∈ l,(0 ≤ x.lo ∧ x.lo ≤ 6000) ∧ 0 ≤ x.hi ∧ x.hi ≤ 6000
theorem sums_le : ∀ {l : List Bd},Small l → (0 ≤ loS l ∧ loS l ≤ 6000 * l.length) ∧ 0 ≤ hiS l ∧ hiS l ≤ 6000 * l.length
 | [],_=>by simp [loS,hiS]
 | x :: l, h => by
   have h1:=h x (by simp)
   have h2:=sums_le (l:=l) fun y hy=>h y (by simp [hy])
   simp only [loS,hiS,List.map_cons,List.sum_cons,List.length_cons] at h2 ⊢
   omega
theorem Small.take {l : List Bd} (h : Small l) (i : Nat) : Small (l.take i):=fun x hx=>h x (List.mem_of_mem_take hx)
theorem sums_ok (a : Int) (l : List Bd) (d : Int) (hs : Small l) (hl : l.length ≤ 1000) : ACalls Try.prog 224 [.ag [i64 a,bedsR l,i64 d]] (.ag [i64 (loS l),i64 (hiS l)]):=by
 refine acalls_st (rs:=[.ag [i64 (loS l),i64 (hiS l)]]) [.cell 2 30] Try.func224 rfl (by kernel_rfl) Try.ntmps224 rfl (by simp) rfl fun C vs=>?_
 repeat refine zq ?_
 refine zb fun K hK=>?_;simp only [go_sem];(try simp (disch:=omega) only [zI]);repeat first | intro _ | refine ⟨by omega,?_⟩
 refine hK _ ?_;clear hK K;refine zw (zk [1,2]) ?_;simp only [go_sem]
 repeat refine zq ?_
 refine zb fun K hK=>?_;simp only [go_sem];(try simp (disch:=omega) only [zI])
 intro _
 repeat first | intro _ | refine ⟨by omega,?_⟩
 refine hK _ ?_;clear hK K;refine zw (zk [2,7,8,9]) ?_;simp only [go_sem]
 repeat refine zq ?_
 refine zd ?_
 refine awp_upto (n:=29) l.length (fun i vs=>[(2,.pt 2 (vs 2) 0),(7,.r (bedsR l)),(8,.r (i64 l.length)),(9,.r (i64 i))])
  (fun i=>[(2,.box [.r (i64 (loS (l.take i))),.r (i64 (hiS (l.take i)))])]) (fun _=>True) 0 (fit_of [1] ?_ ?_) (Nat.zero_le _) trivial ?_
 · try simp only [go_sem]
 · try simp only [go_sem]
   simp [loS,hiS]
 · intro i vs hi _
   repeat refine zq ?_
   refine zb fun K hK=>?_;simp only [go_sem];(try simp (disch:=omega) only [zI]);repeat first | intro _ | refine ⟨by omega,?_⟩
   refine hK _ ?_;clear hK K
   repeat refine zq ?_
   refine zc rfl (fun hc=>?_) (fun hc=>?_) <;> (try simp only [go_sem] at hc)
   · obtain ⟨x,hx⟩:=opt_of_lt hc
     have hb:=sums_le (hs.take (i + 1))
     have ht:=take_of_opt hx
     have hlt : (l.take (i + 1)).length ≤ 1000:=by rw [List.length_take]; omega
     rw [ht,loS_snoc,hiS_snoc] at hb
     rw [ht] at hlt
     refine zx ?_
     repeat refine zq ?_
     refine zd ?_
     repeat refine zq ?_
     refine zb fun K hK=>?_;simp only [go_sem,hx,hc,bedR];(try simp (disch:=omega) only [zI]);repeat first | intro _ | refine ⟨by omega,?_⟩
     refine hK _ ?_;clear hK K;refine zw (zk [2,4,7,8,9]) ?_;simp only [go_sem]
     repeat refine zq ?_
     refine awp_dreg2 [(2,some 2),(4,some 4)] follows (by decide +kernel) (by kernel_rfl) (by simp only [keysOk,List.mem_cons,List.not_mem_nil,forall_eq_or_imp,Oc.keyOf,go_sem]; simp) fun K hK=>?_
     simp only [go_sem];(try simp (disch:=omega) only [zI]);repeat first | intro _ | refine ⟨by omega,?_⟩
     refine hK _ ?_;clear hK K;refine zw (zk [2,7,8,9]) ?_;simp only [go_sem]
     repeat refine zq ?_
     refine zb fun K hK=>?_;simp only [go_sem];(try simp (disch:=omega) only [zI]);repeat first | intro _ | refine ⟨by omega,?_⟩
     refine hK _ ?_;clear hK K
     try simp only [go_sem]
     refine ⟨hc,fit_of [4] ?_ ?_⟩
     · try simp only [go_sem]
     · try simp only [go_sem]
       rw [ht,loS_snoc,hiS_snoc]
   · refine zf ?_;simp only [go_sem]
     repeat refine zq ?_
     refine zb fun K hK=>?_;simp only [go_sem];(try simp (disch:=omega) only [zI]);repeat first | intro _ | refine ⟨by omega,?_⟩
     refine hK _ ?_;clear hK K;refine zw (zk [2]) ?_;simp only [go_sem];refine ze ?_;simp only [go_sem]
     have : l.take i = l:=List.take_of_length_le (by omega)
     simp [this]
def seqOk : Option Int → List Bd → Bool
 | _,[]=>true
 | p,x :: l=>(decide (x.b = 0) || bedOk x.b) && (match p with | none=>true | some q=>decide (q < x.b)) && seqOk (some x.b) l
def prevB (l : List Bd) : Nat → Option Int
 | 0=>none
 | i + 1=>(l[i]?).map (·.b)
def Wf (l : List Bd) : Prop:=∀ x ∈ l,I64 x.b ∧ I64 x.lo ∧ I64 x.hi
theorem areBeds_ok (a : Int) (l : List Bd) (d : Int) (ha : I64 a) (hw : Wf l) : ACalls Try.prog 130 [.ag [i64 a,bedsR l,i64 d]] (.bo (bedOk a && !l.isEmpty && seqOk none l)):=by
 refine acalls_st (rs:=[.bo (bedOk a && !l.isEmpty && seqOk none l)]) [.tmp 2] Try.func130 rfl (by kernel_rfl) Try.ntmps130 rfl (by simp) rfl fun C vs=>?_
 repeat refine zq ?_
 refine zb fun K hK=>?_;simp only [go_sem];(try simp (disch:=omega) only [zI]);repeat first | intro _ | refine ⟨by omega,?_⟩
 refine hK _ ?_;clear hK K;refine zw (zk [1]) ?_;simp only [go_sem]
 repeat refine zq ?_
 refine zb fun K hK=>?_;simp only [go_sem];(try simp (disch:=omega) only [zI])
 refine zh (isBed_ok a ha) rfl (by simp only [go_sem,i64,ints]) (by simp only [go_sem,i64,ints]) (by first | exact .inl rfl | exact .inr rfl) ?_
 (try simp only [go_sem]);(try simp (disch:=omega) only [zI])
 cases hA : bedOk a
 · try simp only [go_sem]
   repeat first | intro _ | refine ⟨by omega,?_⟩
   refine hK _ ?_;clear hK K
   repeat refine zq ?_
   refine zc rfl (fun hc=>?_) (fun hc=>?_) <;> (try simp only [go_sem] at hc)
   repeat refine zq ?_
   refine zb fun K hK=>?_;simp only [go_sem];(try simp (disch:=omega) only [zI]);repeat first | intro _ | refine ⟨by omega,?_⟩
   refine hK _ ?_;clear hK K;refine ze ?_;simp only [go_sem]
   simp [hA]
 try simp only [go_sem]
 intro _
 cases hE : l.isEmpty
 case true =>
  have h0 : l = []:=List.isEmpty_iff.1 hE
  subst h0
  try simp only [go_sem]
  repeat first | intro _ | refine ⟨by omega,?_⟩
  refine hK _ ?_;clear hK K
  repeat refine zq ?_
  refine zc rfl (fun hc=>?_) (fun hc=>?_) <;> (try simp only [go_sem] at hc)
  repeat refine zq ?_
  refine zb fun K hK=>?_;simp only [go_sem];(try simp (disch:=omega) only [zI]);repeat first | intro _ | refine ⟨by omega,?_⟩
  refine hK _ ?_;clear hK K;refine ze ?_;simp only [go_sem]
  simp
 have hne : ((l.length : Int) == 0) = false:=by
  cases l with
  | nil=>simp at hE
  | cons=>simp; omega
 rw [hne]
 repeat first | intro _ | refine ⟨by omega,?_⟩
 refine hK _ ?_;clear hK K;refine zw (zk [1,16]) ?_;simp only [go_sem]
 repeat refine zq ?_
 refine zc rfl (fun hc=>?_) (fun hc=>?_) <;> (try simp only [go_sem] at hc)
 refine zx ?_
 try simp only [go_sem]
 repeat refine zq ?_
 refine zb fun K hK=>?_;simp only [go_sem];(try simp (disch:=omega) only [zI])
 intro hl9
 repeat first | intro _ | refine ⟨by omega,?_⟩
 refine hK _ ?_;clear hK K;refine zw (zk [1,19,20,21]) ?_;simp only [go_sem]
 repeat refine zq ?_
 refine zd ?_
 refine awp_upto (n:=53) l.length (fun i vs=>[(1,.pt 1 (vs 1) 0),(19,.r (bedsR l)),(20,.r (i64 l.length)),(21,.r (i64 i))])
  (fun i=>[(1,.box [.r (i64 a),.r (bedsR l),.r (i64 d)])]) (fun i=>seqOk none l = seqOk (prevB l i) (l.drop i)) 0 (fit_of [] ?_ ?_) (Nat.zero_le _) rfl ?_
 · try simp only [go_sem]
 · try simp only [go_sem]
 · intro i vs hi hI
   repeat refine zq ?_
   refine zb fun K hK=>?_;simp only [go_sem];(try simp (disch:=omega) only [zI]);repeat first | intro _ | refine ⟨by omega,?_⟩
   refine hK _ ?_;clear hK K
   repeat refine zq ?_
   refine zc rfl (fun hc=>?_) (fun hc=>?_) <;> (try simp only [go_sem] at hc)
   · obtain ⟨x,hx⟩:=opt_of_lt hc
     rw [drop_of_opt hx] at hI
     obtain ⟨hxb,_,_⟩:=hw x (mem_of_opt hx)
     have hB : ACalls Try.prog 189 [i64 x.b] (.bo (bedOk x.b)):=isBed_ok x.b hxb
     refine zx ?_
     repeat refine zq ?_
     refine zd ?_
     repeat refine zq ?_
     refine zb fun K hK=>?_;simp only [go_sem,hx,hc,bedR];(try simp (disch:=omega) only [zI]);repeat first | intro _ | refine ⟨by omega,?_⟩
     refine hK _ ?_;clear hK K;refine zw (zk [1,3,4,19,20,21]) ?_;simp only [go_sem]
     have hp : ∀ q,prevB l i = some q → ∃ y j,i = j + 1 ∧ l[j]? = some y ∧ q = y.b:=fun q hq=>by
      cases i with
      | zero=>cases hq
      | succ j =>
        obtain ⟨y,hy⟩:=opt_of_lt (l:=l) (i:=j) (by omega)
        simp only [prevB,hy,Option.map_some,Option.some.injEq] at hq
        exact ⟨y,j,rfl,hy,hq.symm⟩
     cases hb0 : decide (x.b = 0) || bedOk x.b
     · have h0 : (x.b != 0) = true:=by simp_all
       have h1 : bedOk x.b = false:=by simp_all
       rw [h1] at hB
       repeat refine zq ?_
       refine awp_dreg2 [(1,some 1),(3,none),(4,some 4)] follows (by decide +kernel) (by kernel_rfl) (by simp only [keysOk,List.mem_cons,List.not_mem_nil,forall_eq_or_imp,Oc.keyOf,go_sem]; simp) fun K hK=>?_
       simp only [go_sem,h0];(try simp (disch:=omega) only [zI])
       refine zh (hB) rfl (by simp only [go_sem,i64,ints]) (by simp only [go_sem,i64,ints]) (by first | exact .inl rfl | exact .inr rfl) ?_
       (try simp only [go_sem]);(try simp (disch:=omega) only [zI]);repeat first | intro _ | refine ⟨by omega,?_⟩
       refine hK _ ?_;clear hK K;refine zw (zk [1,19,20,21,51]) ?_;simp only [go_sem]
       repeat refine zq ?_
       refine zc rfl (fun hc=>?_) (fun hc=>?_) <;> (try simp only [go_sem] at hc)
       repeat refine zq ?_
       refine zb fun K hK=>?_;simp only [go_sem];(try simp (disch:=omega) only [zI]);repeat first | intro _ | refine ⟨by omega,?_⟩
       refine hK _ ?_;clear hK K;refine ze ?_;simp only [go_sem]
       simp [hI,seqOk,hb0]
     have hnx : prevB l (i + 1) = some x.b:=by simp [prevB,hx]
     have hstep : seqOk none l = ((match prevB l i with | none=>true | some q=>decide (q < x.b)) && seqOk (prevB l (i + 1)) (l.drop (i + 1))):=by
      rw [hI,hnx]
      simp only [seqOk,hb0,Bool.true_and]
     cases i with
     | zero =>
       have hp0 : seqOk none l = seqOk (prevB l 1) (l.drop 1):=by simpa [prevB] using hstep
       by_cases h0 : x.b = 0
       · have e0 : (x.b != 0) = false:=by simp [h0]
         repeat refine zq ?_
         refine awp_dreg2 [(1,some 1),(3,none),(4,some 4)] follows (by decide +kernel) (by kernel_rfl) (by simp only [keysOk,List.mem_cons,List.not_mem_nil,forall_eq_or_imp,Oc.keyOf,go_sem]; simp) fun K hK=>?_
         simp only [go_sem,e0];(try simp (disch:=omega) only [zI]);repeat first | intro _ | refine ⟨by omega,?_⟩
         refine hK _ ?_;clear hK K;refine zw (zk [1,19,20,21,51]) ?_;simp only [go_sem]
         repeat refine zq ?_
         refine zc rfl (fun hc=>?_) (fun hc=>?_) <;> (try simp only [go_sem] at hc)
         refine zx ?_
         try simp only [go_sem]
         repeat refine zq ?_
         refine zb fun K hK=>?_;simp only [go_sem];(try simp (disch:=omega) only [zI]);repeat first | intro _ | refine ⟨by omega,?_⟩
         refine hK _ ?_;clear hK K
         try simp only [go_sem]
         exact ⟨by omega,hp0,fit_of [4] (by try simp only [go_sem]) (by try simp only [go_sem])⟩
       · have e0 : (x.b != 0) = true:=by simp [h0]
         have e1 : bedOk x.b = true:=by simpa [h0] using hb0
         rw [e1] at hB
         repeat refine zq ?_
         refine awp_dreg2 [(1,some 1),(3,none),(4,some 4)] follows (by decide +kernel) (by kernel_rfl) (by simp only [keysOk,List.mem_cons,List.not_mem_nil,forall_eq_or_imp,Oc.keyOf,go_sem]; simp) fun K hK=>?_
         simp only [go_sem,e0];(try simp (disch:=omega) only [zI])
         refine zh (hB) rfl (by simp only [go_sem,i64,ints]) (by simp only [go_sem,i64,ints]) (by first | exact .inl rfl | exact .inr rfl) ?_
         (try simp only [go_sem]);(try simp (disch:=omega) only [zI]);repeat first | intro _ | refine ⟨by omega,?_⟩
         refine hK _ ?_;clear hK K;refine zw (zk [1,19,20,21,51]) ?_;simp only [go_sem]
         repeat refine zq ?_
         refine zc rfl (fun hc=>?_) (fun hc=>?_) <;> (try simp only [go_sem] at hc)
         refine zx ?_
         try simp only [go_sem]
         repeat refine zq ?_
         refine zb fun K hK=>?_;simp only [go_sem];(try simp (disch:=omega) only [zI]);repeat first | intro _ | refine ⟨by omega,?_⟩
         refine hK _ ?_;clear hK K
         try simp only [go_sem]
         exact ⟨by omega,hp0,fit_of [4] (by try simp only [go_sem]) (by try simp only [go_sem])⟩
     | succ j =>
       obtain ⟨y,hy⟩:=opt_of_lt (l:=l) (i:=j) (by omega)
       have hpy : prevB l (j + 1) = some y.b:=by simp [prevB,hy]
       rw [hpy] at hstep
       have hj1 : IntKind.i64.wrap ((j : Int) + 1 - 1) = (j : Int):=by rw [zI] <;> omega
       have hj2 : j < l.length:=by omega
       have hj0 : (0 < (j : Int) + 1) = True:=by simp
       have go : ∀ (e : Bool),decide (x.b ≤ y.b) = e → (e = true → seqOk none l = false) ∧ (e = false → seqOk none l = seqOk (prevB l (j + 1 + 1)) (l.drop (j + 1 + 1))):=fun e he=>by
        refine ⟨fun h=>?_,fun h=>?_⟩
        · have : decide (y.b < x.b) = false:=by simp_all
          rw [hstep]; simp [this]
        · have : decide (y.b < x.b) = true:=by simp_all
          rw [hstep]; simp [this]
       obtain ⟨go1,go2⟩:=go _ rfl
       by_cases h0 : x.b = 0
       · have e0 : (x.b != 0) = false:=by simp [h0]
         repeat refine zq ?_
         refine awp_dreg2 [(1,some 1),(3,none),(4,some 4)] follows (by decide +kernel) (by kernel_rfl) (by simp only [keysOk,List.mem_cons,List.not_mem_nil,forall_eq_or_imp,Oc.keyOf,go_sem]; simp) fun K hK=>?_
         simp only [go_sem,e0,hj1,hj0,hy,bedR];(try simp (disch:=omega) only [zI]);repeat first | intro _ | refine ⟨by omega,?_⟩
         refine hK _ ?_;clear hK K;refine zw (zk [1,19,20,21,51]) ?_;simp only [go_sem]
         cases hle : decide (x.b ≤ y.b)
         · repeat refine zq ?_
           refine zc rfl (fun hc=>?_) (fun hc=>?_) <;> (try simp only [go_sem] at hc)
           refine zx ?_
           try simp only [go_sem]
           repeat refine zq ?_
           refine zb fun K hK=>?_;simp only [go_sem];(try simp (disch:=omega) only [zI]);repeat first | intro _ | refine ⟨by omega,?_⟩
           refine hK _ ?_;clear hK K
           try simp only [go_sem]
           exact ⟨by omega,go2 hle,fit_of [4] (by try simp only [go_sem]) (by try simp only [go_sem])⟩
         · repeat refine zq ?_
           refine zc rfl (fun hc=>?_) (fun hc=>?_) <;> (try simp only [go_sem] at hc)
           repeat refine zq ?_
           refine zb fun K hK=>?_;simp only [go_sem];(try simp (disch:=omega) only [zI]);repeat first | intro _ | refine ⟨by omega,?_⟩
           refine hK _ ?_;clear hK K;refine ze ?_;simp only [go_sem]
           simp [go1 hle]
       · have e0 : (x.b != 0) = true:=by simp [h0]
         have e1 : bedOk x.b = true:=by simpa [h0] using hb0
         rw [e1] at hB
         repeat refine zq ?_
         refine awp_dreg2 [(1,some 1),(3,none),(4,some 4)] follows (by decide +kernel) (by kernel_rfl) (by simp only [keysOk,List.mem_cons,List.not_mem_nil,forall_eq_or_imp,Oc.keyOf,go_sem]; simp) fun K hK=>?_
         simp only [go_sem,e0,hj1,hj0,hy,bedR];(try simp (disch:=omega) only [zI])
         refine zh (hB) rfl (by simp only [go_sem,i64,ints,hj1,hj0,hy,bedR]) (by simp only [go_sem,i64,ints,hj1,hj0,hy,bedR]) (by first | exact .inl rfl | exact .inr rfl) ?_
         (try simp only [go_sem,hj1,hj0,hy,bedR]);(try simp (disch:=omega) only [zI]);repeat first | intro _ | refine ⟨by omega,?_⟩
         refine hK _ ?_;clear hK K;refine zw (zk [1,19,20,21,51]) ?_;simp only [go_sem]
         cases hle : decide (x.b ≤ y.b)
         · repeat refine zq ?_
           refine zc rfl (fun hc=>?_) (fun hc=>?_) <;> (try simp only [go_sem] at hc)
           refine zx ?_
           try simp only [go_sem]
           repeat refine zq ?_
           refine zb fun K hK=>?_;simp only [go_sem];(try simp (disch:=omega) only [zI]);repeat first | intro _ | refine ⟨by omega,?_⟩
           refine hK _ ?_;clear hK K
           try simp only [go_sem]
           exact ⟨by omega,go2 hle,fit_of [4] (by try simp only [go_sem]) (by try simp only [go_sem])⟩
         · repeat refine zq ?_
           refine zc rfl (fun hc=>?_) (fun hc=>?_) <;> (try simp only [go_sem] at hc)
           repeat refine zq ?_
           refine zb fun K hK=>?_;simp only [go_sem];(try simp (disch:=omega) only [zI]);repeat first | intro _ | refine ⟨by omega,?_⟩
           refine hK _ ?_;clear hK K;refine ze ?_;simp only [go_sem]
           simp [go1 hle]
   · refine zf ?_;simp only [go_sem]
     repeat refine zq ?_
     refine zb fun K hK=>?_;simp only [go_sem];(try simp (disch:=omega) only [zI]);repeat first | intro _ | refine ⟨by omega,?_⟩
     refine hK _ ?_;clear hK K;refine zw (zk [2]) ?_;simp only [go_sem];refine ze ?_;simp only [go_sem]
     have : l.drop i = []:=List.drop_eq_nil_of_le (by omega)
     have h0 : l ≠ []:=fun e=>by rw [e] at hE; simp at hE
     simp [hI,this,seqOk,hA,h0]
def badCh (d : Int) (x : Bd) : Bool:=!withinL 0 d [x.lo,x.hi] || decide (x.hi < x.lo)
theorem valid1_ok (a : Int) (l : List Bd) (d : Int) (x : Bd) : ACalls Try.prog 223 [bedV x,.rp [i64 a,bedsR l,i64 d]] (.bo (badCh d x)):=by
 refine acalls_st (rs:=[.bo (badCh d x)]) [.tmp 3] Try.func223 rfl (by kernel_rfl) Try.ntmps223 rfl (by simp) rfl fun C vs=>?_
 repeat refine zq ?_
 refine zb fun K hK=>?_;simp only [go_sem];(try simp (disch:=omega) only [zI]);repeat first | intro _ | refine ⟨by omega,?_⟩
 refine hK _ ?_;clear hK K
 repeat refine zq ?_
 refine zb fun K hK=>?_;simp only [go_sem];(try simp (disch:=omega) only [zI])
 refine zh (within_ok 0 d [x.lo,x.hi]) rfl (by simp only [go_sem,i64,ints]) (by simp only [go_sem,i64,ints]) (by first | exact .inl rfl | exact .inr rfl) ?_
 (try simp only [go_sem]);(try simp (disch:=omega) only [zI])
 refine ⟨fun h=>?_,fun h=>?_⟩
 · repeat first | intro _ | refine ⟨by omega,?_⟩
   refine hK _ ?_;clear hK K;refine ze ?_;simp only [go_sem]
   simp [badCh,h]
 · repeat first | intro _ | refine ⟨by omega,?_⟩
   refine hK _ ?_;clear hK K;refine ze ?_;simp only [go_sem]
   simp [badCh,h]
def chOk (d : Int) (l : List Bd) : Bool:=l.all fun x=>decide (0 ≤ x.lo) && decide (x.lo ≤ x.hi) && decide (x.hi ≤ d)
theorem badCh_eq (d : Int) (l : List Bd) : (!(l.any (badCh d))) = chOk d l:=by
 unfold chOk
 rw [List.not_any_eq_all_not]
 congr 1
 funext x
 unfold badCh withinL
 simp only [List.all_cons,List.all_nil,Bool.and_true]
 by_cases h1 : 0 ≤ x.lo <;> by_cases h2 : x.lo ≤ d <;> by_cases h3 : 0 ≤ x.hi <;> by_cases h4 : x.hi ≤ d <;> by_cases h5 : x.hi < x.lo <;> by_cases h6 : x.lo ≤ x.hi <;> simp [h1,h2,h3,h4,h5,h6] <;> omega
theorem chOk_small {d : Int} {l : List Bd} (h : chOk d l = true) (hd : d ≤ 6000) : Small l:=fun x hx=>by
 have:=List.all_eq_true.1 h x hx
 simp only [Bool.and_eq_true,decide_eq_true_eq] at this
 omega
def aimOk (d : Int) (a : Am) : Bool:=bedOk a.at_ && !a.beds.isEmpty && seqOk none a.beds && chOk d a.beds && decide (loS a.beds ≤ d) && decide (d ≤ hiS a.beds)
def WfA (a : Am) : Prop:=I64 a.at_ ∧ Wf a.beds
theorem isValid_ok (a : Am) (d : Int) (hw : WfA a) (hd : d ≤ 6000) (hl : a.beds.length ≤ 1000) : ACalls Try.prog 185 [chV a d] (.bo (aimOk d a)):=by
 refine acalls_st (rs:=[.bo (aimOk d a)]) [.tmp 2] Try.func185 rfl (by kernel_rfl) Try.ntmps185 rfl (by simp) rfl fun C vs=>?_
 repeat refine zq ?_
 refine zb fun K hK=>?_;simp only [go_sem];(try simp (disch:=omega) only [zI]);repeat first | intro _ | refine ⟨by omega,?_⟩
 refine hK _ ?_;clear hK K;refine zw (zk [1]) ?_;simp only [go_sem]
 repeat refine zq ?_
 refine zb fun K hK=>?_;simp only [go_sem];(try simp (disch:=omega) only [zI])
 refine zh (areBeds_ok a.at_ a.beds d hw.1 hw.2) rfl (by simp only [go_sem,i64,ints]) (by simp only [go_sem,i64,ints]) (by first | exact .inl rfl | exact .inr rfl) ?_
 (try simp only [go_sem]);(try simp (disch:=omega) only [zI])
 cases h1 : (bedOk a.at_ && !a.beds.isEmpty && seqOk none a.beds)
 · try simp only [go_sem]
   repeat first | intro _ | refine ⟨by omega,?_⟩
   refine hK _ ?_;clear hK K
   repeat refine zq ?_
   refine zc rfl (fun hc=>?_) (fun hc=>?_) <;> (try simp only [go_sem] at hc)
   repeat refine zq ?_
   refine zb fun K hK=>?_;simp only [go_sem];(try simp (disch:=omega) only [zI]);repeat first | intro _ | refine ⟨by omega,?_⟩
   refine hK _ ?_;clear hK K;refine ze ?_;simp only [go_sem]
   simp [aimOk,h1]
 try simp only [go_sem]
 refine zh (containsB_ok (badCh d) 223 [.rp [i64 a.at_,bedsR a.beds,i64 d]] a.beds fun x _=>valid1_ok a.at_ a.beds d x) rfl (by simp only [go_sem,i64,ints]) (by simp only [go_sem,i64,ints]) (by first | exact .inl rfl | exact .inr rfl) ?_
 (try simp only [go_sem]);(try simp (disch:=omega) only [zI]);repeat first | intro _ | refine ⟨by omega,?_⟩
 refine hK _ ?_;clear hK K;refine zw (zk [1,13]) ?_;simp only [go_sem]
 have h2:=badCh_eq d a.beds
 cases h3 : a.beds.any (badCh d)
 · rw [h3] at h2
   have h4 : chOk d a.beds = true:=by simpa using h2.symm
   repeat refine zq ?_
   refine zc rfl (fun hc=>?_) (fun hc=>?_) <;> (try simp only [go_sem] at hc)
   refine zx ?_
   try simp only [go_sem]
   repeat refine zq ?_
   refine zb fun K hK=>?_;simp only [go_sem];(try simp (disch:=omega) only [zI])
   refine zh (sums_ok a.at_ a.beds d (chOk_small h4 hd) hl) rfl (by simp only [go_sem,i64,ints]) (by simp only [go_sem,i64,ints]) (by first | exact .inl rfl | exact .inr rfl) ?_
   (try simp only [go_sem]);(try simp (disch:=omega) only [zI]);repeat first | intro _ | refine ⟨by omega,?_⟩
   refine hK _ ?_;clear hK K;refine zw (zk [1,3]) ?_;simp only [go_sem]
   repeat refine zq ?_
   refine zb fun K hK=>?_;simp only [go_sem];(try simp (disch:=omega) only [zI])
   refine zh (within_ok (loS a.beds) (hiS a.beds) [d]) rfl (by simp only [go_sem,i64,ints]) (by simp only [go_sem,i64,ints]) (by first | exact .inl rfl | exact .inr rfl) ?_
   (try simp only [go_sem]);(try simp (disch:=omega) only [zI]);repeat first | intro _ | refine ⟨by omega,?_⟩
   refine hK _ ?_;clear hK K;refine ze ?_;simp only [go_sem]
   simp [aimOk,h1,h4,withinL]
 · rw [h3] at h2
   have h4 : chOk d a.beds = false:=by simpa using h2.symm
   repeat refine zq ?_
   refine zc rfl (fun hc=>?_) (fun hc=>?_) <;> (try simp only [go_sem] at hc)
   repeat refine zq ?_
   refine zb fun K hK=>?_;simp only [go_sem];(try simp (disch:=omega) only [zI]);repeat first | intro _ | refine ⟨by omega,?_⟩
   refine hK _ ?_;clear hK K;refine ze ?_;simp only [go_sem]
   simp [aimOk,h4]
def enumA (d : Int) (l : List Am) : List (List RV):=l.zipIdx.map fun x=>[i64 x.2,chV x.1 d]
theorem enumA_get {d : Int} {l : List Am} {i : Nat} {e : List RV} (h : (enumA d l)[i]? = some e) : ∃ x,l[i]? = some x ∧ e = [i64 i,chV x d]:=by
 simp only [enumA,List.getElem?_map,List.getElem?_zipIdx,Nat.zero_add] at h
 cases hx : l[i]? with
 | none=>rw [hx] at h; cases h
 | some x=>rw [hx] at h; simp only [Option.map_some,Option.some.injEq] at h; exact ⟨x,rfl,h.symm⟩
theorem enumA_len {d : Int} {l : List Am} {e : List RV} (h : e ∈ enumA d l) : e.length = 2:=by
 obtain ⟨i,hi⟩:=List.getElem?_of_mem h
 obtain ⟨x,_,rfl⟩:=enumA_get hi
 rfl
theorem xcall_yield {n : Nat} {l : List (Nat × AV)} {vs : Nat → Nat} {cs : List (Nat × RowC)} {P : Program} {d : Option Nat} {ll : Nat} {z : Bool} {e : List RV} {rest : List (List RV)} {xs : List AV} {K : AS → Prop} (hrow : lookc cs 999 = .gh P ll z (some (e :: rest)))
 (hp : AV.pureL xs = true) (he : snapVL (st n l vs cs).rows xs = e) (hfl : RV.flatL e = true ∨ z = false) (hK1 : K ((st n l vs (insc cs 999 (.gh P ll z (some rest)))).put d (.r (.bo true)))) (hK2 : K ((st n l vs (insc cs 999 (.gh P ll z none))).put d (.r (.bo false)))) :
 xcall P false (st n l vs cs) d (.r (.yl ll)) xs K:=by
 have hr : ∀ c,(st n l vs cs).row 999 ⟨((st n l vs cs).rows 999).ver,c⟩ = st n l vs (insc cs 999 c):=fun c=>by
  rw [row_st]
  congr 1
  exact upd_self vs 999
 exact .inr (.inl ⟨rfl,.inr (.inr (.inl ⟨ll,z,e,rest,rfl,hrow,hp,he ▸ leL_refl _,hfl,by rw [hr]; exact hK1,by rw [hr]; exact hK2⟩))⟩)
theorem all1_ok (d : Int) (l : List Am) : ICalls Try.prog false 188 [.rp [i64 d,aimsR l]] (enumA d l):=by
 refine icalls_st Try.func188 rfl (by kernel_rfl) Try.ntmps188 rfl (by simp) fun C ll=>?_
 repeat refine zq ?_
 refine zb fun K hK=>?_;simp only [go_sem,argL];(try simp (disch:=omega) only [zI])
 intro hl7
 repeat first | intro _ | refine ⟨by omega,?_⟩
 refine hK _ ?_;clear hK K;refine zw (zk [0,1,6,7,8]) ?_;simp only [go_sem]
 repeat refine zq ?_
 refine zd ?_
 refine awp_upto (n:=22) l.length (fun i vs=>[(0,.r (.yl ll)),(1,.r (.rp [i64 d,aimsR l])),(6,.r (aimsR l)),(7,.r (i64 l.length)),(8,.r (i64 i))])
  (fun i=>[(999,.gh Try.prog ll false (some ((enumA d l).drop i)))]) (fun _=>True) 0 (fit_of [] ?_ ?_) (Nat.zero_le _) trivial ?_
 · try simp only [go_sem]
 · try simp only [go_sem]
 · intro i vs hi _
   repeat refine zq ?_
   refine zb fun K hK=>?_;simp only [go_sem];(try simp (disch:=omega) only [zI]);repeat first | intro _ | refine ⟨by omega,?_⟩
   refine hK _ ?_;clear hK K
   repeat refine zq ?_
   refine zc rfl (fun hc=>?_) (fun hc=>?_) <;> (try simp only [go_sem] at hc)
   · obtain ⟨x,hx⟩:=opt_of_lt hc
     have hci:=hc
     have he : (enumA d l).drop i = [i64 i,chV x d] :: (enumA d l).drop (i + 1):=by
      refine drop_of_opt ?_
      simp [enumA,hx]
     refine zx ?_
     repeat refine zq ?_
     refine zd ?_
     repeat refine zq ?_
     refine zb fun K hK=>?_;simp only [go_sem,hx,hc,aimR];(try simp (disch:=omega) only [zI]);repeat first | intro _ | refine ⟨by omega,?_⟩
     refine hK _ ?_;clear hK K;refine zw (zk [0,1,3,4,6,7,8]) ?_;simp only [go_sem]
     repeat refine zq ?_
     refine zb fun K hK=>?_;simp only [go_sem];(try simp (disch:=omega) only [zI])
     refine xcall_yield (e:=[i64 i,chV x d]) (rest:=(enumA d l).drop (i + 1)) (by simp only [go_sem,he]) rfl (by simp only [go_sem]) (.inr rfl) ?_ ?_
     · simp only [go_sem];repeat first | intro _ | refine ⟨by omega,?_⟩
       refine hK _ ?_;clear hK K;refine zw (zk [0,1,6,7,8,20]) ?_;simp only [go_sem]
       repeat refine zq ?_
       refine zc rfl (fun hc=>?_) (fun hc=>?_) <;> (try simp only [go_sem] at hc)
       refine zx ?_
       try simp only [go_sem]
       repeat refine zq ?_
       refine zb fun K hK=>?_;simp only [go_sem];(try simp (disch:=omega) only [zI]);repeat first | intro _ | refine ⟨by omega,?_⟩
       refine hK _ ?_;clear hK K
       try simp only [go_sem]
       exact ⟨hci,fit_of [4] (by try simp only [go_sem]) (by try simp only [go_sem])⟩
     · simp only [go_sem];repeat first | intro _ | refine ⟨by omega,?_⟩
       refine hK _ ?_;clear hK K;refine zw (zk [20]) ?_;simp only [go_sem]
       repeat refine zq ?_
       refine zc rfl (fun hc=>?_) (fun hc=>?_) <;> (try simp only [go_sem] at hc)
       refine ze ?_;simp only [go_sem];exact ⟨_,_,.inr rfl⟩
   · refine zf ?_;simp only [go_sem]
     have h0 : (enumA d l).drop i = []:=List.drop_eq_nil_of_le (by simp [enumA]; omega)
     exact ⟨ll,false,.inl (by simp only [go_sem,h0])⟩
theorem all_ok (d : Int) (l : List Am) : ACalls Try.prog 128 [lawV d l] (.fn 188 [.rp [i64 d,aimsR l]]):=by
 refine acalls_st (rs:=[.fn 188 [.rp [i64 d,aimsR l]]]) [.tmp 2] Try.func128 rfl (by kernel_rfl) Try.ntmps128 rfl (by simp) rfl fun C vs=>?_
 repeat refine zq ?_
 refine zb fun K hK=>?_;simp only [go_sem];(try simp (disch:=omega) only [zI]);repeat first | intro _ | refine ⟨by omega,?_⟩
 refine hK _ ?_;clear hK K
 repeat refine zq ?_
 refine zb fun K hK=>?_;simp only [go_sem];(try simp (disch:=omega) only [zI]);repeat first | intro _ | refine ⟨by omega,?_⟩
 refine hK _ ?_;clear hK K;refine ze ?_;simp only [go_sem]
 simp [RV.le,leL_refl.le_refl,leL_refl]
theorem check1_ok (a : Am) : ACalls Try.prog 184 [aimV a] (.bo (decide (10 < a.beds.length))):=by
 refine acalls_st (rs:=[.bo (decide (10 < a.beds.length))]) [.tmp 2] Try.func184 rfl (by kernel_rfl) Try.ntmps184 rfl (by simp) rfl fun C vs=>?_
 repeat refine zq ?_
 refine zb fun K hK=>?_;simp only [go_sem];(try simp (disch:=omega) only [zI]);repeat first | intro _ | refine ⟨by omega,?_⟩
 refine hK _ ?_;clear hK K
 repeat refine zq ?_
 refine zb fun K hK=>?_;simp only [go_sem];(try simp (disch:=omega) only [zI])
 intro _
 repeat first | intro _ | refine ⟨by omega,?_⟩
 refine hK _ ?_;clear hK K;refine ze ?_;simp only [go_sem]
 simp
 omega
def checkV (d : Int) (l : List Am) : Int :=
 if (decide (20 < l.length) || l.any fun a=>decide (10 < a.beds.length)) = true then 5
 else if (l.isEmpty || !(decide (1 ≤ d) && decide (d ≤ 3000))) = true then 2
 else if l.all (aimOk d) = true then 0 else 2
def WfL (d : Int) (l : List Am) : Prop:=I64 d ∧ ∀ a ∈ l,WfA a
theorem check_ok (d : Int) (l : List Am) (hw : WfL d l) : ACalls Try.prog 122 [lawV d l] (i64 (checkV d l)):=by
 refine acalls_stR (rs:=[i64 (checkV d l)]) [.cell 2 37] Try.func122 rfl (by kernel_rfl) Try.ntmps122 rfl (by simp) rfl fun C hC vs=>?_
 repeat refine zq ?_
 refine zb fun K hK=>?_;simp only [go_sem];(try simp (disch:=omega) only [zI]);repeat first | intro _ | refine ⟨by omega,?_⟩
 refine hK _ ?_;clear hK K;refine zw (zk [1,2]) ?_;simp only [go_sem]
 repeat refine zq ?_
 refine zb fun K hK=>?_;simp only [go_sem];(try simp (disch:=omega) only [zI])
 intro hl8
 refine ⟨fun h1=>?_,fun h1=>?_⟩
 rotate_left
 · repeat first | intro _ | refine ⟨by omega,?_⟩
   refine hK _ ?_;clear hK K
   repeat refine zq ?_
   refine zc rfl (fun hc=>?_) (fun hc=>?_) <;> (try simp only [go_sem] at hc)
   repeat refine zq ?_
   refine zb fun K hK=>?_;simp only [go_sem];(try simp (disch:=omega) only [zI]);repeat first | intro _ | refine ⟨by omega,?_⟩
   refine hK _ ?_;clear hK K;refine ze ?_;simp only [go_sem]
   have h1' : 20 < l.length:=by omega
   simp [checkV,h1']
 have h1' : ¬ 20 < l.length:=by omega
 refine zh (containsA_ok (fun a=>decide (10 < a.beds.length)) 184 [] l fun x _=>check1_ok x) rfl (by simp only [go_sem,i64,ints]) (by simp only [go_sem,i64,ints]) (by first | exact .inl rfl | exact .inr rfl) ?_
 (try simp only [go_sem]);(try simp (disch:=omega) only [zI]);repeat first | intro _ | refine ⟨by omega,?_⟩
 refine hK _ ?_;clear hK K;refine zw (zk [1,2,13]) ?_;simp only [go_sem]
 cases h2 : l.any fun a=>decide (10 < a.beds.length)
 case true =>
  repeat refine zq ?_
  refine zc rfl (fun hc=>?_) (fun hc=>?_) <;> (try simp only [go_sem] at hc)
  repeat refine zq ?_
  refine zb fun K hK=>?_;simp only [go_sem];(try simp (disch:=omega) only [zI]);repeat first | intro _ | refine ⟨by omega,?_⟩
  refine hK _ ?_;clear hK K;refine ze ?_;simp only [go_sem]
  simp [checkV,h2]
 have hlen : ∀ a ∈ l,a.beds.length ≤ 10:=fun a ha=>by
  have:=List.any_eq_false.1 h2 a ha
  simpa using this
 repeat refine zq ?_
 refine zc rfl (fun hc=>?_) (fun hc=>?_) <;> (try simp only [go_sem] at hc)
 refine zx ?_
 try simp only [go_sem]
 repeat refine zq ?_
 refine zb fun K hK=>?_;simp only [go_sem];(try simp (disch:=omega) only [zI])
 intro _
 have h12 : (decide (20 < l.length) || l.any fun a=>decide (10 < a.beds.length)) = false:=by simp only [h2,Bool.or_false]; simpa using h1'
 have hV : checkV d l = if (l.isEmpty || !(decide (1 ≤ d) && decide (d ≤ 3000))) = true then 2 else if l.all (aimOk d) = true then 0 else 2:=by
  unfold checkV
  rw [h12]
  rfl
 refine ⟨fun h3=>?_,fun h3=>?_⟩
 rotate_left
 · have h4 : l = []:=List.length_eq_zero_iff.1 (by omega)
   repeat first | intro _ | refine ⟨by omega,?_⟩
   refine hK _ ?_;clear hK K
   repeat refine zq ?_
   refine zc rfl (fun hc=>?_) (fun hc=>?_) <;> (try simp only [go_sem] at hc)
   repeat refine zq ?_
   refine zb fun K hK=>?_;simp only [go_sem];(try simp (disch:=omega) only [zI]);repeat first | intro _ | refine ⟨by omega,?_⟩
   refine hK _ ?_;clear hK K;refine ze ?_;simp only [go_sem];rw [hV,h4]
   rfl
 have h4 : l.isEmpty = false:=by
  cases l with
  | nil=>simp at h3
  | cons=>rfl
 rw [h4,Bool.false_or] at hV
 refine zh (within_ok 1 3000 [d]) rfl (by simp only [go_sem,i64,ints]) (by simp only [go_sem,i64,ints]) (by first | exact .inl rfl | exact .inr rfl) ?_
 (try simp only [go_sem]);(try simp (disch:=omega) only [zI]);repeat first | intro _ | refine ⟨by omega,?_⟩
 refine hK _ ?_;clear hK K;refine zw (zk [1,2,24]) ?_;simp only [go_sem]
 have hwd : withinL 1 3000 [d] = (decide (1 ≤ d) && decide (d ≤ 3000)):=by simp [withinL]
 rw [hwd]
 cases h5 : (decide (1 ≤ d) && decide (d ≤ 3000))
 · repeat refine zq ?_
   refine zc rfl (fun hc=>?_) (fun hc=>?_) <;> (try simp only [go_sem] at hc)
   repeat refine zq ?_
   refine zb fun K hK=>?_;simp only [go_sem];(try simp (disch:=omega) only [zI]);repeat first | intro _ | refine ⟨by omega,?_⟩
   refine hK _ ?_;clear hK K;refine ze ?_;simp only [go_sem];rw [hV,h5]
   rfl
 rw [h5] at hV
 have hd : d ≤ 6000:=by simp at h5; omega
 repeat refine zq ?_
 refine zc rfl (fun hc=>?_) (fun hc=>?_) <;> (try simp only [go_sem] at hc)
 refine zx ?_
 try simp only [go_sem]
 repeat refine zq ?_
 refine zb fun K hK=>?_;simp only [go_sem];(try simp (disch:=omega) only [zI])
 refine zh (all_ok d l) rfl (by simp only [go_sem,i64,ints]) (by simp only [go_sem,i64,ints]) (by first | exact .inl rfl | exact .inr rfl) ?_
 (try simp only [go_sem]);(try simp (disch:=omega) only [zI]);repeat first | intro _ | refine ⟨by omega,?_⟩
 refine hK _ ?_;clear hK K;refine zw (zk [2,26]) ?_;simp only [go_sem]
 repeat refine zq ?_
 refine zd ?_
 refine awp_rangeF hC (enumA d l) (all1_ok d l) [2,26] (by decide) (fun vs=>[(2,.pt 2 (vs 2) 0),(26,.r (.fn 188 [.rp [i64 d,aimsR l]]))]) (fun i vs=>[(2,.box [.r (i64 0)])])
  (fun i=>(l.take i).all (aimOk d) = true) (zj [1] ?_ ?_) (by simp) (fun _=>rfl) (fun _=>rfl) (fun _ _=>rfl) (by simp) (fun e he=>enumA_len he) ?_ ?_
 · try simp only [go_sem]
 · try simp only [go_sem]
 · intro i e vs us C he hI
   obtain ⟨x,hx,rfl⟩:=enumA_get he
   repeat refine zq ?_
   refine zb fun K hK=>?_;simp only [go_sem];(try simp (disch:=omega) only [zI]);repeat first | intro _ | refine ⟨by omega,?_⟩
   refine hK _ ?_;clear hK K
   refine ⟨rfl,fun C'=>?_⟩
   refine zw (zk [2,4,26]) ?_;simp only [go_sem]
   repeat refine zq ?_
   refine zd ?_
   repeat refine zq ?_
   refine zb fun K hK=>?_;simp only [go_sem];(try simp (disch:=omega) only [zI])
   refine zh (isValid_ok x d (hw.2 x (mem_of_opt hx)) hd (by have:=hlen x (mem_of_opt hx); omega)) rfl (by simp only [go_sem,i64,ints]) (by simp only [go_sem,i64,ints]) (by first | exact .inl rfl | exact .inr rfl) ?_
   (try simp only [go_sem]);(try simp (disch:=omega) only [zI]);repeat first | intro _ | refine ⟨by omega,?_⟩
   refine hK _ ?_;clear hK K;refine zw (zk [2,26,31]) ?_;simp only [go_sem]
   cases h6 : aimOk d x
   · repeat refine zq ?_
     refine zc rfl (fun hc=>?_) (fun hc=>?_) <;> (try simp only [go_sem] at hc)
     repeat refine zq ?_
     refine zb fun K hK=>?_;simp only [go_sem];(try simp (disch:=omega) only [zI]);repeat first | intro _ | refine ⟨by omega,?_⟩
     refine hK _ ?_;clear hK K;refine ze ?_;simp only [go_sem]
     refine rf_ret (by simp only [go_sem]; rfl) ?_
     try simp only [go_sem]
     rw [hV]
     have : l.all (aimOk d) = false:=List.all_eq_false.2 ⟨x,mem_of_opt hx,by simp [h6]⟩
     rw [this]
     rfl
   · repeat refine zq ?_
     refine zc rfl (fun hc=>?_) (fun hc=>?_) <;> (try simp only [go_sem] at hc)
     refine zx ?_
     try simp only [go_sem]
     refine ⟨?_,zj (F:=fun _=>[]) [4] (by try simp only [go_sem]) (by try simp only [go_sem])⟩
     rw [take_of_opt hx]; simp [hI,h6]
 · intro vs us hI
   try simp only [go_sem]
   refine zw (sub_wake rfl) ?_
   repeat refine zq ?_
   refine zb fun K hK=>?_;simp only [go_sem];(try simp (disch:=omega) only [zI]);repeat first | intro _ | refine ⟨by omega,?_⟩
   refine hK _ ?_;clear hK K;refine ze ?_;simp only [go_sem];rw [hV]
   have : (enumA d l).length = l.length:=by simp [enumA]
   rw [this,List.take_length] at hI
   rw [hI]
   rfl
end Go.Proofs.Ytlljkgiomkmjbaa.Du

namespace Go.Proofs.Ytlljkgiomkmjbaa.Du.Th
open Go Go.Oc
set_option linter.unusedSimpArgs false
set_option linter.unusedVariables false
set_option maxRecDepth 8000
abbrev u8s (l : List Int) : RV:=.sl 1 (l.map fun x=>[.it .u8 x])
def byteL (l : List Int) (i : Nat) : Int:=if l = [] then 0 else l.getD (i % l.length) 0
def beds13 : List Int:=[0,101,105,112,120,125,205,220,225,301,305,312,320]
def bedT (k : Nat) : Int:=beds13.getD k 0
structure Lw where
 which : List Int
 low : List Int
 more : List Int
 rest : Int
structure WfLw (x : Lw) : Prop where
 which : ∀ n ∈ x.which,0 ≤ n ∧ n ≤ 65535
 low : ∀ n ∈ x.low,0 ≤ n ∧ n ≤ 255
 more : ∀ n ∈ x.more,0 ≤ n ∧ n ≤ 255
 rest : 0 ≤ x.rest ∧ x.rest ≤ 255
theorem byteL_le {l : List Int} (h : ∀ n ∈ l,0 ≤ n ∧ n ≤ 255) (i : Nat) : 0 ≤ byteL l i ∧ byteL l i ≤ 255:=by
 unfold byteL
 split
 · omega
 · rename_i hne
   have hlt : i % l.length < l.length:=Nat.mod_lt _ (List.length_pos_iff.2 hne)
   rw [List.getD_eq_getElem?_getD,List.getElem?_eq_getElem hlt]
   exact h _ (List.getElem_mem _)
def hasB (w : Int) (k : Nat) : Bool:=bitAnd IntKind.u16 (shrI IntKind.u16 w (IntKind.u64.wrap (k : Int))) 1 == 1
def addM (x : Lw) (most w : Int) (k : Nat) (p : List Bd × Nat) : List Bd × Nat :=
 if p.1.length < 10 ∧ (hasB w k = true ∨ (k = 12 ∧ p.1.length = 0)) then
  (p.1 ++ [⟨bedT k,byteL x.low p.2 % (most + 1),byteL x.low p.2 % (most + 1) + byteL x.more p.2 % (most + 1)⟩],p.2 + 1) else p
def iterM (x : Lw) (most w : Int) (n : Nat) : Nat → List Bd × Nat
 | 0=>([],n)
 | k + 1=>addM x most w k (iterM x most w n k)
def nM (x : Lw) (most : Int) : Nat → Nat
 | 0=>0
 | i + 1=>(iterM x most (x.which.getD i 0) (nM x most i) 13).2
def bedsM (x : Lw) (most : Int) (i : Nat) : List Bd:=(iterM x most (x.which.getD i 0) (nM x most i) 13).1
def atM (i : Nat) : Int:=bedT (1 + i % 12)
def cntM (x : Lw) : Nat:=min 6 x.which.length
structure IterI (most : Int) (k : Nat) (l : List Bd) : Prop where
 len : l.length ≤ 10
 each : ∀ c ∈ l,(∃ j,j < k ∧ c.b = bedT j) ∧ 0 ≤ c.lo ∧ c.lo ≤ most ∧ c.lo ≤ c.hi ∧ c.hi ≤ 2 * most
 up : l.Pairwise fun a b=>a.b < b.b
def rawM (x : Lw) (most : Int) : List Am:=if cntM x = 0 then [⟨320,[⟨320,x.rest,x.rest⟩]⟩] else (List.range (cntM x)).map fun i=>⟨atM i,bedsM x most i⟩
def sumsM (l : List Am) : Int:=l.foldl (fun d a=>max d (loS a.beds)) 0
def denM (x : Lw) (most : Int) : Int:=max 1 (sumsM (rawM x most) + x.rest % 20)
def capB (den : Int) (l : List Bd) : List Bd:=l.map fun c=>⟨c.b,c.lo,min c.hi den⟩
def raiseB (den : Int) (l : List Bd) (k : Nat) : List Bd :=
 if hiS l < den then l.set k ⟨(l.getD k ⟨0,0,0⟩).b,(l.getD k ⟨0,0,0⟩).lo,min den ((l.getD k ⟨0,0,0⟩).hi + den - hiS l)⟩ else l
def raiseN (den : Int) (l : List Bd) : Nat → List Bd
 | 0=>l
 | k + 1=>raiseB den (raiseN den l k) k
def restK (x : Lw) (l : List Bd) : Nat:=x.rest.toNat % l.length
def fixM (x : Lw) (den : Int) (l : List Bd) : List Bd:=raiseN den (raiseB den (capB den l) (restK x l)) l.length
def aimsM (x : Lw) (most : Int) : List Am:=(rawM x most).map fun a=>⟨a.at_,fixM x (denM x most) a.beds⟩
end Go.Proofs.Ytlljkgiomkmjbaa.Du.Th

namespace Go.Oc
open Go Go.RowKit
set_option linter.unusedVariables false
section
variable {ρ : List (Nat × Nat)} {ver ver' : Nat → Nat}
mutual
theorem lendA_congr (hv : ∀ k,(lendKey ρ k).isSome = true → ver' k = ver k) : ∀ x : AV,lendA ρ ver' x = lendA ρ ver x
 | .r _=>by simp only [lendA]
 | .tu _=>by simp only [lendA]
 | .mi _ _=>by simp only [lendA]
 | .pt k _ _=>by simp only [lendA]; cases e : lendKey ρ k with | none=>rfl | some pk=>rw [hv k (by rw [e]; rfl)]
 | .pe k _ _ _ _=>by simp only [lendA]; cases e : lendKey ρ k with | none=>rfl | some pk=>rw [hv k (by rw [e]; rfl)]
 | .os k _ _ _ _=>by simp only [lendA]; cases e : lendKey ρ k with | none=>rfl | some pk=>rw [hv k (by rw [e]; rfl)]
 | .mp k _=>by simp only [lendA]; cases e : lendKey ρ k with | none=>rfl | some pk=>rw [hv k (by rw [e]; rfl)]
 | .pu k _ _=>by simp only [lendA]; cases e : lendKey ρ k with | none=>rfl | some pk=>rw [hv k (by rw [e]; rfl)]
 | .fn _ cs=>by simp only [lendA]; rw [lendL_congr hv cs]
 | .ag cs=>by simp only [lendA]; rw [lendL_congr hv cs]
theorem lendL_congr (hv : ∀ k,(lendKey ρ k).isSome = true → ver' k = ver k) : ∀ xs : List AV,lendL ρ ver' xs = lendL ρ ver xs
 | []=>by simp only [lendL]
 | x :: xs=>by simp only [lendL]; rw [lendA_congr hv x,lendL_congr hv xs]
end
theorem lendC_congr (hv : ∀ k,(lendKey ρ k).isSome = true → ver' k = ver k) (c : RowC) : lendC ρ ver' c = lendC ρ ver c:=by
 cases c <;> simp only [lendC]
 all_goals rw [lendL_congr hv]
theorem key_of_pin : ∀ {ρ : List (Nat × Nat)} {j ck : Nat},pinOf ρ j = some ck → (lendKey ρ ck).isSome = true
 | [],_,_,h=>by simp [pinOf] at h
 | (x, y) :: ρ, j, ck, h => by
   simp only [pinOf] at h
   simp only [lendKey]
   split at h
   · injection h with h; subst h; simp
   · split
     · rfl
     · exact key_of_pin h
mutual
theorem backA_congr (hv : ∀ k,(lendKey ρ k).isSome = true → ver' k = ver k) : ∀ x : AV,backA ρ ver' x = backA ρ ver x
 | .r _=>by simp only [backA]
 | .mi _ _=>by simp only [backA]
 | .pt k _ _=>by simp only [backA]; cases e : pinOf ρ k with | none=>rfl | some ck=>simp only [hv ck (key_of_pin e)]
 | .pe k _ _ _ _=>by simp only [backA]; cases e : pinOf ρ k with | none=>rfl | some ck=>simp only [hv ck (key_of_pin e)]
 | .os k _ _ _ _=>by simp only [backA]; cases e : pinOf ρ k with | none=>rfl | some ck=>simp only [hv ck (key_of_pin e)]
 | .mp k _=>by simp only [backA]; cases e : pinOf ρ k with | none=>rfl | some ck=>simp only [hv ck (key_of_pin e)]
 | .pu k _ _=>by simp only [backA]; cases e : pinOf ρ k with | none=>rfl | some ck=>simp only [hv ck (key_of_pin e)]
 | .tu cs=>by simp only [backA]; rw [backL_congr hv cs]
 | .fn _ cs=>by simp only [backA]; rw [backL_congr hv cs]
 | .ag cs=>by simp only [backA]; rw [backL_congr hv cs]
theorem backL_congr (hv : ∀ k,(lendKey ρ k).isSome = true → ver' k = ver k) : ∀ xs : List AV,backL ρ ver' xs = backL ρ ver xs
 | []=>by simp only [backL]
 | x :: xs=>by simp only [backL]; rw [backA_congr hv x,backL_congr hv xs]
end
theorem backC_congr (hv : ∀ k,(lendKey ρ k).isSome = true → ver' k = ver k) (c : RowC) : backC ρ ver' c = backC ρ ver c:=by
 cases c <;> simp only [backC]
 all_goals rw [backL_congr hv]
theorem lendOk_congr {s s' : AS} (hr : ∀ k,(lendKey ρ k).isSome = true → s'.rows k = s.rows k) : ∀ {l : List (Nat × Nat)} {L : List (Nat × RowC)},(∀ x ∈ l,(lendKey ρ x.2).isSome = true) → lendOk ρ s l L → lendOk ρ s' l L
 | [],[],_,h=>h
 | [],_ :: _,_,h=>h.elim
 | _ :: _,[],_,h=>h.elim
 | (a, b) :: l, (k, c) :: L, hl, h => by
   simp only [lendOk] at h ⊢
   obtain ⟨h1,h2,h3⟩:=h
   refine ⟨h1,?_,lendOk_congr hr (fun x hx=>hl x (by simp [hx])) h3⟩
   rw [hr b (hl (a,b) (by simp)),lendC_congr (ver:=s.ver) fun k hk=>by show (s'.rows k).ver = _; rw [hr k hk]; rfl]
   exact h2
theorem lendKey_mem : ∀ {ρ : List (Nat × Nat)} {x : Nat × Nat},x ∈ ρ → (lendKey ρ x.2).isSome = true
 | (a, b) :: ρ, x, h => by
   simp only [lendKey]
   split
   · rfl
   · rename_i hne
     rcases List.mem_cons.1 h with h | h
     · subst h; exact absurd rfl hne
     · exact lendKey_mem h
theorem mem_of_key : ∀ {ρ : List (Nat × Nat)} {k : Nat},(lendKey ρ k).isSome = true → ∃ x ∈ ρ,x.2 = k
 | [],_,h=>by simp [lendKey] at h
 | (a, b) :: ρ, k, h => by
   simp only [lendKey] at h
   split at h
   · rename_i e; exact ⟨(a,b),by simp,e.symm⟩
   · obtain ⟨x,h1,h2⟩:=mem_of_key h
     exact ⟨x,by simp [h1],h2⟩
theorem pin_mem : ∀ {ρ : List (Nat × Nat)} {j ck : Nat},pinOf ρ j = some ck → (j,ck) ∈ ρ
 | [],_,_,h=>by simp [pinOf] at h
 | (x, y) :: ρ, j, ck, h => by
   simp only [pinOf] at h
   split at h
   · rename_i e; injection h with h; subst h e; simp
   · exact List.mem_cons_of_mem _ (pin_mem h)
end
section
variable {P : Program} {s : AS}
def found (s : AS) (ρ : List (Nat × Nat)) (xs : List AV) : Prop :=
 ∀ x ∈ ρ,¬ AV.nrL x.2 (s.ver x.2) xs ∨ ∃ y ∈ ρ,∃ cs,¬ AV.nrL y.2 (s.ver y.2) xs ∧ (s.rows y.2).c = .box cs ∧ ¬ AV.nrL x.2 (s.ver x.2) cs
theorem bcall_of {f : AV} {xs : List AV} {ρ : List (Nat × Nat)} {L : List (Nat × RowC)} {args : List AV} {F : FuncId} {cs : List AV} {r : RV} (hM : MCalls P F L L args (.r r)) (hF : callee? f = some (F,cs)) (hl : lendL ρ s.ver (xs ++ cs) = some args)
 (hL : lendOk ρ s ρ L) (hap : apart ρ = true) (hsk : sameKeys ρ L = true) (hback : ∀ x ∈ ρ,backC ρ s.ver (lookc L x.1) = (s.rows x.2).c) (hre : found s ρ (f :: xs)) : BCallOk P s f xs r:=by
 refine ⟨fun k=>(lendKey ρ k).isSome = true,fun k hk=>?_,fun s' hs'=>?_⟩
 · obtain ⟨x,hx,rfl⟩:=mem_of_key hk
   rcases hre x hx with h | ⟨y,hy,cs',h1,h2,h3⟩
   · exact .inl h
   · exact .inr ⟨y.2,cs',lendKey_mem hy,h1,h2,h3⟩
 · have hv : ∀ k,(lendKey ρ k).isSome = true → s'.ver k = s.ver k:=fun k hk=>by show (s'.rows k).ver = _; rw [hs' k hk]; rfl
   have hbk : s'.backs ρ L = s':=by
    unfold AS.backs
    refine AS.ext rfl rfl ?_
    funext j
    obtain ⟨g1,g2⟩:=backRows_get (ρ:=ρ) (ver:=s'.ver) (L':=L) (l:=ρ) (rows:=s'.rows) hap j
    cases e : lendKey ρ j with
    | none=>exact g1 e
    | some pk =>
      have hj : (lendKey ρ j).isSome = true:=by rw [e]; rfl
      have hp:=pin_lend hap e
      have hx : (pk,j) ∈ ρ:=pin_mem hp
      refine (g2 pk e).trans ?_
      rw [backC_congr hv,hback _ hx,← hs' j hj]
      rfl
   intro C p a w o g as1 ts hs ho hg has hd K Q hK
   subst hg has
   refine mcall_sound hs ho (KA:=fun t=>t = s'.put o.dst (.r r)) ⟨F,cs,ρ,L,L,args,.r r,hF,by rw [lendL_congr hv]; exact hl,lendOk_congr hs' (fun x hx=>lendKey_mem hx) hL,hap,hsk,hM,?_⟩ hd ?_
   · rw [hbk]; simp only [backA]
   · rintro a' w' p' t ht _ rfl
     exact hK a' w' p' ht
theorem xcall_keep {D : Bool} {n : Nat} {l : List (Nat × AV)} {vs : Nat → Nat} {rw : List (Nat × RowC)} {f : AV} {xs : List AV} {L : List (Nat × RowC)} {args : List AV} {F : FuncId} {caps : List AV} {r : RV} {d : Option Nat} {K : AS → Prop} (hM : MCalls P F L L args (.r r)) (ρ : List (Nat × Nat)) (hF : callee? f = some (F,caps))
 (hl : lendL ρ vs (xs ++ caps) = some args) (hL : lendOk ρ (st n l vs rw) ρ L) (hap : apart ρ = true) (hsk : sameKeys ρ L = true) (hback : ∀ x ∈ ρ,backC ρ vs (lookc L x.1) = lookc rw x.2) (hre : found (st n l vs rw) ρ (f :: xs)) (hK : K ((st n l vs rw).put d (.r r))) : xcall P D (st n l vs rw) d f xs K :=
 .inl ⟨r,.inr (bcall_of hM hF hl hL hap hsk hback hre),hK⟩
end
section
variable {P : Program} {C : Ctx} {Q : Exit → AS → Prop} {s : AS} {Φ : List (RV × RV) → Prop}
theorem awp_openMR {c : Code} (k : Nat) (hc : (s.rows k).c = .mem Φ) (h : ∀ m,Φ m → awp P C c Q { s with rows:=upd s.rows k ⟨(s.rows k).ver,.mp m⟩ }) : awp P C c Q s:=fun a w ⟨p,hs⟩=>by
 have hrow:=hs.rw k
 rw [hc] at hrow
 simp only [rowRel] at hrow
 obtain ⟨m,b,hΦ,hβ,hm⟩:=hrow
 have hset:=hs.setRow (w':=w) k (.mp m) (by rw [hc]; rfl) (fun _ _ _ _ h=>by cases h) hβ rfl rfl rfl rfl (fun i _=>rfl) (fun _=>by
  simp only [rowRel];exact ⟨b,hβ,hm⟩)
 exact h m hΦ a w ⟨p,hset⟩
theorem sub_shutMR (k : Nat) {m : List (RV × RV)} (hc : (s.rows k).c = .mp m) (hΦ : Φ m) : Sub s { s with rows:=upd s.rows k ⟨(s.rows k).ver,.mem Φ⟩ }:=fun C a w ⟨p,hs⟩=>by
 have hrow:=hs.rw k
 rw [hc] at hrow
 simp only [rowRel] at hrow
 obtain ⟨b,hβ,hm⟩:=hrow
 exact ⟨p,hs.setRow (w':=w) k (.mem Φ) (by rw [hc]; rfl) (fun _ _ _ _ h=>by cases h) hβ rfl rfl rfl rfl (fun i _=>rfl) (fun _=>by
  simp only [rowRel];exact ⟨m,b,hΦ,hβ,hm⟩)⟩
variable {n : Nat} {l : List (Nat × AV)} {vs : Nat → Nat} {cs : List (Nat × RowC)}
theorem st_rowQ (k : Nat) (c : RowC) : ({ st n l vs cs with rows:=upd (st n l vs cs).rows k ⟨((st n l vs cs).rows k).ver,c⟩ } : AS) = st n l vs (insc cs k c):=by
 simp only [st,AS.mk.injEq,true_and]
 funext j
 rw [lookc_insc]
 unfold upd
 split
 · rename_i e; subst e; rfl
 · rfl
theorem awp_openM {c : Code} (k : Nat) (hc : lookc cs k = .mem Φ) (h : ∀ m,Φ m → awp P C c Q (st n l vs (insc cs k (.mp m)))) : awp P C c Q (st n l vs cs) :=
 awp_openMR k hc fun m hm=>by rw [st_rowQ]; exact h m hm
theorem sub_shutM (Φ : List (RV × RV) → Prop) (k : Nat) {m : List (RV × RV)} (hc : lookc cs k = .mp m) (hΦ : Φ m) : Sub (st n l vs cs) (st n l vs (insc cs k (.mem Φ))):=by
 have:=sub_shutMR (s:=st n l vs cs) k hc hΦ
 rwa [st_rowQ] at this
end
end Go.Oc

namespace Go.Oc
open Go Go.RowKit
set_option linter.unusedVariables false
set_option linter.unusedSimpArgs false
def sLitBox (P : Program) (s : AS) (d : Nat) (t : TypeId) (len : Nat) (parts : List (Nat × AV)) : Res :=
 match tyq P t with
 | some ⟨.slice e esz _ ez, _, _, _⟩ =>
   if len = 0 then .bad else
   match lay s.ver (fun i=>some (i * esz,esz)) ((List.replicate len ez).flatten.map .r) parts with
   | some cs=>⟨0 < esz ∧ len * esz ≤ 16777216 ∧ d < 1000,True,⟨.os d ((s.rows d).ver + 1) esz 0 len,[(d,⟨(s.rows d).ver + 1,.ara e esz cs⟩)]⟩⟩
   | none=>.bad
 | _=>.bad
section
variable {P : Program} {C : Ctx} {p : Plan} {s : AS} {a : Act} {w : World} {o : Oper}
theorem relV_map_r {ver : Nat → Nat} : ∀ {xs : List RV} {vs : List Value},RV.relV w p.R xs vs → AV.relV w p ver (xs.map .r) vs
 | [],vs,h=>by simp only [RV.relV] at h; simp only [List.map_nil,AV.relV]; exact h
 | x :: xs, vs, h => by
   simp only [RV.relV] at h
   obtain ⟨u,us,e,h1,h2⟩:=h
   simp only [List.map_cons,AV.relV,AV.rel];exact ⟨u,us,e,h1,relV_map_r h2⟩
variable {Q : Exit → AS → Prop} {ops : Array Oper}
end
theorem sub_freezePB (s : AS) (kb i k v : Nat) {cells : List AV} {rs : List RV} (hk0 : k < 1000) (hne : kb ≠ k) (hbox : (s.rows kb).c = .box cells) (hi : cells[i]? = some (.pt k v 0)) (hv : v = s.ver k)
 (hc : (s.rows k).c = .box (rs.map .r)) :
 Sub s { s with rows:=upd (upd s.rows k ⟨(s.rows k).ver + 1,.dead⟩) kb ⟨(s.rows kb).ver,.box (cells.set i (.r (.rp rs)))⟩ }:=fun C a w ⟨p,hp⟩=>by
 have h1:=hp.reRow (w':=w) k hk0 .dead rfl none 1 (by simp [maxLen]) rfl rfl rfl (Nat.le_refl _) (fun _ _ _=>rfl) (fun _ h=>by cases h) (fun p' ver' _ hβ hγ _=>by simp only [rowRel]; exact ⟨hβ,hγ⟩)
 have hr:=hp.rw kb
 rw [hbox] at hr
 simp only [rowRel] at hr
 obtain ⟨b,cs,t,g1,g2,g3,g4⟩:=hr
 obtain ⟨u,hu,hval⟩:=AV.relV_get g3 hi
 have hq:=hp.rw k
 rw [hc] at hq
 simp only [rowRel] at hq
 obtain ⟨bk,ck,tk,k1,k2,k3,k4⟩:=hq
 simp only [AV.rel] at hval
 obtain ⟨bk',e1,e2⟩:=hval.2 hv
 rw [k1] at e1
 injection e1 with e1
 subst e1
 obtain ⟨q1,_,q2⟩:=hp.bl k bk k1
 have h2:=h1.publish (b:=bk) q1 (q2.imp id fun h=>h.resolve_left (fun h=>by omega)) (fun j hj=>by
  have hj' : upd p.β k none j = some bk:=hj
  by_cases e : j = k
  · subst e; rw [upd_same] at hj'; cases hj'
  · rw [upd_other _ _ e] at hj'; exact e (hp.ij j k bk hj' k1)) (hp.ex.publish k1)
 have hr2:=h2.rw kb
 rw [show (upd s.rows k ⟨(s.rows k).ver + 1,.dead⟩ kb).c = .box cells by rw [upd_other _ _ hne]; exact hbox] at hr2
 simp only [rowRel] at hr2
 obtain ⟨b',cs',t',f1,f2,f3,f4⟩:=hr2
 have eb : b' = b:=by
  rw [show (upd p.β k none) kb = p.β kb from upd_other _ _ hne,g1] at f1
  injection f1 with e; exact e.symm
 subst eb
 rw [g2] at f2
 injection f2 with e
 injection e with e1 e2' e3
 subst e1
 have:=h2.setRow (w':=w) kb (.box (cells.set i (.r (.rp rs))))
  (by rw [show (upd s.rows k ⟨(s.rows k).ver + 1,.dead⟩ kb).c = .box cells by rw [upd_other _ _ hne]; exact hbox]; rfl) (fun _ _ _ _ h=>by cases h) f1 rfl rfl rfl rfl (fun _ _=>rfl) (fun _=>by
   simp only [rowRel]
   refine ⟨b',cs,t',f1,by rw [g2,e2'],relV_set f3 (fun u' hu'=>?_),f4⟩
   rw [hu] at hu'
   injection hu' with e
   subst e
   simp only [AV.rel,RV.rel]
   refine ⟨_,e2,.inr rfl,?_⟩
   exact relC_plain (fun _ h=>.inl h) k2 k4 _ _ _ (fun i u h=>by simpa using h) k3)
 rw [show (upd s.rows k ⟨(s.rows k).ver + 1,.dead⟩ kb).ver = (s.rows kb).ver by rw [upd_other _ _ hne]] at this
 exact ⟨_,this⟩
section
variable {n : Nat} {l : List (Nat × AV)} {vs : Nat → Nat} {cs : List (Nat × RowC)}
theorem sub_frzPB (kb i k : Nat) (rs : List RV) {cells : List AV} (hk0 : k < 1000) (hne : kb ≠ k) (hb : lookc cs kb = .box cells) (hi : cells[i]? = some (.pt k (vs k) 0)) (hc : lookc cs k = .box (rs.map .r)) :
 Sub (st n l vs cs) (st n l (upd vs k (vs k + 1)) (insc (delc cs k) kb (.box (cells.set i (.r (.rp rs)))))):=by
 have:=sub_freezePB (st n l vs cs) kb i k (vs k) hk0 hne hb hi rfl hc
 have e : ({ st n l vs cs with rows:=upd (upd (st n l vs cs).rows k ⟨((st n l vs cs).rows k).ver + 1,.dead⟩) kb ⟨((st n l vs cs).rows kb).ver,.box (cells.set i (.r (.rp rs)))⟩ } : AS)
  = st n l (upd vs k (vs k + 1)) (insc (delc cs k) kb (.box (cells.set i (.r (.rp rs))))):=by
  simp only [st,AS.mk.injEq,true_and]
  funext j
  rw [lookc_insc,lookc_delc]
  unfold upd
  split
  · rename_i e; subst e; rw [if_neg hne]
  · split <;> rfl
 rwa [e] at this
end
end Go.Oc

namespace Go.Oc
open Go Go.RowKit
set_option linter.unusedVariables false
set_option linter.unusedSimpArgs false
def sAppB (P : Program) (s : AS) (d : Nat) (t t' : TypeId) (x y : AV) : Res :=
 match tyq P t,decide (t = t'),x,y with
 | some ⟨.slice e esz eb _, _, _, _⟩, true, .os k n sz off m, .os j n2 sz2 off2 m2 =>
   match s.rows k,s.rows j with
   | ⟨n',.ara e' sz' cs⟩,⟨n2',.ara e2 sz2' ds⟩=>⟨(n = n' ∧ n2 = n2') ∧ (e' = e ∧ e2 = e) ∧ (sz = esz ∧ sz' = esz ∧ sz2 = esz ∧ sz2' = esz) ∧ (off = 0 ∧ off2 = 0) ∧ (cs.length = m * esz ∧ ds.length = m2 * esz) ∧ (0 < m ∧ 0 < m2 ∧ 0 < esz) ∧ (m + m2) * eb ≤ 140737488355328 ∧ m + m2 ≤ 9223372036854775807 ∧ k < 1000,True,
    ⟨.os k (n' + 1) esz 0 (m + m2),[(k,⟨n' + 1,.ara e esz (cs ++ ds)⟩)]⟩⟩
   | _,_=>.bad
 | some ⟨.slice e esz eb _, _, _, _⟩, true, .r .ns, .os j n2 sz2 off2 m2 =>
   match s.rows j with
   | ⟨n2',.ara e2 sz2' ds⟩=>⟨n2 = n2' ∧ e2 = e ∧ (sz2 = esz ∧ sz2' = esz) ∧ off2 = 0 ∧ ds.length = m2 * esz ∧ (0 < m2 ∧ 0 < esz) ∧ m2 * eb ≤ 140737488355328 ∧ m2 ≤ 9223372036854775807 ∧ d < 1000,True,
    ⟨.os d ((s.rows d).ver + 1) esz 0 m2,[(d,⟨(s.rows d).ver + 1,.ara e esz ds⟩)]⟩⟩
   | _=>.bad
 | _,_,_,_=>.bad
section
variable {P : Program} {C : Ctx} {p : Plan} {s : AS} {a : Act} {w : World} {o : Oper}
variable {Q : Exit → AS → Prop} {ops : Array Oper}
end
end Go.Oc

namespace Go.Oc
open Go Go.RowKit
set_option linter.unusedVariables false
set_option linter.unusedSimpArgs false
def fam (f : Nat → RowC) : Nat → List (Nat × RowC)
 | 0=>[]
 | n + 1=>fam f n ++ [(n + 600,f n)]
end Go.Oc

namespace Go.Proofs.Ytlljkgiomkmjbaa.Du.Th
open Go Go.Oc
set_option linter.unusedSimpArgs false
set_option linter.unusedVariables false
set_option maxRecDepth 8000
set_option maxHeartbeats 2000000
abbrev lwC (x : Lw) : List RV:=[.sl 1 (x.which.map fun n=>[.it .u16 n]),u8s x.low,u8s x.more,.it .u8 x.rest]
def mkG (x : Lw) (most : Int) (j : Nat) : RowC:=.arr 83 3 ((bedsM x most j).map bedR)
def araC (x : Lw) (most : Int) (vs : Nat → Nat) : Nat → List AV
 | 0=>[]
 | n + 1=>araC x most vs n ++ [.r (i64 (atM n)),.os (n + 600) (vs (n + 600)) 3 0 (bedsM x most n).length]
def mkX (i : Nat) (vs : Nat → Nat) : AV:=if i = 0 then .r .ns else .os 110 (vs 110) 2 0 i
def mkA (x : Lw) (most : Int) (i : Nat) (vs : Nat → Nat) : List (Nat × RowC):=if i = 0 then [] else [(110,.ara 81 2 (araC x most vs i))]
def mkR (x : Lw) (most : Int) (i : Nat) (vs : Nat → Nat) : List (Nat × RowC):=(4,.box [.r (i64 0),.r .ns]) :: (5,.box [.r (i64 0),mkX i vs]) :: (mkA x most i vs ++ fam (mkG x most) i)
theorem upd_self {α : Type} (f : Nat → α) (k : Nat) : upd f k (f k) = f:=by
 funext j; unfold upd; split
 · rename_i e; rw [e]
 · rfl
def araG (A : Nat → Am) (vs : Nat → Nat) : Nat → List AV
 | 0=>[]
 | n + 1=>araG A vs n ++ [.r (i64 (A n).at_),.os (n + 600) (vs (n + 600)) 3 0 (A n).beds.length]
def famG (A : Nat → Am) (j : Nat) : RowC:=.arr 83 3 ((A j).beds.map bedR)
def rawA (x : Lw) (most : Int) (j : Nat) : Am:=(rawM x most).getD j ⟨0,[]⟩
def rawN (x : Lw) (most : Int) : Nat:=(rawM x most).length
structure RawI (a : Am) : Prop where
 at_ : bedOk a.at_ = true
 len : 1 ≤ a.beds.length ∧ a.beds.length ≤ 10
 each : ∀ c ∈ a.beds,(c.b = 0 ∨ bedOk c.b = true) ∧ 0 ≤ c.lo ∧ c.lo ≤ 255 ∧ c.lo ≤ c.hi ∧ c.hi ≤ 510
 up : a.beds.Pairwise fun a b=>a.b < b.b
theorem loS_le {B : Int} : ∀ {l : List Bd},(∀ c ∈ l,0 ≤ c.lo ∧ c.lo ≤ B) → 0 ≤ loS l ∧ loS l ≤ B * l.length
 | [],_=>by simp [loS]
 | c :: l, h => by
   have ih:=loS_le (B:=B) (l:=l) fun x hx=>h x (by simp [hx])
   have h1:=h c (by simp)
   have e : loS (c :: l) = c.lo + loS l:=by simp [loS]
   rw [e,List.length_cons,Int.natCast_add,Int.mul_add]
   omega
theorem hiS_le {B : Int} : ∀ {l : List Bd},(∀ c ∈ l,0 ≤ c.hi ∧ c.hi ≤ B) → 0 ≤ hiS l ∧ hiS l ≤ B * l.length
 | [],_=>by simp [hiS]
 | c :: l, h => by
   have ih:=hiS_le (B:=B) (l:=l) fun x hx=>h x (by simp [hx])
   have h1:=h c (by simp)
   have e : hiS (c :: l) = c.hi + hiS l:=by simp [hiS]
   rw [e,List.length_cons,Int.natCast_add,Int.mul_add]
   omega
theorem RawI.lo {a : Am} (h : RawI a) : 0 ≤ loS a.beds ∧ loS a.beds ≤ 2550:=by
 have h1:=loS_le (B:=255) (l:=a.beds) fun c hc=>by have:=h.each c hc; omega
 have h2:=h.len
 omega
structure CapI (D : Int) (l X : List Bd) : Prop where
 len : X.length = l.length
 each : ∀ c ∈ X,(0 ≤ c.lo ∧ c.lo ≤ 255) ∧ 0 ≤ c.hi ∧ c.hi ≤ 3000
def capF (D : Int) (c : Bd) : Bd:=⟨c.b,c.lo,min c.hi D⟩
def mixC (D : Int) (l : List Bd) (k : Nat) : List Bd:=(l.take k).map (capF D) ++ l.drop k
theorem CapI.cap {D : Int} {a : Am} (h : RawI a) (hD : 1 ≤ D ∧ D ≤ 3000) : CapI D a.beds (capB D a.beds):=by
 refine ⟨by simp [capB],fun c hc=>?_⟩
 obtain ⟨d,hd,rfl⟩:=List.mem_map.1 hc
 have:=h.each d hd
 simp only; omega
theorem CapI.raise {D : Int} {l X : List Bd} (h : CapI D l X) (hD : 1 ≤ D ∧ D ≤ 3000) (k : Nat) (hk : k < l.length) : CapI D l (raiseB D X k):=by
 unfold raiseB
 split
 · rename_i hh
   have hm : X.getD k ⟨0,0,0⟩ ∈ X:=by
    rw [List.getD_eq_getElem?_getD,List.getElem?_eq_getElem (by rw [h.len]; exact hk)]; exact List.getElem_mem _
   have hc:=h.each _ hm
   refine ⟨by simp [h.len],fun c hc'=>?_⟩
   rcases List.mem_or_eq_of_mem_set hc' with hx | hx
   · exact h.each c hx
   · subst hx
     simp only; omega
 · exact h
theorem CapI.raiseN {D : Int} {l X : List Bd} (h : CapI D l X) (hD : 1 ≤ D ∧ D ≤ 3000) : ∀ k,k ≤ l.length → CapI D l (Go.Proofs.Ytlljkgiomkmjbaa.Du.Th.raiseN D X k)
 | 0,_=>h
 | k + 1,hk=>(CapI.raiseN h hD k (by omega)).raise hD k (by omega)
theorem CapI.hi {D : Int} {l X : List Bd} (h : CapI D l X) (hl : l.length ≤ 10) : 0 ≤ hiS X ∧ hiS X ≤ 30000:=by
 have h1:=hiS_le (B:=3000) (l:=X) fun c hc=>(h.each c hc).2
 have h2:=h.len
 omega
def plF (A F : Nat → Am) : Nat → List AV
 | 0=>[]
 | m + 1=>plF A F m ++ [.r (i64 (A m).at_),.r (.sl 3 ((F m).beds.map bedR))]
set_option maxHeartbeats 1000000
abbrev bAt (l : List Bd) (i : Nat) : Bd:=l.getD i ⟨0,0,0⟩
theorem bAt_mem {l : List Bd} {i : Nat} (h : i < l.length) : bAt l i ∈ l:=by
 unfold bAt
 rw [List.getD_eq_getElem?_getD,List.getElem?_eq_getElem h]; exact List.getElem_mem h
structure TI (l : List Bd) (den : Int) (x : List Int × Int) : Prop where
 len : x.1.length = l.length
 each : ∀ i,i < l.length → (bAt l i).lo ≤ x.1.getD i 0 ∧ x.1.getD i 0 ≤ (bAt l i).hi
 sum : x.1.sum + x.2 = den
 left : 0 ≤ x.2
theorem sum_setT : ∀ {M : List Int} {a : Nat} {y : Int},a < M.length → (M.set a y).sum = M.sum - M.getD a 0 + y
 | x :: M,0,y,_=>by simp; omega
 | x :: M, a + 1, y, h => by
   have:=sum_setT (M:=M) (a:=a) (y:=y) (by simpa using h)
   simp only [List.set_cons_succ,List.sum_cons,this,List.getD_cons_succ]
   omega
theorem getD_set (M : List Int) (a i : Nat) (y : Int) (h : a < M.length) : (M.set a y).getD i 0 = if i = a then y else M.getD i 0:=by
 rw [List.getD_eq_getElem?_getD,List.getElem?_set,List.getD_eq_getElem?_getD]
 by_cases e : a = i
 · subst e; simp [h]
 · rw [if_neg e,if_neg (fun h=>e h.symm)]
def giveU (i : Nat) (m : Int) (x : List Int × Int) : List Int × Int:=(x.1.set i (x.1.getD i 0 + m),x.2 - m)
theorem TI.give {l : List Bd} {den : Int} {x : List Int × Int} (h : TI l den x) {i : Nat} (hi : i < l.length) {m : Int} (hm : 0 ≤ m ∧ m ≤ min x.2 ((bAt l i).hi - x.1.getD i 0)) : TI l den (giveU i m x):=by
 have hl:=h.len
 refine ⟨by simp [giveU,hl],fun j hj=>?_,?_,?_⟩
 · simp only [giveU];rw [getD_set _ _ _ _ (by omega)]
   have:=h.each j hj
   split
   · rename_i e; subst e; omega
   · exact this
 · simp only [giveU];rw [sum_setT (by omega)]
   have:=h.sum
   omega
 · simp only [giveU]; omega
def takeU (l : List Bd) (j : Nat) (x : List Int × Int) : Int:=min x.2 ((bAt l j).hi - x.1.getD j 0)
def fillU (l : List Bd) (x : List Int × Int) : Nat → List Int × Int
 | 0=>x
 | j + 1=>giveU j (takeU l j (fillU l x j)) (fillU l x j)
def idxU (l : List Bd) (bs : List Int) (k : Nat) : Nat:=((byteL bs k).toNat + k) % l.length
def moreU (l : List Bd) (bs : List Int) (k : Nat) (x : List Int × Int) : Int :=
 if k < 30 then min (takeU l (idxU l bs k) x) (1 + byteL bs (k + 1) % 40) else takeU l (idxU l bs k) x
def stepU (l : List Bd) (bs : List Int) (k : Nat) (x : List Int × Int) : List Int × Int :=
 if k < 30 then giveU (idxU l bs k) (moreU l bs k x) x else fillU l (giveU (idxU l bs k) (moreU l bs k x) x) l.length
def itU (l : List Bd) (bs : List Int) (den : Int) : Nat → List Int × Int
 | 0=>(l.map (·.lo),den - loS l)
 | k + 1=>stepU l bs k (itU l bs den k)
def truthU (l : List Bd) (den : Int) (bs : List Int) : List Int:=(itU l bs den 31).1
theorem TI.take {l : List Bd} {den : Int} {x : List Int × Int} (h : TI l den x) {j : Nat} (hj : j < l.length) : 0 ≤ takeU l j x:=by
 have:=h.each j hj
 have:=h.left
 unfold takeU; omega
theorem TI.fill {l : List Bd} {den : Int} {x : List Int × Int} (h : TI l den x) : ∀ j,j ≤ l.length → TI l den (fillU l x j)
 | 0,_=>h
 | j + 1,hj=>(TI.fill h j (by omega)).give (by omega) ⟨(TI.fill h j (by omega)).take (by omega),Int.le_refl _⟩
theorem idxU_lt {l : List Bd} {bs : List Int} {k : Nat} (h : 1 ≤ l.length) : idxU l bs k < l.length:=Nat.mod_lt _ (by omega)
theorem moreU_le {l : List Bd} {bs : List Int} (hb : ∀ n ∈ bs,0 ≤ n ∧ n ≤ 255) (hl : 1 ≤ l.length) {den : Int} {x : List Int × Int} (h : TI l den x) (k : Nat) : 0 ≤ moreU l bs k x ∧ moreU l bs k x ≤ takeU l (idxU l bs k) x:=by
 have h1:=h.take (idxU_lt (bs:=bs) (k:=k) hl)
 have h2:=byteL_le hb (k + 1)
 unfold moreU
 split <;> omega
theorem TI.step {l : List Bd} {bs : List Int} (hb : ∀ n ∈ bs,0 ≤ n ∧ n ≤ 255) (hl : 1 ≤ l.length) {den : Int} {x : List Int × Int} (h : TI l den x) (k : Nat) : TI l den (stepU l bs k x):=by
 have h1:=h.give (idxU_lt (bs:=bs) (k:=k) hl) (moreU_le hb hl h k)
 unfold stepU
 split
 · exact h1
 · exact h1.fill _ (Nat.le_refl _)
theorem TI.it {l : List Bd} {bs : List Int} (hb : ∀ n ∈ bs,0 ≤ n ∧ n ≤ 255) (hl : 1 ≤ l.length) {den : Int} (h : loS l ≤ den) (h1 : ∀ c ∈ l,c.lo ≤ c.hi) : ∀ k,TI l den (itU l bs den k)
 | 0 => by
   refine ⟨by simp [itU],fun i hi=>?_,?_,?_⟩
   · have:=h1 _ (bAt_mem hi)
     have e : (itU l bs den 0).1.getD i 0 = (bAt l i).lo:=by simp [itU,bAt,List.getD,List.getElem?_eq_getElem hi]
     rw [e]; omega
   · simp only [itU,loS]; omega
   · simp only [itU]; omega
 | k + 1=>(TI.it hb hl h h1 k).step hb hl k
theorem sum_getD (M : List Int) : ((List.range M.length).map fun i=>M.getD i 0).sum = M.sum:=by
 congr 1
 refine List.ext_getElem (by simp) fun i h1 h2=>?_
 simp [List.getD,List.getElem?_eq_getElem h2]
theorem range_bAt (l : List Bd) : (List.range l.length).map (bAt l) = l:=by
 refine List.ext_getElem (by simp) fun i h1 h2=>?_
 simp [bAt,List.getD,List.getElem?_eq_getElem h2]
def tightB (d L H : Int) (x : Bd) : Bd:=⟨x.b,max x.lo (d - (H - x.hi)),min x.hi (d - (L - x.lo))⟩
def tightL (d : Int) (l : List Bd) : List Bd:=l.map (tightB d (loS l) (hiS l))
theorem aimOk_facts {d : Int} {a : Am} (h : aimOk d a = true) : bedOk a.at_ = true ∧ a.beds ≠ [] ∧ seqOk none a.beds = true ∧ chOk d a.beds = true ∧ loS a.beds ≤ d ∧ d ≤ hiS a.beds:=by
 simp only [aimOk,Bool.and_eq_true,decide_eq_true_eq,Bool.not_eq_true'] at h
 obtain ⟨⟨⟨⟨⟨h1,h2⟩,h3⟩,h4⟩,h5⟩,h6⟩:=h
 exact ⟨h1,fun e=>(by rw [e] at h2; cases h2),h3,h4,h5,h6⟩
theorem checkV_zero {d : Int} {l : List Am} (h : checkV d l = 0) : l.length ≤ 20 ∧ (∀ a ∈ l,a.beds.length ≤ 10) ∧ l ≠ [] ∧ (1 ≤ d ∧ d ≤ 3000) ∧ ∀ a ∈ l,aimOk d a = true:=by
 unfold checkV at h
 split at h
 · cases h
 rename_i h1
 split at h
 · cases h
 rename_i h2
 split at h
 · rename_i h3
   simp only [Bool.or_eq_true,decide_eq_true_eq,List.any_eq_true,not_or,not_exists,not_and,Nat.not_lt,Bool.not_eq_true,Bool.not_eq_false',Bool.and_eq_true] at h1 h2
   refine ⟨h1.1,h1.2,fun e=>?_,by simpa using h2.2,List.all_eq_true.1 h3⟩
   rw [e] at h2
   simp at h2
 · cases h
def tightA (d : Int) (a : Am) : Am:=⟨a.at_,tightL d a.beds⟩
def cmpI (x y : Int) : Int:=if x < y then -1 else if y < x then 1 else 0
theorem nan_ok (n : Int) : ACalls Try.prog 207 [i64 n] (.bo false):=by
 refine acalls_st (rs:=[.bo false]) [.tmp 2] Try.func207 rfl (by kernel_rfl) Try.ntmps207 rfl (by simp) rfl fun C vs=>?_
 repeat refine zq ?_
 refine zb fun K hK=>?_;simp only [go_sem];(try simp (disch:=omega) only [zI]);repeat first | intro _ | refine ⟨by omega,?_⟩
 refine hK _ ?_;clear hK K
 repeat refine zq ?_
 refine zb fun K hK=>?_;simp only [go_sem];(try simp (disch:=omega) only [zI]);repeat first | intro _ | refine ⟨by omega,?_⟩
 refine hK _ ?_;clear hK K;refine ze ?_;simp only [go_sem]
 simp
theorem compare_ok (x y : Int) : ACalls Try.prog 149 [i64 x,i64 y] (i64 (cmpI x y)):=by
 refine acalls_st (rs:=[i64 (cmpI x y)]) [.tmp 4] Try.func149 rfl (by kernel_rfl) Try.ntmps149 rfl (by simp) rfl fun C vs=>?_
 repeat refine zq ?_
 refine zb fun K hK=>?_;simp only [go_sem];(try simp (disch:=omega) only [zI]);repeat first | intro _ | refine ⟨by omega,?_⟩
 refine hK _ ?_;clear hK K
 repeat refine zq ?_
 refine zb fun K hK=>?_;simp only [go_sem];(try simp (disch:=omega) only [zI])
 refine zh (nan_ok x) rfl (by simp only [go_sem,i64,ints]) (by simp only [go_sem,i64,ints]) (by first | exact .inl rfl | exact .inr rfl) ?_
 (try simp only [go_sem]);(try simp (disch:=omega) only [zI]);repeat first | intro _ | refine ⟨by omega,?_⟩
 refine hK _ ?_;clear hK K
 repeat refine zq ?_
 refine zb fun K hK=>?_;simp only [go_sem];(try simp (disch:=omega) only [zI])
 refine zh (nan_ok y) rfl (by simp only [go_sem,i64,ints]) (by simp only [go_sem,i64,ints]) (by first | exact .inl rfl | exact .inr rfl) ?_
 (try simp only [go_sem]);(try simp (disch:=omega) only [zI]);repeat first | intro _ | refine ⟨by omega,?_⟩
 refine hK _ ?_;clear hK K
 repeat refine zq ?_
 refine zb fun K hK=>?_;simp only [go_sem];(try simp (disch:=omega) only [zI]);repeat first | intro _ | refine ⟨by omega,?_⟩
 refine hK _ ?_;clear hK K
 repeat refine zq ?_
 refine zc rfl (fun hc=>?_) (fun hc=>?_) <;> (try simp only [go_sem] at hc)
 refine zx ?_
 try simp only [go_sem]
 repeat refine zq ?_
 refine zb fun K hK=>?_;simp only [go_sem];(try simp (disch:=omega) only [zI]);repeat first | intro _ | refine ⟨by omega,?_⟩
 refine hK _ ?_;clear hK K
 repeat refine zq ?_
 refine zc rfl (fun hc=>?_) (fun hc=>?_) <;> (try simp only [go_sem] at hc)
 refine zx ?_
 try simp only [go_sem]
 repeat refine zq ?_
 refine zb fun K hK=>?_;simp only [go_sem];(try simp (disch:=omega) only [zI]);repeat first | intro _ | refine ⟨by omega,?_⟩
 refine hK _ ?_;clear hK K
 repeat refine zq ?_
 refine zc rfl (fun hc=>?_) (fun hc=>?_) <;> (try simp only [go_sem] at hc)
 · repeat refine zq ?_
   refine zb fun K hK=>?_;simp only [go_sem];(try simp (disch:=omega) only [zI]);repeat first | intro _ | refine ⟨by omega,?_⟩
   refine hK _ ?_;clear hK K;refine ze ?_;simp only [go_sem]
   simp [cmpI,hc]
 refine zx ?_
 try simp only [go_sem]
 repeat refine zq ?_
 refine zb fun K hK=>?_;simp only [go_sem];(try simp (disch:=omega) only [zI]);repeat first | intro _ | refine ⟨by omega,?_⟩
 refine hK _ ?_;clear hK K
 have h1:=hc
 repeat refine zq ?_
 refine zc rfl (fun hc=>?_) (fun hc=>?_) <;> (try simp only [go_sem] at hc)
 · repeat refine zq ?_
   refine zb fun K hK=>?_;simp only [go_sem];(try simp (disch:=omega) only [zI]);repeat first | intro _ | refine ⟨by omega,?_⟩
   refine hK _ ?_;clear hK K;refine ze ?_;simp only [go_sem]
   have : ¬ x < y:=by omega
   simp [cmpI,hc,this]
 refine zx ?_
 try simp only [go_sem]
 repeat refine zq ?_
 refine zb fun K hK=>?_;simp only [go_sem];(try simp (disch:=omega) only [zI]);repeat first | intro _ | refine ⟨by omega,?_⟩
 refine hK _ ?_;clear hK K;refine ze ?_;simp only [go_sem]
 have h2 : ¬ x < y:=by omega
 have h3 : ¬ y < x:=by omega
 simp [cmpI,h2,h3]
theorem rising_ok (x y : Int) : ACalls Try.prog 126 [i64 x,i64 y] (i64 (cmpI x y)):=by
 refine acalls_st (rs:=[i64 (cmpI x y)]) [.tmp 4] Try.func126 rfl (by kernel_rfl) Try.ntmps126 rfl (by simp) rfl fun C vs=>?_
 repeat refine zq ?_
 refine zb fun K hK=>?_;simp only [go_sem];(try simp (disch:=omega) only [zI]);repeat first | intro _ | refine ⟨by omega,?_⟩
 refine hK _ ?_;clear hK K
 repeat refine zq ?_
 refine zb fun K hK=>?_;simp only [go_sem];(try simp (disch:=omega) only [zI])
 refine zh (compare_ok x y) rfl (by simp only [go_sem,i64,ints]) (by simp only [go_sem,i64,ints]) (by first | exact .inl rfl | exact .inr rfl) ?_
 (try simp only [go_sem]);(try simp (disch:=omega) only [zI]);repeat first | intro _ | refine ⟨by omega,?_⟩
 refine hK _ ?_;clear hK K;refine ze ?_;simp only [go_sem]
theorem falling_ok (x y : Int) : ACalls Try.prog 127 [i64 x,i64 y] (i64 (cmpI y x)):=by
 refine acalls_st (rs:=[i64 (cmpI y x)]) [.tmp 4] Try.func127 rfl (by kernel_rfl) Try.ntmps127 rfl (by simp) rfl fun C vs=>?_
 repeat refine zq ?_
 refine zb fun K hK=>?_;simp only [go_sem];(try simp (disch:=omega) only [zI]);repeat first | intro _ | refine ⟨by omega,?_⟩
 refine hK _ ?_;clear hK K
 repeat refine zq ?_
 refine zb fun K hK=>?_;simp only [go_sem];(try simp (disch:=omega) only [zI])
 refine zh (compare_ok y x) rfl (by simp only [go_sem,i64,ints]) (by simp only [go_sem,i64,ints]) (by first | exact .inl rfl | exact .inr rfl) ?_
 (try simp only [go_sem]);(try simp (disch:=omega) only [zI]);repeat first | intro _ | refine ⟨by omega,?_⟩
 refine hK _ ?_;clear hK K;refine ze ?_;simp only [go_sem]
theorem filled1_ok (i k : Nat) (vals : List Int) (f : Nat) (cm : Int → Int → Int) (hf : ∀ x y,ACalls Try.prog f [i64 x,i64 y] (i64 (cm x y))) {x y : Int} (hx : vals[i]? = some x) (hy : vals[k]? = some y) :
 ACalls Try.prog 187 [i64 i,i64 k,.rp [.fn f []],.rp [ints vals]] (i64 (cm x y)):=by
 have hi:=(List.getElem?_eq_some_iff.1 hx).1
 have hk:=(List.getElem?_eq_some_iff.1 hy).1
 refine acalls_st (rs:=[i64 (cm x y)]) [.tmp 6] Try.func187 rfl (by kernel_rfl) Try.ntmps187 rfl (by simp) rfl fun C vs=>?_
 repeat refine zq ?_
 refine zb fun K hK=>?_;simp only [go_sem];(try simp (disch:=omega) only [zI]);repeat first | intro _ | refine ⟨by omega,?_⟩
 refine hK _ ?_;clear hK K
 repeat refine zq ?_
 refine zg follows (by decide +kernel) (by kernel_rfl) fun K hK=>?_;simp only [go_sem,hx,hy,hi,hk];(try simp (disch:=omega) only [zI])
 refine zh (hf x y) rfl (by simp only [go_sem,i64,ints]) (by simp only [go_sem,i64,ints]) (by first | exact .inl rfl | exact .inr rfl) ?_
 (try simp only [go_sem]);(try simp (disch:=omega) only [zI]);repeat first | intro _ | refine ⟨by omega,?_⟩
 refine hK _ ?_;clear hK K;refine ze ?_;simp only [go_sem]
def insB (lt : Nat → Nat → Bool) (x : Nat) : List Nat → List Nat
 | []=>[x]
 | y :: ys=>if lt x y then y :: insB lt x ys else x :: y :: ys
def sortB (lt : Nat → Nat → Bool) : List Nat → List Nat → List Nat
 | [],R=>R
 | x :: xs,R=>sortB lt xs (insB lt x R)
def sortN (lt : Nat → Nat → Bool) (l : List Nat) : List Nat:=(sortB lt l []).reverse
theorem insB_len (lt : Nat → Nat → Bool) (x : Nat) : ∀ R,(insB lt x R).length = R.length + 1
 | []=>rfl
 | y :: R => by
   unfold insB
   split
   · simp [insB_len lt x R]
   · rfl
theorem insB_skip (lt : Nat → Nat → Bool) (x : Nat) : ∀ (R : List Nat) (k : Nat),(∀ y ∈ R.take k,lt x y = true) → insB lt x R = R.take k ++ insB lt x (R.drop k)
 | R,0,_=>by simp
 | [],k + 1,_=>by simp
 | y :: R, k + 1, h => by
   have hy : lt x y = true:=h y (by simp)
   have ih:=insB_skip lt x R k fun z hz=>h z (by simp [hz])
   simp only [List.take_succ_cons,List.drop_succ_cons,List.cons_append];rw [← ih]
   simp [insB,hy]
theorem sortB_snoc (lt : Nat → Nat → Bool) : ∀ (l : List Nat) (x : Nat) (R : List Nat),sortB lt (l ++ [x]) R = insB lt x (sortB lt l R)
 | [],_,_=>rfl
 | y :: l,x,R=>by simp only [List.cons_append,sortB]; exact sortB_snoc lt l x _
theorem sortB_len (lt : Nat → Nat → Bool) : ∀ (l R : List Nat),(sortB lt l R).length = l.length + R.length
 | [],R=>by simp [sortB]
 | x :: l,R=>by simp only [sortB]; rw [sortB_len lt l,insB_len]; simp; omega
theorem mem_insB (lt : Nat → Nat → Bool) (x z : Nat) : ∀ R,z ∈ insB lt x R ↔ z = x ∨ z ∈ R
 | []=>by simp [insB]
 | y :: R => by
   unfold insB
   split
   · simp only [List.mem_cons,mem_insB lt x z R]
     constructor
     · rintro (h | h | h) <;> simp [h]
     · rintro (h | h | h) <;> simp [h]
   · simp
theorem mem_sortB (lt : Nat → Nat → Bool) (z : Nat) : ∀ l R,z ∈ sortB lt l R ↔ z ∈ l ∨ z ∈ R
 | [],R=>by simp [sortB]
 | x :: l, R => by
   simp only [sortB];rw [mem_sortB lt z l,mem_insB]
   simp only [List.mem_cons]
   constructor
   · rintro (h | h | h) <;> simp [h]
   · rintro ((h | h) | h) <;> simp [h]
def holeL (R : List Nat) (x k : Nat) (rest : List Nat) : List Nat:=(R.drop k).reverse ++ x :: ((R.take k).reverse ++ rest)
theorem hole_len (R : List Nat) (x k : Nat) (rest : List Nat) (hk : k ≤ R.length) : (holeL R x k rest).length = R.length + 1 + rest.length:=by
 simp [holeL]; omega
theorem hole_at (R : List Nat) (x k : Nat) (rest : List Nat) (hk : k ≤ R.length) : (holeL R x k rest)[R.length - k]? = some x:=by
 unfold holeL
 rw [List.getElem?_append_right (by simp)]
 simp
theorem hole_next {R : List Nat} {x k y : Nat} {rest : List Nat} (hy : R[k]? = some y) : (holeL R x k rest)[R.length - k - 1]? = some y ∧ (holeL R x k rest) = (R.drop (k + 1)).reverse ++ y :: x :: ((R.take k).reverse ++ rest) ∧ holeL R x (k + 1) rest = (R.drop (k + 1)).reverse ++ x :: y :: ((R.take k).reverse ++ rest):=by
 have hk:=(List.getElem?_eq_some_iff.1 hy).1
 have hd:=drop_of_opt hy
 have ht:=take_of_opt hy
 have e1 : (holeL R x k rest) = (R.drop (k + 1)).reverse ++ y :: x :: ((R.take k).reverse ++ rest):=by
  unfold holeL; rw [hd]; simp
 refine ⟨?_,e1,by unfold holeL; rw [ht]; simp⟩
 rw [e1,List.getElem?_append_right (by simp; omega)]
 have : R.length - k - 1 - (R.drop (k + 1)).reverse.length = 0:=by simp; omega
 rw [this]; rfl
theorem hole_swap {α : Type} (g : Nat → α) {R : List Nat} {x k y : Nat} {rest : List Nat} (hy : R[k]? = some y) :
 (((holeL R x k rest).map g).set (R.length - k) (g y)).set (R.length - k - 1) (g x) = (holeL R x (k + 1) rest).map g:=by
 obtain ⟨_,e1,e2⟩:=hole_next (x:=x) (rest:=rest) hy
 have hk:=(List.getElem?_eq_some_iff.1 hy).1
 rw [e1,e2,← List.map_set,← List.map_set]
 congr 1
 have hl : (R.drop (k + 1)).reverse.length = R.length - k - 1:=by simp; omega
 generalize (R.drop (k + 1)).reverse = A at hl
 generalize (R.take k).reverse ++ rest = B
 have e3 : R.length - k = A.length + 1:=by omega
 rw [e3,Nat.add_sub_cancel]
 rw [List.set_append_right _ _ (by omega)]
 simp only [Nat.add_sub_cancel_left,List.set_cons_succ,List.set_cons_zero];rw [List.set_append_right _ _ (by omega)]
 simp
theorem lent_put {vs : Nat → Nat} {k : Nat} (h : Lent vs) : Lent (upd vs k 0):=fun j hj=>by
 unfold upd; split
 · rfl
 · exact h j hj
abbrev idx (l : List Nat) : List (List RV):=l.map fun (x : Nat)=>[i64 (x : Int)]
theorem insertion_ok (lt : Nat → Nat → Bool) (c : Nat → Nat → Int) (f : Nat) (caps : List RV) (l : List Nat) (hl : l.length ≤ 1000) (hlt : ∀ x y,lt x y = decide (c x y < 0))
 (hcc : ∀ x ∈ l,∀ y ∈ l,ACalls Try.prog f (i64 (x : Int) :: i64 (y : Int) :: caps) (i64 (c x y))) :
 MCalls Try.prog 161 [(1000,.arr 3 1 (idx l))] [(1000,.arr 3 1 (idx (sortN lt l)))] [.os 1000 0 1 0 l.length,.r (i64 0),.r (i64 l.length),.r (.fn f caps)] (.tu []):=by
 refine mcalls_st (n:=53) (rs:=[]) _ _ [] Try.func161 rfl (by kernel_rfl) Try.ntmps161 rfl (by simp) rfl rfl fun C=>?_
 have hmem : ∀ i z,z ∈ sortB lt (l.take i) [] → z ∈ l:=fun i z hz=>by
  rw [mem_sortB] at hz
  rcases hz with hz | hz
  · exact List.mem_of_mem_take hz
  · cases hz
 repeat refine zq ?_
 refine zb fun K hK=>?_;simp only [go_sem];(try simp (disch:=omega) only [zI]);repeat first | intro _ | refine ⟨by omega,?_⟩
 refine hK _ ?_;clear hK K;refine zw (zk [0,1,2,3,8]) ?_;simp only [go_sem]
 repeat refine zq ?_
 refine zd ?_
 refine awp_upto0 (n:=53) (max l.length 1) (fun i vs=>[(0,.os 1000 0 1 0 l.length),(1,.r (i64 0)),(2,.r (i64 l.length)),(3,.r (.fn f caps)),(8,.r (i64 i))])
  (fun i=>[(1000,.arr 3 1 (idx ((sortB lt (l.take i) []).reverse ++ l.drop i)))]) (fun i=>1 ≤ i) 1 (fit0_of [] lent_zero ?_ ?_) (by omega) (Nat.le_refl _) ?_
 · try simp only [go_sem]
 · simp only [go_sem]
   cases l with
   | nil=>rfl
   | cons x l=>simp [sortB,insB]
 · intro i vs hv hi hi1
   have hv0:=hv 1000 (by omega)
   repeat refine zq ?_
   refine zb fun K hK=>?_;simp only [go_sem];(try simp (disch:=omega) only [zI]);repeat first | intro _ | refine ⟨by omega,?_⟩
   refine hK _ ?_;clear hK K;refine zw (zk [0,1,2,3,8,14]) ?_;simp only [go_sem]
   repeat refine zq ?_
   refine zc rfl (fun hc=>?_) (fun hc=>?_) <;> (try simp only [go_sem] at hc)
   · have hci : i < l.length:=by omega
     obtain ⟨x,hx⟩:=opt_of_lt hci
     obtain ⟨R,hR⟩ : ∃ R,R = sortB lt (l.take i) []:=⟨_,rfl⟩
     have hRl : R.length = i:=by rw [hR,sortB_len]; simp; omega
     have hRm : ∀ z ∈ R,z ∈ l:=fun z hz=>hmem i z (hR ▸ hz)
     have hnx : sortB lt (l.take (i + 1)) [] = insB lt x R:=by rw [take_of_opt hx,sortB_snoc,hR]
     have hst : (sortB lt (l.take i) []).reverse ++ l.drop i = holeL R x 0 (l.drop (i + 1)):=by rw [← hR,drop_of_opt hx]; simp [holeL]
     rw [hst]
     refine zx ?_
     repeat refine zq ?_
     refine zd ?_
     repeat refine zq ?_
     refine zb fun K hK=>?_;simp only [go_sem];(try simp (disch:=omega) only [zI]);repeat first | intro _ | refine ⟨by omega,?_⟩
     refine hK _ ?_;clear hK K;refine zw (zk [0,1,2,3,8,9]) ?_;simp only [go_sem]
     repeat refine zq ?_
     refine zd ?_
     refine awp_upto0 (n:=53) i (fun k vs=>[(0,.os 1000 0 1 0 l.length),(1,.r (i64 0)),(2,.r (i64 l.length)),(3,.r (.fn f caps)),(8,.r (i64 i)),(9,.r (i64 (i - k : Nat)))])
      (fun k=>[(1000,.arr 3 1 (idx (holeL R x k (l.drop (i + 1)))))]) (fun k=>∀ y ∈ R.take k,lt x y = true) 0 (fit0_of [] hv ?_ ?_) (Nat.zero_le _) (by simp) ?_
     · try simp only [go_sem]
     · try simp only [go_sem]
     · intro k vs hv hk hI
       have hv0:=hv 1000 (by omega)
       have hins:=insB_skip lt x R k hI
       have done : insB lt x (R.drop k) = x :: R.drop k → sortB lt (l.take (i + 1)) [] = R.take k ++ x :: R.drop k:=fun h=>by rw [hnx,hins,h]
       by_cases hk0 : k = i
       · have e0 : i - k = 0:=by omega
         repeat refine zq ?_
         refine awp_dreg2 [(0,some 1000)] follows (by decide +kernel) (by kernel_rfl) (by simp only [keysOk,List.mem_cons,List.not_mem_nil,forall_eq_or_imp,Oc.keyOf,go_sem]; simp) fun K hK=>?_
         simp only [go_sem,hv0,e0];(try simp (disch:=omega) only [zI]);repeat first | intro _ | refine ⟨by omega,?_⟩
         refine hK _ ?_;clear hK K;refine zw (zk [0,1,2,3,8,9,34]) ?_;simp only [go_sem]
         repeat refine zq ?_
         refine zc rfl (fun hc=>?_) (fun hc=>?_) <;> (try simp only [go_sem] at hc)
         refine zf ?_;simp only [go_sem]
         repeat refine zq ?_
         refine zb fun K hK=>?_;simp only [go_sem];(try simp (disch:=omega) only [zI]);repeat first | intro _ | refine ⟨by omega,?_⟩
         refine hK _ ?_;clear hK K
         try simp only [go_sem]
         refine ⟨by omega,fit0_of [] hv ?_ ?_⟩
         · try simp only [go_sem]
         · have hd0 : R.drop k = []:=List.drop_eq_nil_of_le (by omega)
           have:=done (by rw [hd0]; rfl)
           simp only [go_sem,this]
           simp [holeL]
       · obtain ⟨y,hy⟩:=opt_of_lt (l:=R) (i:=k) (by omega)
         obtain ⟨j,hj⟩ : ∃ j,i - k = j + 1:=⟨i - k - 1,by omega⟩
         have hjs : IntKind.i64.wrap ((j : Int) + 1 - 1) = j:=by rw [zI] <;> omega
         have hlen : (holeL R x k (l.drop (i + 1))).length = l.length:=by rw [hole_len _ _ _ _ (by omega),List.length_drop]; omega
         have hxa : (holeL R x k (l.drop (i + 1)))[j + 1]? = some x:=by rw [← hj,← hRl]; exact hole_at R x k _ (by omega)
         have hya : (holeL R x k (l.drop (i + 1)))[j]? = some y:=by
          have:=(hole_next (x:=x) (rest:=l.drop (i + 1)) hy).1
          rw [hRl,hj] at this
          exact this
         have hcall:=hcc x (mem_of_opt hx) y (hRm y (mem_of_opt hy))
         have hpos : (0 < (j : Int) + 1) = True:=by simp
         have hlxy:=hlt x y
         repeat refine zq ?_
         refine awp_dreg2 [(0,some 1000)] follows (by decide +kernel) (by kernel_rfl) (by simp only [keysOk,List.mem_cons,List.not_mem_nil,forall_eq_or_imp,Oc.keyOf,go_sem]; simp) fun K hK=>?_
         simp only [go_sem,hv0,hj,hjs,hxa,hya,hlen,hpos];(try simp (disch:=omega) only [zI])
         refine ⟨by omega,by omega,?_⟩
         refine zh (hcall) rfl (by simp only [go_sem,i64,ints,hv0]) (by simp only [go_sem,i64,ints,hv0]) (by first | exact .inl rfl | exact .inr rfl) ?_
         (try simp only [go_sem,hv0]);(try simp (disch:=omega) only [zI]);repeat first | intro _ | refine ⟨by omega,?_⟩
         refine hK _ ?_;clear hK K;refine zw (zk [0,1,2,3,8,9,34]) ?_;simp only [go_sem]
         cases hcx : decide (c x y < 0)
         · repeat refine zq ?_
           refine zc rfl (fun hc=>?_) (fun hc=>?_) <;> (try simp only [go_sem] at hc)
           refine zf ?_;simp only [go_sem]
           repeat refine zq ?_
           refine zb fun K hK=>?_;simp only [go_sem];(try simp (disch:=omega) only [zI]);repeat first | intro _ | refine ⟨by omega,?_⟩
           refine hK _ ?_;clear hK K
           try simp only [go_sem]
           refine ⟨by omega,fit0_of [] hv ?_ ?_⟩
           · try simp only [go_sem]
           · have:=done (by rw [drop_of_opt hy]; simp [insB,hlxy,hcx])
             simp only [go_sem,this]
             simp [holeL]
         · repeat refine zq ?_
           refine zc rfl (fun hc=>?_) (fun hc=>?_) <;> (try simp only [go_sem] at hc)
           refine zx ?_
           try simp only [go_sem]
           repeat refine zq ?_
           refine zd ?_
           have hset : ((idx (holeL R x k (l.drop (i + 1)))).set (j + 1) [i64 (y : Int)]).getD j [] = [i64 (y : Int)]:=by
            rw [List.getD_eq_getElem?_getD,List.getElem?_set_ne (by omega),List.getElem?_map,hya]; rfl
           have hsw:=hole_swap (fun (x : Nat)=>[i64 (x : Int)]) (x:=x) (rest:=l.drop (i + 1)) hy
           rw [hRl,hj] at hsw
           simp only [Nat.add_sub_cancel] at hsw
           repeat refine zq ?_
           refine awp_dreg2 [(0,some 1000)] follows (by decide +kernel) (by kernel_rfl) (by simp only [keysOk,List.mem_cons,List.not_mem_nil,forall_eq_or_imp,Oc.keyOf,go_sem]; simp) fun K hK=>?_
           simp only [go_sem,hv0,hj,hjs,hxa,hya,hlen,hset,List.length_set];(try simp (disch:=omega) only [zI])
           repeat' first | intro _ | refine And.intro ?_ ?_
           all_goals first | omega | skip
           all_goals (refine hK _ ?_; clear hK K)
           refine zw (zk [0,1,2,3,8,9]) ?_;simp only [go_sem]
           repeat refine zq ?_
           refine zb fun K hK=>?_;simp only [go_sem,hjs];(try simp (disch:=omega) only [zI]);repeat first | intro _ | refine ⟨by omega,?_⟩
           refine hK _ ?_;clear hK K
           try simp only [go_sem]
           have hj2 : i - (k + 1) = j:=by omega
           refine ⟨by omega,?_,fit0_of [] (lent_put (lent_put hv)) ?_ ?_⟩
           · rw [take_of_opt hy]
             intro z hz
             rcases List.mem_append.1 hz with hz | hz
             · exact hI z hz
             · simp only [List.mem_singleton] at hz
               subst hz
               rw [hlxy,hcx]
           · simp only [go_sem,hj2]
           · simp only [go_sem];exact congrArg (fun z=>[(1000,RowC.arr 3 1 z)]) hsw
   · refine zf ?_;simp only [go_sem]
     have h1 : l.take i = l:=List.take_of_length_le (by omega)
     have h2 : l.drop i = []:=List.drop_eq_nil_of_le (by omega)
     rw [h1,h2,List.append_nil]
     rfl
end Go.Proofs.Ytlljkgiomkmjbaa.Du.Th
