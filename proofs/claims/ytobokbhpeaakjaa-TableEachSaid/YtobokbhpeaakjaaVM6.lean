/- Part 6 of the texts of this claim. -/
import Derived.Test.YtobokbhpeaakjaaVM5
import Derived.Test.YtobokbhpeaakjaaVM4
import Derived.KernelRfl
namespace Go.Proofs.Ytobokbhpeaakjaa
open Go Go.Oc
set_option linter.unusedSimpArgs false
set_option linter.unusedVariables false
set_option maxRecDepth 8000
structure Mt where
 h : Int
 a : Int
 p : Bool
 f : Int
 g : Int
structure Tr where
 teams : Int
 legs : Int
 win : Int
 draw : Int
 ded : List Int
 up : Int
 down : Int
structure Rw where
 team : Int
 pl : Int
 won : Int
 dr : Int
 lo : Int
 f : Int
 g : Int
 pts : Int
abbrev mtR (m : Mt) : List RV:=[i64 m.h,i64 m.a,.bo m.p,i64 m.f,i64 m.g]
abbrev mtsR (l : List Mt) : RV:=.sl 5 (l.map mtR)
abbrev trC (r : Tr) : List RV:=[i64 r.teams,i64 r.legs,i64 r.win,i64 r.draw,ints r.ded,i64 r.up,i64 r.down]
abbrev trV (r : Tr) : RV:=.ag (trC r)
abbrev rwR (x : Rw) : List RV:=[i64 x.team,i64 x.pl,i64 x.won,i64 x.dr,i64 x.lo,i64 x.f,i64 x.g,i64 x.pts]
abbrev rwsR (l : List Rw) : RV:=.sl 8 (l.map rwR)
abbrev dvC (r : Tr) (l : List Mt) : List RV:=[i64 r.teams,i64 r.legs,i64 r.win,i64 r.draw,ints r.ded,i64 r.up,i64 r.down,mtsR l]
abbrev dvV (r : Tr) (l : List Mt) : RV:=.ag (dvC r l)
def I64 (n : Int) : Prop:=-9223372036854775808 ≤ n ∧ n ≤ 9223372036854775807
structure WfR (r : Tr) : Prop where
 teams : I64 r.teams
 legs : I64 r.legs
 win : I64 r.win
 draw : I64 r.draw
 ded : ∀ x ∈ r.ded,I64 x
 up : I64 r.up
 down : I64 r.down
structure WfM (m : Mt) : Prop where
 h : I64 m.h
 a : I64 m.a
 f : I64 m.f
 g : I64 m.g
theorem within1_ok (n a b : Int) : ACalls Try.prog 98 [i64 n,.rp [i64 a],.rp [i64 b]] (.bo (decide (n < a) || decide (b < n))):=by
 refine acalls_st (rs:=[.bo (decide (n < a) || decide (b < n))]) [.tmp 4] Try.func98 rfl (by kernel_rfl) Try.ntmps98 rfl (by simp) rfl fun C vs=>?_
 repeat refine zq ?_
 refine zb fun K hK=>?_;simp only [go_sem];(try simp (disch:=omega) only [zI]);repeat first | intro _ | refine ⟨by omega,?_⟩
 refine hK _ ?_;clear hK K
 repeat refine zq ?_
 refine zb fun K hK=>?_;simp only [go_sem];(try simp (disch:=omega) only [zI])
 refine ⟨fun h=>?_,fun h=>?_⟩ <;>
 · repeat first | intro _ | refine ⟨by omega,?_⟩
   refine hK _ ?_;clear hK K;refine ze ?_;simp only [go_sem]
   try simp [h]
theorem index_ok (p : Int → Bool) (f : Nat) (caps : List RV) (l : List Int) (h : ∀ x ∈ l,ACalls Try.prog f (i64 x :: caps) (.bo (p x))) : ACalls Try.prog 109 [ints l,.fn f caps] (i64 (indexF p l)):=by
 refine acalls_st (rs:=[i64 (indexF p l)]) [.tmp 4] Try.func109 rfl (by kernel_rfl) Try.ntmps109 rfl (by simp) rfl fun C vs=>?_
 repeat refine zq ?_
 refine zb fun K hK=>?_;simp only [go_sem];(try simp (disch:=omega) only [zI]);repeat first | intro _ | refine ⟨by omega,?_⟩
 refine hK _ ?_;clear hK K
 repeat refine zq ?_
 refine zb fun K hK=>?_;simp only [go_sem];(try simp (disch:=omega) only [zI])
 intro hl
 repeat first | intro _ | refine ⟨by omega,?_⟩
 refine hK _ ?_;clear hK K
 repeat refine zq ?_
 refine zd ?_
 refine awp_upto (n:=19) l.length (fun i vs=>[(0,.r (ints l)),(1,.r (.fn f caps)),(7,.r (i64 l.length)),(8,.r (i64 i))]) (fun _=>[])
  (fun i=>indexF p l = if indexF p (l.drop i) < 0 then -1 else i + indexF p (l.drop i)) 0 (fit_of [] ?_ rfl) (Nat.zero_le _) ?_ ?_
 · try simp only [go_sem]
 · simp only [List.drop_zero]
   have:=indexF_ge p l
   split
   · omega
   · simp
 · intro i vs hi hI
   repeat refine zq ?_
   refine zb fun K hK=>?_;simp only [go_sem];(try simp (disch:=omega) only [zI]);repeat first | intro _ | refine ⟨by omega,?_⟩
   refine hK _ ?_;clear hK K
   repeat refine zq ?_
   refine zc rfl (fun hc=>?_) (fun hc=>?_) <;> (try simp only [go_sem] at hc)
   · obtain ⟨x,hx⟩:=opt_of_lt hc
     rw [drop_of_opt hx] at hI
     refine zx ?_
     repeat refine zq ?_
     refine zd ?_
     repeat refine zq ?_
     refine zb fun K hK=>?_;simp only [go_sem];(try simp (disch:=omega) only [zI]);repeat first | intro _ | refine ⟨by omega,?_⟩
     refine hK _ ?_;clear hK K
     repeat refine zq ?_
     refine zb fun K hK=>?_;simp only [go_sem,hx,hc];(try simp (disch:=omega) only [zI])
     refine zh (h x (mem_of_opt hx)) rfl (by simp only [go_sem,i64,ints]) (by simp only [go_sem,i64,ints]) (by first | exact .inl rfl | exact .inr rfl) ?_
     (try simp only [go_sem]);(try simp (disch:=omega) only [zI]);repeat first | intro _ | refine ⟨by omega,?_⟩
     refine hK _ ?_;clear hK K
     repeat refine zq ?_
     refine zc rfl (fun hc=>?_) (fun hc=>?_) <;> (try simp only [go_sem] at hc)
     · repeat refine zq ?_
       refine zb fun K hK=>?_;simp only [go_sem];(try simp (disch:=omega) only [zI]);repeat first | intro _ | refine ⟨by omega,?_⟩
       refine hK _ ?_;clear hK K;refine ze ?_;simp only [go_sem]
       simp [hI,indexF,hc]
     · refine zx ?_
       try simp only [go_sem]
       repeat refine zq ?_
       refine zb fun K hK=>?_;simp only [go_sem];(try simp (disch:=omega) only [zI]);repeat first | intro _ | refine ⟨by omega,?_⟩
       refine hK _ ?_;clear hK K
       try simp only [go_sem]
       refine ⟨‹_›,?_,fit_of [] ?_ rfl⟩
       · rw [hI]
         simp only [indexF,hc,Bool.false_eq_true,if_false]
         have:=indexF_ge p (l.drop (i + 1))
         (repeat' split) <;> omega
       · try simp only [go_sem]
   · refine zf ?_;simp only [go_sem]
     repeat refine zq ?_
     refine zb fun K hK=>?_;simp only [go_sem];(try simp (disch:=omega) only [zI]);repeat first | intro _ | refine ⟨by omega,?_⟩
     refine hK _ ?_;clear hK K;refine ze ?_;simp only [go_sem]
     have : l.drop i = []:=List.drop_eq_nil_of_le (by omega)
     simp [hI,this,indexF]
theorem contains_ok (p : Int → Bool) (f : Nat) (caps : List RV) (l : List Int) (h : ∀ x ∈ l,ACalls Try.prog f (i64 x :: caps) (.bo (p x))) : ACalls Try.prog 85 [ints l,.fn f caps] (.bo (l.any p)):=by
 refine acalls_st (rs:=[.bo (l.any p)]) [.tmp 4] Try.func85 rfl (by kernel_rfl) Try.ntmps85 rfl (by simp) rfl fun C vs=>?_
 repeat refine zq ?_
 refine zb fun K hK=>?_;simp only [go_sem];(try simp (disch:=omega) only [zI]);repeat first | intro _ | refine ⟨by omega,?_⟩
 refine hK _ ?_;clear hK K
 repeat refine zq ?_
 refine zb fun K hK=>?_;simp only [go_sem];(try simp (disch:=omega) only [zI])
 refine zh (index_ok p f caps l h) rfl (by simp only [go_sem,i64,ints]) (by simp only [go_sem,i64,ints]) (by first | exact .inl rfl | exact .inr rfl) ?_
 (try simp only [go_sem]);(try simp (disch:=omega) only [zI]);repeat first | intro _ | refine ⟨by omega,?_⟩
 refine hK _ ?_;clear hK K;refine ze ?_;simp only [go_sem];rw [← indexF_any]
def withinL (a b : Int) (l : List Int) : Bool:=l.all fun n=>decide (a ≤ n) && decide (n ≤ b)
theorem withinL_not (a b : Int) (l : List Int) : (!(l.any fun n=>decide (n < a) || decide (b < n))) = withinL a b l:=by
 unfold withinL
 rw [List.not_any_eq_all_not]
 congr 1
 funext n
 by_cases h1 : n < a <;> by_cases h2 : b < n <;> simp [h1,h2] <;> omega
theorem within_ok (a b : Int) (l : List Int) : ACalls Try.prog 73 [i64 a,i64 b,ints l] (.bo (withinL a b l)):=by
 refine acalls_st (rs:=[.bo (withinL a b l)]) [.tmp 6] Try.func73 rfl (by kernel_rfl) Try.ntmps73 rfl (by simp) rfl fun C vs=>?_
 repeat refine zq ?_
 refine zb fun K hK=>?_;simp only [go_sem];(try simp (disch:=omega) only [zI]);repeat first | intro _ | refine ⟨by omega,?_⟩
 refine hK _ ?_;clear hK K
 repeat refine zq ?_
 refine zb fun K hK=>?_;simp only [go_sem];(try simp (disch:=omega) only [zI])
 refine zh (contains_ok (fun n=>decide (n < a) || decide (b < n)) 98 [.rp [i64 a],.rp [i64 b]] l fun x _=>within1_ok x a b) rfl (by simp only [go_sem,i64,ints]) (by simp only [go_sem,i64,ints]) (by first | exact .inl rfl | exact .inr rfl) ?_
 (try simp only [go_sem]);(try simp (disch:=omega) only [zI]);repeat first | intro _ | refine ⟨by omega,?_⟩
 refine hK _ ?_;clear hK K;refine ze ?_;simp only [go_sem];rw [← withinL_not]
theorem indexM_ok (p : Mt → Bool) (f : Nat) (caps : List RV) (l : List Mt) (h : ∀ x ∈ l,ACalls Try.prog f (.ag (mtR x) :: caps) (.bo (p x))) : ACalls Try.prog 59 [mtsR l,.fn f caps] (i64 (indexF p l)):=by
 refine acalls_st (rs:=[i64 (indexF p l)]) [.tmp 4] Try.func59 rfl (by kernel_rfl) Try.ntmps59 rfl (by simp) rfl fun C vs=>?_
 repeat refine zq ?_
 refine zb fun K hK=>?_;simp only [go_sem];(try simp (disch:=omega) only [zI]);repeat first | intro _ | refine ⟨by omega,?_⟩
 refine hK _ ?_;clear hK K
 repeat refine zq ?_
 refine zb fun K hK=>?_;simp only [go_sem];(try simp (disch:=omega) only [zI])
 intro hl
 repeat first | intro _ | refine ⟨by omega,?_⟩
 refine hK _ ?_;clear hK K
 repeat refine zq ?_
 refine zd ?_
 refine awp_upto (n:=19) l.length (fun i vs=>[(0,.r (mtsR l)),(1,.r (.fn f caps)),(7,.r (i64 l.length)),(8,.r (i64 i))]) (fun _=>[])
  (fun i=>indexF p l = if indexF p (l.drop i) < 0 then -1 else i + indexF p (l.drop i)) 0 (fit_of [] ?_ rfl) (Nat.zero_le _) ?_ ?_
 · try simp only [go_sem]
 · simp only [List.drop_zero]
   have:=indexF_ge p l
   split
   · omega
   · simp
 · intro i vs hi hI
   repeat refine zq ?_
   refine zb fun K hK=>?_;simp only [go_sem];(try simp (disch:=omega) only [zI]);repeat first | intro _ | refine ⟨by omega,?_⟩
   refine hK _ ?_;clear hK K
   repeat refine zq ?_
   refine zc rfl (fun hc=>?_) (fun hc=>?_) <;> (try simp only [go_sem] at hc)
   · obtain ⟨x,hx⟩:=opt_of_lt hc
     rw [drop_of_opt hx] at hI
     refine zx ?_
     repeat refine zq ?_
     refine zd ?_
     repeat refine zq ?_
     refine zb fun K hK=>?_;simp only [go_sem];(try simp (disch:=omega) only [zI]);repeat first | intro _ | refine ⟨by omega,?_⟩
     refine hK _ ?_;clear hK K
     repeat refine zq ?_
     refine zb fun K hK=>?_;simp only [go_sem,hx,hc];(try simp (disch:=omega) only [zI])
     refine zh (h x (mem_of_opt hx)) rfl (by simp only [go_sem,i64,ints]) (by simp only [go_sem,i64,ints]) (by first | exact .inl rfl | exact .inr rfl) ?_
     (try simp only [go_sem]);(try simp (disch:=omega) only [zI]);repeat first | intro _ | refine ⟨by omega,?_⟩
     refine hK _ ?_;clear hK K
     repeat refine zq ?_
     refine zc rfl (fun hc=>?_) (fun hc=>?_) <;> (try simp only [go_sem] at hc)
     · repeat refine zq ?_
       refine zb fun K hK=>?_;simp only [go_sem];(try simp (disch:=omega) only [zI]);repeat first | intro _ | refine ⟨by omega,?_⟩
       refine hK _ ?_;clear hK K;refine ze ?_;simp only [go_sem]
       simp [hI,indexF,hc]
     · refine zx ?_
       try simp only [go_sem]
       repeat refine zq ?_
       refine zb fun K hK=>?_;simp only [go_sem];(try simp (disch:=omega) only [zI]);repeat first | intro _ | refine ⟨by omega,?_⟩
       refine hK _ ?_;clear hK K
       try simp only [go_sem]
       refine ⟨‹_›,?_,fit_of [] ?_ rfl⟩
       · rw [hI]
         simp only [indexF,hc,Bool.false_eq_true,if_false]
         have:=indexF_ge p (l.drop (i + 1))
         (repeat' split) <;> omega
       · try simp only [go_sem]
   · refine zf ?_;simp only [go_sem]
     repeat refine zq ?_
     refine zb fun K hK=>?_;simp only [go_sem];(try simp (disch:=omega) only [zI]);repeat first | intro _ | refine ⟨by omega,?_⟩
     refine hK _ ?_;clear hK K;refine ze ?_;simp only [go_sem]
     have : l.drop i = []:=List.drop_eq_nil_of_le (by omega)
     simp [hI,this,indexF]
def numOk (r : Tr) : Bool:=withinL 2 10 [r.teams] && withinL 1 25 [r.legs] && withinL 0 9 [r.win] && withinL 0 r.win [r.draw]
def dedOk (r : Tr) : Bool:=decide ((r.ded.length : Int) = 0) || (decide ((r.ded.length : Int) = r.teams) && withinL 0 99 r.ded)
def rulesOk (r : Tr) : Bool:=numOk r && dedOk r && withinL 0 r.teams [r.up] && withinL 0 (r.teams - r.up) [r.down]
theorem withinL_one {a b n : Int} : withinL a b [n] = true ↔ a ≤ n ∧ n ≤ b:=by simp [withinL]
theorem withinL_two {a b n m : Int} : withinL a b [n,m] = true ↔ (a ≤ n ∧ n ≤ b) ∧ a ≤ m ∧ m ≤ b:=by simp [withinL]
structure RulesI (r : Tr) : Prop where
 teams : 2 ≤ r.teams ∧ r.teams ≤ 10
 legs : 1 ≤ r.legs ∧ r.legs ≤ 25
 win : 0 ≤ r.win ∧ r.win ≤ 9
 draw : 0 ≤ r.draw ∧ r.draw ≤ r.win
 ded : r.ded = [] ∨ ((r.ded.length : Int) = r.teams ∧ ∀ x ∈ r.ded,0 ≤ x ∧ x ≤ 99)
 up : 0 ≤ r.up ∧ r.up ≤ r.teams
 down : 0 ≤ r.down ∧ r.down ≤ r.teams - r.up
theorem rulesOk_iff {r : Tr} : rulesOk r = true ↔ RulesI r:=by
 unfold rulesOk numOk dedOk
 simp only [Bool.and_eq_true,Bool.or_eq_true,withinL_one,decide_eq_true_eq]
 constructor
 · rintro ⟨⟨⟨⟨⟨⟨h1,h2⟩,h3⟩,h4⟩,h5⟩,h6⟩,h7⟩
   refine ⟨h1,h2,h3,h4,?_,h6,h7⟩
   rcases h5 with h | ⟨h,h'⟩
   · exact .inl (List.length_eq_zero_iff.1 (by omega))
   · refine .inr ⟨h,fun x hx=>?_⟩
     have:=List.all_eq_true.1 h' x hx
     simpa using this
 · rintro ⟨h1,h2,h3,h4,h5,h6,h7⟩
   refine ⟨⟨⟨⟨⟨⟨h1,h2⟩,h3⟩,h4⟩,?_⟩,h6⟩,h7⟩
   rcases h5 with h | ⟨h,h'⟩
   · left; rw [h]; rfl
   · refine .inr ⟨h,List.all_eq_true.2 fun x hx=>?_⟩
     simpa using h' x hx
theorem areRules_ok (r : Tr) (hw : WfR r) : ACalls Try.prog 58 [trV r] (.bo (rulesOk r)):=by
 have hdl : (r.ded.length : Int) = 0 ∨ 0 < (r.ded.length : Int):=by omega
 refine acalls_st (rs:=[.bo (rulesOk r)]) [.tmp 2] Try.func58 rfl (by kernel_rfl) Try.ntmps58 rfl (by simp) rfl fun C vs=>?_
 repeat refine zq ?_
 refine zb fun K hK=>?_;simp only [go_sem];(try simp (disch:=omega) only [zI]);repeat first | intro _ | refine ⟨by omega,?_⟩
 refine hK _ ?_;clear hK K;refine zw (sub_frzP 1 1 (trC r) (by omega) rfl rfl) ?_;refine zw (zk [1]) ?_;simp only [go_sem]
 repeat refine zq ?_
 refine awp_join (n:=69) (fun (_ : Unit) vs=>[(1,.r (.rp (trC r))),(3,.r (.bo (numOk r)))]) (fun _=>[]) (fun _=>True) (fun _ h=>h) ?_ ?_
 · cases a1 : withinL 2 10 [r.teams]
   · repeat refine zq ?_
     refine zb fun K hK=>?_;simp only [go_sem];(try simp (disch:=omega) only [zI])
     refine zh (within_ok 2 10 [r.teams]) rfl (by simp only [go_sem,i64,ints,a1]) (by simp only [go_sem,i64,ints,a1]) (by first | exact .inl rfl | exact .inr rfl) ?_
     (try simp only [go_sem,a1]);(try simp (disch:=omega) only [zI]);repeat first | intro _ | refine ⟨by omega,?_⟩
     refine hK _ ?_;clear hK K
     refine ⟨(),trivial,fit_of [] ?_ ?_⟩
     · try simp only [go_sem]
       simp [numOk,a1]
     · try simp only [go_sem]
   cases a2 : withinL 1 25 [r.legs]
   · repeat refine zq ?_
     refine zb fun K hK=>?_;simp only [go_sem];(try simp (disch:=omega) only [zI])
     refine zh (within_ok 2 10 [r.teams]) rfl (by simp only [go_sem,i64,ints,a1]) (by simp only [go_sem,i64,ints,a1]) (by first | exact .inl rfl | exact .inr rfl) ?_
     (try simp only [go_sem,a1]);(try simp (disch:=omega) only [zI])
     refine zh (within_ok 1 25 [r.legs]) rfl (by simp only [go_sem,i64,ints,a2]) (by simp only [go_sem,i64,ints,a2]) (by first | exact .inl rfl | exact .inr rfl) ?_
     (try simp only [go_sem,a2]);(try simp (disch:=omega) only [zI]);repeat first | intro _ | refine ⟨by omega,?_⟩
     refine hK _ ?_;clear hK K
     refine ⟨(),trivial,fit_of [] ?_ ?_⟩
     · try simp only [go_sem]
       simp [numOk,a1,a2]
     · try simp only [go_sem]
   cases a3 : withinL 0 9 [r.win]
   · repeat refine zq ?_
     refine zb fun K hK=>?_;simp only [go_sem];(try simp (disch:=omega) only [zI])
     refine zh (within_ok 2 10 [r.teams]) rfl (by simp only [go_sem,i64,ints,a1]) (by simp only [go_sem,i64,ints,a1]) (by first | exact .inl rfl | exact .inr rfl) ?_
     (try simp only [go_sem,a1]);(try simp (disch:=omega) only [zI])
     refine zh (within_ok 1 25 [r.legs]) rfl (by simp only [go_sem,i64,ints,a2]) (by simp only [go_sem,i64,ints,a2]) (by first | exact .inl rfl | exact .inr rfl) ?_
     (try simp only [go_sem,a2]);(try simp (disch:=omega) only [zI])
     refine zh (within_ok 0 9 [r.win]) rfl (by simp only [go_sem,i64,ints,a3]) (by simp only [go_sem,i64,ints,a3]) (by first | exact .inl rfl | exact .inr rfl) ?_
     (try simp only [go_sem,a3]);(try simp (disch:=omega) only [zI]);repeat first | intro _ | refine ⟨by omega,?_⟩
     refine hK _ ?_;clear hK K
     refine ⟨(),trivial,fit_of [] ?_ ?_⟩
     · try simp only [go_sem]
       simp [numOk,a1,a2,a3]
     · try simp only [go_sem]
   repeat refine zq ?_
   refine zb fun K hK=>?_;simp only [go_sem];(try simp (disch:=omega) only [zI])
   refine zh (within_ok 2 10 [r.teams]) rfl (by simp only [go_sem,i64,ints,a1]) (by simp only [go_sem,i64,ints,a1]) (by first | exact .inl rfl | exact .inr rfl) ?_
   (try simp only [go_sem,a1]);(try simp (disch:=omega) only [zI])
   refine zh (within_ok 1 25 [r.legs]) rfl (by simp only [go_sem,i64,ints,a2]) (by simp only [go_sem,i64,ints,a2]) (by first | exact .inl rfl | exact .inr rfl) ?_
   (try simp only [go_sem,a2]);(try simp (disch:=omega) only [zI])
   refine zh (within_ok 0 9 [r.win]) rfl (by simp only [go_sem,i64,ints,a3]) (by simp only [go_sem,i64,ints,a3]) (by first | exact .inl rfl | exact .inr rfl) ?_
   (try simp only [go_sem,a3]);(try simp (disch:=omega) only [zI])
   refine zh (within_ok 0 r.win [r.draw]) rfl (by simp only [go_sem,i64,ints]) (by simp only [go_sem,i64,ints]) (by first | exact .inl rfl | exact .inr rfl) ?_
   (try simp only [go_sem]);(try simp (disch:=omega) only [zI]);repeat first | intro _ | refine ⟨by omega,?_⟩
   refine hK _ ?_;clear hK K
   refine ⟨(),trivial,fit_of [] ?_ ?_⟩
   · try simp only [go_sem]
     simp [numOk,a1,a2,a3]
   · try simp only [go_sem]
 intro _ vs _
 repeat refine zq ?_
 refine awp_join (n:=69) (fun (_ : Unit) vs=>[(1,.r (.rp (trC r))),(3,.r (.bo (numOk r))),(4,.r (.bo (dedOk r)))]) (fun _=>[]) (fun _=>True) (fun _ h=>h) ?_ ?_
 · cases a1 : ((r.ded.length : Int) == 0)
   · cases a2 : ((r.ded.length : Int) == r.teams)
     · repeat refine zq ?_
       refine zb fun K hK=>?_;simp only [go_sem,a1,a2];(try simp (disch:=omega) only [zI]);repeat first | intro _ | refine ⟨by omega,?_⟩
       refine hK _ ?_;clear hK K
       refine ⟨(),trivial,fit_of [] ?_ ?_⟩
       · try simp only [go_sem]
         have b1 : ¬ (r.ded.length : Int) = 0:=by simpa using a1
         have b2 : ¬ (r.ded.length : Int) = r.teams:=by simpa using a2
         simp only [dedOk,decide_eq_false b1,decide_eq_false b2]; rfl
       · try simp only [go_sem]
     · repeat refine zq ?_
       refine zb fun K hK=>?_;simp only [go_sem,a1,a2];(try simp (disch:=omega) only [zI]);repeat first | intro _ | refine ⟨by omega,?_⟩
       refine zh (within_ok 0 99 r.ded) rfl (by simp only [go_sem,i64,ints]) (by simp only [go_sem,i64,ints]) (by first | exact .inl rfl | exact .inr rfl) ?_
       (try simp only [go_sem]);(try simp (disch:=omega) only [zI]);repeat first | intro _ | refine ⟨by omega,?_⟩
       refine hK _ ?_;clear hK K
       refine ⟨(),trivial,fit_of [] ?_ ?_⟩
       · try simp only [go_sem]
         have b1 : ¬ (r.ded.length : Int) = 0:=by simpa using a1
         have b2 : (r.ded.length : Int) = r.teams:=by simpa using a2
         simp only [dedOk,decide_eq_false b1,decide_eq_true b2]; rfl
       · try simp only [go_sem]
   · repeat refine zq ?_
     refine zb fun K hK=>?_;simp only [go_sem,a1];(try simp (disch:=omega) only [zI]);repeat first | intro _ | refine ⟨by omega,?_⟩
     refine hK _ ?_;clear hK K
     refine ⟨(),trivial,fit_of [] ?_ ?_⟩
     · try simp only [go_sem]
       have b1 : (r.ded.length : Int) = 0:=by simpa using a1
       simp only [dedOk,decide_eq_true b1]; rfl
     · try simp only [go_sem]
 intro _ vs _
 have e : rulesOk r = (numOk r && dedOk r && withinL 0 r.teams [r.up] && withinL 0 (r.teams - r.up) [r.down]):=rfl
 rw [e]
 cases a1 : numOk r
 · repeat refine zq ?_
   refine zb fun K hK=>?_;simp only [go_sem];(try simp (disch:=omega) only [zI]);repeat first | intro _ | refine ⟨by omega,?_⟩
   refine hK _ ?_;clear hK K;refine zw (zk [2]) ?_;simp only [go_sem];refine ze ?_;simp only [go_sem]
   try simp
 cases a2 : dedOk r
 · repeat refine zq ?_
   refine zb fun K hK=>?_;simp only [go_sem];(try simp (disch:=omega) only [zI]);repeat first | intro _ | refine ⟨by omega,?_⟩
   refine hK _ ?_;clear hK K;refine zw (zk [2]) ?_;simp only [go_sem];refine ze ?_;simp only [go_sem]
   try simp
 cases a3 : withinL 0 r.teams [r.up]
 · repeat refine zq ?_
   refine zb fun K hK=>?_;simp only [go_sem];(try simp (disch:=omega) only [zI])
   refine zh (within_ok 0 r.teams [r.up]) rfl (by simp only [go_sem,i64,ints,a3]) (by simp only [go_sem,i64,ints,a3]) (by first | exact .inl rfl | exact .inr rfl) ?_
   (try simp only [go_sem,a3]);(try simp (disch:=omega) only [zI]);repeat first | intro _ | refine ⟨by omega,?_⟩
   refine hK _ ?_;clear hK K;refine zw (zk [2]) ?_;simp only [go_sem];refine ze ?_;simp only [go_sem]
   try simp
 have b3:=withinL_one.1 a3
 have b1 : withinL 2 10 [r.teams] = true:=by
  unfold numOk at a1
  simp only [Bool.and_eq_true] at a1
  exact a1.1.1.1
 have b1':=withinL_one.1 b1
 repeat refine zq ?_
 refine zb fun K hK=>?_;simp only [go_sem];(try simp (disch:=omega) only [zI])
 refine zh (within_ok 0 r.teams [r.up]) rfl (by simp only [go_sem,i64,ints,a3]) (by simp only [go_sem,i64,ints,a3]) (by first | exact .inl rfl | exact .inr rfl) ?_
 (try simp only [go_sem,a3]);(try simp (disch:=omega) only [zI])
 refine zh (within_ok 0 (r.teams - r.up) [r.down]) rfl (by simp only [go_sem,i64,ints]) (by simp only [go_sem,i64,ints]) (by first | exact .inl rfl | exact .inr rfl) ?_
 (try simp only [go_sem]);(try simp (disch:=omega) only [zI]);repeat first | intro _ | refine ⟨by omega,?_⟩
 refine hK _ ?_;clear hK K;refine zw (zk [2]) ?_;simp only [go_sem];refine ze ?_;simp only [go_sem]
 try simp
def legsOf (r : Tr) (m : Mt) : Int:=if m.p then r.legs else 0
def matchOk (r : Tr) (m : Mt) : Bool:=withinL 0 (r.teams - 1) [m.h,m.a] && (m.h != m.a) && withinL 0 (legsOf r m) [m.f,m.g] && (m.f + m.g == legsOf r m)
structure MatchI (r : Tr) (m : Mt) : Prop where
 h : 0 ≤ m.h ∧ m.h < r.teams
 a : 0 ≤ m.a ∧ m.a < r.teams
 ne : m.h ≠ m.a
 f : 0 ≤ m.f ∧ m.f ≤ legsOf r m
 g : m.g = legsOf r m - m.f
theorem matchOk_iff {r : Tr} {m : Mt} : matchOk r m = true ↔ MatchI r m:=by
 unfold matchOk
 simp only [Bool.and_eq_true,withinL_two,bne_iff_ne,beq_iff_eq,ne_eq]
 constructor
 · rintro ⟨⟨⟨⟨⟨h1,h2⟩,h3,h4⟩,h5⟩,⟨h6,h7⟩,h8,h9⟩,h10⟩
   exact ⟨⟨h1,by omega⟩,⟨h3,by omega⟩,h5,⟨h6,h7⟩,by omega⟩
 · rintro ⟨h1,h2,h3,h4,h5⟩
   refine ⟨⟨⟨⟨⟨h1.1,by omega⟩,h2.1,by omega⟩,h3⟩,⟨h4.1,h4.2⟩,by omega,by omega⟩,by omega⟩
theorem isMatch_ok (r : Tr) (hr : RulesI r) (m : Mt) (hm : WfM m) : ACalls Try.prog 61 [trV r,.ag (mtR m)] (.bo (matchOk r m)):=by
 have hrt:=hr.teams
 have hrl:=hr.legs
 have hw1 : IntKind.i64.wrap (r.teams - 1) = r.teams - 1:=by rw [zI] <;> omega
 refine acalls_st (rs:=[.bo (matchOk r m)]) [.tmp 4] Try.func61 rfl (by kernel_rfl) Try.ntmps61 rfl (by simp) rfl fun C vs=>?_
 repeat refine zq ?_
 refine zb fun K hK=>?_;simp only [go_sem];(try simp (disch:=omega) only [zI]);repeat first | intro _ | refine ⟨by omega,?_⟩
 refine hK _ ?_;clear hK K;refine zw (sub_frzP 2 2 (trC r) (by omega) rfl rfl) ?_;refine zw (sub_frzP 3 3 (mtR m) (by omega) rfl rfl) ?_;refine zw (zk [2,3]) ?_;simp only [go_sem]
 repeat refine zq ?_
 refine zb fun K hK=>?_;simp only [go_sem];(try simp (disch:=omega) only [zI]);repeat first | intro _ | refine ⟨by omega,?_⟩
 refine hK _ ?_;clear hK K;refine zw (zk [2,3,5]) ?_;simp only [go_sem]
 repeat refine zq ?_
 refine zb fun K hK=>?_;simp only [go_sem];(try simp (disch:=omega) only [zI]);repeat first | intro _ | refine ⟨by omega,?_⟩
 refine hK _ ?_;clear hK K;refine zw (zk [2,3,5,7]) ?_;simp only [go_sem]
 repeat refine zq ?_
 refine awp_join (n:=44) (fun (_ : Unit) vs=>[(2,.r (.rp (trC r))),(3,.r (.rp (mtR m))),(5,.r (i64 (legsOf r m)))]) (fun _=>[]) (fun _=>True) (fun _ h=>h) ?_ ?_
 · repeat refine zq ?_
   refine zc rfl (fun hc=>?_) (fun hc=>?_) <;> (try simp only [go_sem] at hc)
   · repeat refine zq ?_
     refine zb fun K hK=>?_;simp only [go_sem];(try simp (disch:=omega) only [zI]);repeat first | intro _ | refine ⟨by omega,?_⟩
     refine hK _ ?_;clear hK K
     refine ⟨(),trivial,fit_of [] ?_ ?_⟩
     · try simp only [go_sem]
       simp [legsOf,hc]
     · try simp only [go_sem]
   · refine zx ?_
     try simp only [go_sem]
     refine ⟨(),fit_of [] ?_ ?_⟩
     · try simp only [go_sem]
       simp [legsOf,hc]
     · try simp only [go_sem]
 intro _ vs _
 have hlg : 0 ≤ legsOf r m ∧ legsOf r m ≤ 25:=by unfold legsOf; split <;> omega
 have e : matchOk r m = (withinL 0 (r.teams - 1) [m.h,m.a] && (m.h != m.a) && withinL 0 (legsOf r m) [m.f,m.g] && (m.f + m.g == legsOf r m)):=rfl
 rw [e]
 generalize legsOf r m = lg at *
 cases a1 : withinL 0 (r.teams - 1) [m.h,m.a]
 · repeat refine zq ?_
   refine zb fun K hK=>?_;simp only [go_sem,hw1];(try simp (disch:=omega) only [zI])
   refine zh (within_ok 0 (r.teams - 1) [m.h,m.a]) rfl (by simp only [go_sem,i64,ints,a1]) (by simp only [go_sem,i64,ints,a1]) (by first | exact .inl rfl | exact .inr rfl) ?_
   (try simp only [go_sem,a1]);(try simp (disch:=omega) only [zI]);repeat first | intro _ | refine ⟨by omega,?_⟩
   refine hK _ ?_;clear hK K;refine zw (zk [4]) ?_;simp only [go_sem];refine ze ?_;simp only [go_sem]
   try simp
 cases a2 : m.h != m.a
 · repeat refine zq ?_
   refine zb fun K hK=>?_;simp only [go_sem,hw1,a2];(try simp (disch:=omega) only [zI])
   refine zh (within_ok 0 (r.teams - 1) [m.h,m.a]) rfl (by simp only [go_sem,i64,ints,a1,a2]) (by simp only [go_sem,i64,ints,a1,a2]) (by first | exact .inl rfl | exact .inr rfl) ?_
   (try simp only [go_sem,a1,a2]);(try simp (disch:=omega) only [zI]);repeat first | intro _ | refine ⟨by omega,?_⟩
   refine hK _ ?_;clear hK K;refine zw (zk [4]) ?_;simp only [go_sem];refine ze ?_;simp only [go_sem]
   try simp
 cases a3 : withinL 0 lg [m.f,m.g]
 · repeat refine zq ?_
   refine zb fun K hK=>?_;simp only [go_sem,hw1,a2];(try simp (disch:=omega) only [zI])
   refine zh (within_ok 0 (r.teams - 1) [m.h,m.a]) rfl (by simp only [go_sem,i64,ints,a1,a2]) (by simp only [go_sem,i64,ints,a1,a2]) (by first | exact .inl rfl | exact .inr rfl) ?_
   (try simp only [go_sem,a1,a2]);(try simp (disch:=omega) only [zI])
   refine zh (within_ok 0 lg [m.f,m.g]) rfl (by simp only [go_sem,i64,ints,a3]) (by simp only [go_sem,i64,ints,a3]) (by first | exact .inl rfl | exact .inr rfl) ?_
   (try simp only [go_sem,a3]);(try simp (disch:=omega) only [zI]);repeat first | intro _ | refine ⟨by omega,?_⟩
   refine hK _ ?_;clear hK K;refine zw (zk [4]) ?_;simp only [go_sem];refine ze ?_;simp only [go_sem]
   try simp
 have b3:=withinL_two.1 a3
 have hw2 : IntKind.i64.wrap (m.f + m.g) = m.f + m.g:=by rw [zI] <;> omega
 repeat refine zq ?_
 refine zb fun K hK=>?_;simp only [go_sem,hw1,hw2,a2];(try simp (disch:=omega) only [zI])
 refine zh (within_ok 0 (r.teams - 1) [m.h,m.a]) rfl (by simp only [go_sem,i64,ints,a1,a2]) (by simp only [go_sem,i64,ints,a1,a2]) (by first | exact .inl rfl | exact .inr rfl) ?_
 (try simp only [go_sem,a1,a2]);(try simp (disch:=omega) only [zI])
 refine zh (within_ok 0 lg [m.f,m.g]) rfl (by simp only [go_sem,i64,ints,a3,hw2]) (by simp only [go_sem,i64,ints,a3,hw2]) (by first | exact .inl rfl | exact .inr rfl) ?_
 (try simp only [go_sem,a3,hw2]);(try simp (disch:=omega) only [zI]);repeat first | intro _ | refine ⟨by omega,?_⟩
 refine hK _ ?_;clear hK K;refine zw (zk [4]) ?_;simp only [go_sem];refine ze ?_;simp only [go_sem]
 try simp
theorem check1_ok (r : Tr) (hr : RulesI r) (m : Mt) (hm : WfM m) : ACalls Try.prog 60 [.ag (mtR m),.rp (trC r)] (.bo (!matchOk r m)):=by
 refine acalls_st (rs:=[.bo (!matchOk r m)]) [.tmp 3] Try.func60 rfl (by kernel_rfl) Try.ntmps60 rfl (by simp) rfl fun C vs=>?_
 repeat refine zq ?_
 refine zb fun K hK=>?_;simp only [go_sem];(try simp (disch:=omega) only [zI]);repeat first | intro _ | refine ⟨by omega,?_⟩
 refine hK _ ?_;clear hK K;refine zw (sub_frzP 2 2 (mtR m) (by omega) rfl rfl) ?_;refine zw (zk [1,2]) ?_;simp only [go_sem]
 repeat refine zq ?_
 refine zb fun K hK=>?_;simp only [go_sem];(try simp (disch:=omega) only [zI])
 refine zh (isMatch_ok r hr m hm) rfl (by simp only [go_sem,i64,ints]) (by simp only [go_sem,i64,ints]) (by first | exact .inl rfl | exact .inr rfl) ?_
 (try simp only [go_sem]);(try simp (disch:=omega) only [zI]);repeat first | intro _ | refine ⟨by omega,?_⟩
 refine hK _ ?_;clear hK K;refine zw (zk [3]) ?_;simp only [go_sem];refine ze ?_;simp only [go_sem]
def badM (r : Tr) (l : List Mt) : Int:=indexF (fun m=>!matchOk r m) l
def checkV (r : Tr) (l : List Mt) : Int × Int :=
 if 180 < l.length ∨ 10 < r.ded.length then (0,5) else if rulesOk r = false then (0,2) else if 0 ≤ badM r l then (badM r l,2) else (0,0)
structure Wf (r : Tr) (l : List Mt) : Prop where
 r : WfR r
 l : ∀ m ∈ l,WfM m
theorem check_ok (r : Tr) (l : List Mt) (hw : Wf r l) : ACalls Try.prog 23 [trV r,mtsR l] (.tu [i64 (checkV r l).1,i64 (checkV r l).2]):=by
 have hru:=areRules_ok r hw.r
 refine acalls_st (rs:=[i64 (checkV r l).1,i64 (checkV r l).2]) [.tmp 4,.tmp 5] Try.func23 rfl (by kernel_rfl) Try.ntmps23 rfl (by simp) rfl fun C vs=>?_
 repeat refine zq ?_
 refine zb fun K hK=>?_;simp only [go_sem];(try simp (disch:=omega) only [zI]);repeat first | intro _ | refine ⟨by omega,?_⟩
 refine hK _ ?_;clear hK K;refine zw (sub_frzP 2 2 (trC r) (by omega) rfl rfl) ?_;refine zw (zk [1,2]) ?_;simp only [go_sem]
 by_cases h1 : 180 < l.length
 · have d1 : decide ((180 : Int) < (l.length : Int)) = true:=by simp; omega
   have d1' : decide (180 < l.length) = true:=by simp; omega
   repeat refine zq ?_
   refine zb fun K hK=>?_;simp only [go_sem,d1,d1'];(try simp (disch:=omega) only [zI]);repeat first | intro _ | refine ⟨by omega,?_⟩
   refine hK _ ?_;clear hK K;refine zw (zk [1,2,14]) ?_;simp only [go_sem]
   repeat refine zq ?_
   refine zc rfl (fun hc=>?_) (fun hc=>?_) <;> (try simp only [go_sem] at hc)
   repeat refine zq ?_
   refine zb fun K hK=>?_;simp only [go_sem];(try simp (disch:=omega) only [zI]);repeat first | intro _ | refine ⟨by omega,?_⟩
   refine hK _ ?_;clear hK K;refine ze ?_;simp only [go_sem]
   simp [checkV,h1]
 have d1 : decide ((180 : Int) < (l.length : Int)) = false:=by simp; omega
 have d1' : decide (180 < l.length) = false:=by simp; omega
 by_cases h2 : 10 < r.ded.length
 · have d2 : decide ((10 : Int) < (r.ded.length : Int)) = true:=by simp; omega
   have d2' : decide (10 < r.ded.length) = true:=by simp; omega
   repeat refine zq ?_
   refine zb fun K hK=>?_;simp only [go_sem,d1,d1',d2,d2'];(try simp (disch:=omega) only [zI]);repeat first | intro _ | refine ⟨by omega,?_⟩
   refine hK _ ?_;clear hK K;refine zw (zk [1,2,14]) ?_;simp only [go_sem]
   repeat refine zq ?_
   refine zc rfl (fun hc=>?_) (fun hc=>?_) <;> (try simp only [go_sem] at hc)
   repeat refine zq ?_
   refine zb fun K hK=>?_;simp only [go_sem];(try simp (disch:=omega) only [zI]);repeat first | intro _ | refine ⟨by omega,?_⟩
   refine hK _ ?_;clear hK K;refine ze ?_;simp only [go_sem]
   simp [checkV,h2]
 have d2 : decide ((10 : Int) < (r.ded.length : Int)) = false:=by simp; omega
 have d2' : decide (10 < r.ded.length) = false:=by simp; omega
 repeat refine zq ?_
 refine zb fun K hK=>?_;simp only [go_sem,d1,d1',d2,d2'];(try simp (disch:=omega) only [zI]);repeat first | intro _ | refine ⟨by omega,?_⟩
 refine hK _ ?_;clear hK K;refine zw (zk [1,2,14]) ?_;simp only [go_sem]
 repeat refine zq ?_
 refine zc rfl (fun hc=>?_) (fun hc=>?_) <;> (try simp only [go_sem] at hc)
 refine zx ?_
 try simp only [go_sem]
 cases h3 : rulesOk r
 · repeat refine zq ?_
   refine zb fun K hK=>?_;simp only [go_sem];(try simp (disch:=omega) only [zI])
   refine zh (hru) rfl (by simp only [go_sem,i64,ints,h3]) (by simp only [go_sem,i64,ints,h3]) (by first | exact .inl rfl | exact .inr rfl) ?_
   (try simp only [go_sem,h3]);(try simp (disch:=omega) only [zI]);repeat first | intro _ | refine ⟨by omega,?_⟩
   refine hK _ ?_;clear hK K;refine zw (zk [1,2,17]) ?_;simp only [go_sem]
   repeat refine zq ?_
   refine zc rfl (fun hc=>?_) (fun hc=>?_) <;> (try simp only [go_sem] at hc)
   repeat refine zq ?_
   refine zb fun K hK=>?_;simp only [go_sem];(try simp (disch:=omega) only [zI]);repeat first | intro _ | refine ⟨by omega,?_⟩
   refine hK _ ?_;clear hK K;refine ze ?_;simp only [go_sem]
   simp [checkV,h1,h2,h3]
 repeat refine zq ?_
 refine zb fun K hK=>?_;simp only [go_sem];(try simp (disch:=omega) only [zI])
 refine zh (hru) rfl (by simp only [go_sem,i64,ints,h3]) (by simp only [go_sem,i64,ints,h3]) (by first | exact .inl rfl | exact .inr rfl) ?_
 (try simp only [go_sem,h3]);(try simp (disch:=omega) only [zI]);repeat first | intro _ | refine ⟨by omega,?_⟩
 refine hK _ ?_;clear hK K;refine zw (zk [1,2,17]) ?_;simp only [go_sem]
 repeat refine zq ?_
 refine zc rfl (fun hc=>?_) (fun hc=>?_) <;> (try simp only [go_sem] at hc)
 refine zx ?_
 try simp only [go_sem]
 have hr:=rulesOk_iff.1 h3
 repeat refine zq ?_
 refine zb fun K hK=>?_;simp only [go_sem];(try simp (disch:=omega) only [zI])
 refine zh (indexM_ok (fun m=>!matchOk r m) 60 [.rp (trC r)] l fun m hm=>check1_ok r hr m (hw.l m hm)) rfl (by simp only [go_sem,i64,ints]) (by simp only [go_sem,i64,ints]) (by first | exact .inl rfl | exact .inr rfl) ?_
 (try simp only [go_sem]);(try simp (disch:=omega) only [zI]);repeat first | intro _ | refine ⟨by omega,?_⟩
 refine hK _ ?_;clear hK K;refine zw (zk [4]) ?_;simp only [go_sem]
 have hb : indexF (fun m=>!matchOk r m) l = badM r l:=rfl
 rw [hb]
 repeat refine zq ?_
 refine zb fun K hK=>?_;simp only [go_sem];(try simp (disch:=omega) only [zI]);repeat first | intro _ | refine ⟨by omega,?_⟩
 refine hK _ ?_;clear hK K;refine zw (zk [4,22]) ?_;simp only [go_sem]
 repeat refine zq ?_
 refine zc rfl (fun hc=>?_) (fun hc=>?_) <;> (try simp only [go_sem] at hc)
 · repeat refine zq ?_
   refine zb fun K hK=>?_;simp only [go_sem];(try simp (disch:=omega) only [zI]);repeat first | intro _ | refine ⟨by omega,?_⟩
   refine hK _ ?_;clear hK K;refine ze ?_;simp only [go_sem]
   have h4 : 0 ≤ badM r l:=by first | exact hc | omega
   simp [checkV,h1,h2,h3,h4]
 · refine zx ?_
   try simp only [go_sem]
   repeat refine zq ?_
   refine zb fun K hK=>?_;simp only [go_sem];(try simp (disch:=omega) only [zI]);repeat first | intro _ | refine ⟨by omega,?_⟩
   refine hK _ ?_;clear hK K;refine ze ?_;simp only [go_sem]
   have h4 : ¬ 0 ≤ badM r l:=by first | exact hc | omega
   simp [checkV,h1,h2,h3,h4]
theorem checkV_zero {r : Tr} {l : List Mt} (h : (checkV r l).2 = 0) : l.length ≤ 180 ∧ RulesI r ∧ (∀ m ∈ l,MatchI r m) ∧ checkV r l = (0,0):=by
 unfold checkV at h ⊢
 split at h
 · cases h
 · rename_i h1
   split at h
   · cases h
   · rename_i h2
     split at h
     · cases h
     · rename_i h3
       rw [if_neg h1,if_neg h2,if_neg h3]
       refine ⟨by omega,rulesOk_iff.1 (by simpa using h2),fun m hm=>?_,rfl⟩
       have:=indexF_any (fun m=>!matchOk r m) l
       have h4 : decide (badM r l ≥ 0) = false:=by simp; omega
       unfold badM at h4
       rw [h4] at this
       have h5:=List.any_eq_false.1 this.symm m hm
       exact matchOk_iff.1 (by simpa using h5)
def resV (m : Mt) : Int:=if m.g < m.f then 0 else if m.f < m.g then 2 else 1
theorem of_ok (m : Mt) : ACalls Try.prog 90 [.ag (mtR m)] (i64 (resV m)):=by
 refine acalls_st (rs:=[i64 (resV m)]) [.tmp 2] Try.func90 rfl (by kernel_rfl) Try.ntmps90 rfl (by simp) rfl fun C vs=>?_
 repeat refine zq ?_
 refine zb fun K hK=>?_;simp only [go_sem];(try simp (disch:=omega) only [zI]);repeat first | intro _ | refine ⟨by omega,?_⟩
 refine hK _ ?_;clear hK K;refine zw (sub_frzP 1 1 (mtR m) (by omega) rfl rfl) ?_;refine zw (zk [1]) ?_;simp only [go_sem]
 repeat refine zq ?_
 refine zd ?_
 repeat refine zq ?_
 refine zb fun K hK=>?_;simp only [go_sem];(try simp (disch:=omega) only [zI]);repeat first | intro _ | refine ⟨by omega,?_⟩
 refine hK _ ?_;clear hK K;refine zw (zk [1,3]) ?_;simp only [go_sem]
 repeat refine zq ?_
 refine zc rfl (fun hc=>?_) (fun hc=>?_) <;> (try simp only [go_sem] at hc)
 · repeat refine zq ?_
   refine zb fun K hK=>?_;simp only [go_sem];(try simp (disch:=omega) only [zI]);repeat first | intro _ | refine ⟨by omega,?_⟩
   refine hK _ ?_;clear hK K;refine ze ?_;simp only [go_sem]
   simp [resV,hc]
 · have h1:=hc
   repeat refine zq ?_
   refine zb fun K hK=>?_;simp only [go_sem];(try simp (disch:=omega) only [zI]);repeat first | intro _ | refine ⟨by omega,?_⟩
   refine hK _ ?_;clear hK K;refine zw (zk [9]) ?_;simp only [go_sem]
   repeat refine zq ?_
   refine zc rfl (fun hc=>?_) (fun hc=>?_) <;> (try simp only [go_sem] at hc)
   · repeat refine zq ?_
     refine zb fun K hK=>?_;simp only [go_sem];(try simp (disch:=omega) only [zI]);repeat first | intro _ | refine ⟨by omega,?_⟩
     refine hK _ ?_;clear hK K;refine ze ?_;simp only [go_sem]
     simp [resV,hc,h1]
   · refine zx ?_
     try simp only [go_sem]
     repeat refine zq ?_
     refine zb fun K hK=>?_;simp only [go_sem];(try simp (disch:=omega) only [zI]);repeat first | intro _ | refine ⟨by omega,?_⟩
     refine hK _ ?_;clear hK K;refine ze ?_;simp only [go_sem]
     simp [resV,hc,h1]
def ptsV (r : Tr) (x : Int) : Int × Int:=if x = 0 then (r.win,0) else if x = 1 then (r.draw,r.draw) else (0,r.win)
theorem points_ok (r : Tr) (l : List Mt) (x : Int) (hx : x = 0 ∨ x = 1 ∨ x = 2) : ACalls Try.prog 89 [dvV r l,i64 x] (.tu [i64 (ptsV r x).1,i64 (ptsV r x).2]):=by
 refine acalls_st (rs:=[i64 (ptsV r x).1,i64 (ptsV r x).2]) [.tmp 4,.tmp 5] Try.func89 rfl (by kernel_rfl) Try.ntmps89 rfl (by simp) rfl fun C vs=>?_
 repeat refine zq ?_
 refine zb fun K hK=>?_;simp only [go_sem];(try simp (disch:=omega) only [zI]);repeat first | intro _ | refine ⟨by omega,?_⟩
 refine hK _ ?_;clear hK K;refine zw (sub_frzP 2 2 (dvC r l) (by omega) rfl rfl) ?_;refine zw (zk [1,2]) ?_;simp only [go_sem]
 rcases hx with rfl | rfl | rfl
 · repeat refine zq ?_
   refine zg follows (by decide +kernel) (by kernel_rfl) fun K hK=>?_;simp only [go_sem];(try simp (disch:=omega) only [zI]);repeat first | intro _ | refine ⟨by omega,?_⟩
   refine hK _ ?_;clear hK K;refine zw (zk [4,5]) ?_;simp only [go_sem];refine ze ?_;simp only [go_sem]
   simp [ptsV]
 · repeat refine zq ?_
   refine zg follows (by decide +kernel) (by kernel_rfl) fun K hK=>?_;simp only [go_sem];(try simp (disch:=omega) only [zI]);repeat first | intro _ | refine ⟨by omega,?_⟩
   refine hK _ ?_;clear hK K;refine zw (zk [4,5]) ?_;simp only [go_sem];refine ze ?_;simp only [go_sem]
   simp [ptsV]
 · repeat refine zq ?_
   refine zg follows (by decide +kernel) (by kernel_rfl) fun K hK=>?_;simp only [go_sem];(try simp (disch:=omega) only [zI]);repeat first | intro _ | refine ⟨by omega,?_⟩
   refine hK _ ?_;clear hK K;refine zw (zk [4,5]) ?_;simp only [go_sem];refine ze ?_;simp only [go_sem]
   simp [ptsV]
set_option maxHeartbeats 2000000
def vI (b : Nat → Bool) (j : Nat) (v : AV) : AV:=if b j then v else .r .un
def addW (x : Rw) (won lost pts : Int) : Rw:=⟨x.team,x.pl + 1,x.won + (if lost < won then 1 else 0),x.dr + (if won = lost then 1 else 0),x.lo + (if won < lost then 1 else 0),x.f + won,x.g + lost,x.pts + pts⟩
structure SmallW (B : Int) (x : Rw) : Prop where
 pl : 0 ≤ x.pl ∧ x.pl ≤ B
 won : 0 ≤ x.won ∧ x.won ≤ B
 dr : 0 ≤ x.dr ∧ x.dr ≤ B
 lo : 0 ≤ x.lo ∧ x.lo ≤ B
 f : 0 ≤ x.f ∧ x.f ≤ 30 * B
 g : 0 ≤ x.g ∧ x.g ≤ 30 * B
 pts : -99 ≤ x.pts ∧ x.pts ≤ 30 * B
theorem SmallW.le {B B' : Int} {x : Rw} (h : SmallW B x) (hb : B ≤ B') : SmallW B' x:=by
 obtain ⟨s1,s2,s3,s4,s5,s6,s7⟩:=h
 exact ⟨by omega,by omega,by omega,by omega,by omega,by omega,by omega⟩
theorem SmallW.add {B : Int} {x : Rw} (h : SmallW B x) {won lost pts : Int} (h1 : 0 ≤ won ∧ won ≤ 30) (h2 : 0 ≤ lost ∧ lost ≤ 30) (h3 : 0 ≤ pts ∧ pts ≤ 30) : SmallW (B + 1) (addW x won lost pts):=by
 obtain ⟨s1,s2,s3,s4,s5,s6,s7⟩:=h
 unfold addW
 refine ⟨?_,?_,?_,?_,?_,?_,?_⟩ <;> simp only <;> (try split) <;> omega
theorem add_ok (es : List (List RV)) (i : Nat) (x : Rw) (won lost pts : Int) (hx : es[i]? = some (rwR x)) (hs : SmallW 200 x) (h1 : 0 ≤ won ∧ won ≤ 30) (h2 : 0 ≤ lost ∧ lost ≤ 30) (h3 : 0 ≤ pts ∧ pts ≤ 30) :
 MCalls Try.prog 91 [(1000,.arr 49 8 es)] [(1000,.arr 49 8 (es.set i (rwR (addW x won lost pts))))] [.pe 1000 0 8 i 0,.r (i64 won),.r (i64 lost),.r (i64 pts)] (.tu []):=by
 have hil:=(List.getElem?_eq_some_iff.1 hx).1
 have hset : ∀ y,(es.set i y)[i]? = some y:=fun y=>List.getElem?_set_self hil
 have hsetD : ∀ y,(es.set i y).getD i [] = y:=fun y=>by rw [List.getD_eq_getElem?_getD,hset]; rfl
 have hxD : es.getD i [] = rwR x:=by rw [List.getD_eq_getElem?_getD,hx]; rfl
 obtain ⟨s1,s2,s3,s4,s5,s6,s7⟩:=hs
 refine mcalls_st (n:=65) (rs:=[]) _ _ [] Try.func91 rfl (by kernel_rfl) Try.ntmps91 rfl (by simp) rfl rfl fun C=>?_
 repeat refine zq ?_
 refine zb fun K hK=>?_;simp only [go_sem];(try simp (disch:=omega) only [zI]);repeat first | intro _ | refine ⟨by omega,?_⟩
 refine hK _ ?_;clear hK K;refine zw (zk [0,1,2,3,8]) ?_;simp only [go_sem]
 repeat refine zq ?_
 refine zd ?_
 rcases Int.lt_trichotomy won lost with hlt | heq | hgt
 · have e1 : decide (lost < won) = false:=by simp; omega
   have e2 : decide (won < lost) = true:=by simpa using hlt
   have hW : addW x won lost pts = ⟨x.team,x.pl + 1,x.won,x.dr,x.lo + 1,x.f + won,x.g + lost,x.pts + pts⟩:=by
    unfold addW; rw [if_neg (by omega),if_neg (by omega),if_pos hlt]; simp
   repeat refine zq ?_
   refine zb fun K hK=>?_;simp only [go_sem,e1];(try simp (disch:=omega) only [zI]);repeat first | intro _ | refine ⟨by omega,?_⟩
   refine hK _ ?_;clear hK K;refine zw (zk [0,1,2,3,8,12]) ?_;simp only [go_sem]
   repeat refine zq ?_
   refine zc rfl (fun hc=>?_) (fun hc=>?_) <;> (try simp only [go_sem] at hc)
   repeat refine zq ?_
   refine zb fun K hK=>?_;simp only [go_sem,e2];(try simp (disch:=omega) only [zI]);repeat first | intro _ | refine ⟨by omega,?_⟩
   refine hK _ ?_;clear hK K;refine zw (zk [0,1,2,3,8,19]) ?_;simp only [go_sem]
   repeat refine zq ?_
   refine zc rfl (fun hc=>?_) (fun hc=>?_) <;> (try simp only [go_sem] at hc)
   repeat refine zq ?_
   refine zb fun K hK=>?_;simp only [go_sem];(try simp (disch:=omega) only [zI]);repeat first | intro _ | refine ⟨by omega,?_⟩
   refine hK _ ?_;clear hK K;refine zw (zk [0,1,2,3,8]) ?_;simp only [go_sem]
   try simp only [go_sem]
   repeat refine zq ?_
   refine zb fun K hK=>?_;simp only [go_sem,hx,hxD,hset,hsetD,hil,List.length_set,List.set_set,List.set_cons_succ,List.set_cons_zero,List.take_succ_cons,List.take_zero,List.drop_succ_cons,List.drop_zero];(try simp (disch:=omega) only [zI]);repeat first | intro _ | refine ⟨by omega,?_⟩
   refine hK _ ?_;clear hK K;refine zw (zk [0,1,2,3]) ?_;simp only [go_sem]
   repeat refine zq ?_
   refine zb fun K hK=>?_;simp only [go_sem,hx,hxD,hset,hsetD,hil,List.length_set,List.set_set,List.set_cons_succ,List.set_cons_zero,List.take_succ_cons,List.take_zero,List.drop_succ_cons,List.drop_zero];(try simp (disch:=omega) only [zI]);repeat first | intro _ | refine ⟨by omega,?_⟩
   refine hK _ ?_;clear hK K;refine zw (zk [0,1,2,3]) ?_;simp only [go_sem]
   repeat refine zq ?_
   refine awp_dreg2 [(0,some 1000),(1,none),(2,none),(3,none)] follows (by decide +kernel) (by kernel_rfl) (by simp only [keysOk,List.mem_cons,List.not_mem_nil,forall_eq_or_imp,Oc.keyOf,go_sem]; simp) fun K hK=>?_
   simp only [go_sem,hx,hxD,hset,hsetD,hil,List.length_set,List.set_set,List.set_cons_succ,List.set_cons_zero,List.take_succ_cons,List.take_zero,List.drop_succ_cons,List.drop_zero];(try simp (disch:=omega) only [zI]);repeat first | intro _ | refine ⟨by omega,?_⟩
   refine hK _ ?_;clear hK K
   try simp only [go_sem]
   rw [hW]
 · have e1 : decide (lost < won) = false:=by simp; omega
   have e2 : decide (won < lost) = false:=by simp; omega
   have hW : addW x won lost pts = ⟨x.team,x.pl + 1,x.won,x.dr + 1,x.lo,x.f + won,x.g + lost,x.pts + pts⟩:=by
    unfold addW; rw [if_neg (by omega),if_pos heq,if_neg (by omega)]; simp
   repeat refine zq ?_
   refine zb fun K hK=>?_;simp only [go_sem,e1];(try simp (disch:=omega) only [zI]);repeat first | intro _ | refine ⟨by omega,?_⟩
   refine hK _ ?_;clear hK K;refine zw (zk [0,1,2,3,8,12]) ?_;simp only [go_sem]
   repeat refine zq ?_
   refine zc rfl (fun hc=>?_) (fun hc=>?_) <;> (try simp only [go_sem] at hc)
   repeat refine zq ?_
   refine zb fun K hK=>?_;simp only [go_sem,e2];(try simp (disch:=omega) only [zI]);repeat first | intro _ | refine ⟨by omega,?_⟩
   refine hK _ ?_;clear hK K;refine zw (zk [0,1,2,3,8,19]) ?_;simp only [go_sem]
   repeat refine zq ?_
   refine zc rfl (fun hc=>?_) (fun hc=>?_) <;> (try simp only [go_sem] at hc)
   refine zx ?_
   try simp only [go_sem]
   repeat refine zq ?_
   refine zb fun K hK=>?_;simp only [go_sem,hx,hxD,hset,hsetD,hil,List.length_set,List.set_set,List.set_cons_succ,List.set_cons_zero,List.take_succ_cons,List.take_zero,List.drop_succ_cons,List.drop_zero];(try simp (disch:=omega) only [zI]);repeat first | intro _ | refine ⟨by omega,?_⟩
   refine hK _ ?_;clear hK K;refine zw (zk [0,1,2,3]) ?_;simp only [go_sem]
   repeat refine zq ?_
   refine zb fun K hK=>?_;simp only [go_sem,hx,hxD,hset,hsetD,hil,List.length_set,List.set_set,List.set_cons_succ,List.set_cons_zero,List.take_succ_cons,List.take_zero,List.drop_succ_cons,List.drop_zero];(try simp (disch:=omega) only [zI]);repeat first | intro _ | refine ⟨by omega,?_⟩
   refine hK _ ?_;clear hK K;refine zw (zk [0,1,2,3]) ?_;simp only [go_sem]
   repeat refine zq ?_
   refine awp_dreg2 [(0,some 1000),(1,none),(2,none),(3,none)] follows (by decide +kernel) (by kernel_rfl) (by simp only [keysOk,List.mem_cons,List.not_mem_nil,forall_eq_or_imp,Oc.keyOf,go_sem]; simp) fun K hK=>?_
   simp only [go_sem,hx,hxD,hset,hsetD,hil,List.length_set,List.set_set,List.set_cons_succ,List.set_cons_zero,List.take_succ_cons,List.take_zero,List.drop_succ_cons,List.drop_zero];(try simp (disch:=omega) only [zI]);repeat first | intro _ | refine ⟨by omega,?_⟩
   refine hK _ ?_;clear hK K
   try simp only [go_sem]
   rw [hW]
 · have e1 : decide (lost < won) = true:=by simp; omega
   have hW : addW x won lost pts = ⟨x.team,x.pl + 1,x.won + 1,x.dr,x.lo,x.f + won,x.g + lost,x.pts + pts⟩:=by
    unfold addW; rw [if_pos hgt,if_neg (by omega),if_neg (by omega)]; simp
   repeat refine zq ?_
   refine zb fun K hK=>?_;simp only [go_sem,e1];(try simp (disch:=omega) only [zI]);repeat first | intro _ | refine ⟨by omega,?_⟩
   refine hK _ ?_;clear hK K;refine zw (zk [0,1,2,3,8,12]) ?_;simp only [go_sem]
   repeat refine zq ?_
   refine zc rfl (fun hc=>?_) (fun hc=>?_) <;> (try simp only [go_sem] at hc)
   repeat refine zq ?_
   refine zb fun K hK=>?_;simp only [go_sem];(try simp (disch:=omega) only [zI]);repeat first | intro _ | refine ⟨by omega,?_⟩
   refine hK _ ?_;clear hK K;refine zw (zk [0,1,2,3,8]) ?_;simp only [go_sem]
   try simp only [go_sem]
   repeat refine zq ?_
   refine zb fun K hK=>?_;simp only [go_sem,hx,hxD,hset,hsetD,hil,List.length_set,List.set_set,List.set_cons_succ,List.set_cons_zero,List.take_succ_cons,List.take_zero,List.drop_succ_cons,List.drop_zero];(try simp (disch:=omega) only [zI]);repeat first | intro _ | refine ⟨by omega,?_⟩
   refine hK _ ?_;clear hK K;refine zw (zk [0,1,2,3]) ?_;simp only [go_sem]
   repeat refine zq ?_
   refine zb fun K hK=>?_;simp only [go_sem,hx,hxD,hset,hsetD,hil,List.length_set,List.set_set,List.set_cons_succ,List.set_cons_zero,List.take_succ_cons,List.take_zero,List.drop_succ_cons,List.drop_zero];(try simp (disch:=omega) only [zI]);repeat first | intro _ | refine ⟨by omega,?_⟩
   refine hK _ ?_;clear hK K;refine zw (zk [0,1,2,3]) ?_;simp only [go_sem]
   repeat refine zq ?_
   refine awp_dreg2 [(0,some 1000),(1,none),(2,none),(3,none)] follows (by decide +kernel) (by kernel_rfl) (by simp only [keysOk,List.mem_cons,List.not_mem_nil,forall_eq_or_imp,Oc.keyOf,go_sem]; simp) fun K hK=>?_
   simp only [go_sem,hx,hxD,hset,hsetD,hil,List.length_set,List.set_set,List.set_cons_succ,List.set_cons_zero,List.take_succ_cons,List.take_zero,List.drop_succ_cons,List.drop_zero];(try simp (disch:=omega) only [zI]);repeat first | intro _ | refine ⟨by omega,?_⟩
   refine hK _ ?_;clear hK K
   try simp only [go_sem]
   rw [hW]
def startW (r : Tr) (t : Nat) : Rw:=⟨t,0,0,0,0,0,0,if r.ded = [] then 0 else -(r.ded.getD t 0)⟩
def stepW (r : Tr) (t : Nat) (x : Rw) (m : Mt) : Rw :=
 if m.p then (if m.h = t then addW x m.f m.g (ptsV r (resV m)).1 else if m.a = t then addW x m.g m.f (ptsV r (resV m)).2 else x) else x
def rowT (r : Tr) (l : List Mt) (t : Nat) : Rw:=l.foldl (stepW r t) (startW r t)
def nT (r : Tr) : Nat:=r.teams.toNat
def rowsL (r : Tr) (l : List Mt) : List Rw:=(List.range (nT r)).map (rowT r l)
theorem rowT_snoc (r : Tr) (l : List Mt) (m : Mt) (t : Nat) : rowT r (l ++ [m]) t = stepW r t (rowT r l t) m:=by simp [rowT]
theorem resV_or (m : Mt) : resV m = 0 ∨ resV m = 1 ∨ resV m = 2:=by unfold resV; split <;> (try split) <;> simp
theorem ptsV_le {r : Tr} (hr : RulesI r) (x : Int) : (0 ≤ (ptsV r x).1 ∧ (ptsV r x).1 ≤ 9) ∧ 0 ≤ (ptsV r x).2 ∧ (ptsV r x).2 ≤ 9:=by
 have h1:=hr.win
 have h2:=hr.draw
 unfold ptsV
 split <;> (try split) <;> simp only <;> omega
theorem legs_le {r : Tr} (hr : RulesI r) {m : Mt} (hm : MatchI r m) : (0 ≤ m.f ∧ m.f ≤ 30) ∧ 0 ≤ m.g ∧ m.g ≤ 30:=by
 have h1:=hr.legs
 have h2:=hm.f
 have h3:=hm.g
 have : legsOf r m ≤ 25 ∧ 0 ≤ legsOf r m:=by unfold legsOf; split <;> omega
 omega
theorem small_start {r : Tr} (hr : RulesI r) (t : Nat) : SmallW 0 (startW r t):=by
 unfold startW
 refine ⟨by simp,by simp,by simp,by simp,by simp,by simp,?_⟩
 simp only
 split
 · omega
 · rename_i h
   rcases hr.ded with h' | ⟨_,h'⟩
   · exact absurd h' h
   · by_cases ht : t < r.ded.length
     · have:=h' (r.ded.getD t 0) (by rw [List.getD_eq_getElem?_getD,List.getElem?_eq_getElem ht]; exact List.getElem_mem _)
       omega
     · rw [List.getD_eq_getElem?_getD,List.getElem?_eq_none (by omega)]; simp
theorem small_row {r : Tr} (hr : RulesI r) {l : List Mt} (hl : ∀ m ∈ l,MatchI r m) (t : Nat) : ∀ k,k ≤ l.length → SmallW k (rowT r (l.take k) t)
 | 0,_=>by simpa [rowT] using small_start hr t
 | k + 1, hk => by
   have ih:=small_row hr hl t k (by omega)
   obtain ⟨m,hm⟩:=opt_of_lt (show k < l.length by omega)
   rw [take_of_opt hm,rowT_snoc]
   have hmi:=legs_le hr (hl m (mem_of_opt hm))
   have hp:=ptsV_le hr (resV m)
   have e : ((k + 1 : Nat) : Int) = (k : Int) + 1:=by omega
   rw [e]
   unfold stepW
   split
   · split
     · exact ih.add (by omega) (by omega) (by omega)
     · split
       · exact ih.add (by omega) (by omega) (by omega)
       · exact ih.le (by omega)
   · exact ih.le (by omega)
theorem rows_step {r : Tr} {l : List Mt} {k : Nat} {m : Mt} (hm : l[k]? = some m) (hmi : MatchI r m) (hp : m.p = true) (hn : (nT r : Int) = r.teams) {h a : Nat} (hh : m.h = h) (ha : m.a = a) :
 ((((List.range (nT r)).map (rowT r (l.take k))).map rwR).set h (rwR (addW (rowT r (l.take k) h) m.f m.g (ptsV r (resV m)).1))).set a (rwR (addW (rowT r (l.take k) a) m.g m.f (ptsV r (resV m)).2)) = ((List.range (nT r)).map (rowT r (l.take (k + 1)))).map rwR:=by
 have h1:=hmi.h
 have h2:=hmi.a
 have h3:=hmi.ne
 have hne : h ≠ a:=fun e=>h3 (by rw [hh,ha,e])
 refine List.ext_getElem? fun j=>?_
 rw [take_of_opt hm]
 by_cases hj : j < nT r
 · rw [List.getElem?_map,List.getElem?_map,List.getElem?_range hj]
   simp only [Option.map_some,rowT_snoc]
   by_cases e1 : j = a
   · subst e1
     rw [List.getElem?_set_self (by simp; omega)]
     unfold stepW
     rw [if_pos hp,if_neg (by omega),if_pos ha]
   · rw [List.getElem?_set_ne (fun e=>e1 e.symm)]
     by_cases e2 : j = h
     · subst e2
       rw [List.getElem?_set_self (by simp; omega)]
       unfold stepW
       rw [if_pos hp,if_pos hh]
     · rw [List.getElem?_set_ne (fun e=>e2 e.symm),List.getElem?_map,List.getElem?_map,List.getElem?_range hj]
       unfold stepW
       rw [if_pos hp,if_neg (by omega),if_neg (by omega)]
       rfl
 · rw [List.getElem?_eq_none (by simp; omega),List.getElem?_eq_none (by simp; omega)]
theorem rows_skip {r : Tr} {l : List Mt} {k : Nat} {m : Mt} (hm : l[k]? = some m) (hp : m.p = false) : (List.range (nT r)).map (rowT r (l.take (k + 1))) = (List.range (nT r)).map (rowT r (l.take k)):=by
 refine List.map_congr_left fun t _=>?_
 rw [take_of_opt hm,rowT_snoc]
 unfold stepW
 rw [hp]; rfl
theorem nT_eq {r : Tr} (hr : RulesI r) : (nT r : Int) = r.teams ∧ 2 ≤ nT r ∧ nT r ≤ 10:=by
 have:=hr.teams
 unfold nT
 omega
theorem rows_get {r : Tr} {l : List Mt} {j : Nat} (h : j < nT r) : (((List.range (nT r)).map (rowT r l)).map rwR)[j]? = some (rwR (rowT r l j)):=by
 rw [List.getElem?_map,List.getElem?_map,List.getElem?_range h]; rfl
def ro14F (r : Tr) (l : List Mt) (m : Mt) (h a : Nat) (p1 p2 : Int) (k : Nat) (b : Nat → Bool) (vs : Nat → Nat) : List (Nat × AV) :=
 [(1,.r (.rp (dvC r l))),(3,.os 12 (vs 12) 8 0 (nT r)),(6,.r (.rp (mtR m))),(7,.r (i64 p1)),(8,.r (i64 p2)),(41,.r (mtsR l)),(42,.r (i64 (l.length : Int))),(43,.r (i64 (k : Int))),
  (56,vI b 0 (.os 12 (vs 12) 8 0 (nT r))),
  (57,vI b 1 (.r (.rp (mtR m)))),
  (58,vI b 2 (.r (i64 (h : Int)))),
  (59,vI b 3 (.pe 12 (vs 12) 8 h 0)),
  (60,vI b 4 (.r (.rp [i64 m.f,i64 m.g]))),
  (61,vI b 5 (.r (i64 m.f))),
  (62,vI b 6 (.r (.rp [i64 m.g]))),
  (63,vI b 7 (.r (i64 m.g))),
  (64,vI b 8 (.r (i64 p1)))]
def ro14R (E E' : List (List RV)) (b : Nat → Bool) (vs : Nat → Nat) : List (Nat × RowC):=[(12,.arr 49 8 (bif b 9 then E' else E))]
def ro15F (r : Tr) (l : List Mt) (m : Mt) (h a : Nat) (p1 p2 : Int) (k : Nat) (b : Nat → Bool) (vs : Nat → Nat) : List (Nat × AV) :=
 [(1,.r (.rp (dvC r l))),(3,.os 12 (vs 12) 8 0 (nT r)),(6,.r (.rp (mtR m))),(7,.r (i64 p1)),(8,.r (i64 p2)),(41,.r (mtsR l)),(42,.r (i64 (l.length : Int))),(43,.r (i64 (k : Int))),
  (66,vI b 0 (.os 12 (vs 12) 8 0 (nT r))),
  (67,vI b 1 (.r (.rp [i64 (a : Int),.bo m.p,i64 m.f,i64 m.g]))),
  (68,vI b 2 (.r (i64 (a : Int)))),
  (69,vI b 3 (.pe 12 (vs 12) 8 a 0)),
  (70,vI b 4 (.r (.rp [i64 m.g]))),
  (71,vI b 5 (.r (i64 m.g))),
  (72,vI b 6 (.r (.rp [i64 m.f,i64 m.g]))),
  (73,vI b 7 (.r (i64 m.f))),
  (74,vI b 8 (.r (i64 p2)))]
def ro15R (E E' : List (List RV)) (b : Nat → Bool) (vs : Nat → Nat) : List (Nat × RowC):=[(12,.arr 49 8 (bif b 9 then E' else E))]
theorem rows_ok (r : Tr) (l : List Mt) (hr : RulesI r) (hl : ∀ m ∈ l,MatchI r m) (hll : l.length ≤ 180) : ACalls Try.prog 62 [dvV r l] (rwsR (rowsL r l)):=by
 obtain ⟨hn,hn2,hn10⟩:=nT_eq hr
 have hrt:=hr.teams
 have htn : r.teams.toNat = nT r:=rfl
 refine acalls_st (rs:=[rwsR (rowsL r l)]) [.tmp 2] Try.func62 rfl (by kernel_rfl) Try.ntmps62 rfl (by simp) rfl fun C vs=>?_
 repeat refine zq ?_
 refine zb fun K hK=>?_;simp only [go_sem];(try simp (disch:=omega) only [zI]);repeat first | intro _ | refine ⟨by omega,?_⟩
 refine hK _ ?_;clear hK K;refine zw (sub_frzP 1 1 (dvC r l) (by omega) rfl rfl) ?_;refine zw (zk [1]) ?_;simp only [go_sem]
 repeat refine zq ?_
 refine zb fun K hK=>?_;simp only [go_sem,htn];(try simp (disch:=omega) only [zI]);repeat first | intro _ | refine ⟨by omega,?_⟩
 refine hK _ ?_;clear hK K;refine zw (zk [1,3]) ?_;simp only [go_sem]
 repeat refine zq ?_
 refine zb fun K hK=>?_;simp only [go_sem];(try simp (disch:=omega) only [zI]);repeat first | intro _ | refine ⟨by omega,?_⟩
 refine hK _ ?_;clear hK K;refine zw (zk [1,3,14,15]) ?_;simp only [go_sem]
 repeat refine zq ?_
 refine zd ?_
 refine awp_uptoV (n:=78) (nT r) (fun i vs=>[(1,.r (.rp (dvC r l))),(3,.os 12 (vs 12) 8 0 (nT r)),(14,.r (i64 (nT r : Int))),(15,.r (i64 (i : Int)))])
  (fun i vs=>[(12,.arr 49 8 (((List.range i).map fun t=>rwR (startW r t)) ++ List.replicate (nT r - i) (rwR ⟨0,0,0,0,0,0,0,0⟩)))]) (fun _=>True) 0 (zj [] ?_ ?_) (Nat.zero_le _) trivial ?_
 · try simp only [go_sem]
 · try simp only [go_sem]
   try rfl
 · intro i vs hi _
   repeat refine zq ?_
   refine zb fun K hK=>?_;simp only [go_sem];(try simp (disch:=omega) only [zI]);repeat first | intro _ | refine ⟨by omega,?_⟩
   refine hK _ ?_;clear hK K;refine zw (zk [1,3,14,15,16]) ?_;simp only [go_sem]
   repeat refine zq ?_
   refine zc rfl (fun hc=>?_) (fun hc=>?_) <;> (try simp only [go_sem] at hc)
   · have hci : i < nT r:=by omega
     obtain ⟨E,hEd⟩ : ∃ E,E = ((List.range i).map fun t=>rwR (startW r t)) ++ List.replicate (nT r - i) (rwR ⟨0,0,0,0,0,0,0,0⟩):=⟨_,rfl⟩
     have hEl : E.length = nT r:=by rw [hEd]; simp; omega
     have hE : E[i]? = some (rwR ⟨0,0,0,0,0,0,0,0⟩):=by
      rw [hEd,List.getElem?_append_right (by simp),List.length_map,List.length_range,Nat.sub_self,List.getElem?_replicate,if_pos (by omega)]
     have hED : E.getD i [] = rwR ⟨0,0,0,0,0,0,0,0⟩:=by rw [List.getD_eq_getElem?_getD,hE]; rfl
     have hil : i < E.length:=by omega
     have hset : ∀ y,(E.set i y)[i]? = some y:=fun y=>List.getElem?_set_self hil
     have hsetD : ∀ y,(E.set i y).getD i [] = y:=fun y=>by rw [List.getD_eq_getElem?_getD,hset]; rfl
     have hnext : E.set i (rwR (startW r i)) = ((List.range (i + 1)).map fun t=>rwR (startW r t)) ++ List.replicate (nT r - (i + 1)) (rwR ⟨0,0,0,0,0,0,0,0⟩):=by
      rw [hEd,List.set_append_right _ _ (by simp),List.length_map,List.length_range,Nat.sub_self,show nT r - i = (nT r - (i + 1)) + 1 by omega,List.replicate_succ,List.set_cons_zero,List.range_succ,List.map_append,List.append_assoc]
      rfl
     rw [← hEd]
     refine zx ?_
     try simp only [go_sem]
     repeat refine zq ?_
     refine zd ?_
     repeat refine zq ?_
     refine zb fun K hK=>?_;simp only [go_sem];(try simp (disch:=omega) only [zI]);repeat first | intro _ | refine ⟨by omega,?_⟩
     refine hK _ ?_;clear hK K;refine zw (zk [1,3,4,14,15]) ?_;simp only [go_sem]
     repeat refine zq ?_
     refine zb fun K hK=>?_;simp only [go_sem,hE,hED,hset,hsetD,hil,List.length_set,List.set_set,List.set_cons_succ,List.set_cons_zero,List.take_succ_cons,List.take_zero,List.drop_succ_cons,List.drop_zero];(try simp (disch:=omega) only [zI]);repeat first | intro _ | refine ⟨by omega,?_⟩
     refine hK _ ?_;clear hK K;refine zw (zk [1,3,4,14,15]) ?_;simp only [go_sem]
     repeat refine zq ?_
     refine zb fun K hK=>?_;simp only [go_sem];(try simp (disch:=omega) only [zI])
     intro _
     repeat first | intro _ | refine ⟨by omega,?_⟩
     refine hK _ ?_;clear hK K;refine zw (zk [1,3,4,14,15,27]) ?_;simp only [go_sem]
     repeat refine zq ?_
     refine awp_joinV (n:=78) (fun (_ : Unit) vs=>[(1,.r (.rp (dvC r l))),(3,.os 12 (vs 12) 8 0 (nT r)),(14,.r (i64 (nT r : Int))),(15,.r (i64 (i : Int)))]) (fun _ vs=>[(12,.arr 49 8 (E.set i (rwR (startW r i))))]) (fun _=>True) (fun _ h=>h) ?_ ?_
     · repeat refine zq ?_
       refine zc rfl (fun hc=>?_) (fun hc=>?_) <;> (try simp only [go_sem] at hc)
       · have hd0 : ¬ r.ded = []:=fun e=>by rw [e] at hc; simp at hc
         have hdl : (r.ded.length : Int) = r.teams ∧ ∀ x ∈ r.ded,0 ≤ x ∧ x ≤ 99:=hr.ded.resolve_left hd0
         obtain ⟨dx,hdx⟩:=opt_of_lt (show i < r.ded.length by omega)
         have hdb:=hdl.2 dx (mem_of_opt hdx)
         have hidl : i < r.ded.length:=by omega
         have hneg : IntKind.i64.wrap (-dx) = -dx:=by rw [zI] <;> omega
         have hst : startW r i = ⟨i,0,0,0,0,0,0,-dx⟩:=by unfold startW; rw [if_neg hd0,List.getD_eq_getElem?_getD,hdx]; rfl
         repeat refine zq ?_
         refine zb fun K hK=>?_;simp only [go_sem,hdx,hidl,hneg,hE,hED,hset,hsetD,hil,List.length_set,List.set_set,List.set_cons_succ,List.set_cons_zero,List.take_succ_cons,List.take_zero,List.drop_succ_cons,List.drop_zero];(try simp (disch:=omega) only [zI]);repeat first | intro _ | refine ⟨by omega,?_⟩
         refine hK _ ?_;clear hK K
         refine ⟨(),trivial,zj [] ?_ ?_⟩
         · try simp only [go_sem]
         · try simp only [go_sem]
           rw [hst]
           simp only [Int.zero_sub]
           try rfl
       · have hd0 : r.ded = []:=List.length_eq_zero_iff.1 (by omega)
         have hst : startW r i = ⟨i,0,0,0,0,0,0,0⟩:=by unfold startW; rw [if_pos hd0]
         refine zx ?_
         try simp only [go_sem]
         refine ⟨(),zj [] ?_ ?_⟩
         · try simp only [go_sem]
         · try simp only [go_sem]
           rw [hst]
           try rfl
     intro _ vs _
     repeat refine zq ?_
     refine zb fun K hK=>?_;simp only [go_sem];(try simp (disch:=omega) only [zI]);repeat first | intro _ | refine ⟨by omega,?_⟩
     refine hK _ ?_;clear hK K
     try simp only [go_sem]
     refine ⟨by omega,zj [] ?_ ?_⟩
     · try simp only [go_sem]
     · try simp only [go_sem]
       rw [hnext,List.range_succ]
   · have hin : i = nT r:=by omega
     subst hin
     have e0 : ((List.range (nT r)).map fun t=>rwR (startW r t)) ++ List.replicate (nT r - nT r) (rwR ⟨0,0,0,0,0,0,0,0⟩) = ((List.range (nT r)).map (rowT r (l.take 0))).map rwR:=by
      rw [Nat.sub_self,List.replicate_zero,List.append_nil,List.map_map]
      rfl
     rw [e0]
     refine zf ?_;simp only [go_sem];refine zw (zk [1,3]) ?_;simp only [go_sem]
     repeat refine zq ?_
     refine zb fun K hK=>?_;simp only [go_sem];(try simp (disch:=omega) only [zI])
     intro hll7
     repeat first | intro _ | refine ⟨by omega,?_⟩
     refine hK _ ?_;clear hK K;refine zw (zk [1,3,41,42,43]) ?_;simp only [go_sem]
     repeat refine zq ?_
     refine zd ?_
     refine awp_uptoV (n:=78) l.length (fun k vs=>[(1,.r (.rp (dvC r l))),(3,.os 12 (vs 12) 8 0 (nT r)),(41,.r (mtsR l)),(42,.r (i64 (l.length : Int))),(43,.r (i64 (k : Int)))])
      (fun k vs=>[(12,.arr 49 8 (((List.range (nT r)).map (rowT r (l.take k))).map rwR))]) (fun _=>True) 0 (zj [] ?_ ?_) (Nat.zero_le _) trivial ?_
     · try simp only [go_sem]
     · try simp only [go_sem]
     · intro k vs hk _
       repeat refine zq ?_
       refine zb fun K hK=>?_;simp only [go_sem];(try simp (disch:=omega) only [zI]);repeat first | intro _ | refine ⟨by omega,?_⟩
       refine hK _ ?_;clear hK K;refine zw (zk [1,3,41,42,43,44]) ?_;simp only [go_sem]
       repeat refine zq ?_
       refine zc rfl (fun hc=>?_) (fun hc=>?_) <;> (try simp only [go_sem] at hc)
       · have hck : k < l.length:=by omega
         obtain ⟨m,hm⟩:=opt_of_lt hck
         have hmi:=hl m (mem_of_opt hm)
         have hleg:=legs_le hr hmi
         have hpv:=ptsV_le hr (resV m)
         obtain ⟨h,hh⟩:=Int.eq_ofNat_of_zero_le hmi.h.1
         obtain ⟨a,ha⟩:=Int.eq_ofNat_of_zero_le hmi.a.1
         have hhn : h < nT r:=by have:=hmi.h; omega
         have han : a < nT r:=by have:=hmi.a; omega
         refine zx ?_
         try simp only [go_sem]
         repeat refine zq ?_
         refine zd ?_
         repeat refine zq ?_
         refine zb fun K hK=>?_;simp only [go_sem,hm,hck];(try simp (disch:=omega) only [zI]);repeat first | intro _ | refine ⟨by omega,?_⟩
         refine hK _ ?_;clear hK K;refine zw (sub_frzP 6 6 (mtR m) (by omega) rfl rfl) ?_;refine zw (zk [1,3,6,41,42,43]) ?_;simp only [go_sem]
         repeat refine zq ?_
         refine zb fun K hK=>?_;simp only [go_sem];(try simp (disch:=omega) only [zI]);repeat first | intro _ | refine ⟨by omega,?_⟩
         refine hK _ ?_;clear hK K;refine zw (zk [1,3,6,41,42,43,48]) ?_;simp only [go_sem]
         repeat refine zq ?_
         refine awp_joinV (n:=78) (fun (_ : Unit) vs=>[(1,.r (.rp (dvC r l))),(3,.os 12 (vs 12) 8 0 (nT r)),(41,.r (mtsR l)),(42,.r (i64 (l.length : Int))),(43,.r (i64 (k : Int)))]) (fun _ vs=>[(12,.arr 49 8 (((List.range (nT r)).map (rowT r (l.take (k + 1)))).map rwR))]) (fun _=>True) (fun _ h=>h) ?_ ?_
         · repeat refine zq ?_
           refine zc rfl (fun hc=>?_) (fun hc=>?_) <;> (try simp only [go_sem] at hc)
           · have hmp : m.p = true:=by simpa using hc
             have hstep:=rows_step (r:=r) hm hmi hmp hn hh ha
             have hof:=of_ok m
             have hpo:=points_ok r l (resV m) (resV_or m)
             have hrh:=rows_get (l:=l.take k) hhn
             have hra:=rows_get (l:=l.take k) han
             have hsh:=(small_row hr hl h k (by omega)).le (B':=200) (by omega)
             have hsa:=(small_row hr hl a k (by omega)).le (B':=200) (by omega)
             have hEl0 : (((List.range (nT r)).map (rowT r (l.take k))).map rwR).length = nT r:=by simp
             generalize ((List.range (nT r)).map (rowT r (l.take k))).map rwR = E at *
             have hEl : E.length = nT r:=hEl0
             have hne : h ≠ a:=fun e=>hmi.ne (by rw [hh,ha,e])
             repeat refine zq ?_
             refine zg follows (by decide +kernel) (by kernel_rfl) fun K hK=>?_;simp only [go_sem];(try simp (disch:=omega) only [zI])
             refine zh (hof) rfl (by simp only [go_sem,i64,ints]) (by simp only [go_sem,i64,ints]) (by first | exact .inl rfl | exact .inr rfl) ?_
             (try simp only [go_sem]);(try simp (disch:=omega) only [zI])
             refine zh (hpo) rfl (by simp only [go_sem,i64,ints]) (by simp only [go_sem,i64,ints]) (by first | exact .inl rfl | exact .inr rfl) ?_
             (try simp only [go_sem]);(try simp (disch:=omega) only [zI]);repeat first | intro _ | refine ⟨by omega,?_⟩
             refine hK _ ?_;clear hK K;refine zw (zk [1,3,6,7,8,41,42,43]) ?_;simp only [go_sem]
             repeat refine zq ?_
             refine awp_inv (n:=78) (ro14F r l m h a (ptsV r (resV m)).1 (ptsV r (resV m)).2 k) (ro14R (E) (E.set h (rwR (addW (rowT r (l.take k) h) m.f m.g (ptsV r (resV m)).1)))) follows (by kernel_rfl) (by kernel_rfl) (by decide +kernel) (zj [] ?_ ?_) ?_ ?_
             · simp only [go_sem,ro14F,vI,if_true,if_false,Bool.false_eq_true]
             · simp only [go_sem,ro14R,cond_false]
             · refine ⟨fun b vs hdn hbk hde=>?_,fun b vs hdn hbk hde=>?_,fun b vs hdn hbk hde=>?_,fun b vs hdn hbk hde=>?_,fun b vs hdn hbk hde=>?_,fun b vs hdn hbk hde=>?_,fun b vs hdn hbk hde=>?_,fun b vs hdn hbk hde=>?_,fun b vs hdn hbk hde=>?_,fun b vs hdn hbk hde=>?_,trivial⟩
               · skip
                 have G:=dnT hdn hbk [3,9] (by decide +kernel)
                 simp only [allB,and_true] at G
                 (simp only [go_sem,ro14F,ro14R,upd,vI,cond_true,cond_false,if_true,Bool.false_eq_true,if_false,hbk,G,hEl,hh,ha,hhn,han])
                 all_goals (refine zj [] ?_ ?_ <;> (simp only [go_sem,ro14F,ro14R,upd,vI,cond_true,cond_false,if_true,Bool.false_eq_true,if_false,hbk,G,hEl,hh,ha,hhn,han]))
               · skip
                 have G:=dnT hdn hbk [2,3,9] (by decide +kernel)
                 simp only [allB,and_true] at G
                 (simp only [go_sem,ro14F,ro14R,upd,vI,cond_true,cond_false,if_true,Bool.false_eq_true,if_false,hbk,G,hEl,hh,ha,hhn,han])
                 all_goals (refine zj [] ?_ ?_ <;> (simp only [go_sem,ro14F,ro14R,upd,vI,cond_true,cond_false,if_true,Bool.false_eq_true,if_false,hbk,G,hEl,hh,ha,hhn,han]))
               · skip
                 have H:=upT hdn hde [1] (by decide +kernel)
                 have G:=dnT hdn hbk [3,9] (by decide +kernel)
                 simp only [allB,and_true] at H G
                 (simp only [go_sem,ro14F,ro14R,upd,vI,cond_true,cond_false,if_true,Bool.false_eq_true,if_false,hbk,H,G,hEl,hh,ha,hhn,han])
                 all_goals (refine zj [] ?_ ?_ <;> (simp only [go_sem,ro14F,ro14R,upd,vI,cond_true,cond_false,if_true,Bool.false_eq_true,if_false,hbk,H,G,hEl,hh,ha,hhn,han]))
               · skip
                 have H:=upT hdn hde [0,2,1] (by decide +kernel)
                 have G:=dnT hdn hbk [9] (by decide +kernel)
                 simp only [allB,and_true] at H G
                 (simp only [go_sem,ro14F,ro14R,upd,vI,cond_true,cond_false,if_true,Bool.false_eq_true,if_false,hbk,H,G,hEl,hh,ha,hhn,han])
                 all_goals (refine zj [] ?_ ?_ <;> (simp only [go_sem,ro14F,ro14R,upd,vI,cond_true,cond_false,if_true,Bool.false_eq_true,if_false,hbk,H,G,hEl,hh,ha,hhn,han]))
               · skip
                 have G:=dnT hdn hbk [5,9] (by decide +kernel)
                 simp only [allB,and_true] at G
                 (simp only [go_sem,ro14F,ro14R,upd,vI,cond_true,cond_false,if_true,Bool.false_eq_true,if_false,hbk,G,hEl,hh,ha,hhn,han])
                 all_goals (refine zj [] ?_ ?_ <;> (simp only [go_sem,ro14F,ro14R,upd,vI,cond_true,cond_false,if_true,Bool.false_eq_true,if_false,hbk,G,hEl,hh,ha,hhn,han]))
               · skip
                 have H:=upT hdn hde [4] (by decide +kernel)
                 have G:=dnT hdn hbk [9] (by decide +kernel)
                 simp only [allB,and_true] at H G
                 (simp only [go_sem,ro14F,ro14R,upd,vI,cond_true,cond_false,if_true,Bool.false_eq_true,if_false,hbk,H,G,hEl,hh,ha,hhn,han])
                 all_goals (refine zj [] ?_ ?_ <;> (simp only [go_sem,ro14F,ro14R,upd,vI,cond_true,cond_false,if_true,Bool.false_eq_true,if_false,hbk,H,G,hEl,hh,ha,hhn,han]))
               · skip
                 have G:=dnT hdn hbk [7,9] (by decide +kernel)
                 simp only [allB,and_true] at G
                 (simp only [go_sem,ro14F,ro14R,upd,vI,cond_true,cond_false,if_true,Bool.false_eq_true,if_false,hbk,G,hEl,hh,ha,hhn,han])
                 all_goals (refine zj [] ?_ ?_ <;> (simp only [go_sem,ro14F,ro14R,upd,vI,cond_true,cond_false,if_true,Bool.false_eq_true,if_false,hbk,G,hEl,hh,ha,hhn,han]))
               · skip
                 have H:=upT hdn hde [6] (by decide +kernel)
                 have G:=dnT hdn hbk [9] (by decide +kernel)
                 simp only [allB,and_true] at H G
                 (simp only [go_sem,ro14F,ro14R,upd,vI,cond_true,cond_false,if_true,Bool.false_eq_true,if_false,hbk,H,G,hEl,hh,ha,hhn,han])
                 all_goals (refine zj [] ?_ ?_ <;> (simp only [go_sem,ro14F,ro14R,upd,vI,cond_true,cond_false,if_true,Bool.false_eq_true,if_false,hbk,H,G,hEl,hh,ha,hhn,han]))
               · skip
                 have G:=dnT hdn hbk [9] (by decide +kernel)
                 simp only [allB,and_true] at G
                 (simp only [go_sem,ro14F,ro14R,upd,vI,cond_true,cond_false,if_true,Bool.false_eq_true,if_false,hbk,G,hEl,hh,ha,hhn,han])
                 all_goals (refine zj [] ?_ ?_ <;> (simp only [go_sem,ro14F,ro14R,upd,vI,cond_true,cond_false,if_true,Bool.false_eq_true,if_false,hbk,G,hEl,hh,ha,hhn,han]))
               · skip
                 have H:=upT hdn hde [3,5,7,8,0,2,4,6,1] (by decide +kernel)
                 simp only [allB,and_true] at H
                 (simp only [go_sem,ro14F,ro14R,upd,vI,cond_true,cond_false,if_true,Bool.false_eq_true,if_false,hbk,H,hEl,hh,ha,hhn,han])
                 all_goals (refine xcall_mut (add_ok E h (rowT r (l.take k) h) m.f m.g (ptsV r (resV m)).1 hrh hsh (by omega) (by omega) (by omega)) [(1000,12)] rfl (by simp only [go_sem,i64,ints]) (by simp only [go_sem,i64,ints]) (by rfl) (by rfl) ?_; simp only [go_sem,hEl,hh,ha,hhn,han])
                 all_goals (refine zj [] ?_ ?_ <;> (simp only [go_sem,ro14F,ro14R,upd,vI,cond_true,cond_false,if_true,Bool.false_eq_true,if_false,hbk,H,hEl,hh,ha,hhn,han]))
             intro b vs hb
             simp only [go_sem,ro14F,ro14R,vI,hb,if_true,cond_true];refine zw (zk [1,3,6,7,8,41,42,43]) ?_;simp only [go_sem]
             have hE1l : (E.set h (rwR (addW (rowT r (l.take k) h) m.f m.g (ptsV r (resV m)).1))).length = nT r:=by simp [hEl]
             have hra1 : (E.set h (rwR (addW (rowT r (l.take k) h) m.f m.g (ptsV r (resV m)).1)))[a]? = some (rwR (rowT r (l.take k) a)):=by
              rw [List.getElem?_set_ne hne]; exact hra
             generalize E.set h (rwR (addW (rowT r (l.take k) h) m.f m.g (ptsV r (resV m)).1)) = E1 at *
             clear hEl hEl0
             have hEl:=hE1l
             repeat refine zq ?_
             refine awp_inv (n:=78) (ro15F r l m h a (ptsV r (resV m)).1 (ptsV r (resV m)).2 k) (ro15R (E1) (E1.set a (rwR (addW (rowT r (l.take k) a) m.g m.f (ptsV r (resV m)).2)))) follows (by kernel_rfl) (by kernel_rfl) (by decide +kernel) (zj [] ?_ ?_) ?_ ?_
             · simp only [go_sem,ro15F,vI,if_true,if_false,Bool.false_eq_true]
             · simp only [go_sem,ro15R,cond_false]
             · refine ⟨fun b vs hdn hbk hde=>?_,fun b vs hdn hbk hde=>?_,fun b vs hdn hbk hde=>?_,fun b vs hdn hbk hde=>?_,fun b vs hdn hbk hde=>?_,fun b vs hdn hbk hde=>?_,fun b vs hdn hbk hde=>?_,fun b vs hdn hbk hde=>?_,fun b vs hdn hbk hde=>?_,fun b vs hdn hbk hde=>?_,trivial⟩
               · skip
                 have G:=dnT hdn hbk [3,9] (by decide +kernel)
                 simp only [allB,and_true] at G
                 (simp only [go_sem,ro15F,ro15R,upd,vI,cond_true,cond_false,if_true,Bool.false_eq_true,if_false,hbk,G,hEl,hh,ha,hhn,han])
                 all_goals (refine zj [] ?_ ?_ <;> (simp only [go_sem,ro15F,ro15R,upd,vI,cond_true,cond_false,if_true,Bool.false_eq_true,if_false,hbk,G,hEl,hh,ha,hhn,han]))
               · skip
                 have G:=dnT hdn hbk [2,3,9] (by decide +kernel)
                 simp only [allB,and_true] at G
                 (simp only [go_sem,ro15F,ro15R,upd,vI,cond_true,cond_false,if_true,Bool.false_eq_true,if_false,hbk,G,hEl,hh,ha,hhn,han])
                 all_goals (refine zj [] ?_ ?_ <;> (simp only [go_sem,ro15F,ro15R,upd,vI,cond_true,cond_false,if_true,Bool.false_eq_true,if_false,hbk,G,hEl,hh,ha,hhn,han]))
               · skip
                 have H:=upT hdn hde [1] (by decide +kernel)
                 have G:=dnT hdn hbk [3,9] (by decide +kernel)
                 simp only [allB,and_true] at H G
                 (simp only [go_sem,ro15F,ro15R,upd,vI,cond_true,cond_false,if_true,Bool.false_eq_true,if_false,hbk,H,G,hEl,hh,ha,hhn,han])
                 all_goals (refine zj [] ?_ ?_ <;> (simp only [go_sem,ro15F,ro15R,upd,vI,cond_true,cond_false,if_true,Bool.false_eq_true,if_false,hbk,H,G,hEl,hh,ha,hhn,han]))
               · skip
                 have H:=upT hdn hde [0,2,1] (by decide +kernel)
                 have G:=dnT hdn hbk [9] (by decide +kernel)
                 simp only [allB,and_true] at H G
                 (simp only [go_sem,ro15F,ro15R,upd,vI,cond_true,cond_false,if_true,Bool.false_eq_true,if_false,hbk,H,G,hEl,hh,ha,hhn,han])
                 all_goals (refine zj [] ?_ ?_ <;> (simp only [go_sem,ro15F,ro15R,upd,vI,cond_true,cond_false,if_true,Bool.false_eq_true,if_false,hbk,H,G,hEl,hh,ha,hhn,han]))
               · skip
                 have G:=dnT hdn hbk [5,9] (by decide +kernel)
                 simp only [allB,and_true] at G
                 (simp only [go_sem,ro15F,ro15R,upd,vI,cond_true,cond_false,if_true,Bool.false_eq_true,if_false,hbk,G,hEl,hh,ha,hhn,han])
                 all_goals (refine zj [] ?_ ?_ <;> (simp only [go_sem,ro15F,ro15R,upd,vI,cond_true,cond_false,if_true,Bool.false_eq_true,if_false,hbk,G,hEl,hh,ha,hhn,han]))
               · skip
                 have H:=upT hdn hde [4] (by decide +kernel)
                 have G:=dnT hdn hbk [9] (by decide +kernel)
                 simp only [allB,and_true] at H G
                 (simp only [go_sem,ro15F,ro15R,upd,vI,cond_true,cond_false,if_true,Bool.false_eq_true,if_false,hbk,H,G,hEl,hh,ha,hhn,han])
                 all_goals (refine zj [] ?_ ?_ <;> (simp only [go_sem,ro15F,ro15R,upd,vI,cond_true,cond_false,if_true,Bool.false_eq_true,if_false,hbk,H,G,hEl,hh,ha,hhn,han]))
               · skip
                 have G:=dnT hdn hbk [7,9] (by decide +kernel)
                 simp only [allB,and_true] at G
                 (simp only [go_sem,ro15F,ro15R,upd,vI,cond_true,cond_false,if_true,Bool.false_eq_true,if_false,hbk,G,hEl,hh,ha,hhn,han])
                 all_goals (refine zj [] ?_ ?_ <;> (simp only [go_sem,ro15F,ro15R,upd,vI,cond_true,cond_false,if_true,Bool.false_eq_true,if_false,hbk,G,hEl,hh,ha,hhn,han]))
               · skip
                 have H:=upT hdn hde [6] (by decide +kernel)
                 have G:=dnT hdn hbk [9] (by decide +kernel)
                 simp only [allB,and_true] at H G
                 (simp only [go_sem,ro15F,ro15R,upd,vI,cond_true,cond_false,if_true,Bool.false_eq_true,if_false,hbk,H,G,hEl,hh,ha,hhn,han])
                 all_goals (refine zj [] ?_ ?_ <;> (simp only [go_sem,ro15F,ro15R,upd,vI,cond_true,cond_false,if_true,Bool.false_eq_true,if_false,hbk,H,G,hEl,hh,ha,hhn,han]))
               · skip
                 have G:=dnT hdn hbk [9] (by decide +kernel)
                 simp only [allB,and_true] at G
                 (simp only [go_sem,ro15F,ro15R,upd,vI,cond_true,cond_false,if_true,Bool.false_eq_true,if_false,hbk,G,hEl,hh,ha,hhn,han])
                 all_goals (refine zj [] ?_ ?_ <;> (simp only [go_sem,ro15F,ro15R,upd,vI,cond_true,cond_false,if_true,Bool.false_eq_true,if_false,hbk,G,hEl,hh,ha,hhn,han]))
               · skip
                 have H:=upT hdn hde [3,5,7,8,0,2,4,6,1] (by decide +kernel)
                 simp only [allB,and_true] at H
                 (simp only [go_sem,ro15F,ro15R,upd,vI,cond_true,cond_false,if_true,Bool.false_eq_true,if_false,hbk,H,hEl,hh,ha,hhn,han])
                 all_goals (refine xcall_mut (add_ok E1 a (rowT r (l.take k) a) m.g m.f (ptsV r (resV m)).2 hra1 hsa (by omega) (by omega) (by omega)) [(1000,12)] rfl (by simp only [go_sem,i64,ints]) (by simp only [go_sem,i64,ints]) (by rfl) (by rfl) ?_; simp only [go_sem,hEl,hh,ha,hhn,han])
                 all_goals (refine zj [] ?_ ?_ <;> (simp only [go_sem,ro15F,ro15R,upd,vI,cond_true,cond_false,if_true,Bool.false_eq_true,if_false,hbk,H,hEl,hh,ha,hhn,han]))
             intro b vs hb
             simp only [go_sem,ro15F,ro15R,vI,hb,if_true,cond_true]
             refine ⟨(),zj [] ?_ ?_⟩
             · try simp only [go_sem]
             · simp only [go_sem,hstep]
           · have hmp : m.p = false:=by simpa using hc
             refine zx ?_
             try simp only [go_sem]
             refine ⟨(),zj [] ?_ ?_⟩
             · try simp only [go_sem]
             · try simp only [go_sem]
               rw [rows_skip hm hmp]
         intro _ vs _
         repeat refine zq ?_
         refine zb fun K hK=>?_;simp only [go_sem];(try simp (disch:=omega) only [zI]);repeat first | intro _ | refine ⟨by omega,?_⟩
         refine hK _ ?_;clear hK K
         try simp only [go_sem]
         refine ⟨by omega,zj [] ?_ ?_⟩
         · try simp only [go_sem]
         · try simp only [go_sem]
       · have hkl : k = l.length:=by omega
         subst hkl
         rw [List.take_length]
         refine zf ?_;simp only [go_sem]
         have hrl : ((List.range (nT r)).map (rowT r l)).length = nT r:=by simp
         refine zw (sub_frz 3 12 (ty:=49) (sz:=8) (off:=0) (m:=nT r) (es:=((List.range (nT r)).map (rowT r l)).map rwR) (by omega) rfl (by rfl) (by simp)) ?_
         have e2 : ((((List.range (nT r)).map (rowT r l)).map rwR).drop 0).take (nT r) = ((List.range (nT r)).map (rowT r l)).map rwR:=by
          rw [List.drop_zero,List.take_of_length_le (by simp)]
         rw [e2]
         refine zw (zk [3]) ?_;simp only [go_sem]
         repeat refine zq ?_
         refine zb fun K hK=>?_;simp only [go_sem];(try simp (disch:=omega) only [zI]);repeat first | intro _ | refine ⟨by omega,?_⟩
         refine hK _ ?_;clear hK K;refine zw (zk [2]) ?_;simp only [go_sem];refine ze ?_;simp only [go_sem]
         rfl
def cmpI (x y : Int) : Int:=if x < y then -1 else if y < x then 1 else 0
theorem nan_ok (n : Int) : ACalls Try.prog 120 [i64 n] (.bo false):=by
 refine acalls_st (rs:=[.bo false]) [.tmp 2] Try.func120 rfl (by kernel_rfl) Try.ntmps120 rfl (by simp) rfl fun C vs=>?_
 repeat refine zq ?_
 refine zb fun K hK=>?_;simp only [go_sem];(try simp (disch:=omega) only [zI]);repeat first | intro _ | refine ⟨by omega,?_⟩
 refine hK _ ?_;clear hK K
 repeat refine zq ?_
 refine zb fun K hK=>?_;simp only [go_sem];(try simp (disch:=omega) only [zI]);repeat first | intro _ | refine ⟨by omega,?_⟩
 refine hK _ ?_;clear hK K;refine ze ?_;simp only [go_sem]
 simp
theorem compareI_ok (x y : Int) : ACalls Try.prog 95 [i64 x,i64 y] (i64 (cmpI x y)):=by
 refine acalls_st (rs:=[i64 (cmpI x y)]) [.tmp 4] Try.func95 rfl (by kernel_rfl) Try.ntmps95 rfl (by simp) rfl fun C vs=>?_
 repeat refine zq ?_
 refine zb fun K hK=>?_;simp only [go_sem];(try simp (disch:=omega) only [zI]);repeat first | intro _ | refine ⟨by omega,?_⟩
 refine hK _ ?_;clear hK K
 repeat refine zq ?_
 refine zb fun K hK=>?_;simp only [go_sem];(try simp (disch:=omega) only [zI])
 refine zh (nan_ok x) rfl (by simp only [go_sem,i64,ints]) (by simp only [go_sem,i64,ints]) (by first | exact .inl rfl | exact .inr rfl) ?_
 (try simp only [go_sem]);(try simp (disch:=omega) only [zI]);repeat first | intro _ | refine ⟨by omega,?_⟩
 refine hK _ ?_;clear hK K
 repeat refine zq ?_
 refine zb fun K hK=>?_;simp only [go_sem];(try simp (disch:=omega) only [zI])
 refine zh (nan_ok y) rfl (by simp only [go_sem,i64,ints]) (by simp only [go_sem,i64,ints]) (by first | exact .inl rfl | exact .inr rfl) ?_
 (try simp only [go_sem]);(try simp (disch:=omega) only [zI]);repeat first | intro _ | refine ⟨by omega,?_⟩
 refine hK _ ?_;clear hK K
 repeat refine zq ?_
 refine zb fun K hK=>?_;simp only [go_sem];(try simp (disch:=omega) only [zI]);repeat first | intro _ | refine ⟨by omega,?_⟩
 refine hK _ ?_;clear hK K
 repeat refine zq ?_
 refine zc rfl (fun hc=>?_) (fun hc=>?_) <;> (try simp only [go_sem] at hc)
 refine zx ?_
 try simp only [go_sem]
 repeat refine zq ?_
 refine zb fun K hK=>?_;simp only [go_sem];(try simp (disch:=omega) only [zI]);repeat first | intro _ | refine ⟨by omega,?_⟩
 refine hK _ ?_;clear hK K
 repeat refine zq ?_
 refine zc rfl (fun hc=>?_) (fun hc=>?_) <;> (try simp only [go_sem] at hc)
 refine zx ?_
 try simp only [go_sem]
 repeat refine zq ?_
 refine zb fun K hK=>?_;simp only [go_sem];(try simp (disch:=omega) only [zI]);repeat first | intro _ | refine ⟨by omega,?_⟩
 refine hK _ ?_;clear hK K
 repeat refine zq ?_
 refine zc rfl (fun hc=>?_) (fun hc=>?_) <;> (try simp only [go_sem] at hc)
 · repeat refine zq ?_
   refine zb fun K hK=>?_;simp only [go_sem];(try simp (disch:=omega) only [zI]);repeat first | intro _ | refine ⟨by omega,?_⟩
   refine hK _ ?_;clear hK K;refine ze ?_;simp only [go_sem]
   simp [cmpI,hc]
 refine zx ?_
 try simp only [go_sem]
 repeat refine zq ?_
 refine zb fun K hK=>?_;simp only [go_sem];(try simp (disch:=omega) only [zI]);repeat first | intro _ | refine ⟨by omega,?_⟩
 refine hK _ ?_;clear hK K
 have h1:=hc
 repeat refine zq ?_
 refine zc rfl (fun hc=>?_) (fun hc=>?_) <;> (try simp only [go_sem] at hc)
 · repeat refine zq ?_
   refine zb fun K hK=>?_;simp only [go_sem];(try simp (disch:=omega) only [zI]);repeat first | intro _ | refine ⟨by omega,?_⟩
   refine hK _ ?_;clear hK K;refine ze ?_;simp only [go_sem]
   have : ¬ x < y:=by omega
   simp [cmpI,hc,this]
 refine zx ?_
 try simp only [go_sem]
 repeat refine zq ?_
 refine zb fun K hK=>?_;simp only [go_sem];(try simp (disch:=omega) only [zI]);repeat first | intro _ | refine ⟨by omega,?_⟩
 refine hK _ ?_;clear hK K;refine ze ?_;simp only [go_sem]
 have h2 : ¬ x < y:=by omega
 have h3 : ¬ y < x:=by omega
 simp [cmpI,h2,h3]
def orV : List Int → Int
 | []=>0
 | x :: l=>if x ≠ 0 then x else orV l
theorem or_ok (l : List Int) : ACalls Try.prog 94 [ints l] (i64 (orV l)):=by
 refine acalls_st (rs:=[i64 (orV l)]) [.tmp 2] Try.func94 rfl (by kernel_rfl) Try.ntmps94 rfl (by simp) rfl fun C vs=>?_
 repeat refine zq ?_
 refine zb fun K hK=>?_;simp only [go_sem];(try simp (disch:=omega) only [zI]);repeat first | intro _ | refine ⟨by omega,?_⟩
 refine hK _ ?_;clear hK K
 repeat refine zq ?_
 refine zb fun K hK=>?_;simp only [go_sem];(try simp (disch:=omega) only [zI]);repeat first | intro _ | refine ⟨by omega,?_⟩
 refine hK _ ?_;clear hK K
 repeat refine zq ?_
 refine zb fun K hK=>?_;simp only [go_sem];(try simp (disch:=omega) only [zI])
 intro hl7
 repeat first | intro _ | refine ⟨by omega,?_⟩
 refine hK _ ?_;clear hK K;refine zw (zk [3,6,7,8]) ?_;simp only [go_sem]
 repeat refine zq ?_
 refine zd ?_
 refine awp_upto (n:=18) l.length (fun i vs=>[(3,.r (i64 0)),(6,.r (ints l)),(7,.r (i64 (l.length : Int))),(8,.r (i64 (i : Int)))])
  (fun i=>[]) (fun i=>orV l = orV (l.drop i)) 0 (fit_of [] ?_ ?_) (Nat.zero_le _) rfl ?_
 · try simp only [go_sem]
 · try simp only [go_sem]
 · intro i vs hi hI
   repeat refine zq ?_
   refine zb fun K hK=>?_;simp only [go_sem];(try simp (disch:=omega) only [zI]);repeat first | intro _ | refine ⟨by omega,?_⟩
   refine hK _ ?_;clear hK K;refine zw (zk [3,6,7,8,9]) ?_;simp only [go_sem]
   repeat refine zq ?_
   refine zc rfl (fun hc=>?_) (fun hc=>?_) <;> (try simp only [go_sem] at hc)
   · have hci : i < l.length:=by omega
     obtain ⟨x,hx⟩:=opt_of_lt hci
     rw [drop_of_opt hx] at hI
     refine zx ?_
     try simp only [go_sem]
     repeat refine zq ?_
     refine zd ?_
     repeat refine zq ?_
     refine zb fun K hK=>?_;simp only [go_sem,hx,hci];(try simp (disch:=omega) only [zI]);repeat first | intro _ | refine ⟨by omega,?_⟩
     refine hK _ ?_;clear hK K;refine zw (zk [3,5,6,7,8]) ?_;simp only [go_sem]
     repeat refine zq ?_
     refine zb fun K hK=>?_;simp only [go_sem];(try simp (disch:=omega) only [zI]);repeat first | intro _ | refine ⟨by omega,?_⟩
     refine hK _ ?_;clear hK K;refine zw (zk [3,5,6,7,8,14]) ?_;simp only [go_sem]
     repeat refine zq ?_
     refine zc rfl (fun hc=>?_) (fun hc=>?_) <;> (try simp only [go_sem] at hc)
     · repeat refine zq ?_
       refine zb fun K hK=>?_;simp only [go_sem];(try simp (disch:=omega) only [zI]);repeat first | intro _ | refine ⟨by omega,?_⟩
       refine hK _ ?_;clear hK K;refine ze ?_;simp only [go_sem]
       have : x ≠ 0:=by simpa using hc
       rw [hI,orV,if_pos this]
     · refine zx ?_
       try simp only [go_sem]
       repeat refine zq ?_
       refine zb fun K hK=>?_;simp only [go_sem];(try simp (disch:=omega) only [zI]);repeat first | intro _ | refine ⟨by omega,?_⟩
       refine hK _ ?_;clear hK K
       try simp only [go_sem]
       refine ⟨hci,?_,fit_of [] ?_ ?_⟩
       · have : ¬ x ≠ 0:=by simpa using hc
         rw [hI,orV,if_neg this]
       · try simp only [go_sem]
       · try simp only [go_sem]
   · refine zf ?_;simp only [go_sem]
     have : l.drop i = []:=List.drop_eq_nil_of_le (by omega)
     repeat refine zq ?_
     refine zb fun K hK=>?_;simp only [go_sem];(try simp (disch:=omega) only [zI]);repeat first | intro _ | refine ⟨by omega,?_⟩
     refine hK _ ?_;clear hK K;refine ze ?_;simp only [go_sem]
     rw [hI,this]; rfl
def cmpW (a b : Rw) : Int:=orV [cmpI b.pts a.pts,cmpI (b.f - b.g) (a.f - a.g),cmpI b.f a.f,cmpI a.team b.team]
theorem compare_ok (a b : Rw) (ha : SmallW 200 a) (hb : SmallW 200 b) : ACalls Try.prog 64 [.ag (rwR a),.ag (rwR b)] (i64 (cmpW a b)):=by
 have a1:=ha.f
 have a2:=ha.g
 have b1:=hb.f
 have b2:=hb.g
 have w1 : IntKind.i64.wrap (b.f - b.g) = b.f - b.g:=by rw [zI] <;> omega
 have w2 : IntKind.i64.wrap (a.f - a.g) = a.f - a.g:=by rw [zI] <;> omega
 refine acalls_st (rs:=[i64 (cmpW a b)]) [.tmp 4] Try.func64 rfl (by kernel_rfl) Try.ntmps64 rfl (by simp) rfl fun C vs=>?_
 repeat refine zq ?_
 refine zb fun K hK=>?_;simp only [go_sem];(try simp (disch:=omega) only [zI]);repeat first | intro _ | refine ⟨by omega,?_⟩
 refine hK _ ?_;clear hK K;refine zw (sub_frzP 2 2 (rwR a) (by omega) rfl rfl) ?_;refine zw (sub_frzP 3 3 (rwR b) (by omega) rfl rfl) ?_;refine zw (zk [2,3]) ?_;simp only [go_sem]
 repeat refine zq ?_
 refine zg follows (by decide +kernel) (by kernel_rfl) fun K hK=>?_;simp only [go_sem,w1,w2];(try simp (disch:=omega) only [zI])
 refine zh (compareI_ok b.pts a.pts) rfl (by simp only [go_sem,i64,ints,w1,w2]) (by simp only [go_sem,i64,ints,w1,w2]) (by first | exact .inl rfl | exact .inr rfl) ?_
 (try simp only [go_sem,w1,w2]);(try simp (disch:=omega) only [zI])
 refine zh (compareI_ok (b.f - b.g) (a.f - a.g)) rfl (by simp only [go_sem,i64,ints,w1,w2]) (by simp only [go_sem,i64,ints,w1,w2]) (by first | exact .inl rfl | exact .inr rfl) ?_
 (try simp only [go_sem,w1,w2]);(try simp (disch:=omega) only [zI])
 refine zh (compareI_ok b.f a.f) rfl (by simp only [go_sem,i64,ints,w1,w2]) (by simp only [go_sem,i64,ints,w1,w2]) (by first | exact .inl rfl | exact .inr rfl) ?_
 (try simp only [go_sem,w1,w2]);(try simp (disch:=omega) only [zI])
 refine zh (compareI_ok a.team b.team) rfl (by simp only [go_sem,i64,ints,w1,w2]) (by simp only [go_sem,i64,ints,w1,w2]) (by first | exact .inl rfl | exact .inr rfl) ?_
 (try simp only [go_sem,w1,w2]);(try simp (disch:=omega) only [zI])
 refine zh (or_ok [cmpI b.pts a.pts,cmpI (b.f - b.g) (a.f - a.g),cmpI b.f a.f,cmpI a.team b.team]) rfl (by simp only [go_sem,i64,ints]) (by simp only [go_sem,i64,ints]) (by first | exact .inl rfl | exact .inr rfl) ?_
 (try simp only [go_sem]);(try simp (disch:=omega) only [zI]);repeat first | intro _ | refine ⟨by omega,?_⟩
 refine hK _ ?_;clear hK K;refine zw (zk [4]) ?_;simp only [go_sem];refine ze ?_;simp only [go_sem]
 rfl
end Go.Proofs.Ytobokbhpeaakjaa

namespace Go.Oc
open Go Go.RowKit
set_option linter.unusedVariables false
set_option linter.unusedSimpArgs false
def gop (P : Program) (o : Oper) (K : AS → Prop) (s : AS) : Prop :=
 ∀ (C : Ctx) (p : Plan) (a : Act) (w : World), SR C p s a w → (∀ t, o.dst = some t → t < s.n) → (∀ c, o.op ≠ .defer c) → ∀ (KW : Act → World → Prop) (Q : Exit → Act → World → Prop),
   (∀ a' w' p' s',SR C p' s' a' w' → s'.n = s.n → K s' → KW a' w') → o.wpIn (fnc C.rd) 0 P a w KW Q
theorem gop_xopL {P : Program} {o : Oper} {K : AS → Prop} {s : AS} (h : xopL P o K s) : gop P o K s:=fun C p a w hp hd hnd KW Q hK=>xopL_sound hp h hd hK hnd
theorem gop_xop {P : Program} {o : Oper} {K : AS → Prop} {s : AS} (h : xop P false o K s) : gop P o K s:=gop_xopL (.inl h)
section
variable {P : Program} {C : Ctx} {s : AS} {Q : Exit → AS → Prop} {ops : Array Oper}
theorem sops_gop {o : Oper} {l : List Oper} (hg : o.guard = none) (hd : ∀ t,o.dst = some t → t < s.n) (hnd : ∀ c,o.op ≠ .defer c) (h : gop P o (fun s'=>sops P C ops l Q s') s) : sops P C ops (o :: l) Q s:=fun a w ⟨p,hs⟩=>by
 unfold wpListIn
 rw [if_pos (wantA_sound hs (by simp [wantA,hg]))]
 exact h C p a w hs hd hnd _ _ fun a' w' p' s' hs' hn hK=>hK a' w' ⟨p',hs'⟩
theorem app_n' (s : AS) (d : Option Nat) (v : AV) : (s.put d v).n = s.n:=by cases d <;> rfl
theorem gop_copy {o : Oper} {x y : Operand} {t t' : TypeId} {K : AS → Prop} (ho : o.op = .call ⟨.builtin .copy,#[x,y],#[t,t']⟩) {e esz eb : Nat} {ez : List RV} {ssz : Nat} {sagg : Bool} {sz0 : List RV}
 (e1 : tyq P t = some ⟨.slice e esz eb ez,ssz,sagg,sz0⟩) {k n off m : Nat} {es : List (List RV)} (e3 : s.ev x = .os k n esz off m) (e5 : s.rows k = ⟨n,.arr e esz es⟩) {c : Prop} {ns : List (List RV)} (e4 : news? s (s.ev y) = some (c,esz,ns)) (hc : c)
 (hfit : off + m ≤ es.length) (h0 : 0 < m) (h1 : ns ≠ []) (hK : K (AS.put { s with rows:=upd s.rows k ⟨n,.arr e esz (es.take off ++ (ns.take (min ns.length m) ++ es.drop (off + min ns.length m)))⟩ } o.dst (.r (.it .i64 (min ns.length m : Nat))))) : gop P o K s:=by
 intro C p a w h hd hnd KW Q hKW
 have hn2 : n = (s.rows k).ver:=by rw [e5]
 obtain ⟨hu,hok,hco,hby,zv,hzv,hez⟩:=tyq_slice e1
 obtain ⟨B,cB,hyv,hne⟩:=news_rel h e4 hc (.inl rfl)
 obtain ⟨ad,us,hB,hlu,hget,hV,h1u,hl⟩:=hne h1
 subst hB
 obtain ⟨q,hq⟩ : ∃ q,q = min ns.length m:=⟨_,rfl⟩
 have hqn : (ns.take q).length = q:=by rw [List.length_take]; omega
 rcases ev_os h e3 hn2 with ⟨_,_,_,rfl,A,hv⟩ | ⟨b,A,hβ,hv,hle2,hA⟩
 · omega
 · obtain rfl:=hA (.inl h0)
   have hcl : (us.take (q * esz)).length = q * esz:=by
    rw [List.length_take,hlu]
    have : q * esz ≤ ns.length * esz:=Nat.mul_le_mul_right _ (by omega)
    omega
   obtain ⟨cells,hh,hf,hset⟩:=set_row (m:=off) (ns:=ns.take q) (vs:=us.take (q * esz)) h (by rw [e5]) hβ (by rw [hqn]; omega) (by rw [hqn]; exact hcl) (fun x hx=>hl x (List.mem_of_mem_take hx)) (by
    rw [flatten_take_of q hl]
    exact RV.relV_take _ hV) (fun u hu=>h1u u (List.mem_of_mem_take hu))
   have hst:=run_storeCells_at P b (off * esz) e (us.take (q * esz)) 0 cells w hh (by simpa using hf) (fun x hx=>h1u x (List.mem_of_mem_take hx))
   have hld:=run_loadCells_list (P:=P) w ad (us.take (q * esz)) (fun j v hj=>by
    rw [List.getElem?_take] at hj
    split at hj
    · exact hget j v hj
    · cases hj)
   rw [hcl] at hld
   rw [hqn] at hset
   have hrun : (Builtin.copy_ #[t,t'] o.type #[.slice (some ⟨b,off * esz,none⟩) m (p.γ k - off),.slice (some ad) ns.length cB]).run P w = .ok (goInt q) (w.setRow b (cells.toList.take (off * esz) ++ us.take (q * esz) ++ cells.toList.drop (off * esz + (us.take (q * esz)).length)).toArray):=by
    simp only [Nat.add_zero] at hst
    have hmn : Nat.min ns.length m = q:=hq.symm
    simp [Builtin.copy_,run_underlying hu,Builtin.lenOf,Builtin.firstCells,run_sizeOf_ok hok,hco,hmn,hld,hst]
   have hr2 : (execOp a.eval o).run P w = .ok (.value (goInt q)) (w.setRow b (cells.toList.take (off * esz) ++ us.take (q * esz) ++ cells.toList.drop (off * esz + (us.take (q * esz)).length)).toArray) :=
    run_builtin_of ho (by simp only [builtin,Sem.run_bind,List.map_toArray,List.map_cons,List.map_nil,hv,hyv,hrun,Result.andThen_ok,Sem.run_pure])
   refine wpIn_of_wp hnd ?_
   unfold Oper.wp
   rw [hr2]
   have hn3 : (s.rows k).ver = n:=hn2.symm
   rw [hn3] at hset
   rw [← hq] at hK
   have hput:=hset.put' (d:=o.dst) (av:=.r (.it .i64 (q : Nat))) (v:=goInt q) (by simp only [AV.rel,RV.rel,goInt]) hd
   exact hKW _ _ p _ hput (app_n' _ _ _) hK
theorem gop_strIndex {o : Oper} {x i : Operand} {t : TypeId} {K : AS → Prop} (ho : o.op = .index t x i) {str : ByteArray} {k : IntKind} {j : Int} {b : UInt8} (hx : s.ev x = .r (.st str)) (hi : s.ev i = .r (.it k j)) (hu : P.underlying t = some .string) (h0 : 0 ≤ j) (hb : str[j.toNat]? = some b)
 (hK : K (s.put o.dst (.r (.it .u8 b.toNat)))) : gop P o K s:=by
 intro C p a w h hd hnd KW Q hKW
 have hxv : a.eval x = .string str:=by
  have:=h.ev x
  rw [hx] at this
  simpa only [AV.rel,RV.rel] using this
 have hiv:=ev_it h hi
 have hr : (execOp a.eval o).run P w = .ok (.value (.int .u8 b.toNat)) w:=by
  simp [execOp,ho,hxv,hiv,Instr.index,asIntOf,run_underlying hu,h0,hb]
 refine wpIn_of_wp hnd ?_
 unfold Oper.wp
 rw [hr]
 have hput:=h.put' (d:=o.dst) (av:=.r (.it .u8 b.toNat)) (v:=.int .u8 b.toNat) (by simp only [AV.rel,RV.rel]) hd
 exact hKW _ _ p _ hput (by cases o.dst <;> rfl) hK
end
section
variable {P : Program} {s : AS}
theorem gop_ycall {o : Oper} {K : AS → Prop} {f : Operand} {args : Array Operand} {ts : Array TypeId} {F : FuncId} {cs : List AV} {ar : Nat → List RV} {xs rest : List (List RV)} {ll : Nat} (ho : o.op = .call ⟨.value f,args,ts⟩)
 (hF : callee? (s.ev f) = some (F,cs)) (hrow : (s.rows 999).c = .gh P ll false (some (xs ++ rest))) (hpu : AV.pureL (args.toList.map s.ev ++ cs) = true) (hle : RV.leL (snapVL s.rows (args.toList.map s.ev ++ cs)) (ar ll)) (hY : YCalls P F ar xs)
 (h1 : K ((s.row 999 ⟨(s.rows 999).ver,.gh P ll false (some rest)⟩).put o.dst (.r (.bo true)))) (h2 : K ((s.row 999 ⟨(s.rows 999).ver,.gh P ll false none⟩).put o.dst (.r (.bo false)))) :
 gop P o K s:=by
 intro C p a w hs hd hnd KW Q hKW
 refine wpIn_of_wp hnd ?_
 obtain ⟨vs,hfv,hcs⟩:=callee_eval hs hF
 have hargs:=relV_ev hs args.toList
 have hall:=AV.relV_append hargs hcs
 have hlist : (args.map a.eval ++ vs).toList = args.toList.map a.eval ++ vs.toList:=by simp
 rw [← hlist] at hall
 have hV:=le_relV _ _ _ hle (pure_relV (rows:=s.rows) _ _ hpu hall)
 have hr:=hs.rw 999
 rw [hrow] at hr
 simp only [rowRel] at hr
 obtain ⟨_,hβ,hγ,hl,hz,hYo,hX⟩:=hr
 have hrun : (execOp a.eval o).run P w = .ok (.enter F (args.map a.eval ++ vs)) w:=by
  simp only [execOp,ho,Sem.run_bind,resolve,hfv,Deferred.ofValue,Sem.run_pure,Result.andThen_ok,invoke]
  simpa using run_callFunc hY.1 (args.map a.eval ++ vs) w
 unfold Oper.wp
 rw [hrun,Oper.upon_enter]
 have hzX : p.X.z = false:=hz
 refine (hY.2 rest w p.R _ p.X p.Ψ p.Θ hs.rb (by rw [hl]; exact hV) hzX (fun b hb=>?_) ?_ hYo hs.ex.ψl hs.ex.θl hs.ex.ψr hX).mono ?_
 · rw [hs.ex.px]
   have hz' : C.X.z = false:=by rw [← hs.ex.px]; exact hz
   rcases hs.rn b hb with g | g | g
   · exact .inl (hs.ex.ψ0 hz' b g)
   · exact .inr (Nat.le_trans hs.ex.n0 g)
   · exact .inr (hs.ex.ψo b g)
 · rw [hs.ex.px]; exact Nat.le_trans hs.ex.n0 hs.base.size
 rintro e w' ⟨g1,g2,g3,g4,g5,Ψ',Θ',g6,g7,g8,g9,g10⟩
 rcases g10 with ⟨rfl,hX'⟩ | ⟨rfl,hX'⟩
 · have hS:=hs.yielded hrow g1 g2 g3 g4 g5 (fun _ h=>h) g6 g7 g8 g9 hs.ex.px hX'
   have hput:=hS.put' (d:=o.dst) (av:=.r (.bo true)) (v:=.bool true) (by simp only [AV.rel,RV.rel]) hd
   exact hKW _ _ _ _ hput (app_n' _ _ _) h1
 · have hS:=hs.yielded hrow g1 g2 g3 g4 g5 (fun _ h=>h) g6 g7 g8 g9 hs.ex.px hX'
   have hput:=hS.put' (d:=o.dst) (av:=.r (.bo false)) (v:=.bool false) (by simp only [AV.rel,RV.rel]) hd
   exact hKW _ _ _ _ hput (app_n' _ _ _) h2
theorem gop_clip {P : Program} {s : AS} {o : Oper} {x hi mx : Operand} {t : TypeId} {K : AS → Prop} (ho : o.op = .slice t x none (some hi) (some mx)) {e esz eb : Nat} {ez : List RV} {ssz : Nat} {sagg : Bool} {sz0 : List RV} (e1 : tyq P t = some ⟨.slice e esz eb ez,ssz,sagg,sz0⟩)
 {sz : Nat} {es : List (List RV)} (hx : s.ev x = .r (.sl sz es)) {k1 k2 : IntKind} (hh : s.ev hi = .r (.it k1 (es.length : Int))) (hm : s.ev mx = .r (.it k2 (es.length : Int))) (hK : K (s.put o.dst (.r (if es = [] then .ns else .sx sz es)))) : gop P o K s:=by
 intro C p a w h hd hnd KW Q hKW
 obtain ⟨hu,hok,hsz,_,_⟩:=tyq_slice e1
 obtain ⟨A,c,hv,hc1,hc2,hne⟩:=ev_sl h hx
 have hr0:=run_cut3 (P:=P) (w:=w) hu hok (A:=A) (len:=es.length) (cap:=c) (kh:=k1) (km:=k2) (lo:=none) (l:=0) (q:=es.length) (m:=es.length) (.inl ⟨rfl,rfl⟩) (Nat.zero_le _) (Nat.le_refl _) hc1
 have hr : (execOp a.eval o).run P w = .ok (.value (.slice (if es.length = 0 then A else A.map (·.add (0 * P.cellsOf e))) (es.length - 0) (es.length - 0))) w:=by
  simp only [execOp,ho,Sem.run_bind,hv,Option.map_none,Option.map_some,ev_it h hh,ev_it h hm,hr0,Result.andThen_ok,Sem.run_pure]
 have hrel : (AV.r (if es = [] then .ns else .sx sz es)).rel w p s.ver (.slice (if es.length = 0 then A else A.map (·.add (0 * P.cellsOf e))) (es.length - 0) (es.length - 0)):=by
  simp only [AV.rel]
  by_cases h0 : es = []
  · subst h0
    simp only [if_true,RV.rel,List.length_nil,Nat.sub_zero];exact ⟨_,rfl⟩
  · obtain ⟨ad,rfl,hR,hE⟩:=hne h0
    have hl : ¬ es.length = 0:=fun e=>h0 (List.length_eq_zero_iff.1 e)
    simp only [if_neg h0,if_neg hl,RV.rel,Nat.sub_zero,Nat.zero_mul,Option.map_some];exact ⟨ad,rfl,h0,Nat.le_trans hc1 hc2,hR,hE⟩
 refine wpIn_of_wp hnd ?_
 unfold Oper.wp
 rw [hr]
 exact hKW _ _ p _ (h.put' hrel hd) (app_n' _ _ _) hK
end
def stepAllG (P : Program) (ops : Array Oper) (n : Nat) (F : (Nat → Bool) → (Nat → Nat) → List (Nat × AV)) (R : (Nat → Bool) → (Nat → Nat) → List (Nat × RowC)) : Nat → List Oper → Prop
 | _,[]=>True
 | k,o :: rest=>(∀ b vs,(∀ j e,j < ops.size → (deps ops j).contains e = true → b j = true → b e = true) → b k = false → (∀ e ∈ deps ops k,b e = true) →
  gop P o (FitV n (F (upd b k true)) (R (upd b k true))) (st n (F b vs) vs (R b vs))) ∧ stepAllG P ops n F R (k + 1) rest
theorem stepAllG_get {P : Program} {ops : Array Oper} {n : Nat} {F : (Nat → Bool) → (Nat → Nat) → List (Nat × AV)} {R : (Nat → Bool) → (Nat → Nat) → List (Nat × RowC)} : ∀ {l : List Oper} {k i : Nat} {o : Oper},stepAllG P ops n F R k l → l[i]? = some o →
 ∀ b vs, (∀ j e, j < ops.size → (deps ops j).contains e = true → b j = true → b e = true) → b (k + i) = false → (∀ e ∈ deps ops (k + i), b e = true) →
   gop P o (FitV n (F (upd b (k + i) true)) (R (upd b (k + i) true))) (st n (F b vs) vs (R b vs))
 | [],_,_,_,_,h=>by simp at h
 | x :: l, k, 0, o, hs, h => by
   simp only [List.getElem?_cons_zero,Option.some.injEq] at h
   subst h
   exact hs.1
 | x :: l, k, i + 1, o, hs, h => by
   have:=stepAllG_get (k:=k + 1) (i:=i) hs.2 (by simpa using h)
   rwa [show k + 1 + i = k + (i + 1) by omega] at this
section
variable {P : Program} {C : Ctx} {s : AS} {a : Act} {w : World} {ops : Array Oper}
theorem inv_anyG {Q : AS → Prop} {Q' : Exit → Act → World → Prop} (hQ : ∀ s a w,Q s → SRel C s a w → Q' .normal a w) {n : Nat} {F : (Nat → Bool) → (Nat → Nat) → List (Nat × AV)} {R : (Nat → Bool) → (Nat → Nat) → List (Nat × RowC)}
 (hd : dstOk ops n = true) (hg : ops.all (fun o=>o.guard.isNone) = true) (hu : upOk ops = true) (hstep : stepAllG P ops n F R 0 ops.toList)
 (hend : ∀ b vs,(∀ j,b j = true) → Q (st n (F b vs) vs (R b vs))) :
 ∀ (fuel : Nat) (vs : Nat → Nat) (listed : Array Bool) (a : Act) (w : World), listed.size = ops.size → down ops listed → unl listed ops.size ≤ fuel → SRel C (st n (F (fun j => listed.getD j true) vs) vs (R (fun j => listed.getD j true) vs)) a w →
   wpAnyIn (fnc C.rd) 0 P .any ops Q' fuel listed a w:=by
 have all : ∀ {listed : Array Bool},listed.size = ops.size → (∀ j,j < ops.size → listed.getD j true = true) → ∀ j,(fun j=>listed.getD j true) j = true:=fun {listed} hsz h j=>by
  by_cases hj : j < ops.size
  · exact h j hj
  · show listed.getD j true = true
    have : ¬ j < listed.size:=by omega
    simp [this]
 intro fuel
 induction fuel with
 | zero =>
   intro vs listed a w hsz hdn hf hs
   have h0:=unl_zero (listed:=listed) ops.size (by omega)
   refine ⟨List.eq_nil_iff_forall_not_mem.2 fun j hj=>?_,hQ _ _ _ (hend _ _ (all hsz h0)) hs⟩
   obtain ⟨h1,o,ho,_⟩:=mem_ready.1 hj
   have:=h0 j (Array.getElem?_eq_some_iff.1 ho).1
   rw [this] at h1
   cases h1
 | succ fuel ih =>
   intro vs listed a w hsz hdn hf hs
   refine ⟨fun h0=>hQ _ _ _ (hend _ _ (all hsz (ready_nil hu h0 hsz))) hs,fun i hi=>?_⟩
   obtain ⟨hi1,o,ho,hall⟩:=mem_ready.1 hi
   unfold wpOpIn
   rw [ho]
   simp only
   have hil : i < ops.size:=(Array.getElem?_eq_some_iff.1 ho).1
   have hgo : o.guard = none:=by
    have:=Array.all_eq_true_iff_forall_mem.1 hg o (Array.mem_of_getElem? ho)
    simpa using this
   obtain ⟨p,hp⟩:=hs
   rw [if_pos (wantA_sound hp (by simp [wantA,hgo]))]
   have hx:=stepAllG_get (k:=0) (i:=i) hstep (by rw [Array.getElem?_toList]; exact ho) (fun j=>listed.getD j true) vs (fun j e hj he hb=>?_) (by rw [Nat.zero_add]; exact hi1) (fun e he=>?_)
   · rw [Nat.zero_add] at hx
     refine hx C _ _ _ hp (dstOk_get hd ho) (dstOk_nd hd ho) _ _ (fun a' w' p' s' hs' hn hK=>?_)
     obtain ⟨vs',hsub⟩:=hK
     have e : upd (fun j=>listed.getD j true) i true = fun j=>(listed.setIfInBounds i true).getD j true:=by
      funext j
      rw [getD_setT]
      rfl
     rw [e] at hsub
     exact ih vs' _ a' w' (by simpa using hsz) (down_set hdn hi) (by have:=unl_set hi1 ops.size hil; omega) (hsub C a' w' ⟨p',hs'⟩)
   · have hjs : j < listed.size:=by omega
     have hb' : listed.getD j true = true:=hb
     have h2:=hdn j (by simpa [hjs] using hb') e (by simpa using he)
     show listed.getD e true = true
     by_cases hes : e < listed.size
     · simpa [hes] using h2
     · simp [hes]
   · have h2:=ready_deps hi e (by simpa using he)
     show listed.getD e true = true
     by_cases hes : e < listed.size
     · simpa [hes] using h2
     · simp [hes]
end
theorem awp_invG {P : Program} {C : Ctx} {id : Nat} {l : List Oper} {n : Nat} {Q : Exit → AS → Prop} {s : AS} (F : (Nat → Bool) → (Nat → Nat) → List (Nat × AV)) (R : (Nat → Bool) → (Nat → Nat) → List (Nat × RowC)) (hm : P.follows .mixedOrders = true)
 (hd : dstOk l.toArray n = true) (hg : l.toArray.all (fun o=>o.guard.isNone) = true) (hu : upOk l.toArray = true) (h0 : FitV n (F fun j=>decide (l.length ≤ j)) (R fun j=>decide (l.length ≤ j)) s)
 (hstep : stepAllG P l.toArray n F R 0 l) (hend : ∀ b vs,(∀ j,b j = true) → Q .normal (st n (F b vs) vs (R b vs))) : awp P C (.region id l.toArray true) Q s:=fun a w hs=>by
 obtain ⟨vs,hsub⟩:=h0
 obtain ⟨p,hp⟩:=hsub C a w hs
 have hs' : SR C p _ a { w with drawn:=w.drawn + 1 }:=hp.below (w':=w.drew) ((Below.refl _ _).drew) (fun _ h=>h) (fun _ h=>.inl h) hp.rb
 refine wpIn_region_any hm ?_
 have e : (fun j=>(Array.replicate l.toArray.size false).getD j true) = fun j=>decide (l.length ≤ j):=by
  funext j
  by_cases h : j < l.length
  · have : ¬ l.length ≤ j:=by omega
    simp [h,this]
  · have : l.length ≤ j:=by omega
    simp [h,this]
 refine inv_anyG (Q:=fun s=>Q .normal s) (n:=n) (F:=F) (R:=R) (fun s a w hq hs=>⟨s,hs,hq⟩) hd hg hu (by simpa using hstep) hend _ vs _ _ _ (by simp) (fun j hj=>?_) ?_ ?_
 · exfalso
   simp only [Array.getD_eq_getD_getElem?,Array.getElem?_replicate] at hj
   split at hj <;> simp at hj
 · have : ∀ m,unl (Array.replicate l.toArray.size false) m ≤ m:=by
    intro m
    induction m with
    | zero=>exact Nat.le_refl _
    | succ m ih=>simp only [unl]; split <;> omega
   exact this _
 · rw [e]
   exact ⟨p,hs'⟩
def stepAllZ {α : Type} (P : Program) (ops : Array Oper) (n : Nat) (F : (Nat → Bool) → α → (Nat → Nat) → List (Nat × AV)) (R : (Nat → Bool) → α → (Nat → Nat) → List (Nat × RowC)) : Nat → List Oper → Prop
 | _,[]=>True
 | k,o :: rest=>(∀ b z vs,(∀ j e,j < ops.size → (deps ops j).contains e = true → b j = true → b e = true) → b k = false → (∀ e ∈ deps ops k,b e = true) →
  gop P o (fun s'=>∃ z',FitV n (F (upd b k true) z') (R (upd b k true) z') s') (st n (F b z vs) vs (R b z vs))) ∧ stepAllZ P ops n F R (k + 1) rest
theorem stepAllZ_get {P : Program} {ops : Array Oper} {n : Nat} {α : Type} {F : (Nat → Bool) → α → (Nat → Nat) → List (Nat × AV)} {R : (Nat → Bool) → α → (Nat → Nat) → List (Nat × RowC)} : ∀ {l : List Oper} {k i : Nat} {o : Oper},stepAllZ P ops n F R k l → l[i]? = some o →
 ∀ b z vs, (∀ j e, j < ops.size → (deps ops j).contains e = true → b j = true → b e = true) → b (k + i) = false → (∀ e ∈ deps ops (k + i), b e = true) →
   gop P o (fun s'=>∃ z',FitV n (F (upd b (k + i) true) z') (R (upd b (k + i) true) z') s') (st n (F b z vs) vs (R b z vs))
 | [],_,_,_,_,h=>by simp at h
 | x :: l, k, 0, o, hs, h => by
   simp only [List.getElem?_cons_zero,Option.some.injEq] at h
   subst h
   exact hs.1
 | x :: l, k, i + 1, o, hs, h => by
   have:=stepAllZ_get (k:=k + 1) (i:=i) hs.2 (by simpa using h)
   rwa [show k + 1 + i = k + (i + 1) by omega] at this
section
variable {P : Program} {C : Ctx} {s : AS} {a : Act} {w : World} {ops : Array Oper}
theorem inv_anyZ {Q : AS → Prop} {Q' : Exit → Act → World → Prop} (hQ : ∀ s a w,Q s → SRel C s a w → Q' .normal a w) {n : Nat} {α : Type} {F : (Nat → Bool) → α → (Nat → Nat) → List (Nat × AV)} {R : (Nat → Bool) → α → (Nat → Nat) → List (Nat × RowC)}
 (hd : dstOk ops n = true) (hg : ops.all (fun o=>o.guard.isNone) = true) (hu : upOk ops = true) (hstep : stepAllZ P ops n F R 0 ops.toList)
 (hend : ∀ b z vs,(∀ j,b j = true) → Q (st n (F b z vs) vs (R b z vs))) :
 ∀ (fuel : Nat) (z : α) (vs : Nat → Nat) (listed : Array Bool) (a : Act) (w : World), listed.size = ops.size → down ops listed → unl listed ops.size ≤ fuel → SRel C (st n (F (fun j => listed.getD j true) z vs) vs (R (fun j => listed.getD j true) z vs)) a w →
   wpAnyIn (fnc C.rd) 0 P .any ops Q' fuel listed a w:=by
 have all : ∀ {listed : Array Bool},listed.size = ops.size → (∀ j,j < ops.size → listed.getD j true = true) → ∀ j,(fun j=>listed.getD j true) j = true:=fun {listed} hsz h j=>by
  by_cases hj : j < ops.size
  · exact h j hj
  · show listed.getD j true = true
    have : ¬ j < listed.size:=by omega
    simp [this]
 intro fuel
 induction fuel with
 | zero =>
   intro z vs listed a w hsz hdn hf hs
   have h0:=unl_zero (listed:=listed) ops.size (by omega)
   refine ⟨List.eq_nil_iff_forall_not_mem.2 fun j hj=>?_,hQ _ _ _ (hend _ _ _ (all hsz h0)) hs⟩
   obtain ⟨h1,o,ho,_⟩:=mem_ready.1 hj
   have:=h0 j (Array.getElem?_eq_some_iff.1 ho).1
   rw [this] at h1
   cases h1
 | succ fuel ih =>
   intro z vs listed a w hsz hdn hf hs
   refine ⟨fun h0=>hQ _ _ _ (hend _ _ _ (all hsz (ready_nil hu h0 hsz))) hs,fun i hi=>?_⟩
   obtain ⟨hi1,o,ho,hall⟩:=mem_ready.1 hi
   unfold wpOpIn
   rw [ho]
   simp only
   have hil : i < ops.size:=(Array.getElem?_eq_some_iff.1 ho).1
   have hgo : o.guard = none:=by
    have:=Array.all_eq_true_iff_forall_mem.1 hg o (Array.mem_of_getElem? ho)
    simpa using this
   obtain ⟨p,hp⟩:=hs
   rw [if_pos (wantA_sound hp (by simp [wantA,hgo]))]
   have hx:=stepAllZ_get (k:=0) (i:=i) hstep (by rw [Array.getElem?_toList]; exact ho) (fun j=>listed.getD j true) z vs (fun j e hj he hb=>?_) (by rw [Nat.zero_add]; exact hi1) (fun e he=>?_)
   · rw [Nat.zero_add] at hx
     refine hx C _ _ _ hp (dstOk_get hd ho) (dstOk_nd hd ho) _ _ (fun a' w' p' s' hs' hn hK=>?_)
     obtain ⟨z',vs',hsub⟩:=hK
     have e : upd (fun j=>listed.getD j true) i true = fun j=>(listed.setIfInBounds i true).getD j true:=by
      funext j
      rw [getD_setT]
      rfl
     rw [e] at hsub
     exact ih z' vs' _ a' w' (by simpa using hsz) (down_set hdn hi) (by have:=unl_set hi1 ops.size hil; omega) (hsub C a' w' ⟨p',hs'⟩)
   · have hjs : j < listed.size:=by omega
     have hb' : listed.getD j true = true:=hb
     have h2:=hdn j (by simpa [hjs] using hb') e (by simpa using he)
     show listed.getD e true = true
     by_cases hes : e < listed.size
     · simpa [hes] using h2
     · simp [hes]
   · have h2:=ready_deps hi e (by simpa using he)
     show listed.getD e true = true
     by_cases hes : e < listed.size
     · simpa [hes] using h2
     · simp [hes]
end
theorem awp_invZ {P : Program} {C : Ctx} {id : Nat} {l : List Oper} {n : Nat} {Q : Exit → AS → Prop} {s : AS} {α : Type} (F : (Nat → Bool) → α → (Nat → Nat) → List (Nat × AV)) (R : (Nat → Bool) → α → (Nat → Nat) → List (Nat × RowC)) (hm : P.follows .mixedOrders = true)
 (hd : dstOk l.toArray n = true) (hg : l.toArray.all (fun o=>o.guard.isNone) = true) (hu : upOk l.toArray = true) (z0 : α) (h0 : FitV n (F (fun j=>decide (l.length ≤ j)) z0) (R (fun j=>decide (l.length ≤ j)) z0) s)
 (hstep : stepAllZ P l.toArray n F R 0 l) (hend : ∀ b z vs,(∀ j,b j = true) → Q .normal (st n (F b z vs) vs (R b z vs))) : awp P C (.region id l.toArray true) Q s:=fun a w hs=>by
 obtain ⟨vs,hsub⟩:=h0
 obtain ⟨p,hp⟩:=hsub C a w hs
 have hs' : SR C p _ a { w with drawn:=w.drawn + 1 }:=hp.below (w':=w.drew) ((Below.refl _ _).drew) (fun _ h=>h) (fun _ h=>.inl h) hp.rb
 refine wpIn_region_any hm ?_
 have e : (fun j=>(Array.replicate l.toArray.size false).getD j true) = fun j=>decide (l.length ≤ j):=by
  funext j
  by_cases h : j < l.length
  · have : ¬ l.length ≤ j:=by omega
    simp [h,this]
  · have : l.length ≤ j:=by omega
    simp [h,this]
 refine inv_anyZ (Q:=fun s=>Q .normal s) (n:=n) (F:=F) (R:=R) (fun s a w hq hs=>⟨s,hs,hq⟩) hd hg hu (by simpa using hstep) hend _ z0 vs _ _ _ (by simp) (fun j hj=>?_) ?_ ?_
 · exfalso
   simp only [Array.getD_eq_getD_getElem?,Array.getElem?_replicate] at hj
   split at hj <;> simp at hj
 · have : ∀ m,unl (Array.replicate l.toArray.size false) m ≤ m:=by
    intro m
    induction m with
    | zero=>exact Nat.le_refl _
    | succ m ih=>simp only [unl]; split <;> omega
   exact this _
 · rw [e]
   exact ⟨p,hs'⟩
end Go.Oc

namespace Go.Proofs.Ytobokbhpeaakjaa
open Go Go.Oc
set_option linter.unusedSimpArgs false
set_option linter.unusedVariables false
set_option maxRecDepth 8000
set_option maxHeartbeats 2000000
def insB (lt : Rw → Rw → Bool) (x : Rw) : List Rw → List Rw
 | []=>[x]
 | y :: ys=>if lt x y then y :: insB lt x ys else x :: y :: ys
def sortB (lt : Rw → Rw → Bool) : List Rw → List Rw → List Rw
 | [],R=>R
 | x :: xs,R=>sortB lt xs (insB lt x R)
def sortN (lt : Rw → Rw → Bool) (l : List Rw) : List Rw:=(sortB lt l []).reverse
theorem insB_len (lt : Rw → Rw → Bool) (x : Rw) : ∀ R,(insB lt x R).length = R.length + 1
 | []=>rfl
 | y :: R => by
   unfold insB
   split
   · simp [insB_len lt x R]
   · rfl
theorem insB_skip (lt : Rw → Rw → Bool) (x : Rw) : ∀ (R : List Rw) (k : Nat),(∀ y ∈ R.take k,lt x y = true) → insB lt x R = R.take k ++ insB lt x (R.drop k)
 | R,0,_=>by simp
 | [],k + 1,_=>by simp
 | y :: R, k + 1, h => by
   have hy : lt x y = true:=h y (by simp)
   have ih:=insB_skip lt x R k fun z hz=>h z (by simp [hz])
   simp only [List.take_succ_cons,List.drop_succ_cons,List.cons_append];rw [← ih]
   simp [insB,hy]
theorem sortB_snoc (lt : Rw → Rw → Bool) : ∀ (l : List Rw) (x : Rw) (R : List Rw),sortB lt (l ++ [x]) R = insB lt x (sortB lt l R)
 | [],_,_=>rfl
 | y :: l,x,R=>by simp only [List.cons_append,sortB]; exact sortB_snoc lt l x _
theorem sortB_len (lt : Rw → Rw → Bool) : ∀ (l R : List Rw),(sortB lt l R).length = l.length + R.length
 | [],R=>by simp [sortB]
 | x :: l,R=>by simp only [sortB]; rw [sortB_len lt l,insB_len]; simp; omega
theorem mem_insB (lt : Rw → Rw → Bool) (x z : Rw) : ∀ R,z ∈ insB lt x R ↔ z = x ∨ z ∈ R
 | []=>by simp [insB]
 | y :: R => by
   unfold insB
   split
   · simp only [List.mem_cons,mem_insB lt x z R]
     constructor
     · rintro (h | h | h) <;> simp [h]
     · rintro (h | h | h) <;> simp [h]
   · simp
theorem mem_sortB (lt : Rw → Rw → Bool) (z : Rw) : ∀ l R,z ∈ sortB lt l R ↔ z ∈ l ∨ z ∈ R
 | [],R=>by simp [sortB]
 | x :: l, R => by
   simp only [sortB];rw [mem_sortB lt z l,mem_insB]
   simp only [List.mem_cons]
   constructor
   · rintro (h | h | h) <;> simp [h]
   · rintro ((h | h) | h) <;> simp [h]
def holeL (R : List Rw) (x : Rw) (k : Nat) (rest : List Rw) : List Rw:=(R.drop k).reverse ++ x :: ((R.take k).reverse ++ rest)
theorem hole_len (R : List Rw) (x : Rw) (k : Nat) (rest : List Rw) (hk : k ≤ R.length) : (holeL R x k rest).length = R.length + 1 + rest.length:=by
 simp [holeL]; omega
theorem hole_at (R : List Rw) (x : Rw) (k : Nat) (rest : List Rw) (hk : k ≤ R.length) : (holeL R x k rest)[R.length - k]? = some x:=by
 unfold holeL
 rw [List.getElem?_append_right (by simp)]
 simp
theorem hole_next {R : List Rw} {x y : Rw} {k : Nat} {rest : List Rw} (hy : R[k]? = some y) : (holeL R x k rest)[R.length - k - 1]? = some y ∧ (holeL R x k rest) = (R.drop (k + 1)).reverse ++ y :: x :: ((R.take k).reverse ++ rest) ∧ holeL R x (k + 1) rest = (R.drop (k + 1)).reverse ++ x :: y :: ((R.take k).reverse ++ rest):=by
 have hk:=(List.getElem?_eq_some_iff.1 hy).1
 have hd:=drop_of_opt hy
 have ht:=take_of_opt hy
 have e1 : (holeL R x k rest) = (R.drop (k + 1)).reverse ++ y :: x :: ((R.take k).reverse ++ rest):=by
  unfold holeL; rw [hd]; simp
 refine ⟨?_,e1,by unfold holeL; rw [ht]; simp⟩
 rw [e1,List.getElem?_append_right (by simp; omega)]
 have : R.length - k - 1 - (R.drop (k + 1)).reverse.length = 0:=by simp; omega
 rw [this]; rfl
theorem hole_swap {α : Type} (g : Rw → α) {R : List Rw} {x y : Rw} {k : Nat} {rest : List Rw} (hy : R[k]? = some y) :
 (((holeL R x k rest).map g).set (R.length - k) (g y)).set (R.length - k - 1) (g x) = (holeL R x (k + 1) rest).map g:=by
 obtain ⟨_,e1,e2⟩:=hole_next (x:=x) (rest:=rest) hy
 have hk:=(List.getElem?_eq_some_iff.1 hy).1
 rw [e1,e2,← List.map_set,← List.map_set]
 congr 1
 have hl : (R.drop (k + 1)).reverse.length = R.length - k - 1:=by simp; omega
 generalize (R.drop (k + 1)).reverse = A at hl
 generalize (R.take k).reverse ++ rest = B
 have e3 : R.length - k = A.length + 1:=by omega
 rw [e3,Nat.add_sub_cancel]
 rw [List.set_append_right _ _ (by omega)]
 simp only [Nat.add_sub_cancel_left,List.set_cons_succ,List.set_cons_zero];rw [List.set_append_right _ _ (by omega)]
 simp
theorem lent_put {vs : Nat → Nat} {k : Nat} (h : Lent vs) : Lent (upd vs k 0):=fun j hj=>by
 unfold upd; split
 · rfl
 · exact h j hj
theorem insertion_ok (lt : Rw → Rw → Bool) (c : Rw → Rw → Int) (f : Nat) (caps : List RV) (l : List Rw) (hl : l.length ≤ 1000) (hlt : ∀ x y,lt x y = decide (c x y < 0))
 (hcc : ∀ x ∈ l,∀ y ∈ l,ACalls Try.prog f (.ag (rwR x) :: .ag (rwR y) :: caps) (i64 (c x y))) :
 MCalls Try.prog 110 [(1000,.arr 49 8 (l.map rwR))] [(1000,.arr 49 8 ((sortN lt l).map rwR))] [.os 1000 0 8 0 l.length,.r (i64 0),.r (i64 l.length),.r (.fn f caps)] (.tu []):=by
 refine mcalls_st (n:=53) (rs:=[]) _ _ [] Try.func110 rfl (by kernel_rfl) Try.ntmps110 rfl (by simp) rfl rfl fun C=>?_
 have hmem : ∀ i z,z ∈ sortB lt (l.take i) [] → z ∈ l:=fun i z hz=>by
  rw [mem_sortB] at hz
  rcases hz with hz | hz
  · exact List.mem_of_mem_take hz
  · cases hz
 repeat refine zq ?_
 refine zb fun K hK=>?_;simp only [go_sem];(try simp (disch:=omega) only [zI]);repeat first | intro _ | refine ⟨by omega,?_⟩
 refine hK _ ?_;clear hK K;refine zw (zk [0,1,2,3,8]) ?_;simp only [go_sem]
 repeat refine zq ?_
 refine zd ?_
 refine awp_upto0 (n:=53) (max l.length 1) (fun i vs=>[(0,.os 1000 0 8 0 l.length),(1,.r (i64 0)),(2,.r (i64 l.length)),(3,.r (.fn f caps)),(8,.r (i64 i))])
  (fun i=>[(1000,.arr 49 8 (((sortB lt (l.take i) []).reverse ++ l.drop i).map rwR))]) (fun i=>1 ≤ i) 1 (fit0_of [] lent_zero ?_ ?_) (by omega) (Nat.le_refl _) ?_
 · try simp only [go_sem]
 · simp only [go_sem]
   cases l with
   | nil=>rfl
   | cons x l=>simp [sortB,insB]
 · intro i vs hv hi hi1
   have hv0:=hv 1000 (by omega)
   repeat refine zq ?_
   refine zb fun K hK=>?_;simp only [go_sem];(try simp (disch:=omega) only [zI]);repeat first | intro _ | refine ⟨by omega,?_⟩
   refine hK _ ?_;clear hK K;refine zw (zk [0,1,2,3,8,14]) ?_;simp only [go_sem]
   repeat refine zq ?_
   refine zc rfl (fun hc=>?_) (fun hc=>?_) <;> (try simp only [go_sem] at hc)
   · have hci : i < l.length:=by omega
     obtain ⟨x,hx⟩:=opt_of_lt hci
     obtain ⟨R,hR⟩ : ∃ R,R = sortB lt (l.take i) []:=⟨_,rfl⟩
     have hRl : R.length = i:=by rw [hR,sortB_len]; simp; omega
     have hRm : ∀ z ∈ R,z ∈ l:=fun z hz=>hmem i z (hR ▸ hz)
     have hnx : sortB lt (l.take (i + 1)) [] = insB lt x R:=by rw [take_of_opt hx,sortB_snoc,hR]
     have hst : (sortB lt (l.take i) []).reverse ++ l.drop i = holeL R x 0 (l.drop (i + 1)):=by rw [← hR,drop_of_opt hx]; simp [holeL]
     rw [hst]
     refine zx ?_
     repeat refine zq ?_
     refine zd ?_
     repeat refine zq ?_
     refine zb fun K hK=>?_;simp only [go_sem];(try simp (disch:=omega) only [zI]);repeat first | intro _ | refine ⟨by omega,?_⟩
     refine hK _ ?_;clear hK K;refine zw (zk [0,1,2,3,8,9]) ?_;simp only [go_sem]
     repeat refine zq ?_
     refine zd ?_
     refine awp_upto0 (n:=53) i (fun k vs=>[(0,.os 1000 0 8 0 l.length),(1,.r (i64 0)),(2,.r (i64 l.length)),(3,.r (.fn f caps)),(8,.r (i64 i)),(9,.r (i64 (i - k : Nat)))])
      (fun k=>[(1000,.arr 49 8 ((holeL R x k (l.drop (i + 1))).map rwR))]) (fun k=>∀ y ∈ R.take k,lt x y = true) 0 (fit0_of [] hv ?_ ?_) (Nat.zero_le _) (by simp) ?_
     · try simp only [go_sem]
     · try simp only [go_sem]
     · intro k vs hv hk hI
       have hv0:=hv 1000 (by omega)
       have hins:=insB_skip lt x R k hI
       have done : insB lt x (R.drop k) = x :: R.drop k → sortB lt (l.take (i + 1)) [] = R.take k ++ x :: R.drop k:=fun h=>by rw [hnx,hins,h]
       by_cases hk0 : k = i
       · have e0 : i - k = 0:=by omega
         repeat refine zq ?_
         refine awp_dreg2 [(0,some 1000)] follows (by decide +kernel) (by kernel_rfl) (by simp only [keysOk,List.mem_cons,List.not_mem_nil,forall_eq_or_imp,Oc.keyOf,go_sem]; simp) fun K hK=>?_
         simp only [go_sem,hv0,e0];(try simp (disch:=omega) only [zI]);repeat first | intro _ | refine ⟨by omega,?_⟩
         refine hK _ ?_;clear hK K;refine zw (zk [0,1,2,3,8,9,34]) ?_;simp only [go_sem]
         repeat refine zq ?_
         refine zc rfl (fun hc=>?_) (fun hc=>?_) <;> (try simp only [go_sem] at hc)
         refine zf ?_;simp only [go_sem]
         repeat refine zq ?_
         refine zb fun K hK=>?_;simp only [go_sem];(try simp (disch:=omega) only [zI]);repeat first | intro _ | refine ⟨by omega,?_⟩
         refine hK _ ?_;clear hK K
         try simp only [go_sem]
         refine ⟨by omega,fit0_of [] hv ?_ ?_⟩
         · try simp only [go_sem]
         · have hd0 : R.drop k = []:=List.drop_eq_nil_of_le (by omega)
           have:=done (by rw [hd0]; rfl)
           simp only [go_sem,this]
           simp [holeL]
       · obtain ⟨y,hy⟩:=opt_of_lt (l:=R) (i:=k) (by omega)
         obtain ⟨j,hj⟩ : ∃ j,i - k = j + 1:=⟨i - k - 1,by omega⟩
         have hjs : IntKind.i64.wrap ((j : Int) + 1 - 1) = j:=by rw [zI] <;> omega
         have hlen : (holeL R x k (l.drop (i + 1))).length = l.length:=by rw [hole_len _ _ _ _ (by omega),List.length_drop]; omega
         have hxa : (holeL R x k (l.drop (i + 1)))[j + 1]? = some x:=by rw [← hj,← hRl]; exact hole_at R x k _ (by omega)
         have hya : (holeL R x k (l.drop (i + 1)))[j]? = some y:=by
          have:=(hole_next (x:=x) (rest:=l.drop (i + 1)) hy).1
          rw [hRl,hj] at this
          exact this
         have hcall:=hcc x (mem_of_opt hx) y (hRm y (mem_of_opt hy))
         have hpos : (0 < (j : Int) + 1) = True:=by simp
         have hlxy:=hlt x y
         repeat refine zq ?_
         refine awp_dreg2 [(0,some 1000)] follows (by decide +kernel) (by kernel_rfl) (by simp only [keysOk,List.mem_cons,List.not_mem_nil,forall_eq_or_imp,Oc.keyOf,go_sem]; simp) fun K hK=>?_
         simp only [go_sem,hv0,hj,hjs,hxa,hya,hlen,hpos];(try simp (disch:=omega) only [zI])
         refine ⟨by omega,by omega,?_⟩
         refine zh (hcall) rfl (by simp only [go_sem,i64,ints,hv0]) (by simp only [go_sem,i64,ints,hv0]) (by first | exact .inl rfl | exact .inr rfl) ?_
         (try simp only [go_sem,hv0]);(try simp (disch:=omega) only [zI]);repeat first | intro _ | refine ⟨by omega,?_⟩
         refine hK _ ?_;clear hK K;refine zw (zk [0,1,2,3,8,9,34]) ?_;simp only [go_sem]
         cases hcx : decide (c x y < 0)
         · repeat refine zq ?_
           refine zc rfl (fun hc=>?_) (fun hc=>?_) <;> (try simp only [go_sem] at hc)
           refine zf ?_;simp only [go_sem]
           repeat refine zq ?_
           refine zb fun K hK=>?_;simp only [go_sem];(try simp (disch:=omega) only [zI]);repeat first | intro _ | refine ⟨by omega,?_⟩
           refine hK _ ?_;clear hK K
           try simp only [go_sem]
           refine ⟨by omega,fit0_of [] hv ?_ ?_⟩
           · try simp only [go_sem]
           · have:=done (by rw [drop_of_opt hy]; simp [insB,hlxy,hcx])
             simp only [go_sem,this]
             simp [holeL]
         · repeat refine zq ?_
           refine zc rfl (fun hc=>?_) (fun hc=>?_) <;> (try simp only [go_sem] at hc)
           refine zx ?_
           try simp only [go_sem]
           repeat refine zq ?_
           refine zd ?_
           have hset : (((holeL R x k (l.drop (i + 1))).map rwR).set (j + 1) (rwR y)).getD j [] = rwR y:=by
            rw [List.getD_eq_getElem?_getD,List.getElem?_set_ne (by omega),List.getElem?_map,hya]; rfl
           have hsw:=hole_swap rwR (x:=x) (rest:=l.drop (i + 1)) hy
           rw [hRl,hj] at hsw
           simp only [Nat.add_sub_cancel] at hsw
           repeat refine zq ?_
           refine awp_dreg2 [(0,some 1000)] follows (by decide +kernel) (by kernel_rfl) (by simp only [keysOk,List.mem_cons,List.not_mem_nil,forall_eq_or_imp,Oc.keyOf,go_sem]; simp) fun K hK=>?_
           simp only [go_sem,hv0,hj,hjs,hxa,hya,hlen,hset,List.length_set];(try simp (disch:=omega) only [zI])
           repeat' first | intro _ | refine And.intro ?_ ?_
           all_goals first | omega | skip
           all_goals (refine hK _ ?_; clear hK K)
           refine zw (zk [0,1,2,3,8,9]) ?_;simp only [go_sem]
           repeat refine zq ?_
           refine zb fun K hK=>?_;simp only [go_sem,hjs];(try simp (disch:=omega) only [zI]);repeat first | intro _ | refine ⟨by omega,?_⟩
           refine hK _ ?_;clear hK K
           try simp only [go_sem]
           have hj2 : i - (k + 1) = j:=by omega
           refine ⟨by omega,?_,fit0_of [] (lent_put (lent_put hv)) ?_ ?_⟩
           · rw [take_of_opt hy]
             intro z hz
             rcases List.mem_append.1 hz with hz | hz
             · exact hI z hz
             · simp only [List.mem_singleton] at hz
               subst hz
               rw [hlxy,hcx]
           · simp only [go_sem,hj2]
           · simp only [go_sem];exact congrArg (fun z=>[(1000,RowC.arr 49 8 z)]) hsw
   · refine zf ?_;simp only [go_sem]
     have h1 : l.take i = l:=List.take_of_length_le (by omega)
     have h2 : l.drop i = []:=List.drop_eq_nil_of_le (by omega)
     rw [h1,h2,List.append_nil]
     rfl
theorem rows_own (r : Tr) (l : List Mt) (hr : RulesI r) (hl : ∀ m ∈ l,MatchI r m) (hll : l.length ≤ 180) : OCalls Try.prog 62 [dvV r l] 49 8 ((rowsL r l).map rwR) (nT r):=by
 obtain ⟨hn,hn2,hn10⟩:=nT_eq hr
 have hrt:=hr.teams
 have htn : r.teams.toNat = nT r:=rfl
 refine ocalls_st (n:=78) (.tmp 2) Try.func62 rfl (by kernel_rfl) Try.ntmps62 rfl (by simp) (fun e he=>by obtain ⟨x,_,rfl⟩:=List.mem_map.1 he; rfl) fun C vs=>?_
 repeat refine zq ?_
 refine zb fun K hK=>?_;simp only [go_sem];(try simp (disch:=omega) only [zI]);repeat first | intro _ | refine ⟨by omega,?_⟩
 refine hK _ ?_;clear hK K;refine zw (sub_frzP 1 1 (dvC r l) (by omega) rfl rfl) ?_;refine zw (zk [1]) ?_;simp only [go_sem]
 repeat refine zq ?_
 refine zb fun K hK=>?_;simp only [go_sem,htn];(try simp (disch:=omega) only [zI]);repeat first | intro _ | refine ⟨by omega,?_⟩
 refine hK _ ?_;clear hK K;refine zw (zk [1,3]) ?_;simp only [go_sem]
 repeat refine zq ?_
 refine zb fun K hK=>?_;simp only [go_sem];(try simp (disch:=omega) only [zI]);repeat first | intro _ | refine ⟨by omega,?_⟩
 refine hK _ ?_;clear hK K;refine zw (zk [1,3,14,15]) ?_;simp only [go_sem]
 repeat refine zq ?_
 refine zd ?_
 refine awp_uptoV (n:=78) (nT r) (fun i vs=>[(1,.r (.rp (dvC r l))),(3,.os 12 (vs 12) 8 0 (nT r)),(14,.r (i64 (nT r : Int))),(15,.r (i64 (i : Int)))])
  (fun i vs=>[(12,.arr 49 8 (((List.range i).map fun t=>rwR (startW r t)) ++ List.replicate (nT r - i) (rwR ⟨0,0,0,0,0,0,0,0⟩)))]) (fun _=>True) 0 (zj [] ?_ ?_) (Nat.zero_le _) trivial ?_
 · try simp only [go_sem]
 · try simp only [go_sem]
   try rfl
 · intro i vs hi _
   repeat refine zq ?_
   refine zb fun K hK=>?_;simp only [go_sem];(try simp (disch:=omega) only [zI]);repeat first | intro _ | refine ⟨by omega,?_⟩
   refine hK _ ?_;clear hK K;refine zw (zk [1,3,14,15,16]) ?_;simp only [go_sem]
   repeat refine zq ?_
   refine zc rfl (fun hc=>?_) (fun hc=>?_) <;> (try simp only [go_sem] at hc)
   · have hci : i < nT r:=by omega
     obtain ⟨E,hEd⟩ : ∃ E,E = ((List.range i).map fun t=>rwR (startW r t)) ++ List.replicate (nT r - i) (rwR ⟨0,0,0,0,0,0,0,0⟩):=⟨_,rfl⟩
     have hEl : E.length = nT r:=by rw [hEd]; simp; omega
     have hE : E[i]? = some (rwR ⟨0,0,0,0,0,0,0,0⟩):=by
      rw [hEd,List.getElem?_append_right (by simp),List.length_map,List.length_range,Nat.sub_self,List.getElem?_replicate,if_pos (by omega)]
     have hED : E.getD i [] = rwR ⟨0,0,0,0,0,0,0,0⟩:=by rw [List.getD_eq_getElem?_getD,hE]; rfl
     have hil : i < E.length:=by omega
     have hset : ∀ y,(E.set i y)[i]? = some y:=fun y=>List.getElem?_set_self hil
     have hsetD : ∀ y,(E.set i y).getD i [] = y:=fun y=>by rw [List.getD_eq_getElem?_getD,hset]; rfl
     have hnext : E.set i (rwR (startW r i)) = ((List.range (i + 1)).map fun t=>rwR (startW r t)) ++ List.replicate (nT r - (i + 1)) (rwR ⟨0,0,0,0,0,0,0,0⟩):=by
      rw [hEd,List.set_append_right _ _ (by simp),List.length_map,List.length_range,Nat.sub_self,show nT r - i = (nT r - (i + 1)) + 1 by omega,List.replicate_succ,List.set_cons_zero,List.range_succ,List.map_append,List.append_assoc]
      rfl
     rw [← hEd]
     refine zx ?_
     try simp only [go_sem]
     repeat refine zq ?_
     refine zd ?_
     repeat refine zq ?_
     refine zb fun K hK=>?_;simp only [go_sem];(try simp (disch:=omega) only [zI]);repeat first | intro _ | refine ⟨by omega,?_⟩
     refine hK _ ?_;clear hK K;refine zw (zk [1,3,4,14,15]) ?_;simp only [go_sem]
     repeat refine zq ?_
     refine zb fun K hK=>?_;simp only [go_sem,hE,hED,hset,hsetD,hil,List.length_set,List.set_set,List.set_cons_succ,List.set_cons_zero,List.take_succ_cons,List.take_zero,List.drop_succ_cons,List.drop_zero];(try simp (disch:=omega) only [zI]);repeat first | intro _ | refine ⟨by omega,?_⟩
     refine hK _ ?_;clear hK K;refine zw (zk [1,3,4,14,15]) ?_;simp only [go_sem]
     repeat refine zq ?_
     refine zb fun K hK=>?_;simp only [go_sem];(try simp (disch:=omega) only [zI])
     intro _
     repeat first | intro _ | refine ⟨by omega,?_⟩
     refine hK _ ?_;clear hK K;refine zw (zk [1,3,4,14,15,27]) ?_;simp only [go_sem]
     repeat refine zq ?_
     refine awp_joinV (n:=78) (fun (_ : Unit) vs=>[(1,.r (.rp (dvC r l))),(3,.os 12 (vs 12) 8 0 (nT r)),(14,.r (i64 (nT r : Int))),(15,.r (i64 (i : Int)))]) (fun _ vs=>[(12,.arr 49 8 (E.set i (rwR (startW r i))))]) (fun _=>True) (fun _ h=>h) ?_ ?_
     · repeat refine zq ?_
       refine zc rfl (fun hc=>?_) (fun hc=>?_) <;> (try simp only [go_sem] at hc)
       · have hd0 : ¬ r.ded = []:=fun e=>by rw [e] at hc; simp at hc
         have hdl : (r.ded.length : Int) = r.teams ∧ ∀ x ∈ r.ded,0 ≤ x ∧ x ≤ 99:=hr.ded.resolve_left hd0
         obtain ⟨dx,hdx⟩:=opt_of_lt (show i < r.ded.length by omega)
         have hdb:=hdl.2 dx (mem_of_opt hdx)
         have hidl : i < r.ded.length:=by omega
         have hneg : IntKind.i64.wrap (-dx) = -dx:=by rw [zI] <;> omega
         have hst : startW r i = ⟨i,0,0,0,0,0,0,-dx⟩:=by unfold startW; rw [if_neg hd0,List.getD_eq_getElem?_getD,hdx]; rfl
         repeat refine zq ?_
         refine zb fun K hK=>?_;simp only [go_sem,hdx,hidl,hneg,hE,hED,hset,hsetD,hil,List.length_set,List.set_set,List.set_cons_succ,List.set_cons_zero,List.take_succ_cons,List.take_zero,List.drop_succ_cons,List.drop_zero];(try simp (disch:=omega) only [zI]);repeat first | intro _ | refine ⟨by omega,?_⟩
         refine hK _ ?_;clear hK K
         refine ⟨(),trivial,zj [] ?_ ?_⟩
         · try simp only [go_sem]
         · try simp only [go_sem]
           rw [hst]
           simp only [Int.zero_sub]
           try rfl
       · have hd0 : r.ded = []:=List.length_eq_zero_iff.1 (by omega)
         have hst : startW r i = ⟨i,0,0,0,0,0,0,0⟩:=by unfold startW; rw [if_pos hd0]
         refine zx ?_
         try simp only [go_sem]
         refine ⟨(),zj [] ?_ ?_⟩
         · try simp only [go_sem]
         · try simp only [go_sem]
           rw [hst]
           try rfl
     intro _ vs _
     repeat refine zq ?_
     refine zb fun K hK=>?_;simp only [go_sem];(try simp (disch:=omega) only [zI]);repeat first | intro _ | refine ⟨by omega,?_⟩
     refine hK _ ?_;clear hK K
     try simp only [go_sem]
     refine ⟨by omega,zj [] ?_ ?_⟩
     · try simp only [go_sem]
     · try simp only [go_sem]
       rw [hnext,List.range_succ]
   · have hin : i = nT r:=by omega
     subst hin
     have e0 : ((List.range (nT r)).map fun t=>rwR (startW r t)) ++ List.replicate (nT r - nT r) (rwR ⟨0,0,0,0,0,0,0,0⟩) = ((List.range (nT r)).map (rowT r (l.take 0))).map rwR:=by
      rw [Nat.sub_self,List.replicate_zero,List.append_nil,List.map_map]
      rfl
     rw [e0]
     refine zf ?_;simp only [go_sem];refine zw (zk [1,3]) ?_;simp only [go_sem]
     repeat refine zq ?_
     refine zb fun K hK=>?_;simp only [go_sem];(try simp (disch:=omega) only [zI])
     intro hll7
     repeat first | intro _ | refine ⟨by omega,?_⟩
     refine hK _ ?_;clear hK K;refine zw (zk [1,3,41,42,43]) ?_;simp only [go_sem]
     repeat refine zq ?_
     refine zd ?_
     refine awp_uptoV (n:=78) l.length (fun k vs=>[(1,.r (.rp (dvC r l))),(3,.os 12 (vs 12) 8 0 (nT r)),(41,.r (mtsR l)),(42,.r (i64 (l.length : Int))),(43,.r (i64 (k : Int)))])
      (fun k vs=>[(12,.arr 49 8 (((List.range (nT r)).map (rowT r (l.take k))).map rwR))]) (fun _=>True) 0 (zj [] ?_ ?_) (Nat.zero_le _) trivial ?_
     · try simp only [go_sem]
     · try simp only [go_sem]
     · intro k vs hk _
       repeat refine zq ?_
       refine zb fun K hK=>?_;simp only [go_sem];(try simp (disch:=omega) only [zI]);repeat first | intro _ | refine ⟨by omega,?_⟩
       refine hK _ ?_;clear hK K;refine zw (zk [1,3,41,42,43,44]) ?_;simp only [go_sem]
       repeat refine zq ?_
       refine zc rfl (fun hc=>?_) (fun hc=>?_) <;> (try simp only [go_sem] at hc)
       · have hck : k < l.length:=by omega
         obtain ⟨m,hm⟩:=opt_of_lt hck
         have hmi:=hl m (mem_of_opt hm)
         have hleg:=legs_le hr hmi
         have hpv:=ptsV_le hr (resV m)
         obtain ⟨h,hh⟩:=Int.eq_ofNat_of_zero_le hmi.h.1
         obtain ⟨a,ha⟩:=Int.eq_ofNat_of_zero_le hmi.a.1
         have hhn : h < nT r:=by have:=hmi.h; omega
         have han : a < nT r:=by have:=hmi.a; omega
         refine zx ?_
         try simp only [go_sem]
         repeat refine zq ?_
         refine zd ?_
         repeat refine zq ?_
         refine zb fun K hK=>?_;simp only [go_sem,hm,hck];(try simp (disch:=omega) only [zI]);repeat first | intro _ | refine ⟨by omega,?_⟩
         refine hK _ ?_;clear hK K;refine zw (sub_frzP 6 6 (mtR m) (by omega) rfl rfl) ?_;refine zw (zk [1,3,6,41,42,43]) ?_;simp only [go_sem]
         repeat refine zq ?_
         refine zb fun K hK=>?_;simp only [go_sem];(try simp (disch:=omega) only [zI]);repeat first | intro _ | refine ⟨by omega,?_⟩
         refine hK _ ?_;clear hK K;refine zw (zk [1,3,6,41,42,43,48]) ?_;simp only [go_sem]
         repeat refine zq ?_
         refine awp_joinV (n:=78) (fun (_ : Unit) vs=>[(1,.r (.rp (dvC r l))),(3,.os 12 (vs 12) 8 0 (nT r)),(41,.r (mtsR l)),(42,.r (i64 (l.length : Int))),(43,.r (i64 (k : Int)))]) (fun _ vs=>[(12,.arr 49 8 (((List.range (nT r)).map (rowT r (l.take (k + 1)))).map rwR))]) (fun _=>True) (fun _ h=>h) ?_ ?_
         · repeat refine zq ?_
           refine zc rfl (fun hc=>?_) (fun hc=>?_) <;> (try simp only [go_sem] at hc)
           · have hmp : m.p = true:=by simpa using hc
             have hstep:=rows_step (r:=r) hm hmi hmp hn hh ha
             have hof:=of_ok m
             have hpo:=points_ok r l (resV m) (resV_or m)
             have hrh:=rows_get (l:=l.take k) hhn
             have hra:=rows_get (l:=l.take k) han
             have hsh:=(small_row hr hl h k (by omega)).le (B':=200) (by omega)
             have hsa:=(small_row hr hl a k (by omega)).le (B':=200) (by omega)
             have hEl0 : (((List.range (nT r)).map (rowT r (l.take k))).map rwR).length = nT r:=by simp
             generalize ((List.range (nT r)).map (rowT r (l.take k))).map rwR = E at *
             have hEl : E.length = nT r:=hEl0
             have hne : h ≠ a:=fun e=>hmi.ne (by rw [hh,ha,e])
             repeat refine zq ?_
             refine zg follows (by decide +kernel) (by kernel_rfl) fun K hK=>?_;simp only [go_sem];(try simp (disch:=omega) only [zI])
             refine zh (hof) rfl (by simp only [go_sem,i64,ints]) (by simp only [go_sem,i64,ints]) (by first | exact .inl rfl | exact .inr rfl) ?_
             (try simp only [go_sem]);(try simp (disch:=omega) only [zI])
             refine zh (hpo) rfl (by simp only [go_sem,i64,ints]) (by simp only [go_sem,i64,ints]) (by first | exact .inl rfl | exact .inr rfl) ?_
             (try simp only [go_sem]);(try simp (disch:=omega) only [zI]);repeat first | intro _ | refine ⟨by omega,?_⟩
             refine hK _ ?_;clear hK K;refine zw (zk [1,3,6,7,8,41,42,43]) ?_;simp only [go_sem]
             repeat refine zq ?_
             refine awp_inv (n:=78) (ro14F r l m h a (ptsV r (resV m)).1 (ptsV r (resV m)).2 k) (ro14R (E) (E.set h (rwR (addW (rowT r (l.take k) h) m.f m.g (ptsV r (resV m)).1)))) follows (by kernel_rfl) (by kernel_rfl) (by decide +kernel) (zj [] ?_ ?_) ?_ ?_
             · simp only [go_sem,ro14F,vI,if_true,if_false,Bool.false_eq_true]
             · simp only [go_sem,ro14R,cond_false]
             · refine ⟨fun b vs hdn hbk hde=>?_,fun b vs hdn hbk hde=>?_,fun b vs hdn hbk hde=>?_,fun b vs hdn hbk hde=>?_,fun b vs hdn hbk hde=>?_,fun b vs hdn hbk hde=>?_,fun b vs hdn hbk hde=>?_,fun b vs hdn hbk hde=>?_,fun b vs hdn hbk hde=>?_,fun b vs hdn hbk hde=>?_,trivial⟩
               · skip
                 have G:=dnT hdn hbk [3,9] (by decide +kernel)
                 simp only [allB,and_true] at G
                 (simp only [go_sem,ro14F,ro14R,upd,vI,cond_true,cond_false,if_true,Bool.false_eq_true,if_false,hbk,G,hEl,hh,ha,hhn,han])
                 all_goals (refine zj [] ?_ ?_ <;> (simp only [go_sem,ro14F,ro14R,upd,vI,cond_true,cond_false,if_true,Bool.false_eq_true,if_false,hbk,G,hEl,hh,ha,hhn,han]))
               · skip
                 have G:=dnT hdn hbk [2,3,9] (by decide +kernel)
                 simp only [allB,and_true] at G
                 (simp only [go_sem,ro14F,ro14R,upd,vI,cond_true,cond_false,if_true,Bool.false_eq_true,if_false,hbk,G,hEl,hh,ha,hhn,han])
                 all_goals (refine zj [] ?_ ?_ <;> (simp only [go_sem,ro14F,ro14R,upd,vI,cond_true,cond_false,if_true,Bool.false_eq_true,if_false,hbk,G,hEl,hh,ha,hhn,han]))
               · skip
                 have H:=upT hdn hde [1] (by decide +kernel)
                 have G:=dnT hdn hbk [3,9] (by decide +kernel)
                 simp only [allB,and_true] at H G
                 (simp only [go_sem,ro14F,ro14R,upd,vI,cond_true,cond_false,if_true,Bool.false_eq_true,if_false,hbk,H,G,hEl,hh,ha,hhn,han])
                 all_goals (refine zj [] ?_ ?_ <;> (simp only [go_sem,ro14F,ro14R,upd,vI,cond_true,cond_false,if_true,Bool.false_eq_true,if_false,hbk,H,G,hEl,hh,ha,hhn,han]))
               · skip
                 have H:=upT hdn hde [0,2,1] (by decide +kernel)
                 have G:=dnT hdn hbk [9] (by decide +kernel)
                 simp only [allB,and_true] at H G
                 (simp only [go_sem,ro14F,ro14R,upd,vI,cond_true,cond_false,if_true,Bool.false_eq_true,if_false,hbk,H,G,hEl,hh,ha,hhn,han])
                 all_goals (refine zj [] ?_ ?_ <;> (simp only [go_sem,ro14F,ro14R,upd,vI,cond_true,cond_false,if_true,Bool.false_eq_true,if_false,hbk,H,G,hEl,hh,ha,hhn,han]))
               · skip
                 have G:=dnT hdn hbk [5,9] (by decide +kernel)
                 simp only [allB,and_true] at G
                 (simp only [go_sem,ro14F,ro14R,upd,vI,cond_true,cond_false,if_true,Bool.false_eq_true,if_false,hbk,G,hEl,hh,ha,hhn,han])
                 all_goals (refine zj [] ?_ ?_ <;> (simp only [go_sem,ro14F,ro14R,upd,vI,cond_true,cond_false,if_true,Bool.false_eq_true,if_false,hbk,G,hEl,hh,ha,hhn,han]))
               · skip
                 have H:=upT hdn hde [4] (by decide +kernel)
                 have G:=dnT hdn hbk [9] (by decide +kernel)
                 simp only [allB,and_true] at H G
                 (simp only [go_sem,ro14F,ro14R,upd,vI,cond_true,cond_false,if_true,Bool.false_eq_true,if_false,hbk,H,G,hEl,hh,ha,hhn,han])
                 all_goals (refine zj [] ?_ ?_ <;> (simp only [go_sem,ro14F,ro14R,upd,vI,cond_true,cond_false,if_true,Bool.false_eq_true,if_false,hbk,H,G,hEl,hh,ha,hhn,han]))
               · skip
                 have G:=dnT hdn hbk [7,9] (by decide +kernel)
                 simp only [allB,and_true] at G
                 (simp only [go_sem,ro14F,ro14R,upd,vI,cond_true,cond_false,if_true,Bool.false_eq_true,if_false,hbk,G,hEl,hh,ha,hhn,han])
                 all_goals (refine zj [] ?_ ?_ <;> (simp only [go_sem,ro14F,ro14R,upd,vI,cond_true,cond_false,if_true,Bool.false_eq_true,if_false,hbk,G,hEl,hh,ha,hhn,han]))
               · skip
                 have H:=upT hdn hde [6] (by decide +kernel)
                 have G:=dnT hdn hbk [9] (by decide +kernel)
                 simp only [allB,and_true] at H G
                 (simp only [go_sem,ro14F,ro14R,upd,vI,cond_true,cond_false,if_true,Bool.false_eq_true,if_false,hbk,H,G,hEl,hh,ha,hhn,han])
                 all_goals (refine zj [] ?_ ?_ <;> (simp only [go_sem,ro14F,ro14R,upd,vI,cond_true,cond_false,if_true,Bool.false_eq_true,if_false,hbk,H,G,hEl,hh,ha,hhn,han]))
               · skip
                 have G:=dnT hdn hbk [9] (by decide +kernel)
                 simp only [allB,and_true] at G
                 (simp only [go_sem,ro14F,ro14R,upd,vI,cond_true,cond_false,if_true,Bool.false_eq_true,if_false,hbk,G,hEl,hh,ha,hhn,han])
                 all_goals (refine zj [] ?_ ?_ <;> (simp only [go_sem,ro14F,ro14R,upd,vI,cond_true,cond_false,if_true,Bool.false_eq_true,if_false,hbk,G,hEl,hh,ha,hhn,han]))
               · skip
                 have H:=upT hdn hde [3,5,7,8,0,2,4,6,1] (by decide +kernel)
                 simp only [allB,and_true] at H
                 (simp only [go_sem,ro14F,ro14R,upd,vI,cond_true,cond_false,if_true,Bool.false_eq_true,if_false,hbk,H,hEl,hh,ha,hhn,han])
                 all_goals (refine xcall_mut (add_ok E h (rowT r (l.take k) h) m.f m.g (ptsV r (resV m)).1 hrh hsh (by omega) (by omega) (by omega)) [(1000,12)] rfl (by simp only [go_sem,i64,ints]) (by simp only [go_sem,i64,ints]) (by rfl) (by rfl) ?_; simp only [go_sem,hEl,hh,ha,hhn,han])
                 all_goals (refine zj [] ?_ ?_ <;> (simp only [go_sem,ro14F,ro14R,upd,vI,cond_true,cond_false,if_true,Bool.false_eq_true,if_false,hbk,H,hEl,hh,ha,hhn,han]))
             intro b vs hb
             simp only [go_sem,ro14F,ro14R,vI,hb,if_true,cond_true];refine zw (zk [1,3,6,7,8,41,42,43]) ?_;simp only [go_sem]
             have hE1l : (E.set h (rwR (addW (rowT r (l.take k) h) m.f m.g (ptsV r (resV m)).1))).length = nT r:=by simp [hEl]
             have hra1 : (E.set h (rwR (addW (rowT r (l.take k) h) m.f m.g (ptsV r (resV m)).1)))[a]? = some (rwR (rowT r (l.take k) a)):=by
              rw [List.getElem?_set_ne hne]; exact hra
             generalize E.set h (rwR (addW (rowT r (l.take k) h) m.f m.g (ptsV r (resV m)).1)) = E1 at *
             clear hEl hEl0
             have hEl:=hE1l
             repeat refine zq ?_
             refine awp_inv (n:=78) (ro15F r l m h a (ptsV r (resV m)).1 (ptsV r (resV m)).2 k) (ro15R (E1) (E1.set a (rwR (addW (rowT r (l.take k) a) m.g m.f (ptsV r (resV m)).2)))) follows (by kernel_rfl) (by kernel_rfl) (by decide +kernel) (zj [] ?_ ?_) ?_ ?_
             · simp only [go_sem,ro15F,vI,if_true,if_false,Bool.false_eq_true]
             · simp only [go_sem,ro15R,cond_false]
             · refine ⟨fun b vs hdn hbk hde=>?_,fun b vs hdn hbk hde=>?_,fun b vs hdn hbk hde=>?_,fun b vs hdn hbk hde=>?_,fun b vs hdn hbk hde=>?_,fun b vs hdn hbk hde=>?_,fun b vs hdn hbk hde=>?_,fun b vs hdn hbk hde=>?_,fun b vs hdn hbk hde=>?_,fun b vs hdn hbk hde=>?_,trivial⟩
               · skip
                 have G:=dnT hdn hbk [3,9] (by decide +kernel)
                 simp only [allB,and_true] at G
                 (simp only [go_sem,ro15F,ro15R,upd,vI,cond_true,cond_false,if_true,Bool.false_eq_true,if_false,hbk,G,hEl,hh,ha,hhn,han])
                 all_goals (refine zj [] ?_ ?_ <;> (simp only [go_sem,ro15F,ro15R,upd,vI,cond_true,cond_false,if_true,Bool.false_eq_true,if_false,hbk,G,hEl,hh,ha,hhn,han]))
               · skip
                 have G:=dnT hdn hbk [2,3,9] (by decide +kernel)
                 simp only [allB,and_true] at G
                 (simp only [go_sem,ro15F,ro15R,upd,vI,cond_true,cond_false,if_true,Bool.false_eq_true,if_false,hbk,G,hEl,hh,ha,hhn,han])
                 all_goals (refine zj [] ?_ ?_ <;> (simp only [go_sem,ro15F,ro15R,upd,vI,cond_true,cond_false,if_true,Bool.false_eq_true,if_false,hbk,G,hEl,hh,ha,hhn,han]))
               · skip
                 have H:=upT hdn hde [1] (by decide +kernel)
                 have G:=dnT hdn hbk [3,9] (by decide +kernel)
                 simp only [allB,and_true] at H G
                 (simp only [go_sem,ro15F,ro15R,upd,vI,cond_true,cond_false,if_true,Bool.false_eq_true,if_false,hbk,H,G,hEl,hh,ha,hhn,han])
                 all_goals (refine zj [] ?_ ?_ <;> (simp only [go_sem,ro15F,ro15R,upd,vI,cond_true,cond_false,if_true,Bool.false_eq_true,if_false,hbk,H,G,hEl,hh,ha,hhn,han]))
               · skip
                 have H:=upT hdn hde [0,2,1] (by decide +kernel)
                 have G:=dnT hdn hbk [9] (by decide +kernel)
                 simp only [allB,and_true] at H G
                 (simp only [go_sem,ro15F,ro15R,upd,vI,cond_true,cond_false,if_true,Bool.false_eq_true,if_false,hbk,H,G,hEl,hh,ha,hhn,han])
                 all_goals (refine zj [] ?_ ?_ <;> (simp only [go_sem,ro15F,ro15R,upd,vI,cond_true,cond_false,if_true,Bool.false_eq_true,if_false,hbk,H,G,hEl,hh,ha,hhn,han]))
               · skip
                 have G:=dnT hdn hbk [5,9] (by decide +kernel)
                 simp only [allB,and_true] at G
                 (simp only [go_sem,ro15F,ro15R,upd,vI,cond_true,cond_false,if_true,Bool.false_eq_true,if_false,hbk,G,hEl,hh,ha,hhn,han])
                 all_goals (refine zj [] ?_ ?_ <;> (simp only [go_sem,ro15F,ro15R,upd,vI,cond_true,cond_false,if_true,Bool.false_eq_true,if_false,hbk,G,hEl,hh,ha,hhn,han]))
               · skip
                 have H:=upT hdn hde [4] (by decide +kernel)
                 have G:=dnT hdn hbk [9] (by decide +kernel)
                 simp only [allB,and_true] at H G
                 (simp only [go_sem,ro15F,ro15R,upd,vI,cond_true,cond_false,if_true,Bool.false_eq_true,if_false,hbk,H,G,hEl,hh,ha,hhn,han])
                 all_goals (refine zj [] ?_ ?_ <;> (simp only [go_sem,ro15F,ro15R,upd,vI,cond_true,cond_false,if_true,Bool.false_eq_true,if_false,hbk,H,G,hEl,hh,ha,hhn,han]))
               · skip
                 have G:=dnT hdn hbk [7,9] (by decide +kernel)
                 simp only [allB,and_true] at G
                 (simp only [go_sem,ro15F,ro15R,upd,vI,cond_true,cond_false,if_true,Bool.false_eq_true,if_false,hbk,G,hEl,hh,ha,hhn,han])
                 all_goals (refine zj [] ?_ ?_ <;> (simp only [go_sem,ro15F,ro15R,upd,vI,cond_true,cond_false,if_true,Bool.false_eq_true,if_false,hbk,G,hEl,hh,ha,hhn,han]))
               · skip
                 have H:=upT hdn hde [6] (by decide +kernel)
                 have G:=dnT hdn hbk [9] (by decide +kernel)
                 simp only [allB,and_true] at H G
                 (simp only [go_sem,ro15F,ro15R,upd,vI,cond_true,cond_false,if_true,Bool.false_eq_true,if_false,hbk,H,G,hEl,hh,ha,hhn,han])
                 all_goals (refine zj [] ?_ ?_ <;> (simp only [go_sem,ro15F,ro15R,upd,vI,cond_true,cond_false,if_true,Bool.false_eq_true,if_false,hbk,H,G,hEl,hh,ha,hhn,han]))
               · skip
                 have G:=dnT hdn hbk [9] (by decide +kernel)
                 simp only [allB,and_true] at G
                 (simp only [go_sem,ro15F,ro15R,upd,vI,cond_true,cond_false,if_true,Bool.false_eq_true,if_false,hbk,G,hEl,hh,ha,hhn,han])
                 all_goals (refine zj [] ?_ ?_ <;> (simp only [go_sem,ro15F,ro15R,upd,vI,cond_true,cond_false,if_true,Bool.false_eq_true,if_false,hbk,G,hEl,hh,ha,hhn,han]))
               · skip
                 have H:=upT hdn hde [3,5,7,8,0,2,4,6,1] (by decide +kernel)
                 simp only [allB,and_true] at H
                 (simp only [go_sem,ro15F,ro15R,upd,vI,cond_true,cond_false,if_true,Bool.false_eq_true,if_false,hbk,H,hEl,hh,ha,hhn,han])
                 all_goals (refine xcall_mut (add_ok E1 a (rowT r (l.take k) a) m.g m.f (ptsV r (resV m)).2 hra1 hsa (by omega) (by omega) (by omega)) [(1000,12)] rfl (by simp only [go_sem,i64,ints]) (by simp only [go_sem,i64,ints]) (by rfl) (by rfl) ?_; simp only [go_sem,hEl,hh,ha,hhn,han])
                 all_goals (refine zj [] ?_ ?_ <;> (simp only [go_sem,ro15F,ro15R,upd,vI,cond_true,cond_false,if_true,Bool.false_eq_true,if_false,hbk,H,hEl,hh,ha,hhn,han]))
             intro b vs hb
             simp only [go_sem,ro15F,ro15R,vI,hb,if_true,cond_true]
             refine ⟨(),zj [] ?_ ?_⟩
             · try simp only [go_sem]
             · simp only [go_sem,hstep]
           · have hmp : m.p = false:=by simpa using hc
             refine zx ?_
             try simp only [go_sem]
             refine ⟨(),zj [] ?_ ?_⟩
             · try simp only [go_sem]
             · try simp only [go_sem]
               rw [rows_skip hm hmp]
         intro _ vs _
         repeat refine zq ?_
         refine zb fun K hK=>?_;simp only [go_sem];(try simp (disch:=omega) only [zI]);repeat first | intro _ | refine ⟨by omega,?_⟩
         refine hK _ ?_;clear hK K
         try simp only [go_sem]
         refine ⟨by omega,zj [] ?_ ?_⟩
         · try simp only [go_sem]
         · try simp only [go_sem]
       · have hkl : k = l.length:=by omega
         subst hkl
         rw [List.take_length]
         refine zf ?_;simp only [go_sem];refine zw (zk [3]) ?_;simp only [go_sem]
         repeat refine zq ?_
         refine zb fun K hK=>?_;simp only [go_sem];(try simp (disch:=omega) only [zI]);repeat first | intro _ | refine ⟨by omega,?_⟩
         refine hK _ ?_;clear hK K;refine zw (zk [2]) ?_;simp only [go_sem];refine ze ?_;simp only [go_sem];exact ⟨12,_,rfl,rfl⟩
end Go.Proofs.Ytobokbhpeaakjaa
