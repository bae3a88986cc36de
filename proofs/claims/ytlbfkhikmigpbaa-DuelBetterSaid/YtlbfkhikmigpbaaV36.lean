/- Part 6 of the texts of this claim. -/
import Derived.Test.YtlbfkhikmigpbaaV35
import Derived.Test.YtlbfkhikmigpbaaProg
import Derived.Test.YtlbfkhikmigpbaaV33
import Derived.KernelRfl
namespace Go.Proofs.Ytlbfkhikmigpbaa
open Go Go.Oc
theorem ty3 : tyq Try.prog 3 = some ⟨.int .i64,1,false,[.it .i64 0]⟩:=by kernel_rfl
theorem ty4 : tyq Try.prog 4 = some ⟨.bool,1,false,[.bo false]⟩:=by kernel_rfl
theorem ty5 : tyq Try.prog 5 = some ⟨.int .u8,1,false,[.it .u8 0]⟩:=by kernel_rfl
theorem ty22 : tyq Try.prog 22 = some ⟨.slice 78 2 32 [.it .i64 0,.ns],1,false,[.ns]⟩:=by kernel_rfl
theorem ty24 : tyq Try.prog 24 = some ⟨.struct [(0,1,false),(1,1,false)],2,true,[.it .i64 0,.ns]⟩:=by kernel_rfl
theorem ty25 : tyq Try.prog 25 = some ⟨.int .i64,1,false,[.it .i64 0]⟩:=by kernel_rfl
theorem ty26 : tyq Try.prog 26 = some ⟨.slice 52 2 16 [.it .i64 0,.it .i64 0],1,false,[.ns]⟩:=by kernel_rfl
theorem ty28 : tyq Try.prog 28 = some ⟨.struct [(0,2,true),(2,1,false),(3,1,false),(4,1,false)],5,true,[.it .i64 0,.ns,.it .i64 0,.it .i64 0,.ns]⟩:=by kernel_rfl
theorem ty32 : tyq Try.prog 32 = some ⟨.int .i64,1,false,[.it .i64 0]⟩:=by kernel_rfl
theorem ty34 : tyq Try.prog 34 = some ⟨.slice 46 1 24 [.ns],1,false,[.ns]⟩:=by kernel_rfl
theorem ty41 : tyq Try.prog 41 = some ⟨.struct [(0,1,false),(1,1,false),(2,1,false),(3,1,false)],4,true,[.it .i64 0,.it .i64 0,.it .i64 0,.it .i64 0]⟩:=by kernel_rfl
theorem ty46 : tyq Try.prog 46 = some ⟨.slice 3 1 8 [.it .i64 0],1,false,[.ns]⟩:=by kernel_rfl
theorem ty52 : tyq Try.prog 52 = some ⟨.struct [(0,1,false),(1,1,false)],2,true,[.it .i64 0,.it .i64 0]⟩:=by kernel_rfl
theorem ty63 : tyq Try.prog 63 = some ⟨.slice 126 12 12 [.it .u8 0,.it .u8 0,.it .u8 0,.it .u8 0,.it .u8 0,.it .u8 0,.it .u8 0,.it .u8 0,.it .u8 0,.it .u8 0,.it .u8 0,.it .u8 0],1,false,[.ns]⟩:=by kernel_rfl
theorem ty64 : tyq Try.prog 64 = some ⟨.slice 128 2 4 [.it .u16 0,.it .u16 0],1,false,[.ns]⟩:=by kernel_rfl
theorem ty66 : tyq Try.prog 66 = some ⟨.struct [(0,1,false),(1,1,false),(2,1,false),(3,1,false),(4,1,false)],5,true,[.it .u8 0,.ns,.it .u8 0,.it .u8 0,.ns]⟩:=by kernel_rfl
theorem ty67 : tyq Try.prog 67 = some ⟨.slice 5 1 1 [.it .u8 0],1,false,[.ns]⟩:=by kernel_rfl
theorem ty75 : tyq Try.prog 75 = some ⟨.int .i64,1,false,[.it .i64 0]⟩:=by kernel_rfl
theorem ty76 : tyq Try.prog 76 = some ⟨.slice 90 3 24 [.it .i64 0,.it .i64 0,.it .i64 0],1,false,[.ns]⟩:=by kernel_rfl
theorem ty78 : tyq Try.prog 78 = some ⟨.struct [(0,1,false),(1,1,false)],2,true,[.it .i64 0,.ns]⟩:=by kernel_rfl
theorem ty83 : tyq Try.prog 83 = some ⟨.int .u16,1,false,[.it .u16 0]⟩:=by kernel_rfl
theorem ty88 : tyq Try.prog 88 = some ⟨.ptr 52,1,false,[.np]⟩:=by kernel_rfl
theorem ty90 : tyq Try.prog 90 = some ⟨.struct [(0,1,false),(1,2,true)],3,true,[.it .i64 0,.it .i64 0,.it .i64 0]⟩:=by kernel_rfl
theorem ty96 : tyq Try.prog 96 = some ⟨.func,1,false,[.nf]⟩:=by kernel_rfl
theorem ty99 : tyq Try.prog 99 = some ⟨.ptr 106,1,false,[.np]⟩:=by kernel_rfl
theorem ty100 : tyq Try.prog 100 = some ⟨.arr 2 1 false,2,true,[.np,.np]⟩:=by kernel_rfl
theorem ty104 : tyq Try.prog 104 = some ⟨.struct [(0,5,true)],5,true,[.it .i64 0,.ns,.it .i64 0,.it .i64 0,.ns]⟩:=by kernel_rfl
theorem ty106 : tyq Try.prog 106 = some ⟨.struct [(0,5,true),(5,1,false),(6,1,false)],7,true,[.it .i64 0,.ns,.it .i64 0,.it .i64 0,.ns,.bo false,.ns]⟩:=by kernel_rfl
theorem ty111 : tyq Try.prog 111 = some ⟨.struct [(0,1,false),(1,1,false)],2,true,[.it .i64 0,.it .i64 0]⟩:=by kernel_rfl
theorem ty112 : tyq Try.prog 112 = some ⟨.ptr 145,1,false,[.np]⟩:=by kernel_rfl
theorem ty121 : tyq Try.prog 121 = some ⟨.func,1,false,[.nf]⟩:=by kernel_rfl
theorem ty122 : tyq Try.prog 122 = some ⟨.struct [(0,1,false),(1,1,false)],2,true,[.np,.nf]⟩:=by kernel_rfl
theorem ty123 : tyq Try.prog 123 = some ⟨.arr 2 2 true,4,true,[.np,.nf,.np,.nf]⟩:=by kernel_rfl
theorem ty125 : tyq Try.prog 125 = some ⟨.arr 3 1 false,3,true,[.it .u8 0,.it .u8 0,.it .u8 0]⟩:=by kernel_rfl
theorem ty126 : tyq Try.prog 126 = some ⟨.arr 4 3 true,12,true,[.it .u8 0,.it .u8 0,.it .u8 0,.it .u8 0,.it .u8 0,.it .u8 0,.it .u8 0,.it .u8 0,.it .u8 0,.it .u8 0,.it .u8 0,.it .u8 0]⟩:=by kernel_rfl
theorem ty128 : tyq Try.prog 128 = some ⟨.arr 2 1 false,2,true,[.it .u16 0,.it .u16 0]⟩:=by kernel_rfl
theorem ty134 : tyq Try.prog 134 = some ⟨.func,1,false,[.nf]⟩:=by kernel_rfl
theorem ty135 : tyq Try.prog 135 = some ⟨.func,1,false,[.nf]⟩:=by kernel_rfl
theorem ty138 : tyq Try.prog 138 = some ⟨.struct [(0,2,true),(2,1,false)],3,true,[.it .i64 0,.ns,.it .i64 0]⟩:=by kernel_rfl
theorem ty140 : tyq Try.prog 140 = some ⟨.func,1,false,[.nf]⟩:=by kernel_rfl
theorem ty143 : tyq Try.prog 143 = some ⟨.map 111 3,1,false,[.un]⟩:=by kernel_rfl
theorem ty145 : tyq Try.prog 145 = some ⟨.struct [(0,1,false),(1,1,false),(2,1,false),(3,1,false)],4,true,[.np,.it .i64 0,.it .i64 0,.un]⟩:=by kernel_rfl
theorem ty146 : tyq Try.prog 146 = some ⟨.slice 149 3 24 [.it .i64 0,.it .i64 0,.it .i64 0],1,false,[.ns]⟩:=by kernel_rfl
theorem ty149 : tyq Try.prog 149 = some ⟨.struct [(0,1,false),(1,2,true)],3,true,[.it .i64 0,.it .i64 0,.it .i64 0]⟩:=by kernel_rfl
theorem ty156 : tyq Try.prog 156 = some ⟨.func,1,false,[.nf]⟩:=by kernel_rfl
theorem ty158 : tyq Try.prog 158 = some ⟨.func,1,false,[.nf]⟩:=by kernel_rfl
theorem ty163 : tyq Try.prog 163 = some ⟨.func,1,false,[.nf]⟩:=by kernel_rfl
theorem follows : Try.prog.follows .mixedOrders = true:=by kernel_rfl
theorem eqT41 : eqT Try.prog 41 = some 4:=by kernel_rfl
theorem eqT52 : eqT Try.prog 52 = some 2:=by kernel_rfl
theorem mapT71 : mapT Try.prog 71 = some (41,129,some 4):=by kernel_rfl
theorem zv129 : zv Try.prog 129 = some (.ag [.it .i64 0,.it .i64 0]):=by kernel_rfl
theorem eqT111 : eqT Try.prog 111 = some 2:=by kernel_rfl
theorem eqT125 : eqT Try.prog 125 = some 3:=by kernel_rfl
theorem eqT128 : eqT Try.prog 128 = some 2:=by kernel_rfl
theorem mapT143 : mapT Try.prog 143 = some (111,3,some 2):=by kernel_rfl
theorem zv3 : zv Try.prog 3 = some (.it .i64 0):=by kernel_rfl
attribute [go_sem] ty3 ty4 ty5 ty22 ty24 ty25 ty26 ty28 ty32 ty34 ty41 ty46 ty52 ty63 ty64 ty66 ty67 ty75 ty76 ty78 ty83 ty88 ty90 ty96 ty99 ty100 ty104 ty106 ty111 ty112 ty121 ty122 ty123 ty125 ty126 ty128 ty134 ty135 ty138 ty140 ty143 ty145 ty146 ty149 ty156 ty158 ty163 eqT41 eqT52 mapT71 zv129 eqT111 eqT125 eqT128 mapT143 zv3
set_option linter.unusedSimpArgs false
set_option linter.unusedVariables false
set_option maxRecDepth 8000
structure Bd where
 b : Int
 lo : Int
 hi : Int
structure Am where
 at_ : Int
 beds : List Bd
def bedR (x : Bd) : List RV:=[i64 x.b,i64 x.lo,i64 x.hi]
abbrev bedV (x : Bd) : RV:=.ag [i64 x.b,i64 x.lo,i64 x.hi]
abbrev bedsR (l : List Bd) : RV:=.sl 3 (l.map bedR)
def aimR (a : Am) : List RV:=[i64 a.at_,bedsR a.beds]
abbrev aimV (a : Am) : RV:=.ag [i64 a.at_,bedsR a.beds]
abbrev aimsR (l : List Am) : RV:=.sl 2 (l.map aimR)
abbrev lawV (d : Int) (l : List Am) : RV:=.ag [i64 d,aimsR l]
abbrev chV (a : Am) (d : Int) : RV:=.ag [i64 a.at_,bedsR a.beds,i64 d]
def I64 (n : Int) : Prop:=-9223372036854775808 ≤ n ∧ n ≤ 9223372036854775807
theorem within1_ok (n a b : Int) : ACalls Try.prog 82 [i64 n,.rp [i64 a],.rp [i64 b]] (.bo (decide (n < a) || decide (b < n))):=by
 refine acalls_st (rs:=[.bo (decide (n < a) || decide (b < n))]) [.tmp 4] Try.func82 rfl (by kernel_rfl) Try.ntmps82 rfl (by simp) rfl fun C vs=>?_
 repeat refine zq ?_
 refine zb fun K hK=>?_;simp only [go_sem];(try simp (disch:=omega) only [zI]);repeat first | intro _ | refine ⟨by omega,?_⟩
 refine hK _ ?_;clear hK K
 repeat refine zq ?_
 refine zb fun K hK=>?_;simp only [go_sem];(try simp (disch:=omega) only [zI])
 refine ⟨fun h=>?_,fun h=>?_⟩ <;>
 · repeat first | intro _ | refine ⟨by omega,?_⟩
   refine hK _ ?_;clear hK K;refine ze ?_;simp only [go_sem]
   try simp [h]
theorem index_ok (p : Int → Bool) (f : Nat) (caps : List RV) (l : List Int) (h : ∀ x ∈ l,ACalls Try.prog f (i64 x :: caps) (.bo (p x))) : ACalls Try.prog 88 [ints l,.fn f caps] (i64 (indexF p l)):=by
 refine acalls_st (rs:=[i64 (indexF p l)]) [.tmp 4] Try.func88 rfl (by kernel_rfl) Try.ntmps88 rfl (by simp) rfl fun C vs=>?_
 repeat refine zq ?_
 refine zb fun K hK=>?_;simp only [go_sem];(try simp (disch:=omega) only [zI]);repeat first | intro _ | refine ⟨by omega,?_⟩
 refine hK _ ?_;clear hK K
 repeat refine zq ?_
 refine zb fun K hK=>?_;simp only [go_sem];(try simp (disch:=omega) only [zI])
 intro hl
 repeat first | intro _ | refine ⟨by omega,?_⟩
 refine hK _ ?_;clear hK K
 repeat refine zq ?_
 refine zd ?_
 refine awp_upto (n:=19) l.length (fun i vs=>[(0,.r (ints l)),(1,.r (.fn f caps)),(7,.r (i64 l.length)),(8,.r (i64 i))]) (fun _=>[])
  (fun i=>indexF p l = if indexF p (l.drop i) < 0 then -1 else i + indexF p (l.drop i)) 0 (fit_of [] ?_ rfl) (Nat.zero_le _) ?_ ?_
 · try simp only [go_sem]
 · simp only [List.drop_zero]
   have:=indexF_ge p l
   split
   · omega
   · simp
 · intro i vs hi hI
   repeat refine zq ?_
   refine zb fun K hK=>?_;simp only [go_sem];(try simp (disch:=omega) only [zI]);repeat first | intro _ | refine ⟨by omega,?_⟩
   refine hK _ ?_;clear hK K
   repeat refine zq ?_
   refine zc rfl (fun hc=>?_) (fun hc=>?_) <;> (try simp only [go_sem] at hc)
   · obtain ⟨x,hx⟩:=opt_of_lt hc
     rw [drop_of_opt hx] at hI
     refine zx ?_
     repeat refine zq ?_
     refine zd ?_
     repeat refine zq ?_
     refine zb fun K hK=>?_;simp only [go_sem];(try simp (disch:=omega) only [zI]);repeat first | intro _ | refine ⟨by omega,?_⟩
     refine hK _ ?_;clear hK K
     repeat refine zq ?_
     refine zb fun K hK=>?_;simp only [go_sem,hx,hc,bedR,aimR];(try simp (disch:=omega) only [zI])
     refine zh (h x (mem_of_opt hx)) rfl (by simp only [go_sem,i64,ints]) (by simp only [go_sem,i64,ints]) (by first | exact .inl rfl | exact .inr rfl) ?_
     (try simp only [go_sem]);(try simp (disch:=omega) only [zI]);repeat first | intro _ | refine ⟨by omega,?_⟩
     refine hK _ ?_;clear hK K
     repeat refine zq ?_
     refine zc rfl (fun hc=>?_) (fun hc=>?_) <;> (try simp only [go_sem] at hc)
     · repeat refine zq ?_
       refine zb fun K hK=>?_;simp only [go_sem];(try simp (disch:=omega) only [zI]);repeat first | intro _ | refine ⟨by omega,?_⟩
       refine hK _ ?_;clear hK K;refine ze ?_;simp only [go_sem]
       simp [hI,indexF,hc]
     · refine zx ?_
       try simp only [go_sem]
       repeat refine zq ?_
       refine zb fun K hK=>?_;simp only [go_sem];(try simp (disch:=omega) only [zI]);repeat first | intro _ | refine ⟨by omega,?_⟩
       refine hK _ ?_;clear hK K
       try simp only [go_sem]
       refine ⟨‹_›,?_,fit_of [] ?_ rfl⟩
       · rw [hI]
         simp only [indexF,hc,Bool.false_eq_true,if_false]
         have:=indexF_ge p (l.drop (i + 1))
         (repeat' split) <;> omega
       · try simp only [go_sem]
   · refine zf ?_;simp only [go_sem]
     repeat refine zq ?_
     refine zb fun K hK=>?_;simp only [go_sem];(try simp (disch:=omega) only [zI]);repeat first | intro _ | refine ⟨by omega,?_⟩
     refine hK _ ?_;clear hK K;refine ze ?_;simp only [go_sem]
     have : l.drop i = []:=List.drop_eq_nil_of_le (by omega)
     simp [hI,this,indexF]
theorem contains_ok (p : Int → Bool) (f : Nat) (caps : List RV) (l : List Int) (h : ∀ x ∈ l,ACalls Try.prog f (i64 x :: caps) (.bo (p x))) : ACalls Try.prog 68 [ints l,.fn f caps] (.bo (l.any p)):=by
 refine acalls_st (rs:=[.bo (l.any p)]) [.tmp 4] Try.func68 rfl (by kernel_rfl) Try.ntmps68 rfl (by simp) rfl fun C vs=>?_
 repeat refine zq ?_
 refine zb fun K hK=>?_;simp only [go_sem];(try simp (disch:=omega) only [zI]);repeat first | intro _ | refine ⟨by omega,?_⟩
 refine hK _ ?_;clear hK K
 repeat refine zq ?_
 refine zb fun K hK=>?_;simp only [go_sem];(try simp (disch:=omega) only [zI])
 refine zh (index_ok p f caps l h) rfl (by simp only [go_sem,i64,ints]) (by simp only [go_sem,i64,ints]) (by first | exact .inl rfl | exact .inr rfl) ?_
 (try simp only [go_sem]);(try simp (disch:=omega) only [zI]);repeat first | intro _ | refine ⟨by omega,?_⟩
 refine hK _ ?_;clear hK K;refine ze ?_;simp only [go_sem];rw [← indexF_any]
def withinL (a b : Int) (l : List Int) : Bool:=l.all fun n=>decide (a ≤ n) && decide (n ≤ b)
theorem withinL_not (a b : Int) (l : List Int) : (!(l.any fun n=>decide (n < a) || decide (b < n))) = withinL a b l:=by
 unfold withinL
 rw [List.not_any_eq_all_not]
 congr 1
 funext n
 by_cases h1 : n < a <;> by_cases h2 : b < n <;> simp [h1,h2] <;> omega
theorem within_ok (a b : Int) (l : List Int) : ACalls Try.prog 65 [i64 a,i64 b,ints l] (.bo (withinL a b l)):=by
 refine acalls_st (rs:=[.bo (withinL a b l)]) [.tmp 6] Try.func65 rfl (by kernel_rfl) Try.ntmps65 rfl (by simp) rfl fun C vs=>?_
 repeat refine zq ?_
 refine zb fun K hK=>?_;simp only [go_sem];(try simp (disch:=omega) only [zI]);repeat first | intro _ | refine ⟨by omega,?_⟩
 refine hK _ ?_;clear hK K
 repeat refine zq ?_
 refine zb fun K hK=>?_;simp only [go_sem];(try simp (disch:=omega) only [zI])
 refine zh (contains_ok (fun n=>decide (n < a) || decide (b < n)) 82 [.rp [i64 a],.rp [i64 b]] l fun x _=>within1_ok x a b) rfl (by simp only [go_sem,i64,ints]) (by simp only [go_sem,i64,ints]) (by first | exact .inl rfl | exact .inr rfl) ?_
 (try simp only [go_sem]);(try simp (disch:=omega) only [zI]);repeat first | intro _ | refine ⟨by omega,?_⟩
 refine hK _ ?_;clear hK K;refine ze ?_;simp only [go_sem];rw [← withinL_not]
theorem indexB_ok (p : Bd → Bool) (f : Nat) (caps : List RV) (l : List Bd) (h : ∀ x ∈ l,ACalls Try.prog f (bedV x :: caps) (.bo (p x))) : ACalls Try.prog 97 [bedsR l,.fn f caps] (i64 (indexF p l)):=by
 refine acalls_st (rs:=[i64 (indexF p l)]) [.tmp 4] Try.func97 rfl (by kernel_rfl) Try.ntmps97 rfl (by simp) rfl fun C vs=>?_
 repeat refine zq ?_
 refine zb fun K hK=>?_;simp only [go_sem];(try simp (disch:=omega) only [zI]);repeat first | intro _ | refine ⟨by omega,?_⟩
 refine hK _ ?_;clear hK K
 repeat refine zq ?_
 refine zb fun K hK=>?_;simp only [go_sem];(try simp (disch:=omega) only [zI])
 intro hl
 repeat first | intro _ | refine ⟨by omega,?_⟩
 refine hK _ ?_;clear hK K
 repeat refine zq ?_
 refine zd ?_
 refine awp_upto (n:=19) l.length (fun i vs=>[(0,.r (bedsR l)),(1,.r (.fn f caps)),(7,.r (i64 l.length)),(8,.r (i64 i))]) (fun _=>[])
  (fun i=>indexF p l = if indexF p (l.drop i) < 0 then -1 else i + indexF p (l.drop i)) 0 (fit_of [] ?_ rfl) (Nat.zero_le _) ?_ ?_
 · try simp only [go_sem]
 · simp only [List.drop_zero]
   have:=indexF_ge p l
   split
   · omega
   · simp
 · intro i vs hi hI
   repeat refine zq ?_
   refine zb fun K hK=>?_;simp only [go_sem];(try simp (disch:=omega) only [zI]);repeat first | intro _ | refine ⟨by omega,?_⟩
   refine hK _ ?_;clear hK K
   repeat refine zq ?_
   refine zc rfl (fun hc=>?_) (fun hc=>?_) <;> (try simp only [go_sem] at hc)
   · obtain ⟨x,hx⟩:=opt_of_lt hc
     rw [drop_of_opt hx] at hI
     refine zx ?_
     repeat refine zq ?_
     refine zd ?_
     repeat refine zq ?_
     refine zb fun K hK=>?_;simp only [go_sem];(try simp (disch:=omega) only [zI]);repeat first | intro _ | refine ⟨by omega,?_⟩
     refine hK _ ?_;clear hK K
     repeat refine zq ?_
     refine zb fun K hK=>?_;simp only [go_sem,hx,hc,bedR,aimR];(try simp (disch:=omega) only [zI])
     refine zh (h x (mem_of_opt hx)) rfl (by simp only [go_sem,i64,ints]) (by simp only [go_sem,i64,ints]) (by first | exact .inl rfl | exact .inr rfl) ?_
     (try simp only [go_sem]);(try simp (disch:=omega) only [zI]);repeat first | intro _ | refine ⟨by omega,?_⟩
     refine hK _ ?_;clear hK K
     repeat refine zq ?_
     refine zc rfl (fun hc=>?_) (fun hc=>?_) <;> (try simp only [go_sem] at hc)
     · repeat refine zq ?_
       refine zb fun K hK=>?_;simp only [go_sem];(try simp (disch:=omega) only [zI]);repeat first | intro _ | refine ⟨by omega,?_⟩
       refine hK _ ?_;clear hK K;refine ze ?_;simp only [go_sem]
       simp [hI,indexF,hc]
     · refine zx ?_
       try simp only [go_sem]
       repeat refine zq ?_
       refine zb fun K hK=>?_;simp only [go_sem];(try simp (disch:=omega) only [zI]);repeat first | intro _ | refine ⟨by omega,?_⟩
       refine hK _ ?_;clear hK K
       try simp only [go_sem]
       refine ⟨‹_›,?_,fit_of [] ?_ rfl⟩
       · rw [hI]
         simp only [indexF,hc,Bool.false_eq_true,if_false]
         have:=indexF_ge p (l.drop (i + 1))
         (repeat' split) <;> omega
       · try simp only [go_sem]
   · refine zf ?_;simp only [go_sem]
     repeat refine zq ?_
     refine zb fun K hK=>?_;simp only [go_sem];(try simp (disch:=omega) only [zI]);repeat first | intro _ | refine ⟨by omega,?_⟩
     refine hK _ ?_;clear hK K;refine ze ?_;simp only [go_sem]
     have : l.drop i = []:=List.drop_eq_nil_of_le (by omega)
     simp [hI,this,indexF]
theorem containsB_ok (p : Bd → Bool) (f : Nat) (caps : List RV) (l : List Bd) (h : ∀ x ∈ l,ACalls Try.prog f (bedV x :: caps) (.bo (p x))) : ACalls Try.prog 85 [bedsR l,.fn f caps] (.bo (l.any p)):=by
 refine acalls_st (rs:=[.bo (l.any p)]) [.tmp 4] Try.func85 rfl (by kernel_rfl) Try.ntmps85 rfl (by simp) rfl fun C vs=>?_
 repeat refine zq ?_
 refine zb fun K hK=>?_;simp only [go_sem];(try simp (disch:=omega) only [zI]);repeat first | intro _ | refine ⟨by omega,?_⟩
 refine hK _ ?_;clear hK K
 repeat refine zq ?_
 refine zb fun K hK=>?_;simp only [go_sem];(try simp (disch:=omega) only [zI])
 refine zh (indexB_ok p f caps l h) rfl (by simp only [go_sem,i64,ints]) (by simp only [go_sem,i64,ints]) (by first | exact .inl rfl | exact .inr rfl) ?_
 (try simp only [go_sem]);(try simp (disch:=omega) only [zI]);repeat first | intro _ | refine ⟨by omega,?_⟩
 refine hK _ ?_;clear hK K;refine ze ?_;simp only [go_sem];rw [← indexF_any]
theorem indexA_ok (p : Am → Bool) (f : Nat) (caps : List RV) (l : List Am) (h : ∀ x ∈ l,ACalls Try.prog f (aimV x :: caps) (.bo (p x))) : ACalls Try.prog 81 [aimsR l,.fn f caps] (i64 (indexF p l)):=by
 refine acalls_st (rs:=[i64 (indexF p l)]) [.tmp 4] Try.func81 rfl (by kernel_rfl) Try.ntmps81 rfl (by simp) rfl fun C vs=>?_
 repeat refine zq ?_
 refine zb fun K hK=>?_;simp only [go_sem];(try simp (disch:=omega) only [zI]);repeat first | intro _ | refine ⟨by omega,?_⟩
 refine hK _ ?_;clear hK K
 repeat refine zq ?_
 refine zb fun K hK=>?_;simp only [go_sem];(try simp (disch:=omega) only [zI])
 intro hl
 repeat first | intro _ | refine ⟨by omega,?_⟩
 refine hK _ ?_;clear hK K
 repeat refine zq ?_
 refine zd ?_
 refine awp_upto (n:=19) l.length (fun i vs=>[(0,.r (aimsR l)),(1,.r (.fn f caps)),(7,.r (i64 l.length)),(8,.r (i64 i))]) (fun _=>[])
  (fun i=>indexF p l = if indexF p (l.drop i) < 0 then -1 else i + indexF p (l.drop i)) 0 (fit_of [] ?_ rfl) (Nat.zero_le _) ?_ ?_
 · try simp only [go_sem]
 · simp only [List.drop_zero]
   have:=indexF_ge p l
   split
   · omega
   · simp
 · intro i vs hi hI
   repeat refine zq ?_
   refine zb fun K hK=>?_;simp only [go_sem];(try simp (disch:=omega) only [zI]);repeat first | intro _ | refine ⟨by omega,?_⟩
   refine hK _ ?_;clear hK K
   repeat refine zq ?_
   refine zc rfl (fun hc=>?_) (fun hc=>?_) <;> (try simp only [go_sem] at hc)
   · obtain ⟨x,hx⟩:=opt_of_lt hc
     rw [drop_of_opt hx] at hI
     refine zx ?_
     repeat refine zq ?_
     refine zd ?_
     repeat refine zq ?_
     refine zb fun K hK=>?_;simp only [go_sem];(try simp (disch:=omega) only [zI]);repeat first | intro _ | refine ⟨by omega,?_⟩
     refine hK _ ?_;clear hK K
     repeat refine zq ?_
     refine zb fun K hK=>?_;simp only [go_sem,hx,hc,bedR,aimR];(try simp (disch:=omega) only [zI])
     refine zh (h x (mem_of_opt hx)) rfl (by simp only [go_sem,i64,ints]) (by simp only [go_sem,i64,ints]) (by first | exact .inl rfl | exact .inr rfl) ?_
     (try simp only [go_sem]);(try simp (disch:=omega) only [zI]);repeat first | intro _ | refine ⟨by omega,?_⟩
     refine hK _ ?_;clear hK K
     repeat refine zq ?_
     refine zc rfl (fun hc=>?_) (fun hc=>?_) <;> (try simp only [go_sem] at hc)
     · repeat refine zq ?_
       refine zb fun K hK=>?_;simp only [go_sem];(try simp (disch:=omega) only [zI]);repeat first | intro _ | refine ⟨by omega,?_⟩
       refine hK _ ?_;clear hK K;refine ze ?_;simp only [go_sem]
       simp [hI,indexF,hc]
     · refine zx ?_
       try simp only [go_sem]
       repeat refine zq ?_
       refine zb fun K hK=>?_;simp only [go_sem];(try simp (disch:=omega) only [zI]);repeat first | intro _ | refine ⟨by omega,?_⟩
       refine hK _ ?_;clear hK K
       try simp only [go_sem]
       refine ⟨‹_›,?_,fit_of [] ?_ rfl⟩
       · rw [hI]
         simp only [indexF,hc,Bool.false_eq_true,if_false]
         have:=indexF_ge p (l.drop (i + 1))
         (repeat' split) <;> omega
       · try simp only [go_sem]
   · refine zf ?_;simp only [go_sem]
     repeat refine zq ?_
     refine zb fun K hK=>?_;simp only [go_sem];(try simp (disch:=omega) only [zI]);repeat first | intro _ | refine ⟨by omega,?_⟩
     refine hK _ ?_;clear hK K;refine ze ?_;simp only [go_sem]
     have : l.drop i = []:=List.drop_eq_nil_of_le (by omega)
     simp [hI,this,indexF]
theorem containsA_ok (p : Am → Bool) (f : Nat) (caps : List RV) (l : List Am) (h : ∀ x ∈ l,ACalls Try.prog f (aimV x :: caps) (.bo (p x))) : ACalls Try.prog 63 [aimsR l,.fn f caps] (.bo (l.any p)):=by
 refine acalls_st (rs:=[.bo (l.any p)]) [.tmp 4] Try.func63 rfl (by kernel_rfl) Try.ntmps63 rfl (by simp) rfl fun C vs=>?_
 repeat refine zq ?_
 refine zb fun K hK=>?_;simp only [go_sem];(try simp (disch:=omega) only [zI]);repeat first | intro _ | refine ⟨by omega,?_⟩
 refine hK _ ?_;clear hK K
 repeat refine zq ?_
 refine zb fun K hK=>?_;simp only [go_sem];(try simp (disch:=omega) only [zI])
 refine zh (indexA_ok p f caps l h) rfl (by simp only [go_sem,i64,ints]) (by simp only [go_sem,i64,ints]) (by first | exact .inl rfl | exact .inr rfl) ?_
 (try simp only [go_sem]);(try simp (disch:=omega) only [zI]);repeat first | intro _ | refine ⟨by omega,?_⟩
 refine hK _ ?_;clear hK K;refine ze ?_;simp only [go_sem];rw [← indexF_any]
def bedOk (b : Int) : Bool:=decide (b = 125) || decide (b = 225) || (decide (100 ≤ b) && decide (b ≤ 499) && decide (1 ≤ b % 100) && decide (b % 100 ≤ 20))
theorem tdivN {b : Int} (h : b ≤ 0) : b.tdiv 100 = -((-b) / 100):=by
 rw [← Int.tdiv_eq_ediv_of_nonneg (by omega),Int.neg_tdiv,Int.neg_neg]
theorem tdiv100 {b : Int} (h : I64 b) : IntKind.i64.wrap (b.tdiv 100) = b.tdiv 100:=by
 unfold I64 at h
 by_cases h0 : 0 ≤ b
 · rw [Int.tdiv_eq_ediv_of_nonneg h0,zI] <;> omega
 · rw [tdivN (by omega),zI] <;> omega
theorem tdiv_lt {b : Int} (h : b < 100) : b.tdiv 100 ≤ 0:=by
 by_cases h0 : 0 ≤ b
 · rw [Int.tdiv_eq_ediv_of_nonneg h0]; omega
 · rw [tdivN (by omega)]; omega
theorem bedOk_within (b : Int) : (withinL 1 4 [b.tdiv 100] && withinL 1 20 [b.tmod 100] || b == 125 || b == 225) = bedOk b:=by
 unfold bedOk withinL
 by_cases h : b < 100
 · have h1:=tdiv_lt h
   have e1 : decide (1 ≤ b.tdiv 100) = false:=by simp; omega
   have e2 : decide (100 ≤ b) = false:=by simp; omega
   have e3 : decide (b = 125) = false:=by simp; omega
   have e4 : decide (b = 225) = false:=by simp; omega
   have e5 : (b == 125) = false:=by simp; omega
   have e6 : (b == 225) = false:=by simp; omega
   simp [e1,e2,e3,e4,e5,e6]
 · rw [Int.tdiv_eq_ediv_of_nonneg (by omega),Int.tmod_eq_emod_of_nonneg (by omega)]
   have e : (decide (1 ≤ b / 100) && decide (b / 100 ≤ 4)) = (decide (100 ≤ b) && decide (b ≤ 499)):=by
    by_cases h2 : b ≤ 499
    · have : b / 100 ≤ 4:=by omega
      have : 1 ≤ b / 100:=by omega
      have : 100 ≤ b:=by omega
      simp [*]
    · have : ¬ b / 100 ≤ 4:=by omega
      simp [*]
   simp only [List.all_cons,List.all_nil,Bool.and_true,e]
   have e1 : (b == 125) = decide (b = 125):=by rw [Bool.eq_iff_iff]; simp
   have e2 : (b == 225) = decide (b = 225):=by rw [Bool.eq_iff_iff]; simp
   rw [e1,e2]
   cases decide (b = 125) <;> cases decide (b = 225) <;> simp [Bool.and_assoc]
theorem isBed_ok (b : Int) (hb : I64 b) : ACalls Try.prog 96 [i64 b] (.bo (bedOk b)):=by
 have hq:=tdiv100 hb
 refine acalls_st (rs:=[.bo (bedOk b)]) [.tmp 2] Try.func96 rfl (by kernel_rfl) Try.ntmps96 rfl (by simp) rfl fun C vs=>?_
 repeat refine zq ?_
 refine zb fun K hK=>?_;simp only [go_sem];(try simp (disch:=omega) only [zI]);repeat first | intro _ | refine ⟨by omega,?_⟩
 refine hK _ ?_;clear hK K
 repeat refine zq ?_
 refine zb fun K hK=>?_;simp only [go_sem,hq];(try simp (disch:=omega) only [zI]);repeat first | intro _ | refine ⟨by omega,?_⟩
 refine hK _ ?_;clear hK K
 repeat refine zq ?_
 refine zb fun K hK=>?_;simp only [go_sem];(try simp (disch:=omega) only [zI])
 refine zh (within_ok 1 4 [b.tdiv 100]) rfl (by simp only [go_sem,i64,ints]) (by simp only [go_sem,i64,ints]) (by first | exact .inl rfl | exact .inr rfl) ?_
 (try simp only [go_sem]);(try simp (disch:=omega) only [zI])
 have hw:=bedOk_within b
 refine ⟨fun h1=>?_,fun h1=>?_⟩
 · refine zh (within_ok 1 20 [b.tmod 100]) rfl (by simp only [go_sem,i64,ints]) (by simp only [go_sem,i64,ints]) (by first | exact .inl rfl | exact .inr rfl) ?_
   (try simp only [go_sem]);(try simp (disch:=omega) only [zI])
   repeat' first | intro _ | refine And.intro ?_ ?_
   all_goals first | omega | skip
   all_goals (refine hK _ ?_; clear hK K)
   all_goals (refine ze ?_; simp only [go_sem])
   all_goals (rw [← hw]; clear hw; simp [*])
 · repeat' first | intro _ | refine And.intro ?_ ?_
   all_goals first | omega | skip
   all_goals (refine hK _ ?_; clear hK K)
   all_goals (refine ze ?_; simp only [go_sem])
   all_goals (rw [← hw]; clear hw; simp [*])
def scoreOf (b : Int) : Int:=b / 100 * (b % 100)
theorem score_le {b : Int} (h0 : 0 ≤ b) (h1 : b ≤ 499) : 0 ≤ scoreOf b ∧ scoreOf b ≤ 396:=by
 unfold scoreOf
 have h2 : 0 ≤ b / 100:=by omega
 have h3 : b / 100 ≤ 4:=by omega
 refine ⟨Int.mul_nonneg h2 (by omega),?_⟩
 have:=Int.mul_le_mul h3 (show b % 100 ≤ 99 by omega) (by omega) (by omega)
 omega
theorem score_mul {b : Int} (h0 : 0 ≤ b) (h1 : b ≤ 499) : IntKind.i64.wrap (b.tdiv 100 * b.tmod 100) = scoreOf b:=by
 have:=score_le h0 h1
 rw [Int.tdiv_eq_ediv_of_nonneg h0,Int.tmod_eq_emod_of_nonneg h0]
 show IntKind.i64.wrap (scoreOf b) = _
 rw [zI] <;> omega
def loS (l : List Bd) : Int:=(l.map (·.lo)).sum
def hiS (l : List Bd) : Int:=(l.map (·.hi)).sum
theorem loS_snoc (l : List Bd) (x : Bd) : loS (l ++ [x]) = loS l + x.lo:=by simp [loS]
theorem hiS_snoc (l : List Bd) (x : Bd) : hiS (l ++ [x]) = hiS l + x.hi:=by simp [hiS]
def Small (l : List Bd) : Prop:=∀ x ∈ l,(0 ≤ x.lo ∧ x.lo ≤ 6000) ∧ 0 ≤ x.hi ∧ x.hi ≤ 6000
theorem sums_le : ∀ {l : List Bd},Small l → (0 ≤ loS l ∧ loS l ≤ 6000 * l.length) ∧ 0 ≤ hiS l ∧ hiS l ≤ 6000 * l.length
 | [],_=>by simp [loS,hiS]
 | x :: l, h => by
   have h1:=h x (by simp)
   have h2:=sums_le (l:=l) fun y hy=>h y (by simp [hy])
   simp only [loS,hiS,List.map_cons,List.sum_cons,List.length_cons] at h2 ⊢
   omega
theorem Small.take {l : List Bd} (h : Small l) (i : Nat) : Small (l.take i):=fun x hx=>h x (List.mem_of_mem_take hx)
theorem sums_ok (a : Int) (l : List Bd) (d : Int) (hs : Small l) (hl : l.length ≤ 1000) : ACalls Try.prog 87 [.ag [i64 a,bedsR l,i64 d]] (.ag [i64 (loS l),i64 (hiS l)]):=by
 refine acalls_st (rs:=[.ag [i64 (loS l),i64 (hiS l)]]) [.cell 2 52] Try.func87 rfl (by kernel_rfl) Try.ntmps87 rfl (by simp) rfl fun C vs=>?_
 repeat refine zq ?_
 refine zb fun K hK=>?_;simp only [go_sem];(try simp (disch:=omega) only [zI]);repeat first | intro _ | refine ⟨by omega,?_⟩
 refine hK _ ?_;clear hK K;refine zw (zk [1,2]) ?_;simp only [go_sem]
 repeat refine zq ?_
 refine zb fun K hK=>?_;simp only [go_sem];(try simp (disch:=omega) only [zI])
 intro _
 repeat first | intro _ | refine ⟨by omega,?_⟩
 refine hK _ ?_;clear hK K;refine zw (zk [2,7,8,9]) ?_;simp only [go_sem]
 repeat refine zq ?_
 refine zd ?_
 refine awp_upto (n:=29) l.length (fun i vs=>[(2,.pt 2 (vs 2) 0),(7,.r (bedsR l)),(8,.r (i64 l.length)),(9,.r (i64 i))])
  (fun i=>[(2,.box [.r (i64 (loS (l.take i))),.r (i64 (hiS (l.take i)))])]) (fun _=>True) 0 (fit_of [1] ?_ ?_) (Nat.zero_le _) trivial ?_
 · try simp only [go_sem]
 · try simp only [go_sem]
   simp [loS,hiS]
 · intro i vs hi _
   repeat refine zq ?_
   refine zb fun K hK=>?_;simp only [go_sem];(try simp (disch:=omega) only [zI]);repeat first | intro _ | refine ⟨by omega,?_⟩
   refine hK _ ?_;clear hK K
   repeat refine zq ?_
   refine zc rfl (fun hc=>?_) (fun hc=>?_) <;> (try simp only [go_sem] at hc)
   · obtain ⟨x,hx⟩:=opt_of_lt hc
     have hb:=sums_le (hs.take (i + 1))
     have ht:=take_of_opt hx
     have hlt : (l.take (i + 1)).length ≤ 1000:=by rw [List.length_take]; omega
     rw [ht,loS_snoc,hiS_snoc] at hb
     rw [ht] at hlt
     refine zx ?_
     repeat refine zq ?_
     refine zd ?_
     repeat refine zq ?_
     refine zb fun K hK=>?_;simp only [go_sem,hx,hc,bedR];(try simp (disch:=omega) only [zI]);repeat first | intro _ | refine ⟨by omega,?_⟩
     refine hK _ ?_;clear hK K;refine zw (zk [2,4,7,8,9]) ?_;simp only [go_sem]
     repeat refine zq ?_
     refine awp_dreg2 [(2,some 2),(4,some 4)] follows (by decide +kernel) (by kernel_rfl) (by simp only [keysOk,List.mem_cons,List.not_mem_nil,forall_eq_or_imp,Oc.keyOf,go_sem]; simp) fun K hK=>?_
     simp only [go_sem];(try simp (disch:=omega) only [zI]);repeat first | intro _ | refine ⟨by omega,?_⟩
     refine hK _ ?_;clear hK K;refine zw (zk [2,7,8,9]) ?_;simp only [go_sem]
     repeat refine zq ?_
     refine zb fun K hK=>?_;simp only [go_sem];(try simp (disch:=omega) only [zI]);repeat first | intro _ | refine ⟨by omega,?_⟩
     refine hK _ ?_;clear hK K
     try simp only [go_sem]
     refine ⟨hc,fit_of [4] ?_ ?_⟩
     · try simp only [go_sem]
     · try simp only [go_sem]
       rw [ht,loS_snoc,hiS_snoc]
   · refine zf ?_;simp only [go_sem]
     repeat refine zq ?_
     refine zb fun K hK=>?_;simp only [go_sem];(try simp (disch:=omega) only [zI]);repeat first | intro _ | refine ⟨by omega,?_⟩
     refine hK _ ?_;clear hK K;refine zw (zk [2]) ?_;simp only [go_sem];refine ze ?_;simp only [go_sem]
     have : l.take i = l:=List.take_of_length_le (by omega)
     simp [this]
def seqOk : Option Int → List Bd → Bool
 | _,[]=>true
 | p,x :: l=>(decide (x.b = 0) || bedOk x.b) && (match p with | none=>true | some q=>decide (q < x.b)) && seqOk (some x.b) l
def prevB (l : List Bd) : Nat → Option Int
 | 0=>none
 | i + 1=>(l[i]?).map (·.b)
def Wf (l : List Bd) : Prop:=∀ x ∈ l,I64 x.b ∧ I64 x.lo ∧ I64 x.hi
theorem areBeds_ok (a : Int) (l : List Bd) (d : Int) (ha : I64 a) (hw : Wf l) : ACalls Try.prog 84 [.ag [i64 a,bedsR l,i64 d]] (.bo (bedOk a && !l.isEmpty && seqOk none l)):=by
 refine acalls_st (rs:=[.bo (bedOk a && !l.isEmpty && seqOk none l)]) [.tmp 2] Try.func84 rfl (by kernel_rfl) Try.ntmps84 rfl (by simp) rfl fun C vs=>?_
 repeat refine zq ?_
 refine zb fun K hK=>?_;simp only [go_sem];(try simp (disch:=omega) only [zI]);repeat first | intro _ | refine ⟨by omega,?_⟩
 refine hK _ ?_;clear hK K;refine zw (zk [1]) ?_;simp only [go_sem]
 repeat refine zq ?_
 refine zb fun K hK=>?_;simp only [go_sem];(try simp (disch:=omega) only [zI])
 refine zh (isBed_ok a ha) rfl (by simp only [go_sem,i64,ints]) (by simp only [go_sem,i64,ints]) (by first | exact .inl rfl | exact .inr rfl) ?_
 (try simp only [go_sem]);(try simp (disch:=omega) only [zI])
 cases hA : bedOk a
 · try simp only [go_sem]
   repeat first | intro _ | refine ⟨by omega,?_⟩
   refine hK _ ?_;clear hK K
   repeat refine zq ?_
   refine zc rfl (fun hc=>?_) (fun hc=>?_) <;> (try simp only [go_sem] at hc)
   repeat refine zq ?_
   refine zb fun K hK=>?_;simp only [go_sem];(try simp (disch:=omega) only [zI]);repeat first | intro _ | refine ⟨by omega,?_⟩
   refine hK _ ?_;clear hK K;refine ze ?_;simp only [go_sem]
   simp [hA]
 try simp only [go_sem]
 intro _
 cases hE : l.isEmpty
 case true =>
  have h0 : l = []:=List.isEmpty_iff.1 hE
  subst h0
  try simp only [go_sem]
  repeat first | intro _ | refine ⟨by omega,?_⟩
  refine hK _ ?_;clear hK K
  repeat refine zq ?_
  refine zc rfl (fun hc=>?_) (fun hc=>?_) <;> (try simp only [go_sem] at hc)
  repeat refine zq ?_
  refine zb fun K hK=>?_;simp only [go_sem];(try simp (disch:=omega) only [zI]);repeat first | intro _ | refine ⟨by omega,?_⟩
  refine hK _ ?_;clear hK K;refine ze ?_;simp only [go_sem]
  simp
 have hne : ((l.length : Int) == 0) = false:=by
  cases l with
  | nil=>simp at hE
  | cons=>simp; omega
 rw [hne]
 repeat first | intro _ | refine ⟨by omega,?_⟩
 refine hK _ ?_;clear hK K;refine zw (zk [1,16]) ?_;simp only [go_sem]
 repeat refine zq ?_
 refine zc rfl (fun hc=>?_) (fun hc=>?_) <;> (try simp only [go_sem] at hc)
 refine zx ?_
 try simp only [go_sem]
 repeat refine zq ?_
 refine zb fun K hK=>?_;simp only [go_sem];(try simp (disch:=omega) only [zI])
 intro hl9
 repeat first | intro _ | refine ⟨by omega,?_⟩
 refine hK _ ?_;clear hK K;refine zw (zk [1,19,20,21]) ?_;simp only [go_sem]
 repeat refine zq ?_
 refine zd ?_
 refine awp_upto (n:=53) l.length (fun i vs=>[(1,.pt 1 (vs 1) 0),(19,.r (bedsR l)),(20,.r (i64 l.length)),(21,.r (i64 i))])
  (fun i=>[(1,.box [.r (i64 a),.r (bedsR l),.r (i64 d)])]) (fun i=>seqOk none l = seqOk (prevB l i) (l.drop i)) 0 (fit_of [] ?_ ?_) (Nat.zero_le _) rfl ?_
 · try simp only [go_sem]
 · try simp only [go_sem]
 · intro i vs hi hI
   repeat refine zq ?_
   refine zb fun K hK=>?_;simp only [go_sem];(try simp (disch:=omega) only [zI]);repeat first | intro _ | refine ⟨by omega,?_⟩
   refine hK _ ?_;clear hK K
   repeat refine zq ?_
   refine zc rfl (fun hc=>?_) (fun hc=>?_) <;> (try simp only [go_sem] at hc)
   · obtain ⟨x,hx⟩:=opt_of_lt hc
     rw [drop_of_opt hx] at hI
     obtain ⟨hxb,_,_⟩:=hw x (mem_of_opt hx)
     have hB : ACalls Try.prog 96 [i64 x.b] (.bo (bedOk x.b)):=isBed_ok x.b hxb
     refine zx ?_
     repeat refine zq ?_
     refine zd ?_
     repeat refine zq ?_
     refine zb fun K hK=>?_;simp only [go_sem,hx,hc,bedR];(try simp (disch:=omega) only [zI]);repeat first | intro _ | refine ⟨by omega,?_⟩
     refine hK _ ?_;clear hK K;refine zw (zk [1,3,4,19,20,21]) ?_;simp only [go_sem]
     have hp : ∀ q,prevB l i = some q → ∃ y j,i = j + 1 ∧ l[j]? = some y ∧ q = y.b:=fun q hq=>by
      cases i with
      | zero=>cases hq
      | succ j =>
        obtain ⟨y,hy⟩:=opt_of_lt (l:=l) (i:=j) (by omega)
        simp only [prevB,hy,Option.map_some,Option.some.injEq] at hq
        exact ⟨y,j,rfl,hy,hq.symm⟩
     cases hb0 : decide (x.b = 0) || bedOk x.b
     · have h0 : (x.b != 0) = true:=by simp_all
       have h1 : bedOk x.b = false:=by simp_all
       rw [h1] at hB
       repeat refine zq ?_
       refine awp_dreg2 [(1,some 1),(3,none),(4,some 4)] follows (by decide +kernel) (by kernel_rfl) (by simp only [keysOk,List.mem_cons,List.not_mem_nil,forall_eq_or_imp,Oc.keyOf,go_sem]; simp) fun K hK=>?_
       simp only [go_sem,h0];(try simp (disch:=omega) only [zI])
       refine zh (hB) rfl (by simp only [go_sem,i64,ints]) (by simp only [go_sem,i64,ints]) (by first | exact .inl rfl | exact .inr rfl) ?_
       (try simp only [go_sem]);(try simp (disch:=omega) only [zI]);repeat first | intro _ | refine ⟨by omega,?_⟩
       refine hK _ ?_;clear hK K;refine zw (zk [1,19,20,21,51]) ?_;simp only [go_sem]
       repeat refine zq ?_
       refine zc rfl (fun hc=>?_) (fun hc=>?_) <;> (try simp only [go_sem] at hc)
       repeat refine zq ?_
       refine zb fun K hK=>?_;simp only [go_sem];(try simp (disch:=omega) only [zI]);repeat first | intro _ | refine ⟨by omega,?_⟩
       refine hK _ ?_;clear hK K;refine ze ?_;simp only [go_sem]
       simp [hI,seqOk,hb0]
     have hnx : prevB l (i + 1) = some x.b:=by simp [prevB,hx]
     have hstep : seqOk none l = ((match prevB l i with | none=>true | some q=>decide (q < x.b)) && seqOk (prevB l (i + 1)) (l.drop (i + 1))):=by
      rw [hI,hnx]
      simp only [seqOk,hb0,Bool.true_and]
     cases i with
     | zero =>
       have hp0 : seqOk none l = seqOk (prevB l 1) (l.drop 1):=by simpa [prevB] using hstep
       by_cases h0 : x.b = 0
       · have e0 : (x.b != 0) = false:=by simp [h0]
         repeat refine zq ?_
         refine awp_dreg2 [(1,some 1),(3,none),(4,some 4)] follows (by decide +kernel) (by kernel_rfl) (by simp only [keysOk,List.mem_cons,List.not_mem_nil,forall_eq_or_imp,Oc.keyOf,go_sem]; simp) fun K hK=>?_
         simp only [go_sem,e0];(try simp (disch:=omega) only [zI]);repeat first | intro _ | refine ⟨by omega,?_⟩
         refine hK _ ?_;clear hK K;refine zw (zk [1,19,20,21,51]) ?_;simp only [go_sem]
         repeat refine zq ?_
         refine zc rfl (fun hc=>?_) (fun hc=>?_) <;> (try simp only [go_sem] at hc)
         refine zx ?_
         try simp only [go_sem]
         repeat refine zq ?_
         refine zb fun K hK=>?_;simp only [go_sem];(try simp (disch:=omega) only [zI]);repeat first | intro _ | refine ⟨by omega,?_⟩
         refine hK _ ?_;clear hK K
         try simp only [go_sem]
         exact ⟨by omega,hp0,fit_of [4] (by try simp only [go_sem]) (by try simp only [go_sem])⟩
       · have e0 : (x.b != 0) = true:=by simp [h0]
         have e1 : bedOk x.b = true:=by simpa [h0] using hb0
         rw [e1] at hB
         repeat refine zq ?_
         refine awp_dreg2 [(1,some 1),(3,none),(4,some 4)] follows (by decide +kernel) (by kernel_rfl) (by simp only [keysOk,List.mem_cons,List.not_mem_nil,forall_eq_or_imp,Oc.keyOf,go_sem]; simp) fun K hK=>?_
         simp only [go_sem,e0];(try simp (disch:=omega) only [zI])
         refine zh (hB) rfl (by simp only [go_sem,i64,ints]) (by simp only [go_sem,i64,ints]) (by first | exact .inl rfl | exact .inr rfl) ?_
         (try simp only [go_sem]);(try simp (disch:=omega) only [zI]);repeat first | intro _ | refine ⟨by omega,?_⟩
         refine hK _ ?_;clear hK K;refine zw (zk [1,19,20,21,51]) ?_;simp only [go_sem]
         repeat refine zq ?_
         refine zc rfl (fun hc=>?_) (fun hc=>?_) <;> (try simp only [go_sem] at hc)
         refine zx ?_
         try simp only [go_sem]
         repeat refine zq ?_
         refine zb fun K hK=>?_;simp only [go_sem];(try simp (disch:=omega) only [zI]);repeat first | intro _ | refine ⟨by omega,?_⟩
         refine hK _ ?_;clear hK K
         try simp only [go_sem]
         exact ⟨by omega,hp0,fit_of [4] (by try simp only [go_sem]) (by try simp only [go_sem])⟩
     | succ j =>
       obtain ⟨y,hy⟩:=opt_of_lt (l:=l) (i:=j) (by omega)
       have hpy : prevB l (j + 1) = some y.b:=by simp [prevB,hy]
       rw [hpy] at hstep
       have hj1 : IntKind.i64.wrap ((j : Int) + 1 - 1) = (j : Int):=by rw [zI] <;> omega
       have hj2 : j < l.length:=by omega
       have hj0 : (0 < (j : Int) + 1) = True:=by simp
       have go : ∀ (e : Bool),decide (x.b ≤ y.b) = e → (e = true → seqOk none l = false) ∧ (e = false → seqOk none l = seqOk (prevB l (j + 1 + 1)) (l.drop (j + 1 + 1))):=fun e he=>by
        refine ⟨fun h=>?_,fun h=>?_⟩
        · have : decide (y.b < x.b) = false:=by simp_all
          rw [hstep]; simp [this]
        · have : decide (y.b < x.b) = true:=by simp_all
          rw [hstep]; simp [this]
       obtain ⟨go1,go2⟩:=go _ rfl
       by_cases h0 : x.b = 0
       · have e0 : (x.b != 0) = false:=by simp [h0]
         repeat refine zq ?_
         refine awp_dreg2 [(1,some 1),(3,none),(4,some 4)] follows (by decide +kernel) (by kernel_rfl) (by simp only [keysOk,List.mem_cons,List.not_mem_nil,forall_eq_or_imp,Oc.keyOf,go_sem]; simp) fun K hK=>?_
         simp only [go_sem,e0,hj1,hj0,hy,bedR];(try simp (disch:=omega) only [zI]);repeat first | intro _ | refine ⟨by omega,?_⟩
         refine hK _ ?_;clear hK K;refine zw (zk [1,19,20,21,51]) ?_;simp only [go_sem]
         cases hle : decide (x.b ≤ y.b)
         · repeat refine zq ?_
           refine zc rfl (fun hc=>?_) (fun hc=>?_) <;> (try simp only [go_sem] at hc)
           refine zx ?_
           try simp only [go_sem]
           repeat refine zq ?_
           refine zb fun K hK=>?_;simp only [go_sem];(try simp (disch:=omega) only [zI]);repeat first | intro _ | refine ⟨by omega,?_⟩
           refine hK _ ?_;clear hK K
           try simp only [go_sem]
           exact ⟨by omega,go2 hle,fit_of [4] (by try simp only [go_sem]) (by try simp only [go_sem])⟩
         · repeat refine zq ?_
           refine zc rfl (fun hc=>?_) (fun hc=>?_) <;> (try simp only [go_sem] at hc)
           repeat refine zq ?_
           refine zb fun K hK=>?_;simp only [go_sem];(try simp (disch:=omega) only [zI]);repeat first | intro _ | refine ⟨by omega,?_⟩
           refine hK _ ?_;clear hK K;refine ze ?_;simp only [go_sem]
           simp [go1 hle]
       · have e0 : (x.b != 0) = true:=by simp [h0]
         have e1 : bedOk x.b = true:=by simpa [h0] using hb0
         rw [e1] at hB
         repeat refine zq ?_
         refine awp_dreg2 [(1,some 1),(3,none),(4,some 4)] follows (by decide +kernel) (by kernel_rfl) (by simp only [keysOk,List.mem_cons,List.not_mem_nil,forall_eq_or_imp,Oc.keyOf,go_sem]; simp) fun K hK=>?_
         simp only [go_sem,e0,hj1,hj0,hy,bedR];(try simp (disch:=omega) only [zI])
         refine zh (hB) rfl (by simp only [go_sem,i64,ints,hj1,hj0,hy,bedR]) (by simp only [go_sem,i64,ints,hj1,hj0,hy,bedR]) (by first | exact .inl rfl | exact .inr rfl) ?_
         (try simp only [go_sem,hj1,hj0,hy,bedR]);(try simp (disch:=omega) only [zI]);repeat first | intro _ | refine ⟨by omega,?_⟩
         refine hK _ ?_;clear hK K;refine zw (zk [1,19,20,21,51]) ?_;simp only [go_sem]
         cases hle : decide (x.b ≤ y.b)
         · repeat refine zq ?_
           refine zc rfl (fun hc=>?_) (fun hc=>?_) <;> (try simp only [go_sem] at hc)
           refine zx ?_
           try simp only [go_sem]
           repeat refine zq ?_
           refine zb fun K hK=>?_;simp only [go_sem];(try simp (disch:=omega) only [zI]);repeat first | intro _ | refine ⟨by omega,?_⟩
           refine hK _ ?_;clear hK K
           try simp only [go_sem]
           exact ⟨by omega,go2 hle,fit_of [4] (by try simp only [go_sem]) (by try simp only [go_sem])⟩
         · repeat refine zq ?_
           refine zc rfl (fun hc=>?_) (fun hc=>?_) <;> (try simp only [go_sem] at hc)
           repeat refine zq ?_
           refine zb fun K hK=>?_;simp only [go_sem];(try simp (disch:=omega) only [zI]);repeat first | intro _ | refine ⟨by omega,?_⟩
           refine hK _ ?_;clear hK K;refine ze ?_;simp only [go_sem]
           simp [go1 hle]
   · refine zf ?_;simp only [go_sem]
     repeat refine zq ?_
     refine zb fun K hK=>?_;simp only [go_sem];(try simp (disch:=omega) only [zI]);repeat first | intro _ | refine ⟨by omega,?_⟩
     refine hK _ ?_;clear hK K;refine zw (zk [2]) ?_;simp only [go_sem];refine ze ?_;simp only [go_sem]
     have : l.drop i = []:=List.drop_eq_nil_of_le (by omega)
     have h0 : l ≠ []:=fun e=>by rw [e] at hE; simp at hE
     simp [hI,this,seqOk,hA,h0]
def badCh (d : Int) (x : Bd) : Bool:=!withinL 0 d [x.lo,x.hi] || decide (x.hi < x.lo)
theorem valid1_ok (a : Int) (l : List Bd) (d : Int) (x : Bd) : ACalls Try.prog 86 [bedV x,.rp [i64 a,bedsR l,i64 d]] (.bo (badCh d x)):=by
 refine acalls_st (rs:=[.bo (badCh d x)]) [.tmp 3] Try.func86 rfl (by kernel_rfl) Try.ntmps86 rfl (by simp) rfl fun C vs=>?_
 repeat refine zq ?_
 refine zb fun K hK=>?_;simp only [go_sem];(try simp (disch:=omega) only [zI]);repeat first | intro _ | refine ⟨by omega,?_⟩
 refine hK _ ?_;clear hK K
 repeat refine zq ?_
 refine zb fun K hK=>?_;simp only [go_sem];(try simp (disch:=omega) only [zI])
 refine zh (within_ok 0 d [x.lo,x.hi]) rfl (by simp only [go_sem,i64,ints]) (by simp only [go_sem,i64,ints]) (by first | exact .inl rfl | exact .inr rfl) ?_
 (try simp only [go_sem]);(try simp (disch:=omega) only [zI])
 refine ⟨fun h=>?_,fun h=>?_⟩
 · repeat first | intro _ | refine ⟨by omega,?_⟩
   refine hK _ ?_;clear hK K;refine ze ?_;simp only [go_sem]
   simp [badCh,h]
 · repeat first | intro _ | refine ⟨by omega,?_⟩
   refine hK _ ?_;clear hK K;refine ze ?_;simp only [go_sem]
   simp [badCh,h]
def chOk (d : Int) (l : List Bd) : Bool:=l.all fun x=>decide (0 ≤ x.lo) && decide (x.lo ≤ x.hi) && decide (x.hi ≤ d)
theorem badCh_eq (d : Int) (l : List Bd) : (!(l.any (badCh d))) = chOk d l:=by
 unfold chOk
 rw [List.not_any_eq_all_not]
 congr 1
 funext x
 unfold badCh withinL
 simp only [List.all_cons,List.all_nil,Bool.and_true]
 by_cases h1 : 0 ≤ x.lo <;> by_cases h2 : x.lo ≤ d <;> by_cases h3 : 0 ≤ x.hi <;> by_cases h4 : x.hi ≤ d <;> by_cases h5 : x.hi < x.lo <;> by_cases h6 : x.lo ≤ x.hi <;> simp [h1,h2,h3,h4,h5,h6] <;> omega
theorem chOk_small {d : Int} {l : List Bd} (h : chOk d l = true) (hd : d ≤ 6000) : Small l:=fun x hx=>by
 have:=List.all_eq_true.1 h x hx
 simp only [Bool.and_eq_true,decide_eq_true_eq] at this
 omega
def aimOk (d : Int) (a : Am) : Bool:=bedOk a.at_ && !a.beds.isEmpty && seqOk none a.beds && chOk d a.beds && decide (loS a.beds ≤ d) && decide (d ≤ hiS a.beds)
def WfA (a : Am) : Prop:=I64 a.at_ ∧ Wf a.beds
theorem isValid_ok (a : Am) (d : Int) (hw : WfA a) (hd : d ≤ 6000) (hl : a.beds.length ≤ 1000) : ACalls Try.prog 67 [chV a d] (.bo (aimOk d a)):=by
 refine acalls_st (rs:=[.bo (aimOk d a)]) [.tmp 2] Try.func67 rfl (by kernel_rfl) Try.ntmps67 rfl (by simp) rfl fun C vs=>?_
 repeat refine zq ?_
 refine zb fun K hK=>?_;simp only [go_sem];(try simp (disch:=omega) only [zI]);repeat first | intro _ | refine ⟨by omega,?_⟩
 refine hK _ ?_;clear hK K;refine zw (zk [1]) ?_;simp only [go_sem]
 repeat refine zq ?_
 refine zb fun K hK=>?_;simp only [go_sem];(try simp (disch:=omega) only [zI])
 refine zh (areBeds_ok a.at_ a.beds d hw.1 hw.2) rfl (by simp only [go_sem,i64,ints]) (by simp only [go_sem,i64,ints]) (by first | exact .inl rfl | exact .inr rfl) ?_
 (try simp only [go_sem]);(try simp (disch:=omega) only [zI])
 cases h1 : (bedOk a.at_ && !a.beds.isEmpty && seqOk none a.beds)
 · try simp only [go_sem]
   repeat first | intro _ | refine ⟨by omega,?_⟩
   refine hK _ ?_;clear hK K
   repeat refine zq ?_
   refine zc rfl (fun hc=>?_) (fun hc=>?_) <;> (try simp only [go_sem] at hc)
   repeat refine zq ?_
   refine zb fun K hK=>?_;simp only [go_sem];(try simp (disch:=omega) only [zI]);repeat first | intro _ | refine ⟨by omega,?_⟩
   refine hK _ ?_;clear hK K;refine ze ?_;simp only [go_sem]
   simp [aimOk,h1]
 try simp only [go_sem]
 refine zh (containsB_ok (badCh d) 86 [.rp [i64 a.at_,bedsR a.beds,i64 d]] a.beds fun x _=>valid1_ok a.at_ a.beds d x) rfl (by simp only [go_sem,i64,ints]) (by simp only [go_sem,i64,ints]) (by first | exact .inl rfl | exact .inr rfl) ?_
 (try simp only [go_sem]);(try simp (disch:=omega) only [zI]);repeat first | intro _ | refine ⟨by omega,?_⟩
 refine hK _ ?_;clear hK K;refine zw (zk [1,13]) ?_;simp only [go_sem]
 have h2:=badCh_eq d a.beds
 cases h3 : a.beds.any (badCh d)
 · rw [h3] at h2
   have h4 : chOk d a.beds = true:=by simpa using h2.symm
   repeat refine zq ?_
   refine zc rfl (fun hc=>?_) (fun hc=>?_) <;> (try simp only [go_sem] at hc)
   refine zx ?_
   try simp only [go_sem]
   repeat refine zq ?_
   refine zb fun K hK=>?_;simp only [go_sem];(try simp (disch:=omega) only [zI])
   refine zh (sums_ok a.at_ a.beds d (chOk_small h4 hd) hl) rfl (by simp only [go_sem,i64,ints]) (by simp only [go_sem,i64,ints]) (by first | exact .inl rfl | exact .inr rfl) ?_
   (try simp only [go_sem]);(try simp (disch:=omega) only [zI]);repeat first | intro _ | refine ⟨by omega,?_⟩
   refine hK _ ?_;clear hK K;refine zw (zk [1,3]) ?_;simp only [go_sem]
   repeat refine zq ?_
   refine zb fun K hK=>?_;simp only [go_sem];(try simp (disch:=omega) only [zI])
   refine zh (within_ok (loS a.beds) (hiS a.beds) [d]) rfl (by simp only [go_sem,i64,ints]) (by simp only [go_sem,i64,ints]) (by first | exact .inl rfl | exact .inr rfl) ?_
   (try simp only [go_sem]);(try simp (disch:=omega) only [zI]);repeat first | intro _ | refine ⟨by omega,?_⟩
   refine hK _ ?_;clear hK K;refine ze ?_;simp only [go_sem]
   simp [aimOk,h1,h4,withinL]
 · rw [h3] at h2
   have h4 : chOk d a.beds = false:=by simpa using h2.symm
   repeat refine zq ?_
   refine zc rfl (fun hc=>?_) (fun hc=>?_) <;> (try simp only [go_sem] at hc)
   repeat refine zq ?_
   refine zb fun K hK=>?_;simp only [go_sem];(try simp (disch:=omega) only [zI]);repeat first | intro _ | refine ⟨by omega,?_⟩
   refine hK _ ?_;clear hK K;refine ze ?_;simp only [go_sem]
   simp [aimOk,h4]
def enumA (d : Int) (l : List Am) : List (List RV):=l.zipIdx.map fun x=>[i64 x.2,chV x.1 d]
theorem enumA_get {d : Int} {l : List Am} {i : Nat} {e : List RV} (h : (enumA d l)[i]? = some e) : ∃ x,l[i]? = some x ∧ e = [i64 i,chV x d]:=by
 simp only [enumA,List.getElem?_map,List.getElem?_zipIdx,Nat.zero_add] at h
 cases hx : l[i]? with
 | none=>rw [hx] at h; cases h
 | some x=>rw [hx] at h; simp only [Option.map_some,Option.some.injEq] at h; exact ⟨x,rfl,h.symm⟩
theorem enumA_len {d : Int} {l : List Am} {e : List RV} (h : e ∈ enumA d l) : e.length = 2:=by
 obtain ⟨i,hi⟩:=List.getElem?_of_mem h
 obtain ⟨x,_,rfl⟩:=enumA_get hi
 rfl
theorem xcall_yield {n : Nat} {l : List (Nat × AV)} {vs : Nat → Nat} {cs : List (Nat × RowC)} {P : Program} {d : Option Nat} {ll : Nat} {z : Bool} {e : List RV} {rest : List (List RV)} {xs : List AV} {K : AS → Prop} (hrow : lookc cs 999 = .gh P ll z (some (e :: rest)))
 (hp : AV.pureL xs = true) (he : snapVL (st n l vs cs).rows xs = e) (hfl : RV.flatL e = true ∨ z = false) (hK1 : K ((st n l vs (insc cs 999 (.gh P ll z (some rest)))).put d (.r (.bo true)))) (hK2 : K ((st n l vs (insc cs 999 (.gh P ll z none))).put d (.r (.bo false)))) :
 xcall P false (st n l vs cs) d (.r (.yl ll)) xs K:=by
 have hr : ∀ c,(st n l vs cs).row 999 ⟨((st n l vs cs).rows 999).ver,c⟩ = st n l vs (insc cs 999 c):=fun c=>by
  rw [row_st]
  congr 1
  exact upd_self vs 999
 exact .inr (.inl ⟨rfl,.inr (.inr (.inl ⟨ll,z,e,rest,rfl,hrow,hp,he ▸ leL_refl _,hfl,by rw [hr]; exact hK1,by rw [hr]; exact hK2⟩))⟩)
theorem all1_ok (d : Int) (l : List Am) : ICalls Try.prog false 83 [.rp [i64 d,aimsR l]] (enumA d l):=by
 refine icalls_st Try.func83 rfl (by kernel_rfl) Try.ntmps83 rfl (by simp) fun C ll=>?_
 repeat refine zq ?_
 refine zb fun K hK=>?_;simp only [go_sem,argL];(try simp (disch:=omega) only [zI])
 intro hl7
 repeat first | intro _ | refine ⟨by omega,?_⟩
 refine hK _ ?_;clear hK K;refine zw (zk [0,1,6,7,8]) ?_;simp only [go_sem]
 repeat refine zq ?_
 refine zd ?_
 refine awp_upto (n:=22) l.length (fun i vs=>[(0,.r (.yl ll)),(1,.r (.rp [i64 d,aimsR l])),(6,.r (aimsR l)),(7,.r (i64 l.length)),(8,.r (i64 i))])
  (fun i=>[(999,.gh Try.prog ll false (some ((enumA d l).drop i)))]) (fun _=>True) 0 (fit_of [] ?_ ?_) (Nat.zero_le _) trivial ?_
 · try simp only [go_sem]
 · try simp only [go_sem]
 · intro i vs hi _
   repeat refine zq ?_
   refine zb fun K hK=>?_;simp only [go_sem];(try simp (disch:=omega) only [zI]);repeat first | intro _ | refine ⟨by omega,?_⟩
   refine hK _ ?_;clear hK K
   repeat refine zq ?_
   refine zc rfl (fun hc=>?_) (fun hc=>?_) <;> (try simp only [go_sem] at hc)
   · obtain ⟨x,hx⟩:=opt_of_lt hc
     have hci:=hc
     have he : (enumA d l).drop i = [i64 i,chV x d] :: (enumA d l).drop (i + 1):=by
      refine drop_of_opt ?_
      simp [enumA,hx]
     refine zx ?_
     repeat refine zq ?_
     refine zd ?_
     repeat refine zq ?_
     refine zb fun K hK=>?_;simp only [go_sem,hx,hc,aimR];(try simp (disch:=omega) only [zI]);repeat first | intro _ | refine ⟨by omega,?_⟩
     refine hK _ ?_;clear hK K;refine zw (zk [0,1,3,4,6,7,8]) ?_;simp only [go_sem]
     repeat refine zq ?_
     refine zb fun K hK=>?_;simp only [go_sem];(try simp (disch:=omega) only [zI])
     refine xcall_yield (e:=[i64 i,chV x d]) (rest:=(enumA d l).drop (i + 1)) (by simp only [go_sem,he]) rfl (by simp only [go_sem]) (.inr rfl) ?_ ?_
     · simp only [go_sem];repeat first | intro _ | refine ⟨by omega,?_⟩
       refine hK _ ?_;clear hK K;refine zw (zk [0,1,6,7,8,20]) ?_;simp only [go_sem]
       repeat refine zq ?_
       refine zc rfl (fun hc=>?_) (fun hc=>?_) <;> (try simp only [go_sem] at hc)
       refine zx ?_
       try simp only [go_sem]
       repeat refine zq ?_
       refine zb fun K hK=>?_;simp only [go_sem];(try simp (disch:=omega) only [zI]);repeat first | intro _ | refine ⟨by omega,?_⟩
       refine hK _ ?_;clear hK K
       try simp only [go_sem]
       exact ⟨hci,fit_of [4] (by try simp only [go_sem]) (by try simp only [go_sem])⟩
     · simp only [go_sem];repeat first | intro _ | refine ⟨by omega,?_⟩
       refine hK _ ?_;clear hK K;refine zw (zk [20]) ?_;simp only [go_sem]
       repeat refine zq ?_
       refine zc rfl (fun hc=>?_) (fun hc=>?_) <;> (try simp only [go_sem] at hc)
       refine ze ?_;simp only [go_sem];exact ⟨_,_,.inr rfl⟩
   · refine zf ?_;simp only [go_sem]
     have h0 : (enumA d l).drop i = []:=List.drop_eq_nil_of_le (by simp [enumA]; omega)
     exact ⟨ll,false,.inl (by simp only [go_sem,h0])⟩
theorem all_ok (d : Int) (l : List Am) : ACalls Try.prog 66 [lawV d l] (.fn 83 [.rp [i64 d,aimsR l]]):=by
 refine acalls_st (rs:=[.fn 83 [.rp [i64 d,aimsR l]]]) [.tmp 2] Try.func66 rfl (by kernel_rfl) Try.ntmps66 rfl (by simp) rfl fun C vs=>?_
 repeat refine zq ?_
 refine zb fun K hK=>?_;simp only [go_sem];(try simp (disch:=omega) only [zI]);repeat first | intro _ | refine ⟨by omega,?_⟩
 refine hK _ ?_;clear hK K
 repeat refine zq ?_
 refine zb fun K hK=>?_;simp only [go_sem];(try simp (disch:=omega) only [zI]);repeat first | intro _ | refine ⟨by omega,?_⟩
 refine hK _ ?_;clear hK K;refine ze ?_;simp only [go_sem]
 simp [RV.le,leL_refl.le_refl,leL_refl]
theorem check1_ok (a : Am) : ACalls Try.prog 64 [aimV a] (.bo (decide (10 < a.beds.length))):=by
 refine acalls_st (rs:=[.bo (decide (10 < a.beds.length))]) [.tmp 2] Try.func64 rfl (by kernel_rfl) Try.ntmps64 rfl (by simp) rfl fun C vs=>?_
 repeat refine zq ?_
 refine zb fun K hK=>?_;simp only [go_sem];(try simp (disch:=omega) only [zI]);repeat first | intro _ | refine ⟨by omega,?_⟩
 refine hK _ ?_;clear hK K
 repeat refine zq ?_
 refine zb fun K hK=>?_;simp only [go_sem];(try simp (disch:=omega) only [zI])
 intro _
 repeat first | intro _ | refine ⟨by omega,?_⟩
 refine hK _ ?_;clear hK K;refine ze ?_;simp only [go_sem]
 simp
 omega
def checkV (d : Int) (l : List Am) : Int :=
 if (decide (20 < l.length) || l.any fun a=>decide (10 < a.beds.length)) = true then 5
 else if (l.isEmpty || !(decide (1 ≤ d) && decide (d ≤ 3000))) = true then 2
 else if l.all (aimOk d) = true then 0 else 2
def WfL (d : Int) (l : List Am) : Prop:=I64 d ∧ ∀ a ∈ l,WfA a
theorem check_ok (d : Int) (l : List Am) (hw : WfL d l) : ACalls Try.prog 37 [lawV d l] (i64 (checkV d l)):=by
 refine acalls_stR (rs:=[i64 (checkV d l)]) [.cell 2 32] Try.func37 rfl (by kernel_rfl) Try.ntmps37 rfl (by simp) rfl fun C hC vs=>?_
 repeat refine zq ?_
 refine zb fun K hK=>?_;simp only [go_sem];(try simp (disch:=omega) only [zI]);repeat first | intro _ | refine ⟨by omega,?_⟩
 refine hK _ ?_;clear hK K;refine zw (zk [1,2]) ?_;simp only [go_sem]
 repeat refine zq ?_
 refine zb fun K hK=>?_;simp only [go_sem];(try simp (disch:=omega) only [zI])
 intro hl8
 refine ⟨fun h1=>?_,fun h1=>?_⟩
 rotate_left
 · repeat first | intro _ | refine ⟨by omega,?_⟩
   refine hK _ ?_;clear hK K
   repeat refine zq ?_
   refine zc rfl (fun hc=>?_) (fun hc=>?_) <;> (try simp only [go_sem] at hc)
   repeat refine zq ?_
   refine zb fun K hK=>?_;simp only [go_sem];(try simp (disch:=omega) only [zI]);repeat first | intro _ | refine ⟨by omega,?_⟩
   refine hK _ ?_;clear hK K;refine ze ?_;simp only [go_sem]
   have h1' : 20 < l.length:=by omega
   simp [checkV,h1']
 have h1' : ¬ 20 < l.length:=by omega
 refine zh (containsA_ok (fun a=>decide (10 < a.beds.length)) 64 [] l fun x _=>check1_ok x) rfl (by simp only [go_sem,i64,ints]) (by simp only [go_sem,i64,ints]) (by first | exact .inl rfl | exact .inr rfl) ?_
 (try simp only [go_sem]);(try simp (disch:=omega) only [zI]);repeat first | intro _ | refine ⟨by omega,?_⟩
 refine hK _ ?_;clear hK K;refine zw (zk [1,2,13]) ?_;simp only [go_sem]
 cases h2 : l.any fun a=>decide (10 < a.beds.length)
 case true =>
  repeat refine zq ?_
  refine zc rfl (fun hc=>?_) (fun hc=>?_) <;> (try simp only [go_sem] at hc)
  repeat refine zq ?_
  refine zb fun K hK=>?_;simp only [go_sem];(try simp (disch:=omega) only [zI]);repeat first | intro _ | refine ⟨by omega,?_⟩
  refine hK _ ?_;clear hK K;refine ze ?_;simp only [go_sem]
  simp [checkV,h2]
 have hlen : ∀ a ∈ l,a.beds.length ≤ 10:=fun a ha=>by
  have:=List.any_eq_false.1 h2 a ha
  simpa using this
 repeat refine zq ?_
 refine zc rfl (fun hc=>?_) (fun hc=>?_) <;> (try simp only [go_sem] at hc)
 refine zx ?_
 try simp only [go_sem]
 repeat refine zq ?_
 refine zb fun K hK=>?_;simp only [go_sem];(try simp (disch:=omega) only [zI])
 intro _
 have h12 : (decide (20 < l.length) || l.any fun a=>decide (10 < a.beds.length)) = false:=by simp only [h2,Bool.or_false]; simpa using h1'
 have hV : checkV d l = if (l.isEmpty || !(decide (1 ≤ d) && decide (d ≤ 3000))) = true then 2 else if l.all (aimOk d) = true then 0 else 2:=by
  unfold checkV
  rw [h12]
  rfl
 refine ⟨fun h3=>?_,fun h3=>?_⟩
 rotate_left
 · have h4 : l = []:=List.length_eq_zero_iff.1 (by omega)
   repeat first | intro _ | refine ⟨by omega,?_⟩
   refine hK _ ?_;clear hK K
   repeat refine zq ?_
   refine zc rfl (fun hc=>?_) (fun hc=>?_) <;> (try simp only [go_sem] at hc)
   repeat refine zq ?_
   refine zb fun K hK=>?_;simp only [go_sem];(try simp (disch:=omega) only [zI]);repeat first | intro _ | refine ⟨by omega,?_⟩
   refine hK _ ?_;clear hK K;refine ze ?_;simp only [go_sem];rw [hV,h4]
   rfl
 have h4 : l.isEmpty = false:=by
  cases l with
  | nil=>simp at h3
  | cons=>rfl
 rw [h4,Bool.false_or] at hV
 refine zh (within_ok 1 3000 [d]) rfl (by simp only [go_sem,i64,ints]) (by simp only [go_sem,i64,ints]) (by first | exact .inl rfl | exact .inr rfl) ?_
 (try simp only [go_sem]);(try simp (disch:=omega) only [zI]);repeat first | intro _ | refine ⟨by omega,?_⟩
 refine hK _ ?_;clear hK K;refine zw (zk [1,2,24]) ?_;simp only [go_sem]
 have hwd : withinL 1 3000 [d] = (decide (1 ≤ d) && decide (d ≤ 3000)):=by simp [withinL]
 rw [hwd]
 cases h5 : (decide (1 ≤ d) && decide (d ≤ 3000))
 · repeat refine zq ?_
   refine zc rfl (fun hc=>?_) (fun hc=>?_) <;> (try simp only [go_sem] at hc)
   repeat refine zq ?_
   refine zb fun K hK=>?_;simp only [go_sem];(try simp (disch:=omega) only [zI]);repeat first | intro _ | refine ⟨by omega,?_⟩
   refine hK _ ?_;clear hK K;refine ze ?_;simp only [go_sem];rw [hV,h5]
   rfl
 rw [h5] at hV
 have hd : d ≤ 6000:=by simp at h5; omega
 repeat refine zq ?_
 refine zc rfl (fun hc=>?_) (fun hc=>?_) <;> (try simp only [go_sem] at hc)
 refine zx ?_
 try simp only [go_sem]
 repeat refine zq ?_
 refine zb fun K hK=>?_;simp only [go_sem];(try simp (disch:=omega) only [zI])
 refine zh (all_ok d l) rfl (by simp only [go_sem,i64,ints]) (by simp only [go_sem,i64,ints]) (by first | exact .inl rfl | exact .inr rfl) ?_
 (try simp only [go_sem]);(try simp (disch:=omega) only [zI]);repeat first | intro _ | refine ⟨by omega,?_⟩
 refine hK _ ?_;clear hK K;refine zw (zk [2,26]) ?_;simp only [go_sem]
 repeat refine zq ?_
 refine zd ?_
 refine awp_rangeF hC (enumA d l) (all1_ok d l) [2,26] (by decide) (fun vs=>[(2,.pt 2 (vs 2) 0),(26,.r (.fn 83 [.rp [i64 d,aimsR l]]))]) (fun i vs=>[(2,.box [.r (i64 0)])])
  (fun i=>(l.take i).all (aimOk d) = true) (zj [1] ?_ ?_) (by simp) (fun _=>rfl) (fun _=>rfl) (fun _ _=>rfl) (by simp) (fun e he=>enumA_len he) ?_ ?_
 · try simp only [go_sem]
 · try simp only [go_sem]
 · intro i e vs us C he hI
   obtain ⟨x,hx,rfl⟩:=enumA_get he
   repeat refine zq ?_
   refine zb fun K hK=>?_;simp only [go_sem];(try simp (disch:=omega) only [zI]);repeat first | intro _ | refine ⟨by omega,?_⟩
   refine hK _ ?_;clear hK K
   refine ⟨rfl,fun C'=>?_⟩
   refine zw (zk [2,4,26]) ?_;simp only [go_sem]
   repeat refine zq ?_
   refine zd ?_
   repeat refine zq ?_
   refine zb fun K hK=>?_;simp only [go_sem];(try simp (disch:=omega) only [zI])
   refine zh (isValid_ok x d (hw.2 x (mem_of_opt hx)) hd (by have:=hlen x (mem_of_opt hx); omega)) rfl (by simp only [go_sem,i64,ints]) (by simp only [go_sem,i64,ints]) (by first | exact .inl rfl | exact .inr rfl) ?_
   (try simp only [go_sem]);(try simp (disch:=omega) only [zI]);repeat first | intro _ | refine ⟨by omega,?_⟩
   refine hK _ ?_;clear hK K;refine zw (zk [2,26,31]) ?_;simp only [go_sem]
   cases h6 : aimOk d x
   · repeat refine zq ?_
     refine zc rfl (fun hc=>?_) (fun hc=>?_) <;> (try simp only [go_sem] at hc)
     repeat refine zq ?_
     refine zb fun K hK=>?_;simp only [go_sem];(try simp (disch:=omega) only [zI]);repeat first | intro _ | refine ⟨by omega,?_⟩
     refine hK _ ?_;clear hK K;refine ze ?_;simp only [go_sem]
     refine rf_ret (by simp only [go_sem]; rfl) ?_
     try simp only [go_sem]
     rw [hV]
     have : l.all (aimOk d) = false:=List.all_eq_false.2 ⟨x,mem_of_opt hx,by simp [h6]⟩
     rw [this]
     rfl
   · repeat refine zq ?_
     refine zc rfl (fun hc=>?_) (fun hc=>?_) <;> (try simp only [go_sem] at hc)
     refine zx ?_
     try simp only [go_sem]
     refine ⟨?_,zj (F:=fun _=>[]) [4] (by try simp only [go_sem]) (by try simp only [go_sem])⟩
     rw [take_of_opt hx]; simp [hI,h6]
 · intro vs us hI
   try simp only [go_sem]
   refine zw (sub_wake rfl) ?_
   repeat refine zq ?_
   refine zb fun K hK=>?_;simp only [go_sem];(try simp (disch:=omega) only [zI]);repeat first | intro _ | refine ⟨by omega,?_⟩
   refine hK _ ?_;clear hK K;refine ze ?_;simp only [go_sem];rw [hV]
   have : (enumA d l).length = l.length:=by simp [enumA]
   rw [this,List.take_length] at hI
   rw [hI]
   rfl
abbrev Sp:=Int × Int
def spanR (x : Int × Int) : List RV:=[i64 x.1,i64 x.2]
abbrev spanV (x : Int × Int) : RV:=.ag [i64 x.1,i64 x.2]
abbrev spansR (l : List (Int × Int)) : RV:=.sl 2 (l.map spanR)
structure Ru where
 d : Int
 aims : List Am
 start : Int
 out : Int
 ends : List (Int × Int)
abbrev ruC (r : Ru) : List RV:=[i64 r.d,aimsR r.aims,i64 r.start,i64 r.out,spansR r.ends]
abbrev ruV (r : Ru) : RV:=.ag (ruC r)
theorem indexS_ok (p : (Int × Int) → Bool) (f : Nat) (caps : List RV) (l : List (Int × Int)) (h : ∀ x ∈ l,ACalls Try.prog f (spanV x :: caps) (.bo (p x))) : ACalls Try.prog 70 [spansR l,.fn f caps] (i64 (indexF p l)):=by
 refine acalls_st (rs:=[i64 (indexF p l)]) [.tmp 4] Try.func70 rfl (by kernel_rfl) Try.ntmps70 rfl (by simp) rfl fun C vs=>?_
 repeat refine zq ?_
 refine zb fun K hK=>?_;simp only [go_sem];(try simp (disch:=omega) only [zI]);repeat first | intro _ | refine ⟨by omega,?_⟩
 refine hK _ ?_;clear hK K
 repeat refine zq ?_
 refine zb fun K hK=>?_;simp only [go_sem];(try simp (disch:=omega) only [zI])
 intro hl
 repeat first | intro _ | refine ⟨by omega,?_⟩
 refine hK _ ?_;clear hK K
 repeat refine zq ?_
 refine zd ?_
 refine awp_upto (n:=19) l.length (fun i vs=>[(0,.r (spansR l)),(1,.r (.fn f caps)),(7,.r (i64 l.length)),(8,.r (i64 i))]) (fun _=>[])
  (fun i=>indexF p l = if indexF p (l.drop i) < 0 then -1 else i + indexF p (l.drop i)) 0 (fit_of [] ?_ rfl) (Nat.zero_le _) ?_ ?_
 · try simp only [go_sem]
 · simp only [List.drop_zero]
   have:=indexF_ge p l
   split
   · omega
   · simp
 · intro i vs hi hI
   repeat refine zq ?_
   refine zb fun K hK=>?_;simp only [go_sem];(try simp (disch:=omega) only [zI]);repeat first | intro _ | refine ⟨by omega,?_⟩
   refine hK _ ?_;clear hK K
   repeat refine zq ?_
   refine zc rfl (fun hc=>?_) (fun hc=>?_) <;> (try simp only [go_sem] at hc)
   · obtain ⟨x,hx⟩:=opt_of_lt hc
     rw [drop_of_opt hx] at hI
     refine zx ?_
     repeat refine zq ?_
     refine zd ?_
     repeat refine zq ?_
     refine zb fun K hK=>?_;simp only [go_sem];(try simp (disch:=omega) only [zI]);repeat first | intro _ | refine ⟨by omega,?_⟩
     refine hK _ ?_;clear hK K
     repeat refine zq ?_
     refine zb fun K hK=>?_;simp only [go_sem,hx,hc,spanR];(try simp (disch:=omega) only [zI])
     refine zh (h x (mem_of_opt hx)) rfl (by simp only [go_sem,i64,ints]) (by simp only [go_sem,i64,ints]) (by first | exact .inl rfl | exact .inr rfl) ?_
     (try simp only [go_sem]);(try simp (disch:=omega) only [zI]);repeat first | intro _ | refine ⟨by omega,?_⟩
     refine hK _ ?_;clear hK K
     repeat refine zq ?_
     refine zc rfl (fun hc=>?_) (fun hc=>?_) <;> (try simp only [go_sem] at hc)
     · repeat refine zq ?_
       refine zb fun K hK=>?_;simp only [go_sem];(try simp (disch:=omega) only [zI]);repeat first | intro _ | refine ⟨by omega,?_⟩
       refine hK _ ?_;clear hK K;refine ze ?_;simp only [go_sem]
       simp [hI,indexF,hc]
     · refine zx ?_
       try simp only [go_sem]
       repeat refine zq ?_
       refine zb fun K hK=>?_;simp only [go_sem];(try simp (disch:=omega) only [zI]);repeat first | intro _ | refine ⟨by omega,?_⟩
       refine hK _ ?_;clear hK K
       try simp only [go_sem]
       refine ⟨‹_›,?_,fit_of [] ?_ rfl⟩
       · rw [hI]
         simp only [indexF,hc,Bool.false_eq_true,if_false]
         have:=indexF_ge p (l.drop (i + 1))
         (repeat' split) <;> omega
       · try simp only [go_sem]
   · refine zf ?_;simp only [go_sem]
     repeat refine zq ?_
     refine zb fun K hK=>?_;simp only [go_sem];(try simp (disch:=omega) only [zI]);repeat first | intro _ | refine ⟨by omega,?_⟩
     refine hK _ ?_;clear hK K;refine ze ?_;simp only [go_sem]
     have : l.drop i = []:=List.drop_eq_nil_of_le (by omega)
     simp [hI,this,indexF]
theorem containsS_ok (p : (Int × Int) → Bool) (f : Nat) (caps : List RV) (l : List (Int × Int)) (h : ∀ x ∈ l,ACalls Try.prog f (spanV x :: caps) (.bo (p x))) : ACalls Try.prog 41 [spansR l,.fn f caps] (.bo (l.any p)):=by
 refine acalls_st (rs:=[.bo (l.any p)]) [.tmp 4] Try.func41 rfl (by kernel_rfl) Try.ntmps41 rfl (by simp) rfl fun C vs=>?_
 repeat refine zq ?_
 refine zb fun K hK=>?_;simp only [go_sem];(try simp (disch:=omega) only [zI]);repeat first | intro _ | refine ⟨by omega,?_⟩
 refine hK _ ?_;clear hK K
 repeat refine zq ?_
 refine zb fun K hK=>?_;simp only [go_sem];(try simp (disch:=omega) only [zI])
 refine zh (indexS_ok p f caps l h) rfl (by simp only [go_sem,i64,ints]) (by simp only [go_sem,i64,ints]) (by first | exact .inl rfl | exact .inr rfl) ?_
 (try simp only [go_sem]);(try simp (disch:=omega) only [zI]);repeat first | intro _ | refine ⟨by omega,?_⟩
 refine hK _ ?_;clear hK K;refine ze ?_;simp only [go_sem];rw [← indexF_any]
theorem dwithin1_ok (n a b : Int) : ACalls Try.prog 69 [i64 n,.rp [i64 a],.rp [i64 b]] (.bo (decide (n < a) || decide (b < n))):=by
 refine acalls_st (rs:=[.bo (decide (n < a) || decide (b < n))]) [.tmp 4] Try.func69 rfl (by kernel_rfl) Try.ntmps69 rfl (by simp) rfl fun C vs=>?_
 repeat refine zq ?_
 refine zb fun K hK=>?_;simp only [go_sem];(try simp (disch:=omega) only [zI]);repeat first | intro _ | refine ⟨by omega,?_⟩
 refine hK _ ?_;clear hK K
 repeat refine zq ?_
 refine zb fun K hK=>?_;simp only [go_sem];(try simp (disch:=omega) only [zI])
 refine ⟨fun h=>?_,fun h=>?_⟩ <;>
 · repeat first | intro _ | refine ⟨by omega,?_⟩
   refine hK _ ?_;clear hK K;refine ze ?_;simp only [go_sem]
   try simp [h]
theorem dwithin_ok (a b : Int) (l : List Int) : ACalls Try.prog 40 [i64 a,i64 b,ints l] (.bo (withinL a b l)):=by
 refine acalls_st (rs:=[.bo (withinL a b l)]) [.tmp 6] Try.func40 rfl (by kernel_rfl) Try.ntmps40 rfl (by simp) rfl fun C vs=>?_
 repeat refine zq ?_
 refine zb fun K hK=>?_;simp only [go_sem];(try simp (disch:=omega) only [zI]);repeat first | intro _ | refine ⟨by omega,?_⟩
 refine hK _ ?_;clear hK K
 repeat refine zq ?_
 refine zb fun K hK=>?_;simp only [go_sem];(try simp (disch:=omega) only [zI])
 refine zh (contains_ok (fun n=>decide (n < a) || decide (b < n)) 69 [.rp [i64 a],.rp [i64 b]] l fun x _=>dwithin1_ok x a b) rfl (by simp only [go_sem,i64,ints]) (by simp only [go_sem,i64,ints]) (by first | exact .inl rfl | exact .inr rfl) ?_
 (try simp only [go_sem]);(try simp (disch:=omega) only [zI]);repeat first | intro _ | refine ⟨by omega,?_⟩
 refine hK _ ?_;clear hK K;refine ze ?_;simp only [go_sem];rw [← withinL_not]
def endOk (x : Int × Int) : Bool:=decide (x.1 ≤ x.2) && withinL 0 1000000 [x.1,x.2]
theorem isEnd_ok (x : Int × Int) : ACalls Try.prog 39 [spanV x] (.bo (endOk x)):=by
 refine acalls_st (rs:=[.bo (endOk x)]) [.tmp 2] Try.func39 rfl (by kernel_rfl) Try.ntmps39 rfl (by simp) rfl fun C vs=>?_
 repeat refine zq ?_
 refine zb fun K hK=>?_;simp only [go_sem];(try simp (disch:=omega) only [zI]);repeat first | intro _ | refine ⟨by omega,?_⟩
 refine hK _ ?_;clear hK K;refine zw (sub_frzP 1 1 [i64 x.1,i64 x.2] (by omega) rfl rfl) ?_;refine zw (zk [1]) ?_;simp only [go_sem]
 by_cases h : x.1 ≤ x.2
 · have c : decide (x.1 ≤ x.2) = true:=by simpa using h
   repeat refine zq ?_
   refine zb fun K hK=>?_;simp only [go_sem,c];(try simp (disch:=omega) only [zI])
   refine zh (dwithin_ok 0 1000000 [x.1,x.2]) rfl (by simp only [go_sem,i64,ints]) (by simp only [go_sem,i64,ints]) (by first | exact .inl rfl | exact .inr rfl) ?_
   (try simp only [go_sem]);(try simp (disch:=omega) only [zI]);repeat first | intro _ | refine ⟨by omega,?_⟩
   refine hK _ ?_;clear hK K;refine zw (zk [2]) ?_;simp only [go_sem];refine ze ?_;simp only [go_sem]
   simp [endOk,h]
 · have c : decide (x.1 ≤ x.2) = false:=by simpa using h
   repeat refine zq ?_
   refine zb fun K hK=>?_;simp only [go_sem,c];(try simp (disch:=omega) only [zI]);repeat first | intro _ | refine ⟨by omega,?_⟩
   refine hK _ ?_;clear hK K;refine zw (zk [2]) ?_;simp only [go_sem];refine ze ?_;simp only [go_sem]
   simp [endOk,h]
theorem bad_ok (x : Int × Int) : ACalls Try.prog 38 [spanV x] (.bo (!endOk x)):=by
 refine acalls_st (rs:=[.bo (!endOk x)]) [.tmp 2] Try.func38 rfl (by kernel_rfl) Try.ntmps38 rfl (by simp) rfl fun C vs=>?_
 repeat refine zq ?_
 refine zb fun K hK=>?_;simp only [go_sem];(try simp (disch:=omega) only [zI]);repeat first | intro _ | refine ⟨by omega,?_⟩
 refine hK _ ?_;clear hK K;refine zw (sub_frzP 1 1 [i64 x.1,i64 x.2] (by omega) rfl rfl) ?_;refine zw (zk [1]) ?_;simp only [go_sem]
 repeat refine zq ?_
 refine zb fun K hK=>?_;simp only [go_sem];(try simp (disch:=omega) only [zI])
 refine zh (isEnd_ok x) rfl (by simp only [go_sem,i64,ints]) (by simp only [go_sem,i64,ints]) (by first | exact .inl rfl | exact .inr rfl) ?_
 (try simp only [go_sem]);(try simp (disch:=omega) only [zI]);repeat first | intro _ | refine ⟨by omega,?_⟩
 refine hK _ ?_;clear hK K;refine zw (zk [2]) ?_;simp only [go_sem];refine ze ?_;simp only [go_sem]
def lowestR (r : Ru) : Int:=if r.out = 0 then 1 else 2
def lastE (r : Ru) : Int:=(r.ends.getD (r.ends.length - 1) (0,0)).1
def ruE (r : Ru) : Int :=
 if checkV r.d r.aims ≠ 0 then checkV r.d r.aims
 else if (decide (2 ≤ r.start) && decide (r.start ≤ 40) && decide (0 ≤ r.out) && decide (r.out ≤ 2) && decide (1 ≤ r.ends.length) && decide (r.ends.length ≤ 10) && r.ends.all endOk && decide (lastE r = 1000000)) = true then 0 else 2
theorem within1L (a b n : Int) : withinL a b [n] = (decide (a ≤ n) && decide (n ≤ b)):=by simp [withinL]
structure WfR (r : Ru) : Prop where
 law : WfL r.d r.aims
theorem dcheck_ok (r : Ru) (hw : WfR r) : ACalls Try.prog 15 [ruV r] (i64 (ruE r)):=by
 have hc:=check_ok r.d r.aims hw.law
 refine acalls_st (rs:=[i64 (ruE r)]) [.tmp 2] Try.func15 rfl (by kernel_rfl) Try.ntmps15 rfl (by simp) rfl fun C vs=>?_
 repeat refine zq ?_
 refine zb fun K hK=>?_;simp only [go_sem];(try simp (disch:=omega) only [zI]);repeat first | intro _ | refine ⟨by omega,?_⟩
 refine hK _ ?_;clear hK K;refine zw (sub_frzP 1 1 (ruC r) (by omega) rfl rfl) ?_;refine zw (zk [1]) ?_;simp only [go_sem]
 repeat refine zq ?_
 refine zb fun K hK=>?_;simp only [go_sem];(try simp (disch:=omega) only [zI])
 refine zh (hc) rfl (by simp only [go_sem,i64,ints]) (by simp only [go_sem,i64,ints]) (by first | exact .inl rfl | exact .inr rfl) ?_
 (try simp only [go_sem]);(try simp (disch:=omega) only [zI]);repeat first | intro _ | refine ⟨by omega,?_⟩
 refine hK _ ?_;clear hK K;refine zw (zk [1,3]) ?_;simp only [go_sem]
 by_cases h0 : checkV r.d r.aims = 0
 rotate_left
 · have c : (checkV r.d r.aims != 0) = true:=by simpa using h0
   have e : ruE r = checkV r.d r.aims:=by simp [ruE,h0]
   repeat refine zq ?_
   refine zb fun K hK=>?_;simp only [go_sem,c];(try simp (disch:=omega) only [zI]);repeat first | intro _ | refine ⟨by omega,?_⟩
   refine hK _ ?_;clear hK K;refine zw (zk [1,3,9]) ?_;simp only [go_sem]
   repeat refine zq ?_
   refine zc rfl (fun hc=>?_) (fun hc=>?_) <;> (try simp only [go_sem] at hc)
   repeat refine zq ?_
   refine zb fun K hK=>?_;simp only [go_sem];(try simp (disch:=omega) only [zI]);repeat first | intro _ | refine ⟨by omega,?_⟩
   refine hK _ ?_;clear hK K;refine zw (zk [2]) ?_;simp only [go_sem];refine ze ?_;simp only [go_sem];rw [e]
 rw [h0]
 repeat refine zq ?_
 refine zb fun K hK=>?_;simp only [go_sem,bne_self_eq_false];(try simp (disch:=omega) only [zI]);repeat first | intro _ | refine ⟨by omega,?_⟩
 refine hK _ ?_;clear hK K;refine zw (zk [1,3,9]) ?_;simp only [go_sem]
 repeat refine zq ?_
 refine zc rfl (fun hc=>?_) (fun hc=>?_) <;> (try simp only [go_sem] at hc)
 refine zx ?_
 try simp only [go_sem]
 repeat refine zq ?_
 refine zb fun K hK=>?_;simp only [go_sem];(try simp (disch:=omega) only [zI]);repeat first | intro _ | refine ⟨by omega,?_⟩
 refine hK _ ?_;clear hK K;refine zw (zk [1,4]) ?_;simp only [go_sem]
 repeat refine zq ?_
 refine awp_join (n:=49) (fun (b : Bool) vs=>[(48,.r (.bo b))]) (fun _=>[]) (fun b=>ruE r = if b then 2 else 0) (fun _ h=>h) ?_ ?_
 · have w1:=dwithin_ok 2 40 [r.start]
   have w2:=dwithin_ok 0 2 [r.out]
   have w3:=dwithin_ok 1 10 [(r.ends.length : Int)]
   have w4:=containsS_ok (fun x=>!endOk x) 38 [] r.ends fun x _=>bad_ok x
   rw [within1L] at w1 w2 w3
   cases b1 : (decide (2 ≤ r.start) && decide (r.start ≤ 40))
   · rw [b1] at w1
     repeat refine zq ?_
     refine zb fun K hK=>?_;simp only [go_sem];(try simp (disch:=omega) only [zI])
     refine zh (w1) rfl (by simp only [go_sem,i64,ints]) (by simp only [go_sem,i64,ints]) (by first | exact .inl rfl | exact .inr rfl) ?_
     (try simp only [go_sem]);(try simp (disch:=omega) only [zI]);repeat first | intro _ | refine ⟨by omega,?_⟩
     refine hK _ ?_;clear hK K
     try simp only [go_sem]
     exact ⟨true,by simp [ruE,h0,b1],fit_of [] (by try simp only [go_sem]) (by try simp only [go_sem])⟩
   rw [b1] at w1
   cases b2 : (decide (0 ≤ r.out) && decide (r.out ≤ 2))
   · rw [b2] at w2
     repeat refine zq ?_
     refine zb fun K hK=>?_;simp only [go_sem];(try simp (disch:=omega) only [zI])
     refine zh (w1) rfl (by simp only [go_sem,i64,ints]) (by simp only [go_sem,i64,ints]) (by first | exact .inl rfl | exact .inr rfl) ?_
     (try simp only [go_sem]);(try simp (disch:=omega) only [zI])
     try simp only [go_sem]
     refine zh (w2) rfl (by simp only [go_sem,i64,ints]) (by simp only [go_sem,i64,ints]) (by first | exact .inl rfl | exact .inr rfl) ?_
     (try simp only [go_sem]);(try simp (disch:=omega) only [zI]);repeat first | intro _ | refine ⟨by omega,?_⟩
     refine hK _ ?_;clear hK K
     try simp only [go_sem]
     exact ⟨true,by simp only [ruE,h0]; simp_all; omega,fit_of [] (by try simp only [go_sem]) (by try simp only [go_sem])⟩
   rw [b2] at w2
   cases b3 : (decide (1 ≤ (r.ends.length : Int)) && decide ((r.ends.length : Int) ≤ 10))
   · rw [b3] at w3
     repeat refine zq ?_
     refine zb fun K hK=>?_;simp only [go_sem];(try simp (disch:=omega) only [zI])
     refine zh (w1) rfl (by simp only [go_sem,i64,ints]) (by simp only [go_sem,i64,ints]) (by first | exact .inl rfl | exact .inr rfl) ?_
     (try simp only [go_sem]);(try simp (disch:=omega) only [zI])
     try simp only [go_sem]
     refine zh (w2) rfl (by simp only [go_sem,i64,ints]) (by simp only [go_sem,i64,ints]) (by first | exact .inl rfl | exact .inr rfl) ?_
     (try simp only [go_sem]);(try simp (disch:=omega) only [zI])
     try simp only [go_sem]
     intros
     refine zh (w3) rfl (by simp only [go_sem,i64,ints]) (by simp only [go_sem,i64,ints]) (by first | exact .inl rfl | exact .inr rfl) ?_
     (try simp only [go_sem]);(try simp (disch:=omega) only [zI]);repeat first | intro _ | refine ⟨by omega,?_⟩
     refine hK _ ?_;clear hK K
     try simp only [go_sem]
     exact ⟨true,by simp only [ruE,h0]; simp_all; omega,fit_of [] (by try simp only [go_sem]) (by try simp only [go_sem])⟩
   rw [b3] at w3
   cases b4 : (r.ends.any fun x=>!endOk x)
   rotate_left
   · rw [b4] at w4
     have e4 : r.ends.all endOk = false:=by
      rw [List.any_eq_true] at b4
      obtain ⟨x,hx,h⟩:=b4
      exact Bool.eq_false_iff.2 fun h2=>by
       have:=List.all_eq_true.1 h2 x hx
       rw [this] at h; cases h
     repeat refine zq ?_
     refine zb fun K hK=>?_;simp only [go_sem];(try simp (disch:=omega) only [zI])
     refine zh (w1) rfl (by simp only [go_sem,i64,ints]) (by simp only [go_sem,i64,ints]) (by first | exact .inl rfl | exact .inr rfl) ?_
     (try simp only [go_sem]);(try simp (disch:=omega) only [zI])
     try simp only [go_sem]
     refine zh (w2) rfl (by simp only [go_sem,i64,ints]) (by simp only [go_sem,i64,ints]) (by first | exact .inl rfl | exact .inr rfl) ?_
     (try simp only [go_sem]);(try simp (disch:=omega) only [zI])
     try simp only [go_sem]
     intros
     refine zh (w3) rfl (by simp only [go_sem,i64,ints]) (by simp only [go_sem,i64,ints]) (by first | exact .inl rfl | exact .inr rfl) ?_
     (try simp only [go_sem]);(try simp (disch:=omega) only [zI])
     try simp only [go_sem]
     refine zh (w4) rfl (by simp only [go_sem,i64,ints]) (by simp only [go_sem,i64,ints]) (by first | exact .inl rfl | exact .inr rfl) ?_
     (try simp only [go_sem]);(try simp (disch:=omega) only [zI]);repeat first | intro _ | refine ⟨by omega,?_⟩
     refine hK _ ?_;clear hK K
     try simp only [go_sem]
     exact ⟨true,by simp [ruE,h0,e4],fit_of [] (by try simp only [go_sem]) (by try simp only [go_sem])⟩
   rw [b4] at w4
   have e4 : r.ends.all endOk = true:=by
    rw [List.all_eq_true]
    intro x hx
    have:=List.any_eq_false.1 b4 x hx
    simpa using this
   have hpos : 1 ≤ r.ends.length:=by
    simp only [Bool.and_eq_true,decide_eq_true_eq] at b3; omega
   have h10 : r.ends.length ≤ 10:=by
    simp only [Bool.and_eq_true,decide_eq_true_eq] at b3; omega
   obtain ⟨x,hx⟩:=opt_of_lt (l:=r.ends) (i:=r.ends.length - 1) (by omega)
   have hl : lastE r = x.1:=by simp [lastE,List.getD_eq_getElem?_getD,hx]
   have hsb : IntKind.i64.wrap ((r.ends.length : Int) - 1) = ((r.ends.length - 1 : Nat) : Int):=by rw [zI] <;> omega
   have hlt : r.ends.length - 1 < r.ends.length:=by omega
   repeat refine zq ?_
   refine zb fun K hK=>?_;simp only [go_sem];(try simp (disch:=omega) only [zI])
   refine zh (w1) rfl (by simp only [go_sem,i64,ints]) (by simp only [go_sem,i64,ints]) (by first | exact .inl rfl | exact .inr rfl) ?_
   (try simp only [go_sem]);(try simp (disch:=omega) only [zI])
   try simp only [go_sem]
   refine zh (w2) rfl (by simp only [go_sem,i64,ints]) (by simp only [go_sem,i64,ints]) (by first | exact .inl rfl | exact .inr rfl) ?_
   (try simp only [go_sem]);(try simp (disch:=omega) only [zI])
   try simp only [go_sem]
   intros
   refine zh (w3) rfl (by simp only [go_sem,i64,ints]) (by simp only [go_sem,i64,ints]) (by first | exact .inl rfl | exact .inr rfl) ?_
   (try simp only [go_sem]);(try simp (disch:=omega) only [zI])
   try simp only [go_sem]
   refine zh (w4) rfl (by simp only [go_sem,i64,ints,hsb,hx,hlt,spanR]) (by simp only [go_sem,i64,ints,hsb,hx,hlt,spanR]) (by first | exact .inl rfl | exact .inr rfl) ?_
   (try simp only [go_sem,hsb,hx,hlt,spanR]);(try simp (disch:=omega) only [zI])
   intros
   repeat first | intro _ | refine ⟨by omega,?_⟩
   refine hK _ ?_;clear hK K
   try simp only [go_sem]
   refine ⟨x.1 != 1000000,?_,fit_of [] (by try simp only [go_sem]) (by try simp only [go_sem])⟩
   have b3' : (decide (1 ≤ r.ends.length) && decide (r.ends.length ≤ 10)) = true:=by simp; omega
   simp only [Bool.and_eq_true,decide_eq_true_eq] at b1 b2
   unfold ruE
   rw [if_neg (by simp [h0]),hl,e4]
   by_cases q : x.1 = 1000000
   · simp [q,b1,b2,hpos,h10]
   · simp [q]
 intro b vs hb
 cases b
 · repeat refine zq ?_
   refine zc rfl (fun hc=>?_) (fun hc=>?_) <;> (try simp only [go_sem] at hc)
   refine zx ?_
   try simp only [go_sem]
   repeat refine zq ?_
   refine zb fun K hK=>?_;simp only [go_sem];(try simp (disch:=omega) only [zI]);repeat first | intro _ | refine ⟨by omega,?_⟩
   refine hK _ ?_;clear hK K;refine zw (zk [2]) ?_;simp only [go_sem];refine ze ?_;simp only [go_sem]
   rw [hb]; rfl
 · repeat refine zq ?_
   refine zc rfl (fun hc=>?_) (fun hc=>?_) <;> (try simp only [go_sem] at hc)
   repeat refine zq ?_
   refine zb fun K hK=>?_;simp only [go_sem];(try simp (disch:=omega) only [zI]);repeat first | intro _ | refine ⟨by omega,?_⟩
   refine hK _ ?_;clear hK K;refine zw (zk [2]) ?_;simp only [go_sem];refine ze ?_;simp only [go_sem]
   rw [hb]; rfl
def inB (n a b : Int) : Bool:=decide (a ≤ n) && decide (n ≤ b)
def stepOk (d : Int) (p : Option Int) (x : Bd) : Bool:=(decide (x.b = 0) || bedOk x.b) && (match p with | none=>true | some q=>decide (q < x.b)) && (decide (0 ≤ x.lo) && decide (x.lo ≤ x.hi) && decide (x.hi ≤ d))
def restOk (d : Int) (l : List Bd) (k : Nat) : Bool:=seqOk (prevB l k) (l.drop k) && chOk d (l.drop k)
set_option maxHeartbeats 4000000
theorem dlowest_ok (r : Ru) : ACalls Try.prog 54 [ruV r] (i64 (lowestR r)):=by
 refine acalls_st (rs:=[i64 (lowestR r)]) [.tmp 2] Try.func54 rfl (by kernel_rfl) Try.ntmps54 rfl (by simp) rfl fun C vs=>?_
 repeat refine zq ?_
 refine zb fun K hK=>?_;simp only [go_sem];(try simp (disch:=omega) only [zI]);repeat first | intro _ | refine ⟨by omega,?_⟩
 refine hK _ ?_;clear hK K;refine zw (sub_frzP 1 1 (ruC r) (by omega) rfl rfl) ?_;refine zw (zk [1]) ?_;simp only [go_sem]
 by_cases h : r.out = 0
 · have c : (r.out == 0) = true:=by simpa using h
   repeat refine zq ?_
   refine zb fun K hK=>?_;simp only [go_sem,c];(try simp (disch:=omega) only [zI]);repeat first | intro _ | refine ⟨by omega,?_⟩
   refine hK _ ?_;clear hK K;refine zw (zk [1,6]) ?_;simp only [go_sem]
   repeat refine zq ?_
   refine zc rfl (fun hc=>?_) (fun hc=>?_) <;> (try simp only [go_sem] at hc)
   repeat refine zq ?_
   refine zb fun K hK=>?_;simp only [go_sem];(try simp (disch:=omega) only [zI]);repeat first | intro _ | refine ⟨by omega,?_⟩
   refine hK _ ?_;clear hK K;refine zw (zk [2]) ?_;simp only [go_sem];refine ze ?_;simp only [go_sem]
   simp [lowestR,h]
 · have c : (r.out == 0) = false:=by simpa using h
   repeat refine zq ?_
   refine zb fun K hK=>?_;simp only [go_sem,c];(try simp (disch:=omega) only [zI]);repeat first | intro _ | refine ⟨by omega,?_⟩
   refine hK _ ?_;clear hK K;refine zw (zk [1,6]) ?_;simp only [go_sem]
   repeat refine zq ?_
   refine zc rfl (fun hc=>?_) (fun hc=>?_) <;> (try simp only [go_sem] at hc)
   refine zx ?_
   try simp only [go_sem]
   repeat refine zq ?_
   refine zb fun K hK=>?_;simp only [go_sem];(try simp (disch:=omega) only [zI]);repeat first | intro _ | refine ⟨by omega,?_⟩
   refine hK _ ?_;clear hK K;refine zw (zk [2]) ?_;simp only [go_sem];refine ze ?_;simp only [go_sem]
   simp [lowestR,h]
end Go.Proofs.Ytlbfkhikmigpbaa
