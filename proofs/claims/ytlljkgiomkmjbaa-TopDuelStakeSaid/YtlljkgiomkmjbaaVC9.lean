/- Part 9 of the texts of this claim. -/
import Derived.Test.YtlljkgiomkmjbaaVC8
namespace Go.Proofs.Ytlljkgiomkmjbaa.Tb
open Go Go.Oc
set_option linter.unusedVariables false
def ltS (m s : Int) (ws : List Int) (x y : Nat) : Bool:=decide (m * (ws[y]?).getD 0 % s - m * (ws[x]?).getD 0 % s < 0)
def bumpQ : List Int → List Nat → List Int
 | p,[]=>p
 | p,i :: is=>bumpQ (p.set i ((p[i]?).getD 0 + 1)) is
def partsS (m s : Int) (ws : List Int) : List Int:=ws.map fun w=>m * w / s
def shareL (m : Int) (ws : List Int) : List Int :=
 bumpQ (partsS m ws.sum ws) ((sortNQ (ltS m ws.sum ws) (List.range ws.length)).take (m - (partsS m ws.sum ws).sum).toNat)
theorem bump_snoc : ∀ (is : List Nat) (p : List Int) (i : Nat),bumpQ p (is ++ [i]) = (bumpQ p is).set i (((bumpQ p is)[i]?).getD 0 + 1)
 | [],_,_=>rfl
 | j :: is,p,i=>by simp only [List.cons_append,bumpQ]; exact bump_snoc is _ i
theorem bump_lenQ : ∀ (is : List Nat) (p : List Int),(bumpQ p is).length = p.length
 | [],_=>rfl
 | j :: is,p=>by simp only [bumpQ]; rw [bump_lenQ is]; simp
theorem parts_near {m s : Int} (hs : 0 < s) (hm : 0 ≤ m) : ∀ (ws : List Int),(∀ w ∈ ws,0 ≤ w) → s * (partsS m s ws).sum ≤ m * ws.sum ∧ m * ws.sum ≤ s * (partsS m s ws).sum + s * (ws.length : Int) ∧ 0 ≤ (partsS m s ws).sum
 | [],_=>by simp [partsS]
 | w :: ws, h => by
   obtain ⟨h1,h2,h3⟩:=parts_near hs hm ws fun x hx=>h x (by simp [hx])
   have e:=Int.emod_add_mul_ediv (m * w) s
   have r1:=Int.emod_nonneg (m * w) (show s ≠ 0 by omega)
   have r2:=Int.emod_lt_of_pos (m * w) hs
   have p1 : 0 ≤ m * w / s:=Int.ediv_nonneg (Int.mul_nonneg hm (h w (by simp))) (by omega)
   simp only [partsS,List.map_cons,List.sum_cons,List.length_cons,Int.natCast_add,Int.mul_add] at h1 h2 h3 ⊢
   omega
theorem parts_lack {m : Int} {ws : List Int} (hs : 0 < ws.sum) (hm : 0 ≤ m) (h : ∀ w ∈ ws,0 ≤ w) : 0 ≤ (partsS m ws.sum ws).sum ∧ (partsS m ws.sum ws).sum ≤ m ∧ m ≤ (partsS m ws.sum ws).sum + (ws.length : Int):=by
 obtain ⟨h1,h2,h3⟩:=parts_near hs hm ws h
 refine ⟨h3,?_,?_⟩
 · rw [Int.mul_comm m] at h1
   exact Int.le_of_mul_le_mul_left h1 hs
 · rw [Int.mul_comm m,← Int.mul_add] at h2
   exact Int.le_of_mul_le_mul_left h2 hs
theorem sort2 (lt : Nat → Nat → Bool) : sortNQ lt (List.range 2) = if lt 1 0 = true then [1,0] else [0,1]:=by
 have : List.range 2 = [0,1]:=rfl
 rw [this]
 simp only [sortNQ,sortBQ,insBQ]
 split <;> rfl
theorem share2 {m p q : Int} (hm : 0 ≤ m) (hp : 0 ≤ p) (hq : 0 ≤ q) (hs : 0 < p + q) :
 ∃ a b,shareL m [p,q] = [a,b] ∧ a + b = m ∧ (q < p → b ≤ a) ∧ (p < q → a ≤ b) ∧ (p = q → a - b = m % 2) ∧ (p = 0 → a = 0):=by
 have e1:=Int.emod_add_mul_ediv (m * p) (p + q)
 have e2:=Int.emod_add_mul_ediv (m * q) (p + q)
 have r1:=Int.emod_nonneg (m * p) (show p + q ≠ 0 by omega)
 have r2:=Int.emod_lt_of_pos (m * p) hs
 have r3:=Int.emod_nonneg (m * q) (show p + q ≠ 0 by omega)
 have r4:=Int.emod_lt_of_pos (m * q) hs
 have hsum : [p,q].sum = p + q:=by simp
 have hps : partsS m (p + q) [p,q] = [m * p / (p + q),m * q / (p + q)]:=rfl
 have hlt : ltS m (p + q) [p,q] 1 0 = decide (m * p % (p + q) - m * q % (p + q) < 0):=rfl
 have hlen : [p,q].length = 2:=rfl
 unfold shareL
 rw [hsum,hps,hlen,sort2,hlt]
 have hz : p = 0 → m * p / (p + q) = 0 ∧ m * p % (p + q) = 0:=fun h=>by subst h; simp
 have heq : p = q → m * p / (p + q) = m * q / (p + q) ∧ m * p % (p + q) = m * q % (p + q):=fun h=>by subst h; exact ⟨rfl,rfl⟩
 have hmd : m * (p + q) = m * p + m * q:=Int.mul_add _ _ _
 have hle : q ≤ p → m * q ≤ m * p:=fun h=>Int.mul_le_mul_of_nonneg_left h hm
 have hle' : p ≤ q → m * p ≤ m * q:=fun h=>Int.mul_le_mul_of_nonneg_left h hm
 have hd1 : q ≤ p → m * q / (p + q) ≤ m * p / (p + q):=fun h=>Int.ediv_le_ediv hs (hle h)
 have hd2 : p ≤ q → m * p / (p + q) ≤ m * q / (p + q):=fun h=>Int.ediv_le_ediv hs (hle' h)
 generalize hA : m * p / (p + q) = A at *
 generalize hB : m * q / (p + q) = B at *
 generalize hR : m * p % (p + q) = R at *
 generalize hS : m * q % (p + q) = S at *
 have hAB : [A,B].sum = A + B:=by simp
 rw [hAB]
 have key : (p + q) * (m - (A + B)) = R + S:=by
  rw [Int.mul_sub,Int.mul_add,Int.mul_comm (p + q) m]
  omega
 have hab0 : A = B → R - S = m * p - m * q:=fun h=>by subst h; omega
 have hd : m - (A + B) = 0 ∨ m - (A + B) = 1:=by
  by_cases h0 : m - (A + B) < 0
  · have:=Int.mul_le_mul_of_nonneg_left (show m - (A + B) ≤ -1 by omega) (show 0 ≤ p + q by omega)
    omega
  · by_cases h2 : 2 ≤ m - (A + B)
    · have:=Int.mul_le_mul_of_nonneg_left h2 (show 0 ≤ p + q by omega)
      omega
    · omega
 rcases hd with hd | hd
 · rw [hd]
   refine ⟨A,B,by simp [bumpQ],by omega,fun h=>hd1 (by omega),fun h=>hd2 (by omega),fun h=>?_,fun h=>(hz h).1⟩
   have:=(heq h).1
   omega
 · rw [hd]
   rw [hd] at key
   by_cases hc : R - S < 0
   · refine ⟨A,B + 1,by simp [hc,bumpQ],by omega,fun h=>?_,fun h=>?_,fun h=>?_,fun h=>(hz h).1⟩
     · have h1:=hd1 (by omega)
       have h2:=hle (by omega)
       by_cases e : A = B
       · have:=hab0 e; omega
       · omega
     · have:=hd2 (by omega); omega
     · have:=(heq h).2; omega
   · refine ⟨A + 1,B,by simp [hc,bumpQ],by omega,fun h=>?_,fun h=>?_,fun h=>?_,fun h=>?_⟩
     · have:=hd1 (by omega); omega
     · have h1:=hd2 (by omega)
       have h2:=hle' (by omega)
       by_cases e : A = B
       · have h3:=hab0 e
         have h4 : m * q = m * p:=by omega
         have h5 : m * (q - p) = 0:=by rw [Int.mul_sub]; omega
         rcases Int.mul_eq_zero.1 h5 with h6 | h6
         · subst h6
           simp at hA hB
           omega
         · omega
       · omega
     · have:=(heq h).1; omega
     · have:=(hz h).2; omega
set_option linter.unusedSimpArgs false
def shareA (m s p : Int) : Int:=m * p / s + (if s ≤ 2 * (m * p % s) then 1 else 0)
theorem share_val {m p q : Int} (hm : 0 ≤ m) (hp : 0 ≤ p) (hq : 0 ≤ q) (hs : 0 < p + q) : shareL m [p,q] = [shareA m (p + q) p,m - shareA m (p + q) p]:=by
 have e1:=Int.emod_add_mul_ediv (m * p) (p + q)
 have e2:=Int.emod_add_mul_ediv (m * q) (p + q)
 have r1:=Int.emod_nonneg (m * p) (show p + q ≠ 0 by omega)
 have r2:=Int.emod_lt_of_pos (m * p) hs
 have r3:=Int.emod_nonneg (m * q) (show p + q ≠ 0 by omega)
 have r4:=Int.emod_lt_of_pos (m * q) hs
 have hsum : [p,q].sum = p + q:=by simp
 have hps : partsS m (p + q) [p,q] = [m * p / (p + q),m * q / (p + q)]:=rfl
 have hlt : ltS m (p + q) [p,q] 1 0 = decide (m * p % (p + q) - m * q % (p + q) < 0):=rfl
 have hlen : [p,q].length = 2:=rfl
 unfold shareL shareA
 rw [hsum,hps,hlen,sort2,hlt]
 have hmd : m * (p + q) = m * p + m * q:=Int.mul_add _ _ _
 generalize hA : m * p / (p + q) = A at *
 generalize hB : m * q / (p + q) = B at *
 generalize hR : m * p % (p + q) = R at *
 generalize hS : m * q % (p + q) = S at *
 have hAB : [A,B].sum = A + B:=by simp
 rw [hAB]
 have key : (p + q) * (m - (A + B)) = R + S:=by
  rw [Int.mul_sub,Int.mul_add,Int.mul_comm (p + q) m]
  omega
 have hd : m - (A + B) = 0 ∨ m - (A + B) = 1:=by
  by_cases h0 : m - (A + B) < 0
  · have:=Int.mul_le_mul_of_nonneg_left (show m - (A + B) ≤ -1 by omega) (show 0 ≤ p + q by omega)
    omega
  · by_cases h2 : 2 ≤ m - (A + B)
    · have:=Int.mul_le_mul_of_nonneg_left h2 (show 0 ≤ p + q by omega)
      omega
    · omega
 rcases hd with hd | hd
 · rw [hd] at key ⊢
   have hn : ¬ (p + q ≤ 2 * R):=by omega
   rw [if_neg hn]
   simp [bumpQ]; omega
 · rw [hd] at key ⊢
   by_cases hc : R - S < 0
   · have hn : ¬ (p + q ≤ 2 * R):=by omega
     rw [if_neg hn]
     simp [hc,bumpQ]; omega
   · have hn : p + q ≤ 2 * R:=by omega
     rw [if_pos hn]
     simp [hc,bumpQ]; omega
theorem share_mono {m s p p' : Int} (hm : 0 ≤ m) (hs : 0 < s) (h : p ≤ p') : shareA m s p ≤ shareA m s p':=by
 have e1:=Int.emod_add_mul_ediv (m * p) s
 have e2:=Int.emod_add_mul_ediv (m * p') s
 have hle:=Int.mul_le_mul_of_nonneg_left h hm
 have hd:=Int.ediv_le_ediv hs hle
 unfold shareA
 by_cases e : m * p / s = m * p' / s
 · rw [e] at e1
   rw [e]
   split <;> split <;> omega
 · split <;> split <;> omega
theorem share_half {m s p : Int} (hm : 0 ≤ m) (hp : 0 ≤ p) (hps : p ≤ s) (hs : 0 < s) : (s < 2 * p → m - shareA m s p ≤ shareA m s p) ∧ (2 * p < s → shareA m s p ≤ m - shareA m s p):=by
 obtain ⟨a,b,h1,h2,h3,h4,_⟩:=share2 hm hp (show 0 ≤ s - p by omega) (by omega)
 rw [share_val hm hp (by omega) (by omega),show p + (s - p) = s by omega] at h1
 simp only [List.cons.injEq,and_true] at h1
 obtain ⟨rfl,rfl⟩:=h1
 exact ⟨fun h=>h3 (by omega),fun h=>h4 (by omega)⟩
theorem share_in {m s p : Int} (hm : 0 ≤ m) (hp : 0 ≤ p) (hps : p ≤ s) (hs : 0 < s) : 0 ≤ shareA m s p ∧ shareA m s p ≤ m:=by
 have e0 : shareA m s 0 = 0:=by
  unfold shareA
  rw [Int.mul_zero,Int.zero_ediv,Int.zero_emod,if_neg (show ¬ (s ≤ 2 * 0) by omega)]; rfl
 have e1 : shareA m s s = m:=by
  unfold shareA
  rw [Int.mul_ediv_cancel _ (by omega),Int.mul_emod_left,if_neg (show ¬ (s ≤ 2 * 0) by omega),Int.add_zero]
 have h0:=share_mono (m:=m) hm hs hp
 have h1:=share_mono (m:=m) hm hs hps
 omega
set_option maxRecDepth 8000
theorem pWithin1_ok (n a b : Int) : ACalls Try.prog 93 [i64 n,.rp [i64 a],.rp [i64 b]] (.bo (decide (n < a) || decide (b < n))):=by
 refine acalls_st (rs:=[.bo (decide (n < a) || decide (b < n))]) [.tmp 4] Try.func93 rfl (by kernel_rfl) Try.ntmps93 rfl (by simp) rfl fun C vs=>?_
 refine zq ?_
 refine zb fun K hK=>?_;simp only [go_sem];refine hK _ ?_;clear hK K
 refine zq ?_
 refine zb fun K hK=>?_;simp only [go_sem]
 refine ⟨fun h=>?_,fun h=>?_⟩ <;>
 · skip
   refine hK _ ?_;clear hK K;refine ze ?_;simp only [go_sem]
   try simp [h]
theorem pWithin_ok (a b : Int) (l : List Int) : ACalls Try.prog 47 [i64 a,i64 b,ints l] (.bo (withinL a b l)):=by
 refine acalls_st (rs:=[.bo (withinL a b l)]) [.tmp 6] Try.func47 rfl (by kernel_rfl) Try.ntmps47 rfl (by simp) rfl fun C vs=>?_
 refine zq ?_
 refine zb fun K hK=>?_;simp only [go_sem];refine hK _ ?_;clear hK K
 refine zq ?_
 refine zb fun K hK=>?_;simp only [go_sem]
 refine zh (contains_ok (fun n=>decide (n < a) || decide (b < n)) 93 [.rp [i64 a],.rp [i64 b]] l fun x _=>pWithin1_ok x a b) rfl (by simp only [go_sem,i64,ints]) (by simp only [go_sem,i64,ints]) (by first | exact .inl rfl | exact .inr rfl) ?_
 (try simp only [go_sem]);refine hK _ ?_;clear hK K;refine ze ?_;simp only [go_sem];rw [← withinL_not]
theorem psum_le (b : Int) : ∀ (l : List Int),(∀ x ∈ l,0 ≤ x ∧ x ≤ b) → 0 ≤ l.sum ∧ l.sum ≤ b * l.length
 | [],_=>by simp
 | x :: l, h => by
   have ih:=psum_le b l fun y hy=>h y (by simp [hy])
   have h1:=h x (by simp)
   simp only [List.sum_cons,List.length_cons]
   have : b * ((l.length + 1 : Nat) : Int) = b * l.length + b:=by rw [Int.natCast_add,Int.mul_add]; simp
   omega
theorem ptotal_ok (l : List Int) (hl : l.length ≤ 1000) (h : ∀ x ∈ l,0 ≤ x ∧ x ≤ 100000000000000) : ACalls Try.prog 46 [ints l] (i64 l.sum):=by
 refine acalls_st (rs:=[i64 l.sum]) [.tmp 2] Try.func46 rfl (by kernel_rfl) Try.ntmps46 rfl (by simp) rfl fun C vs=>?_
 refine zq ?_
 refine zb fun K hK=>?_;simp only [go_sem];refine hK _ ?_;clear hK K
 repeat refine zq ?_
 refine zb fun K hK=>?_;simp only [go_sem]
 intro _
 refine hK _ ?_;clear hK K;refine zd ?_
 refine awp_upto (n:=16) l.length (fun i vs=>[(5,.r (ints l)),(6,.r (i64 l.length)),(7,.r (i64 i)),(2,.r (i64 (l.take i).sum))]) (fun _=>[])
  (fun i=>True) 0 (fit_of [] ?_ rfl) (Nat.zero_le _) trivial ?_
 · try simp only [go_sem]
   simp
 · intro i vs hi _
   refine zq ?_
   refine zb fun K hK=>?_;simp only [go_sem];refine hK _ ?_;clear hK K
   refine zq ?_
   refine zc rfl (fun hc=>?_) (fun hc=>?_) <;> (try simp only [go_sem] at hc)
   · obtain ⟨x,hx⟩:=opt_of_lt hc
     have hx1:=h x (mem_of_opt hx)
     have hs:=psum_le 100000000000000 (l.take i) fun y hy=>h y (List.mem_of_mem_take hy)
     simp only [List.length_take] at hs
     have hsn : (l.take (i + 1)).sum = (l.take i).sum + x:=by rw [take_of_opt hx]; simp
     refine zx ?_
     refine zq ?_
     refine zd ?_
     refine zq ?_
     refine zb fun K hK=>?_;simp only [go_sem,hx,hc];refine hK _ ?_;clear hK K;refine zb fun K hK=>?_;simp only [go_sem];(try simp (disch:=omega) only [zI]);refine hK _ ?_;clear hK K
     try simp only [go_sem]
     refine zb fun K hK=>?_;simp only [go_sem];(try simp (disch:=omega) only [zI]);refine hK _ ?_;clear hK K
     try simp only [go_sem]
     refine ⟨hc,fit_of [] ?_ rfl⟩
     try simp only [go_sem]
     omega
   · refine zf ?_;simp only [go_sem]
     refine zq ?_
     refine zb fun K hK=>?_;simp only [go_sem];refine hK _ ?_;clear hK K;refine ze ?_;simp only [go_sem];rw [List.take_of_length_le (by omega)]
def cS (m s : Int) (ws : List Int) (x y : Nat) : Int:=m * (ws[y]?).getD 0 % s - m * (ws[x]?).getD 0 % s
theorem mul_w {m w : Int} (hm : 0 ≤ m ∧ m ≤ 1000000000) (hw : 0 ≤ w ∧ w ≤ 10000) : 0 ≤ m * w ∧ m * w ≤ 10000000000000:=by
 refine ⟨Int.mul_nonneg hm.1 hw.1,?_⟩
 have:=Int.mul_le_mul hm.2 hw.2 hw.1 (by omega)
 omega
theorem share1_ok (m s : Int) (ws : List Int) (a b : Nat) (hm : 0 ≤ m ∧ m ≤ 1000000000) (hw : ∀ w ∈ ws,0 ≤ w ∧ w ≤ 10000) (hs : 0 < s ∧ s ≤ 10000000) (ha : a < ws.length) (hb : b < ws.length) :
 ACalls Try.prog 49 [i64 a,i64 b,.rp [i64 m],.rp [ints ws],.rp [i64 s]] (i64 (cS m s ws a b)):=by
 obtain ⟨x,hx⟩:=opt_of_lt ha
 obtain ⟨y,hy⟩:=opt_of_lt hb
 have hx1:=mul_w hm (hw x (mem_of_opt hx))
 have hy1:=mul_w hm (hw y (mem_of_opt hy))
 have r1:=Int.emod_nonneg (m * x) (show s ≠ 0 by omega)
 have r2:=Int.emod_lt_of_pos (m * x) hs.1
 have r3:=Int.emod_nonneg (m * y) (show s ≠ 0 by omega)
 have r4:=Int.emod_lt_of_pos (m * y) hs.1
 have t1 : Int.tmod (m * x) s = m * x % s:=Int.tmod_eq_emod_of_nonneg hx1.1
 have t2 : Int.tmod (m * y) s = m * y % s:=Int.tmod_eq_emod_of_nonneg hy1.1
 refine acalls_st (rs:=[i64 (cS m s ws a b)]) [.tmp 7] Try.func49 rfl (by kernel_rfl) Try.ntmps49 rfl (by simp) rfl fun C vs=>?_
 refine zq ?_
 refine zb fun K hK=>?_;simp only [go_sem];refine hK _ ?_;clear hK K
 refine zq ?_
 refine zg follows (by decide +kernel) (by kernel_rfl) fun K hK=>?_;simp only [go_sem,hx,hy,ha,hb,t1,t2];(try simp (disch:=omega) only [zI])
 repeat refine ⟨by omega,?_⟩
 refine hK _ ?_;clear hK K;refine ze ?_;simp only [go_sem]
 simp [cS,hx,hy,t1,t2]
theorem bump_leQ (b : Int) : ∀ (is : List Nat) (c : Int) (p : List Int),(∀ x ∈ p,0 ≤ x ∧ x ≤ c) → 0 ≤ c → (c + is.length ≤ b) → ∀ x ∈ bumpQ p is,0 ≤ x ∧ x ≤ b
 | [], c, p, h, _, hb => fun x hx => by
   have:=h x hx
   simp at hb
   omega
 | i :: is, c, p, h, hc, hb => by
   simp only [List.length_cons] at hb
   simp only [bumpQ]
   refine bump_leQ b is (c + 1) _ (fun x hx=>?_) (by omega) (by omega)
   rcases List.mem_or_eq_of_mem_set hx with h1 | h1
   · have:=h x h1; omega
   · subst h1
     cases hp : p[i]? with
     | none=>simp; omega
     | some y=>have:=h y (mem_of_opt hp); simp; omega
theorem share_ok (m : Int) (ws : List Int) (hm : 0 ≤ m ∧ m ≤ 1000000000) (hl : 1 ≤ ws.length ∧ ws.length ≤ 19) (hw : ∀ w ∈ ws,0 ≤ w ∧ w ≤ 10000) (hs : 0 < ws.sum) :
 ACalls Try.prog 14 [i64 m,ints ws] (.tu [ints (shareL m ws),i64 0]):=by
 have hsum:=psum_le 10000 ws hw
 have hs2 : ws.sum ≤ 10000000:=by omega
 have w1 : withinL 0 1000000000 [m] = true:=by simp [withinL]; omega
 have w2 : withinL 1 60 [(ws.length : Int)] = true:=by simp [withinL]; omega
 have w3 : withinL 0 10000 ws = true:=by
  unfold withinL
  rw [List.all_eq_true]
  intro x hx
  have:=hw x hx
  simp; omega
 obtain ⟨q1,q2,q3⟩:=parts_lack hs hm.1 fun w h=>(hw w h).1
 refine acalls_st (rs:=[ints (shareL m ws),i64 0]) [.tmp 4,.tmp 5] Try.func14 rfl (by kernel_rfl) Try.ntmps14 rfl (by simp) rfl fun C vs=>?_
 refine zq ?_
 refine zb fun K hK=>?_;simp only [go_sem];refine hK _ ?_;clear hK K;refine zw (sub_frzP 2 2 [i64 m] (by omega) rfl rfl) ?_;refine zw (sub_frzP 3 3 [ints ws] (by omega) rfl rfl) ?_;refine zw (zk [2,3,4]) ?_;simp only [go_sem]
 refine zq ?_
 refine zb fun K hK=>?_;simp only [go_sem]
 refine zh (ptotal_ok ws (by omega) (fun x hx=>by have:=hw x hx; omega)) rfl (by simp only [go_sem,i64,ints]) (by simp only [go_sem,i64,ints]) (by first | exact .inl rfl | exact .inr rfl) ?_
 (try simp only [go_sem]);refine hK _ ?_;clear hK K;refine zw (sub_frzP 6 6 [i64 ws.sum] (by omega) rfl rfl) ?_;refine zw (zk [2,3,4,6]) ?_;simp only [go_sem]
 refine zq ?_
 refine zd ?_
 refine zq ?_
 refine zb fun K hK=>?_;simp only [go_sem]
 refine zh (pWithin_ok 0 1000000000 [m]) rfl (by simp only [go_sem,i64,ints]) (by simp only [go_sem,i64,ints]) (by first | exact .inl rfl | exact .inr rfl) ?_
 (try simp only [go_sem]);refine hK _ ?_;clear hK K;rw [w1]
 refine zc rfl (fun hc=>?_) (fun hc=>?_) <;> (try simp only [go_sem] at hc)
 refine zq ?_
 refine zb fun K hK=>?_;simp only [go_sem]
 intro _
 refine zh (pWithin_ok 1 60 [(ws.length : Int)]) rfl (by simp only [go_sem,i64,ints]) (by simp only [go_sem,i64,ints]) (by first | exact .inl rfl | exact .inr rfl) ?_
 (try simp only [go_sem]);refine hK _ ?_;clear hK K;rw [w2]
 refine zc rfl (fun hc=>?_) (fun hc=>?_) <;> (try simp only [go_sem] at hc)
 repeat refine zq ?_
 refine zb fun K hK=>?_;simp only [go_sem]
 refine zh (pWithin_ok 0 10000 ws) rfl (by simp only [go_sem,i64,ints]) (by simp only [go_sem,i64,ints]) (by first | exact .inl rfl | exact .inr rfl) ?_
 (try simp only [go_sem]);refine hK _ ?_;clear hK K;rw [w3]
 refine zc rfl (fun hc=>?_) (fun hc=>?_) <;> (try simp only [go_sem] at hc)
 refine zb fun K hK=>?_;simp only [go_sem];refine hK _ ?_;clear hK K
 have z0 : (ws.sum == 0) = false:=by simp; omega
 rw [z0]
 refine zc rfl (fun hc=>?_) (fun hc=>?_) <;> (try simp only [go_sem] at hc)
 refine zx ?_
 try simp only [go_sem]
 refine zq ?_
 refine zb fun K hK=>?_;simp only [go_sem];refine hK _ ?_;clear hK K;refine zw (zk [2,3,4,6,7]) ?_;simp only [go_sem]
 repeat refine zq ?_
 refine zb fun K hK=>?_;simp only [go_sem]
 intro _
 refine hK _ ?_;clear hK K;refine zw (zk [2,3,4,6,7,31,32,33]) ?_;simp only [go_sem];refine zd ?_
 have hP : ∀ i ≤ ws.length,(partsS m ws.sum (ws.take i)).length = i:=fun i hi=>by simp [partsS]; omega
 refine zw (sub_own 4 45 3 1 (by omega) rfl) ?_;refine zw (sub_own 7 49 3 1 (by omega) rfl) ?_
 refine awp_upto (n:=73) ws.length (fun i vs=>[(2,.r (.rp [i64 m])),(3,.r (.rp [ints ws])),(4,.os 45 (vs 45) 1 0 i),(6,.r (.rp [i64 ws.sum])),(7,.os 49 (vs 49) 1 0 i),(31,.r (ints ws)),(32,.r (i64 ws.length)),(33,.r (i64 i))])
  (fun i=>[(45,.arr 3 1 ((partsS m ws.sum (ws.take i)).map fun x=>[i64 x])),(49,.arr 3 1 (idx (List.range i)))]) (fun _=>True) 0 (fit_of [] ?_ ?_) (Nat.zero_le _) trivial ?_
 · try simp only [go_sem]
 · try simp only [go_sem]
   simp [partsS]
 · intro i vs hi _
   refine zq ?_
   refine zb fun K hK=>?_;simp only [go_sem];refine hK _ ?_;clear hK K
   refine zq ?_
   refine zc rfl (fun hc=>?_) (fun hc=>?_) <;> (try simp only [go_sem] at hc)
   · have hci:=hc
     obtain ⟨x,hx⟩:=opt_of_lt hci
     have hx1:=mul_w hm (hw x (mem_of_opt hx))
     have t1 : Int.tdiv (m * x) ws.sum = m * x / ws.sum:=Int.tdiv_eq_ediv_of_nonneg hx1.1
     have p1 : 0 ≤ m * x / ws.sum:=Int.ediv_nonneg hx1.1 (by omega)
     have p2 : m * x / ws.sum ≤ m * x:=Int.ediv_le_self _ hx1.1
     have hpl:=hP i (by omega)
     refine zx ?_
     try simp only [go_sem]
     refine zq ?_
     refine zd ?_
     refine zq ?_
     refine zb fun K hK=>?_;simp only [go_sem,hx,hci];refine hK _ ?_;clear hK K;refine zw (zk [2,3,4,6,7,8,9,31,32,33]) ?_;simp only [go_sem];refine zb fun K hK=>?_;simp only [go_sem,hpl,t1,List.length_range];(try simp (disch:=omega) only [zI])
     repeat refine ⟨by omega,?_⟩
     refine hK _ ?_;clear hK K;refine zw (zk [2,3,4,6,7,31,32,33]) ?_;simp only [go_sem];refine zb fun K hK=>?_;simp only [go_sem];(try simp (disch:=omega) only [zI]);refine hK _ ?_;clear hK K
     try simp only [go_sem]
     refine ⟨hci,fit_of [] ?_ ?_⟩
     · try simp only [go_sem]
     · try simp only [go_sem]
       simp [t1,partsS,take_of_opt hx]
   · refine zf ?_;simp only [go_sem]
     have hii : i = ws.length:=by omega
     subst hii
     have e3 : ws.take ws.length = ws:=List.take_length
     rw [e3]
     have hpl:=hP ws.length (Nat.le_refl _)
     rw [e3] at hpl
     have hsort:=sortStable_ok (ltS m ws.sum ws) (cS m ws.sum ws) 49 [.rp [i64 m],.rp [ints ws],.rp [i64 ws.sum]] (List.range ws.length) (by simpa using hl.2) (fun _ _=>rfl) (fun i hi k hk =>
      share1_ok m ws.sum ws i k hm hw ⟨hs,hs2⟩ (List.mem_range.1 hi) (List.mem_range.1 hk))
     rw [List.length_range] at hsort
     refine zq ?_
     refine zb fun K hK=>?_;simp only [go_sem]
     refine xcall_mut (mcalls_fn hsort) [(1000,49)] rfl (by simp only [go_sem,i64,ints]) (by simp only [go_sem,i64,ints]) (by rfl) (by rfl) ?_
     (try simp only [go_sem]);refine hK _ ?_;clear hK K;refine zw (zk [2,4,7]) ?_;simp only [go_sem]
     obtain ⟨S,hS⟩ : ∃ S,S = sortNQ (ltS m ws.sum ws) (List.range ws.length):=⟨_,rfl⟩
     obtain ⟨Q,hQ⟩ : ∃ Q,Q = partsS m ws.sum ws:=⟨_,rfl⟩
     have hSl : S.length = ws.length:=by rw [hS,sortN_len,List.length_range]
     have hSm : ∀ i ∈ S,i < ws.length:=fun i hi=>by rw [hS,mem_sortN,List.mem_range] at hi; exact hi
     have hQb : ∀ x ∈ Q,0 ≤ x ∧ x ≤ 10000000000000:=fun x hx=>by
      rw [hQ] at hx
      obtain ⟨w,hw1,rfl⟩:=List.mem_map.1 hx
      have h1:=mul_w hm (hw w hw1)
      have h2:=Int.ediv_nonneg (b:=ws.sum) h1.1 (by omega)
      have h3:=Int.ediv_le_self ws.sum h1.1
      omega
     rw [← hS]
     rw [← hQ] at hpl q1 q2 q3 ⊢
     have tk : ∀ g : Int → List RV,List.take ws.length (Q.map g) = Q.map g:=fun g=>by rw [← hpl,← List.length_map (f:=g),List.take_length]
     have hle : ws.length ≤ Q.length:=by omega
     repeat refine zq ?_
     refine awp_dreg2 [(2,none),(4,some 45),(7,some 49)] follows (by decide +kernel) (by kernel_rfl) (by simp only [keysOk,List.mem_cons,List.not_mem_nil,forall_eq_or_imp,Oc.keyOf,go_sem]; simp) fun K hK=>?_
     simp only [go_sem,hSl]
     refine zh (ptotal_ok Q (by omega) (fun x hx=>by have:=hQb x hx; omega)) rfl (by simp only [go_sem,i64,ints,tk,hle]) (by simp only [go_sem,i64,ints,tk,hle]) (by first | exact .inl rfl | exact .inr rfl) ?_
     (try simp only [go_sem,tk,hle]);(try simp (disch:=omega) only [zI]);repeat first | intro _ | refine ⟨by omega,?_⟩
     refine hK _ ?_;clear hK K
     obtain ⟨k,hk⟩ : ∃ k,k = (m - Q.sum).toNat:=⟨_,rfl⟩
     have hkn : k ≤ ws.length:=by omega
     rw [← hk]
     refine zw (zk [4,59,60,61]) ?_;simp only [go_sem];refine zd ?_
     refine awp_upto (n:=73) k (fun i vs=>[(4,.os 45 (vs 45) 1 0 ws.length),(59,.os 49 (vs 49) 1 0 k),(60,.r (i64 k)),(61,.r (i64 i))])
      (fun i=>[(45,.arr 3 1 ((bumpQ Q (S.take i)).map fun x=>[i64 x])),(49,.arr 3 1 (idx S))]) (fun _=>True) 0 (fit_of [] ?_ ?_) (Nat.zero_le _) trivial ?_
     · try simp only [go_sem]
     · try simp only [go_sem]
       simp [bumpQ]
     · intro q vs hq _
       refine zq ?_
       refine zb fun K hK=>?_;simp only [go_sem];refine hK _ ?_;clear hK K
       refine zq ?_
       refine zc rfl (fun hc=>?_) (fun hc=>?_) <;> (try simp only [go_sem] at hc)
       · have hci:=hc
         obtain ⟨i,hi⟩:=opt_of_lt (l:=S) (i:=q) (by omega)
         have hil:=hSm i (mem_of_opt hi)
         obtain ⟨F,hF⟩ : ∃ F,F = bumpQ Q (S.take q):=⟨_,rfl⟩
         have hFl : F.length = ws.length:=by rw [hF,bump_lenQ,hpl]
         have hFb : ∀ x ∈ F,0 ≤ x ∧ x ≤ 100000000000000:=by
          rw [hF]
          refine bump_leQ 100000000000000 _ 10000000000000 Q hQb (by omega) ?_
          rw [List.length_take]
          omega
         obtain ⟨o,ho⟩:=opt_of_lt (l:=F) (i:=i) (by omega)
         have hob:=hFb o (mem_of_opt ho)
         have hnx : bumpQ Q (S.take (q + 1)) = F.set i (o + 1):=by
          rw [take_of_opt hi,bump_snoc,← hF]
          simp [ho]
         rw [← hF]
         refine zx ?_
         try simp only [go_sem]
         refine zq ?_
         refine zd ?_
         refine zq ?_
         refine zb fun K hK=>?_;simp only [go_sem,hi,hci];refine hK _ ?_;clear hK K;refine zw (zk [4,11,59,60,61]) ?_;simp only [go_sem];refine zb fun K hK=>?_;simp only [go_sem,ho,hil,hFl];(try simp (disch:=omega) only [zI]);refine hK _ ?_;clear hK K;refine zw (zk [4,59,60,61]) ?_;simp only [go_sem];refine zb fun K hK=>?_;simp only [go_sem];(try simp (disch:=omega) only [zI]);refine hK _ ?_;clear hK K
         try simp only [go_sem]
         refine ⟨hci,fit_of [] ?_ ?_⟩
         · simp only [go_sem]
         · simp only [go_sem,hnx];rw [List.map_set]
       · refine zf ?_;simp only [go_sem]
         have hqk : q = k:=by omega
         subst hqk
         refine zq ?_
         refine zb fun K hK=>?_;simp only [go_sem];refine hK _ ?_;clear hK K;refine ze ?_;simp only [go_sem]
         have hbl : (bumpQ Q (S.take q)).length = ws.length:=by rw [bump_lenQ,hpl]
         refine ⟨by omega,?_⟩
         rw [List.take_of_length_le (by rw [List.length_map]; omega)]
         unfold shareL
         rw [← hS,← hQ,← hk]
end Go.Proofs.Ytlljkgiomkmjbaa.Tb
