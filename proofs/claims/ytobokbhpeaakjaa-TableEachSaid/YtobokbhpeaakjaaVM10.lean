/- Part 10 of the texts of this claim. -/
import Derived.Test.YtobokbhpeaakjaaVM9
namespace Go.Proofs.Ytobokbhpeaakjaa
open Go Go.Oc
set_option linter.unusedSimpArgs false
set_option linter.unusedVariables false
set_option maxRecDepth 8000
set_option maxHeartbeats 4000000
theorem long_ok (l : List Mt) : ACalls Try.prog 102 [mtsR l] (.bo (decide (180 < l.length))):=by
 refine acalls_st (rs:=[.bo (decide (180 < l.length))]) [.tmp 2] Try.func102 rfl (by kernel_rfl) Try.ntmps102 rfl (by simp) rfl fun C vs=>?_
 repeat refine zq ?_
 refine zb fun K hK=>?_;simp only [go_sem];(try simp (disch:=omega) only [zI]);repeat first | intro _ | refine ⟨by omega,?_⟩
 refine hK _ ?_;clear hK K;refine zw (zk [0,2]) ?_;simp only [go_sem]
 by_cases h : 180 < l.length
 · have h' : decide (180 < (l.length : Int)) = true:=by simp; omega
   have h2 : decide (180 < l.length) = true:=by simpa using h
   repeat refine zq ?_
   refine zb fun K hK=>?_;simp only [go_sem,h',h2];(try simp (disch:=omega) only [zI]);repeat first | intro _ | refine ⟨by omega,?_⟩
   refine hK _ ?_;clear hK K;refine ze ?_;simp only [go_sem]
   try simp [h2]
 · have h' : decide (180 < (l.length : Int)) = false:=by simp; omega
   have h2 : decide (180 < l.length) = false:=by simpa using h
   repeat refine zq ?_
   refine zb fun K hK=>?_;simp only [go_sem,h',h2];(try simp (disch:=omega) only [zI]);repeat first | intro _ | refine ⟨by omega,?_⟩
   refine hK _ ?_;clear hK K;refine ze ?_;simp only [go_sem]
   try simp [h2]
theorem indexN_ok (p : List Mt → Bool) (f : Nat) (caps : List RV) (l : List (List Mt)) (h : ∀ x ∈ l,ACalls Try.prog f (mtsR x :: caps) (.bo (p x))) : ACalls Try.prog 124 [nightsR l,.fn f caps] (i64 (indexF p l)):=by
 refine acalls_st (rs:=[i64 (indexF p l)]) [.tmp 4] Try.func124 rfl (by kernel_rfl) Try.ntmps124 rfl (by simp) rfl fun C vs=>?_
 repeat refine zq ?_
 refine zb fun K hK=>?_;simp only [go_sem];(try simp (disch:=omega) only [zI]);repeat first | intro _ | refine ⟨by omega,?_⟩
 refine hK _ ?_;clear hK K
 repeat refine zq ?_
 refine zb fun K hK=>?_;simp only [go_sem];(try simp (disch:=omega) only [zI])
 intro hl
 repeat first | intro _ | refine ⟨by omega,?_⟩
 refine hK _ ?_;clear hK K
 repeat refine zq ?_
 refine zd ?_
 refine awp_upto (n:=19) l.length (fun i vs=>[(0,.r (nightsR l)),(1,.r (.fn f caps)),(7,.r (i64 l.length)),(8,.r (i64 i))]) (fun _=>[])
  (fun i=>indexF p l = if indexF p (l.drop i) < 0 then -1 else i + indexF p (l.drop i)) 0 (fit_of [] ?_ rfl) (Nat.zero_le _) ?_ ?_
 · try simp only [go_sem]
 · simp only [List.drop_zero]
   have:=indexF_ge p l
   split
   · omega
   · simp
 · intro i vs hi hI
   repeat refine zq ?_
   refine zb fun K hK=>?_;simp only [go_sem];(try simp (disch:=omega) only [zI]);repeat first | intro _ | refine ⟨by omega,?_⟩
   refine hK _ ?_;clear hK K
   repeat refine zq ?_
   refine zc rfl (fun hc=>?_) (fun hc=>?_) <;> (try simp only [go_sem] at hc)
   · obtain ⟨x,hx⟩:=opt_of_lt hc
     rw [drop_of_opt hx] at hI
     refine zx ?_
     repeat refine zq ?_
     refine zd ?_
     repeat refine zq ?_
     refine zb fun K hK=>?_;simp only [go_sem];(try simp (disch:=omega) only [zI]);repeat first | intro _ | refine ⟨by omega,?_⟩
     refine hK _ ?_;clear hK K
     repeat refine zq ?_
     refine zb fun K hK=>?_;simp only [go_sem,hx,hc];(try simp (disch:=omega) only [zI])
     refine zh (h x (mem_of_opt hx)) rfl (by simp only [go_sem,i64,ints]) (by simp only [go_sem,i64,ints]) (by first | exact .inl rfl | exact .inr rfl) ?_
     (try simp only [go_sem]);(try simp (disch:=omega) only [zI]);repeat first | intro _ | refine ⟨by omega,?_⟩
     refine hK _ ?_;clear hK K
     repeat refine zq ?_
     refine zc rfl (fun hc=>?_) (fun hc=>?_) <;> (try simp only [go_sem] at hc)
     · repeat refine zq ?_
       refine zb fun K hK=>?_;simp only [go_sem];(try simp (disch:=omega) only [zI]);repeat first | intro _ | refine ⟨by omega,?_⟩
       refine hK _ ?_;clear hK K;refine ze ?_;simp only [go_sem]
       simp [hI,indexF,hc]
     · refine zx ?_
       try simp only [go_sem]
       repeat refine zq ?_
       refine zb fun K hK=>?_;simp only [go_sem];(try simp (disch:=omega) only [zI]);repeat first | intro _ | refine ⟨by omega,?_⟩
       refine hK _ ?_;clear hK K
       try simp only [go_sem]
       refine ⟨‹_›,?_,fit_of [] ?_ rfl⟩
       · rw [hI]
         simp only [indexF,hc,Bool.false_eq_true,if_false]
         have:=indexF_ge p (l.drop (i + 1))
         (repeat' split) <;> omega
       · try simp only [go_sem]
   · refine zf ?_;simp only [go_sem]
     repeat refine zq ?_
     refine zb fun K hK=>?_;simp only [go_sem];(try simp (disch:=omega) only [zI]);repeat first | intro _ | refine ⟨by omega,?_⟩
     refine hK _ ?_;clear hK K;refine ze ?_;simp only [go_sem]
     have : l.drop i = []:=List.drop_eq_nil_of_le (by omega)
     simp [hI,this,indexF]
theorem containsN_ok (p : List Mt → Bool) (f : Nat) (caps : List RV) (l : List (List Mt)) (h : ∀ x ∈ l,ACalls Try.prog f (mtsR x :: caps) (.bo (p x))) : ACalls Try.prog 101 [nightsR l,.fn f caps] (.bo (l.any p)):=by
 refine acalls_st (rs:=[.bo (l.any p)]) [.tmp 4] Try.func101 rfl (by kernel_rfl) Try.ntmps101 rfl (by simp) rfl fun C vs=>?_
 repeat refine zq ?_
 refine zb fun K hK=>?_;simp only [go_sem];(try simp (disch:=omega) only [zI]);repeat first | intro _ | refine ⟨by omega,?_⟩
 refine hK _ ?_;clear hK K
 repeat refine zq ?_
 refine zb fun K hK=>?_;simp only [go_sem];(try simp (disch:=omega) only [zI])
 refine zh (indexN_ok p f caps l h) rfl (by simp only [go_sem,i64,ints]) (by simp only [go_sem,i64,ints]) (by first | exact .inl rfl | exact .inr rfl) ?_
 (try simp only [go_sem]);(try simp (disch:=omega) only [zI]);repeat first | intro _ | refine ⟨by omega,?_⟩
 refine hK _ ?_;clear hK K;refine ze ?_;simp only [go_sem];rw [← indexF_any]
theorem containsM_ok (p : Mt → Bool) (f : Nat) (caps : List RV) (l : List Mt) (h : ∀ x ∈ l,ACalls Try.prog f (.ag (mtR x) :: caps) (.bo (p x))) : ACalls Try.prog 103 [mtsR l,.fn f caps] (.bo (l.any p)):=by
 refine acalls_st (rs:=[.bo (l.any p)]) [.tmp 4] Try.func103 rfl (by kernel_rfl) Try.ntmps103 rfl (by simp) rfl fun C vs=>?_
 repeat refine zq ?_
 refine zb fun K hK=>?_;simp only [go_sem];(try simp (disch:=omega) only [zI]);repeat first | intro _ | refine ⟨by omega,?_⟩
 refine hK _ ?_;clear hK K
 repeat refine zq ?_
 refine zb fun K hK=>?_;simp only [go_sem];(try simp (disch:=omega) only [zI])
 refine zh (indexM_ok p f caps l h) rfl (by simp only [go_sem,i64,ints]) (by simp only [go_sem,i64,ints]) (by first | exact .inl rfl | exact .inr rfl) ?_
 (try simp only [go_sem]);(try simp (disch:=omega) only [zI]);repeat first | intro _ | refine ⟨by omega,?_⟩
 refine hK _ ?_;clear hK K;refine ze ?_;simp only [go_sem];rw [← indexF_any]
def badN (v : List Int) (m : Mt) : Bool:=!withinL 0 ((v.length : Int) - 1) [m.h,m.a] || m.h == m.a
theorem bad_ok (v : List Int) (m : Mt) : ACalls Try.prog 104 [.ag (mtR m),.rp [ints v]] (.bo (badN v m)):=by
 have e : badN v m = (!withinL 0 ((v.length : Int) - 1) [m.h,m.a] || m.h == m.a):=rfl
 refine acalls_st (rs:=[.bo (badN v m)]) [.tmp 3] Try.func104 rfl (by kernel_rfl) Try.ntmps104 rfl (by simp) rfl fun C vs=>?_
 repeat refine zq ?_
 refine zb fun K hK=>?_;simp only [go_sem];(try simp (disch:=omega) only [zI]);repeat first | intro _ | refine ⟨by omega,?_⟩
 refine hK _ ?_;clear hK K;refine zw (sub_frzP 2 2 (mtR m) (by omega) rfl rfl) ?_;refine zw (zk [1,2]) ?_;simp only [go_sem];rw [e]
 cases a1 : withinL 0 ((v.length : Int) - 1) [m.h,m.a]
 · repeat refine zq ?_
   refine zb fun K hK=>?_;simp only [go_sem];(try simp (disch:=omega) only [zI]);repeat first | intro _ | refine ⟨by omega,?_⟩
   try simp (disch:=omega) only [zI]
   refine zh (within_ok 0 ((v.length : Int) - 1) [m.h,m.a]) rfl (by simp only [go_sem,i64,ints,a1]) (by simp only [go_sem,i64,ints,a1]) (by first | exact .inl rfl | exact .inr rfl) ?_
   (try simp only [go_sem,a1]);(try simp (disch:=omega) only [zI]);repeat first | intro _ | refine ⟨by omega,?_⟩
   refine hK _ ?_;clear hK K;refine zw (zk [3]) ?_;simp only [go_sem];refine ze ?_;simp only [go_sem]
   try simp
 · repeat refine zq ?_
   refine zb fun K hK=>?_;simp only [go_sem];(try simp (disch:=omega) only [zI]);repeat first | intro _ | refine ⟨by omega,?_⟩
   try simp (disch:=omega) only [zI]
   refine zh (within_ok 0 ((v.length : Int) - 1) [m.h,m.a]) rfl (by simp only [go_sem,i64,ints,a1]) (by simp only [go_sem,i64,ints,a1]) (by first | exact .inl rfl | exact .inr rfl) ?_
   (try simp only [go_sem,a1]);(try simp (disch:=omega) only [zI]);repeat first | intro _ | refine ⟨by omega,?_⟩
   refine hK _ ?_;clear hK K;refine zw (zk [3]) ?_;simp only [go_sem];refine ze ?_;simp only [go_sem]
   try simp
def nightErr (N : List (List Mt)) (v b : List Int) : Int :=
 if 100 < N.length ∨ (N.any fun l=>decide (180 < l.length)) = true ∨ 10 < v.length ∨ 10 < b.length then 5
 else if withinL 0 ((b.length : Int) - 1) v = false ∨ withinL 0 9 b = false then 2
 else if (N.any fun l=>l.any (badN v)) = true then 2 else 0
theorem checkNights_ok (N : List (List Mt)) (v b : List Int) : ACalls Try.prog 79 [nightsR N,ints v,ints b] (i64 (nightErr N v b)):=by
 have hcn:=containsN_ok (fun l=>decide (180 < l.length)) 102 [] N fun l _=>long_ok l
 refine acalls_st (rs:=[i64 (nightErr N v b)]) [.tmp 6] Try.func79 rfl (by kernel_rfl) Try.ntmps79 rfl (by simp) rfl fun C vs=>?_
 repeat refine zq ?_
 refine zb fun K hK=>?_;simp only [go_sem];(try simp (disch:=omega) only [zI]);repeat first | intro _ | refine ⟨by omega,?_⟩
 refine hK _ ?_;clear hK K;refine zw (sub_frzP 4 4 [ints v] (by omega) rfl rfl) ?_;refine zw (zk [0,2,4]) ?_;simp only [go_sem]
 repeat refine zq ?_
 refine awp_joinV (n:=47) (fun (_ : Unit) vs=>[(0,.r (nightsR N)),(2,.r (ints b)),(4,.r (.rp [ints v])),(25,.r (.bo (decide (100 < N.length ∨ (N.any fun l=>decide (180 < l.length)) = true ∨ 10 < v.length ∨ 10 < b.length))))]) (fun _ vs=>[]) (fun _=>True) (fun _ h=>h) ?_ ?_
 · by_cases h1 : 100 < N.length
   · have c1 : decide (100 < (N.length : Int)) = true:=decide_eq_true (by omega)
     repeat refine zq ?_
     refine zb fun K hK=>?_;simp only [go_sem,c1];(try simp (disch:=omega) only [zI]);repeat first | intro _ | refine ⟨by omega,?_⟩
     refine hK _ ?_;clear hK K
     refine ⟨(),trivial,zj [] ?_ ?_⟩
     · try simp only [go_sem]
       simp [h1]
     · try simp only [go_sem]
   · have c1 : decide (100 < (N.length : Int)) = false:=decide_eq_false (by omega)
     cases h2 : (N.any fun l=>decide (180 < l.length)) with
     | true =>
       rw [h2] at hcn
       repeat refine zq ?_
       refine zb fun K hK=>?_;simp only [go_sem,c1];(try simp (disch:=omega) only [zI]);repeat first | intro _ | refine ⟨by omega,?_⟩
       refine zh (hcn) rfl (by simp only [go_sem,i64,ints,c1]) (by simp only [go_sem,i64,ints,c1]) (by first | exact .inl rfl | exact .inr rfl) ?_
       (try simp only [go_sem,c1]);(try simp (disch:=omega) only [zI]);repeat first | intro _ | refine ⟨by omega,?_⟩
       refine hK _ ?_;clear hK K
       refine ⟨(),trivial,zj [] ?_ ?_⟩
       · try simp only [go_sem]
         try simp
       · try simp only [go_sem]
     | false =>
       rw [h2] at hcn
       by_cases h3 : 10 < v.length
       · have c3 : decide (10 < (v.length : Int)) = true:=decide_eq_true (by omega)
         repeat refine zq ?_
         refine zb fun K hK=>?_;simp only [go_sem,c1];(try simp (disch:=omega) only [zI]);repeat first | intro _ | refine ⟨by omega,?_⟩
         refine zh (hcn) rfl (by simp only [go_sem,i64,ints,c1]) (by simp only [go_sem,i64,ints,c1]) (by first | exact .inl rfl | exact .inr rfl) ?_
         (try simp only [go_sem,c1]);(try simp (disch:=omega) only [zI])
         try simp only [go_sem,c3]
         repeat first | intro _ | refine ⟨by omega,?_⟩
         refine hK _ ?_;clear hK K
         refine ⟨(),trivial,zj [] ?_ ?_⟩
         · try simp only [go_sem]
           simp [h3]
         · try simp only [go_sem]
       · have c3 : decide (10 < (v.length : Int)) = false:=decide_eq_false (by omega)
         repeat refine zq ?_
         refine zb fun K hK=>?_;simp only [go_sem,c1];(try simp (disch:=omega) only [zI]);repeat first | intro _ | refine ⟨by omega,?_⟩
         refine zh (hcn) rfl (by simp only [go_sem,i64,ints,c1,c3]) (by simp only [go_sem,i64,ints,c1,c3]) (by first | exact .inl rfl | exact .inr rfl) ?_
         (try simp only [go_sem,c1,c3]);(try simp (disch:=omega) only [zI]);repeat first | intro _ | refine ⟨by omega,?_⟩
         refine hK _ ?_;clear hK K
         refine ⟨(),trivial,zj [] ?_ ?_⟩
         · try simp only [go_sem]
           simp [h1,h3]
           try omega
         · try simp only [go_sem]
 intro _ vs _
 repeat refine zq ?_
 refine zc rfl (fun hc=>?_) (fun hc=>?_) <;> (try simp only [go_sem] at hc)
 · have hc' : 100 < N.length ∨ (N.any fun l=>decide (180 < l.length)) = true ∨ 10 < v.length ∨ 10 < b.length:=by simpa using hc
   have he : nightErr N v b = 5:=by unfold nightErr; rw [if_pos hc']
   rw [he]
   repeat refine zq ?_
   refine zb fun K hK=>?_;simp only [go_sem];(try simp (disch:=omega) only [zI]);repeat first | intro _ | refine ⟨by omega,?_⟩
   refine hK _ ?_;clear hK K;refine ze ?_;simp only [go_sem]
 have hc1 : ¬ (100 < N.length ∨ (N.any fun l=>decide (180 < l.length)) = true ∨ 10 < v.length ∨ 10 < b.length):=by simpa using hc
 refine zx ?_
 try simp only [go_sem]
 repeat refine zq ?_
 refine awp_joinV (n:=47) (fun (_ : Unit) vs=>[(0,.r (nightsR N)),(4,.r (.rp [ints v])),(36,.r (.bo (decide (withinL 0 ((b.length : Int) - 1) v = false ∨ withinL 0 9 b = false))))]) (fun _ vs=>[]) (fun _=>True) (fun _ h=>h) ?_ ?_
 · cases a1 : withinL 0 ((b.length : Int) - 1) v with
   | false =>
     repeat refine zq ?_
     refine zb fun K hK=>?_;simp only [go_sem];(try simp (disch:=omega) only [zI]);repeat first | intro _ | refine ⟨by omega,?_⟩
     try simp (disch:=omega) only [zI]
     refine zh (within_ok 0 ((b.length : Int) - 1) v) rfl (by simp only [go_sem,i64,ints,a1]) (by simp only [go_sem,i64,ints,a1]) (by first | exact .inl rfl | exact .inr rfl) ?_
     (try simp only [go_sem,a1]);(try simp (disch:=omega) only [zI]);repeat first | intro _ | refine ⟨by omega,?_⟩
     refine hK _ ?_;clear hK K
     refine ⟨(),trivial,zj [] ?_ ?_⟩
     · try simp only [go_sem]
       try simp
     · try simp only [go_sem]
   | true =>
     repeat refine zq ?_
     refine zb fun K hK=>?_;simp only [go_sem];(try simp (disch:=omega) only [zI]);repeat first | intro _ | refine ⟨by omega,?_⟩
     try simp (disch:=omega) only [zI]
     refine zh (within_ok 0 ((b.length : Int) - 1) v) rfl (by simp only [go_sem,i64,ints,a1]) (by simp only [go_sem,i64,ints,a1]) (by first | exact .inl rfl | exact .inr rfl) ?_
     (try simp only [go_sem,a1]);(try simp (disch:=omega) only [zI])
     refine zh (within_ok 0 9 b) rfl (by simp only [go_sem,i64,ints,a1]) (by simp only [go_sem,i64,ints,a1]) (by first | exact .inl rfl | exact .inr rfl) ?_
     (try simp only [go_sem,a1]);(try simp (disch:=omega) only [zI]);repeat first | intro _ | refine ⟨by omega,?_⟩
     refine hK _ ?_;clear hK K
     refine ⟨(),trivial,zj [] ?_ ?_⟩
     · try simp only [go_sem]
       try simp
     · try simp only [go_sem]
 intro _ vs _
 repeat refine zq ?_
 refine zc rfl (fun hc=>?_) (fun hc=>?_) <;> (try simp only [go_sem] at hc)
 · have hc' : withinL 0 ((b.length : Int) - 1) v = false ∨ withinL 0 9 b = false:=by simpa using hc
   have he : nightErr N v b = 2:=by unfold nightErr; rw [if_neg hc1,if_pos hc']
   rw [he]
   repeat refine zq ?_
   refine zb fun K hK=>?_;simp only [go_sem];(try simp (disch:=omega) only [zI]);repeat first | intro _ | refine ⟨by omega,?_⟩
   refine hK _ ?_;clear hK K;refine ze ?_;simp only [go_sem]
 have hc2 : ¬ (withinL 0 ((b.length : Int) - 1) v = false ∨ withinL 0 9 b = false):=by simpa using hc
 have he : nightErr N v b = if (N.any fun l=>l.any (badN v)) = true then 2 else 0:=by unfold nightErr; rw [if_neg hc1,if_neg hc2]
 rw [he]
 refine zx ?_
 try simp only [go_sem]
 repeat refine zq ?_
 refine zb fun K hK=>?_;simp only [go_sem];(try simp (disch:=omega) only [zI]);repeat first | intro _ | refine ⟨by omega,?_⟩
 refine hK _ ?_;clear hK K;refine zw (zk [4,37,38,39]) ?_;simp only [go_sem]
 repeat refine zq ?_
 refine zd ?_
 refine awp_uptoV (n:=47) N.length (fun i vs=>[(4,.r (.rp [ints v])),(37,.r (nightsR N)),(38,.r (i64 (N.length : Int))),(39,.r (i64 (i : Int)))])
  (fun i vs=>[]) (fun i=>∀ l ∈ N.take i,l.any (badN v) = false) 0 (zj [] ?_ ?_) (Nat.zero_le _) (by simp) ?_
 · try simp only [go_sem]
   try rfl
 · try simp only [go_sem]
 · intro i vs hi hI
   repeat refine zq ?_
   refine zb fun K hK=>?_;simp only [go_sem];(try simp (disch:=omega) only [zI]);repeat first | intro _ | refine ⟨by omega,?_⟩
   refine hK _ ?_;clear hK K;refine zw (zk [4,37,38,39,40]) ?_;simp only [go_sem]
   repeat refine zq ?_
   refine zc rfl (fun hc=>?_) (fun hc=>?_) <;> (try simp only [go_sem] at hc)
   · have hil : i < N.length:=by omega
     obtain ⟨l,hl⟩:=opt_of_lt hil
     have hcm:=containsM_ok (badN v) 104 [.rp [ints v]] l fun m _=>bad_ok v m
     refine zx ?_
     try simp only [go_sem]
     repeat refine zq ?_
     refine zd ?_
     repeat refine zq ?_
     refine zb fun K hK=>?_;simp only [go_sem,hl,hil];(try simp (disch:=omega) only [zI]);repeat first | intro _ | refine ⟨by omega,?_⟩
     refine hK _ ?_;clear hK K;refine zw (zk [4,8,37,38,39]) ?_;simp only [go_sem]
     repeat refine zq ?_
     refine zb fun K hK=>?_;simp only [go_sem];(try simp (disch:=omega) only [zI])
     refine zh (hcm) rfl (by simp only [go_sem,i64,ints]) (by simp only [go_sem,i64,ints]) (by first | exact .inl rfl | exact .inr rfl) ?_
     (try simp only [go_sem]);(try simp (disch:=omega) only [zI]);repeat first | intro _ | refine ⟨by omega,?_⟩
     refine hK _ ?_;clear hK K;refine zw (zk [4,37,38,39,45]) ?_;simp only [go_sem]
     cases hb : l.any (badN v) with
     | true =>
       have hany : (N.any fun l=>l.any (badN v)) = true:=List.any_eq_true.2 ⟨l,mem_of_opt hl,hb⟩
       rw [if_pos hany]
       repeat refine zq ?_
       refine zc rfl (fun hc=>?_) (fun hc=>?_) <;> (try simp only [go_sem] at hc)
       repeat refine zq ?_
       refine zb fun K hK=>?_;simp only [go_sem];(try simp (disch:=omega) only [zI]);repeat first | intro _ | refine ⟨by omega,?_⟩
       refine hK _ ?_;clear hK K;refine ze ?_;simp only [go_sem]
     | false =>
       repeat refine zq ?_
       refine zc rfl (fun hc=>?_) (fun hc=>?_) <;> (try simp only [go_sem] at hc)
       refine zx ?_
       try simp only [go_sem]
       repeat refine zq ?_
       refine zb fun K hK=>?_;simp only [go_sem];(try simp (disch:=omega) only [zI]);repeat first | intro _ | refine ⟨by omega,?_⟩
       refine hK _ ?_;clear hK K
       try simp only [go_sem]
       refine ⟨by omega,fun z hz=>?_,zj [] ?_ ?_⟩
       · rw [take_of_opt hl,List.mem_append,List.mem_singleton] at hz
         rcases hz with hz | rfl
         · exact hI z hz
         · exact hb
       · try simp only [go_sem]
       · try simp only [go_sem]
   · have hil : i = N.length:=by omega
     subst hil
     rw [List.take_length] at hI
     have hany : ¬ (N.any fun l=>l.any (badN v)) = true:=by
      rw [List.any_eq_true]
      rintro ⟨l,h1,h2⟩
      rw [hI l h1] at h2; cases h2
     rw [if_neg hany]
     refine zf ?_;simp only [go_sem]
     repeat refine zq ?_
     refine zb fun K hK=>?_;simp only [go_sem];(try simp (disch:=omega) only [zI]);repeat first | intro _ | refine ⟨by omega,?_⟩
     refine hK _ ?_;clear hK K;refine ze ?_;simp only [go_sem]
def forV (r : Tr) (res : List Int) (k : Nat) (f : Int) : Int:=if res[k]? = some 0 then r.legs else if res[k]? = some 1 then r.legs / 2 else f
def putM (r : Tr) (res : List Int) (k : Nat) (m : Mt) : Mt:=⟨m.h,m.a,true,forV r res k m.f,r.legs - forV r res k m.f⟩
def fillL (r : Tr) (res : List Int) : Nat → List Mt → List Mt
 | _,[]=>[]
 | k,m :: ms=>if m.p then m :: fillL r res k ms else putM r res k m :: fillL r res (k + 1) ms
def mixL (r : Tr) (res : List Int) (l : List Mt) (i : Nat) : List Mt:=fillL r res 0 (l.take i) ++ l.drop i
abbrev u8 (n : Nat) : RV:=.it .u8 (n : Int)
abbrev bytesR (l : List Nat) : RV:=.sl 1 (l.map fun n=>[u8 n])
def rawB (bs : List Nat) (k : Nat) : Nat:=if bs = [] then 0 else bs.getD (k % bs.length) 0 % 3
def someN (r : Tr) (bs : List Nat) (k : Nat) : Int:=if rawB bs k = 1 ∧ r.legs % 2 = 1 then 2 else (rawB bs k : Int)
def someV (r : Tr) (l : List Mt) (bs : List Nat) : List Int:=(List.range (leftV l).length).map (someN r bs)
structure Sm where
 teams : Nat
 legs : Nat
 win : Nat
 draw : Nat
 up : Nat
 down : Nat
 ded : List Nat
 ms : List (Nat × Nat × Nat)
 left : Nat
abbrev m3R (v : Nat × Nat × Nat) : List RV:=[u8 v.1,u8 v.2.1,u8 v.2.2]
abbrev smC (x : Sm) : List RV:=[u8 x.teams,u8 x.legs,u8 x.win,u8 x.draw,u8 x.up,u8 x.down,bytesR x.ded,.sl 3 (x.ms.map m3R),u8 x.left]
abbrev smV (x : Sm) : RV:=.ag (smC x)
structure WfS (x : Sm) : Prop where
 teams : x.teams < 256
 legs : x.legs < 256
 win : x.win < 256
 draw : x.draw < 256
 up : x.up < 256
 down : x.down < 256
 ded : ∀ n ∈ x.ded,n < 256
 ms : ∀ v ∈ x.ms,v.1 < 256 ∧ v.2.1 < 256 ∧ v.2.2 < 256
 left : x.left < 256
def sT (x : Sm) : Nat:=2 + x.teams % 7
def sL (x : Sm) : Nat:=1 + x.legs % 12
def sW (x : Sm) : Nat:=x.win % 10
def sD (x : Sm) : Nat:=x.draw % (sW x + 1)
def sU (x : Sm) : Nat:=x.up % (sT x + 1)
def sN (x : Sm) : Nat:=x.down % (sT x - sU x + 1)
def sDed (x : Sm) (i : Nat) : List Int:=(List.range i).map fun k=>((x.ded.getD (k % x.ded.length) 0 % 20 : Nat) : Int)
def divR (x : Sm) : Tr:=⟨sT x,sL x,sW x,sD x,if x.ded = [] then [] else sDed x (sT x),sU x,sN x⟩
def playedB (x : Sm) (i : Nat) : Bool:=decide ((i : Int) < (x.ms.length : Int) - ((x.left % 6 : Nat) : Int)) && decide ((i : Int) < 30 - ((x.left % 6 : Nat) : Int))
def mkM (x : Sm) (i : Nat) (v : Nat × Nat × Nat) : Mt :=
 ⟨((v.1 % sT x : Nat) : Int),(((v.1 % sT x + 1 + v.2.1 % (sT x - 1)) % sT x : Nat) : Int),playedB x i,if playedB x i then ((v.2.2 % (sL x + 1) : Nat) : Int) else 0,if playedB x i then (sL x : Int) - ((v.2.2 % (sL x + 1) : Nat) : Int) else 0⟩
def divK (x : Sm) (i : Nat) : List Mt:=(List.range i).map fun k=>mkM x k (x.ms.getD k (0,0,0))
def divN (x : Sm) : Nat:=min x.ms.length 30
def divL (x : Sm) : List Mt:=divK x (divN x)
def dedAt (x : Sm) (i : Nat) : Int:=((x.ded.getD (i % x.ded.length) 0 % 20 : Nat) : Int)
abbrev thsR (ts : List Th) : RV:=.sl 21 (ts.map thC)
def span99 (n : Nat) (ts : List Th) (x : Nat) : Int × Int:=ts.foldl (spanS n x) (99,0)
def canB (x : Nat) (m : Nat) (ts : List Th) : Bool:=ts.any fun t=>t.won.getD x 0 == (m : Int)
def sureB (n x : Nat) (place : Int) (m : Nat) (ts : List Th) : Bool:=ts.all fun t=>!(decide ((m : Int) ≤ t.won.getD x 0) && decide (place < (placesV n t x).2))
def magB (n x : Nat) (place : Int) (ts : List Th) (m : Nat) : Bool:=canB x m ts && sureB n x place m ts
def refMagicV (n x : Nat) (place : Int) (ts : List Th) : Int:=match (List.range 91).find? (magB n x place ts) with | some m=>(m : Int) | none=>-1
def betB (a b : Rw) : Bool :=
 if a.pts ≠ b.pts then decide (b.pts < a.pts) else if a.f - a.g ≠ b.f - b.g then decide (b.f - b.g < a.f - a.g) else if a.f ≠ b.f then decide (b.f < a.f) else decide (a.team < b.team)
abbrev rwA (x : Rw) : List AV:=[.r (i64 x.team),.r (i64 x.pl),.r (i64 x.won),.r (i64 x.dr),.r (i64 x.lo),.r (i64 x.f),.r (i64 x.g),.r (i64 x.pts)]
end Go.Proofs.Ytobokbhpeaakjaa
