/- Part 6 of the texts of this claim. -/
import Derived.Test.YtlbfkhikmigpbaaV35
namespace Go.Proofs.Ytlbfkhikmigpbaa
open Go Go.Oc
set_option linter.unusedSimpArgs false
set_option linter.unusedVariables false
set_option maxRecDepth 8000
def inB (n a b : Int) : Bool:=decide (a ≤ n) && decide (n ≤ b)
theorem in_ok (n a b : Int) : ACalls Try.prog 44 [i64 n,i64 a,i64 b] (.bo (inB n a b)):=by
 refine acalls_st (rs:=[.bo (inB n a b)]) [.tmp 6] Try.func44 rfl (by kernel_rfl) Try.ntmps44 rfl (by simp) rfl fun C vs=>?_
 repeat refine zq ?_
 refine zb (by kernel_rfl) fun K hK=>?_
 simp only [go_sem]
 (try simp (disch:=omega) only [zI])
 repeat first | intro _ | refine ⟨by omega,?_⟩ | refine ⟨⟨by omega,by omega⟩,?_⟩
 refine hK _ ?_
 clear hK K
 refine zw (zk [0,1,2]) ?_
 simp only [go_sem]
 by_cases h : a ≤ n
 · have c : decide (a ≤ n) = true:=by simpa using h
   repeat refine zq ?_
   refine zb (by kernel_rfl) fun K hK=>?_
   simp only [go_sem,c]
   (try simp (disch:=omega) only [zI])
   repeat' first | intro _ | refine And.intro ?_ ?_
   all_goals first | omega | skip
   all_goals (refine hK _ ?_; clear hK K)
   all_goals refine zw (zk [6]) ?_
   simp only [go_sem]
   all_goals (refine ze ?_; simp only [go_sem])
   all_goals simp [inB,h]
 · have c : decide (a ≤ n) = false:=by simpa using h
   repeat refine zq ?_
   refine zb (by kernel_rfl) fun K hK=>?_
   simp only [go_sem,c]
   (try simp (disch:=omega) only [zI])
   repeat' first | intro _ | refine And.intro ?_ ?_
   all_goals first | omega | skip
   all_goals (refine hK _ ?_; clear hK K)
   all_goals refine zw (zk [6]) ?_
   simp only [go_sem]
   all_goals (refine ze ?_; simp only [go_sem])
   all_goals simp [inB,h]
theorem refBed_ok (b : Int) (hb : I64 b) : ACalls Try.prog 89 [i64 b] (.bo (bedOk b)):=by
 have ht:=tdiv100 hb
 have i1:=in_ok (b.tdiv 100) 1 4
 have i2:=in_ok (b.tmod 100) 1 20
 have hw:=bedOk_within b
 simp only [withinL,List.all_cons,List.all_nil,Bool.and_true] at hw
 refine acalls_st (rs:=[.bo (bedOk b)]) [.tmp 2] Try.func89 rfl (by kernel_rfl) Try.ntmps89 rfl (by simp) rfl fun C vs=>?_
 repeat refine zq ?_
 refine zb (by kernel_rfl) fun K hK=>?_
 simp only [go_sem]
 (try simp (disch:=omega) only [zI])
 repeat first | intro _ | refine ⟨by omega,?_⟩ | refine ⟨⟨by omega,by omega⟩,?_⟩
 refine hK _ ?_
 clear hK K
 refine zw (zk [0]) ?_
 simp only [go_sem]
 by_cases h1 : b = 125
 · have c1 : (b == 125) = true:=by simpa using h1
   repeat refine zq ?_
   refine zb (by kernel_rfl) fun K hK=>?_
   simp only [go_sem,c1]
   (try simp (disch:=omega) only [zI])
   repeat' first | intro _ | refine And.intro ?_ ?_
   all_goals first | omega | skip
   all_goals (refine hK _ ?_; clear hK K)
   all_goals refine zw (zk [2]) ?_
   simp only [go_sem]
   all_goals (refine ze ?_; simp only [go_sem])
   all_goals simp [bedOk,h1]
 have c1 : (b == 125) = false:=by simpa using h1
 by_cases h2 : b = 225
 · have c2 : (b == 225) = true:=by simpa using h2
   repeat refine zq ?_
   refine zb (by kernel_rfl) fun K hK=>?_
   simp only [go_sem,c1,c2]
   (try simp (disch:=omega) only [zI])
   repeat' first | intro _ | refine And.intro ?_ ?_
   all_goals first | omega | skip
   all_goals (refine hK _ ?_; clear hK K)
   all_goals refine zw (zk [2]) ?_
   simp only [go_sem]
   all_goals (refine ze ?_; simp only [go_sem])
   all_goals simp [bedOk,h2]
 have c2 : (b == 225) = false:=by simpa using h2
 rw [c1,c2,Bool.or_false,Bool.or_false] at hw
 cases h3 : inB (b.tdiv 100) 1 4
 · rw [h3] at i1
   repeat refine zq ?_
   refine zb (by kernel_rfl) fun K hK=>?_
   simp only [go_sem,c1,c2,ht]
   (try simp (disch:=omega) only [zI])
   repeat first | intro _ | refine ⟨by omega,?_⟩ | refine ⟨⟨by omega,by omega⟩,?_⟩
   refine zh (i1) rfl (by simp only [go_sem,i64,ints,c1,c2,ht]) (by simp only [go_sem,i64,ints,c1,c2,ht]) (by first | exact .inl rfl | exact .inr rfl) ?_
   (try simp only [go_sem,c1,c2,ht])
   (try simp (disch:=omega) only [zI])
   repeat first | intro _ | refine ⟨by omega,?_⟩ | refine ⟨⟨by omega,by omega⟩,?_⟩
   refine hK _ ?_
   clear hK K
   refine zw (zk [2]) ?_
   simp only [go_sem]
   refine ze ?_
   simp only [go_sem]
   rw [← hw]
   unfold inB at h3
   rw [h3]; rfl
 · rw [h3] at i1
   repeat refine zq ?_
   refine zb (by kernel_rfl) fun K hK=>?_
   simp only [go_sem,c1,c2,ht]
   (try simp (disch:=omega) only [zI])
   repeat first | intro _ | refine ⟨by omega,?_⟩ | refine ⟨⟨by omega,by omega⟩,?_⟩
   refine zh (i1) rfl (by simp only [go_sem,i64,ints,c1,c2,ht]) (by simp only [go_sem,i64,ints,c1,c2,ht]) (by first | exact .inl rfl | exact .inr rfl) ?_
   (try simp only [go_sem,c1,c2,ht])
   (try simp (disch:=omega) only [zI])
   repeat first | intro _ | refine ⟨by omega,?_⟩ | refine ⟨⟨by omega,by omega⟩,?_⟩
   refine zh (i2) rfl (by simp only [go_sem,i64,ints,c1,c2,ht]) (by simp only [go_sem,i64,ints,c1,c2,ht]) (by first | exact .inl rfl | exact .inr rfl) ?_
   (try simp only [go_sem,c1,c2,ht])
   (try simp (disch:=omega) only [zI])
   repeat first | intro _ | refine ⟨by omega,?_⟩ | refine ⟨⟨by omega,by omega⟩,?_⟩
   refine hK _ ?_
   clear hK K
   refine zw (zk [2]) ?_
   simp only [go_sem]
   refine ze ?_
   simp only [go_sem]
   rw [← hw]
   unfold inB at h3 ⊢
   rw [h3,Bool.true_and]
def stepOk (d : Int) (p : Option Int) (x : Bd) : Bool:=(decide (x.b = 0) || bedOk x.b) && (match p with | none=>true | some q=>decide (q < x.b)) && (decide (0 ≤ x.lo) && decide (x.lo ≤ x.hi) && decide (x.hi ≤ d))
def restOk (d : Int) (l : List Bd) (k : Nat) : Bool:=seqOk (prevB l k) (l.drop k) && chOk d (l.drop k)
theorem restOk_step {d : Int} {l : List Bd} {k : Nat} {x : Bd} (hx : l[k]? = some x) : restOk d l k = (stepOk d (prevB l k) x && restOk d l (k + 1)):=by
 have hsq : ∀ (p : Option Int) (x : Bd) (l : List Bd),seqOk p (x :: l) = ((decide (x.b = 0) || bedOk x.b) && (match p with | none=>true | some q=>decide (q < x.b)) && seqOk (some x.b) l):=fun p x l=>by cases p <;> rfl
 unfold restOk stepOk
 rw [drop_of_opt hx,hsq,chOk,List.all_cons]
 have : prevB l (k + 1) = some x.b:=by simp [prevB,hx]
 rw [this]
 unfold chOk
 cases (decide (x.b = 0) || bedOk x.b) <;> cases (match prevB l k with | none=>true | some q=>decide (q < x.b)) <;> simp
 cases seqOk (some x.b) (List.drop (k + 1) l) <;> simp
set_option maxHeartbeats 4000000
theorem refAim_ok (x0 : Am) (d : Int) (hw0 : WfA x0) (hd : d ≤ 6000) (hl : x0.beds.length ≤ 1000) : ACalls Try.prog 72 [aimV x0,i64 d] (.bo (aimOk d x0)):=by
 obtain ⟨a,l⟩:=x0
 obtain ⟨ha,hw⟩:=hw0
 simp only at hl hw ha
 have hA : aimOk d ⟨a,l⟩ = (bedOk a && !l.isEmpty && restOk d l 0 && decide (loS l ≤ d) && decide (d ≤ hiS l)):=by
  simp only [aimOk,restOk,List.drop_zero,prevB]
  cases bedOk a <;> cases l.isEmpty <;> cases seqOk none l <;> simp
 refine acalls_st (rs:=[.bo (aimOk d ⟨a,l⟩)]) [.tmp 4] Try.func72 rfl (by kernel_rfl) Try.ntmps72 rfl (by simp) rfl fun C vs=>?_
 repeat refine zq ?_
 refine zb (by kernel_rfl) fun K hK=>?_
 simp only [go_sem]
 (try simp (disch:=omega) only [zI])
 repeat first | intro _ | refine ⟨by omega,?_⟩ | refine ⟨⟨by omega,by omega⟩,?_⟩
 refine hK _ ?_
 clear hK K
 refine zw (sub_frzP 2 2 [i64 a,bedsR l] (by omega) rfl rfl) ?_
 refine zw (zk [1,2]) ?_
 simp only [go_sem]
 repeat refine zq ?_
 refine zb (by kernel_rfl) fun K hK=>?_
 simp only [go_sem]
 (try simp (disch:=omega) only [zI])
 repeat first | intro _ | refine ⟨by omega,?_⟩ | refine ⟨⟨by omega,by omega⟩,?_⟩
 refine hK _ ?_
 clear hK K
 refine zw (zk [1,2,5,6]) ?_
 simp only [go_sem]
 repeat refine zq ?_
 refine zb (by kernel_rfl) fun K hK=>?_
 simp only [go_sem]
 (try simp (disch:=omega) only [zI])
 repeat first | intro _ | refine ⟨by omega,?_⟩ | refine ⟨⟨by omega,by omega⟩,?_⟩
 refine hK _ ?_
 clear hK K
 refine zw (zk [1,2,5,6,7]) ?_
 simp only [go_sem]
 repeat refine zq ?_
 refine zd ?_
 refine awp_upto (n:=92) l.length (fun i vs=>[(1,.r (i64 d)),(2,.r (.rp [i64 a,bedsR l])),(5,.r (i64 (loS (l.take i)))),(6,.r (i64 (hiS (l.take i)))),(7,.r (i64 i))])
  (fun i=>[]) (fun i=>restOk d l 0 = restOk d l i ∧ Small (l.take i)) 0 (fit_of [] ?_ ?_) (Nat.zero_le _) ⟨rfl,fun x hx=>by simp at hx⟩ ?_
 · try simp only [go_sem]
   simp [loS,hiS]
 · try simp only [go_sem]
 · rintro i vs hi ⟨hI,hS⟩
   repeat refine zq ?_
   refine zb (by kernel_rfl) fun K hK=>?_
   simp only [go_sem]
   (try simp (disch:=omega) only [zI])
   intros
   repeat first | intro _ | refine ⟨by omega,?_⟩ | refine ⟨⟨by omega,by omega⟩,?_⟩
   refine hK _ ?_
   clear hK K
   refine zw (zk [1,2,5,6,7,13]) ?_
   simp only [go_sem]
   repeat refine zq ?_
   refine zc rfl (fun hc=>?_) (fun hc=>?_) <;> (try simp only [go_sem] at hc)
   · have hci : i < l.length:=by omega
     obtain ⟨x,hx⟩:=opt_of_lt hci
     obtain ⟨w1,w2,w3⟩:=hw x (mem_of_opt hx)
     have hB:=refBed_ok x.b w1
     have hIn:=in_ok x.lo 0 x.hi
     have hst:=restOk_step (d:=d) hx
     rw [hst] at hI
     refine zx ?_
     try simp only [go_sem]
     repeat refine zq ?_
     refine zd ?_
     repeat refine zq ?_
     refine zb (by kernel_rfl) fun K hK=>?_
     simp only [go_sem,hx,hci,bedR]
     (try simp (disch:=omega) only [zI])
     repeat first | intro _ | refine ⟨by omega,?_⟩ | refine ⟨⟨by omega,by omega⟩,?_⟩
     refine hK _ ?_
     clear hK K
     refine zw (sub_frzP 8 8 (bedR x) (by omega) rfl rfl) ?_
     simp only [go_sem,bedR]
     refine zw (zk [1,2,5,6,7,8]) ?_
     simp only [go_sem]
     repeat refine zq ?_
     refine awp_join (n:=92) (fun (b : Bool) vs=>[(1,.r (i64 d)),(2,.r (.rp [i64 a,bedsR l])),(5,.r (i64 (loS (l.take i)))),(6,.r (i64 (hiS (l.take i)))),(7,.r (i64 i)),(8,.r (.rp [i64 x.b,i64 x.lo,i64 x.hi])),(62,.r (.bo b))])
      (fun _=>[]) (fun b=>b = !stepOk d (prevB l i) x) (fun _ h=>h) ?_ ?_
     · by_cases h0 : x.b = 0
       · have e0 : (x.b != 0) = false:=by simp [h0]
         cases i with
         | zero =>
           have z0 : decide ((0 : Int) < ((0 : Nat) : Int)) = false:=by simp
           cases hin : inB x.lo 0 x.hi
           · rw [hin] at hIn
             repeat refine zq ?_
             refine zg follows (by decide +kernel) (by kernel_rfl) fun K hK=>?_
             simp only [go_sem,e0,z0]
             (try simp (disch:=omega) only [zI])
             repeat first | intro _ | refine ⟨by omega,?_⟩ | refine ⟨⟨by omega,by omega⟩,?_⟩
             refine zh (hIn) rfl (by simp only [go_sem,i64,ints,e0,z0]) (by simp only [go_sem,i64,ints,e0,z0]) (by first | exact .inl rfl | exact .inr rfl) ?_
             (try simp only [go_sem,e0,z0])
             (try simp (disch:=omega) only [zI])
             repeat first | intro _ | refine ⟨by omega,?_⟩ | refine ⟨⟨by omega,by omega⟩,?_⟩
             refine hK _ ?_
             clear hK K
             try simp only [go_sem]
             refine ⟨true,?_,fit_of [] (by try simp only [go_sem]) (by try simp only [go_sem])⟩
             unfold inB at hin
             simp [stepOk,prevB] at *
             try simp_all
             try omega
             try (by_cases hq : x.hi ≤ d <;> simp [hq] <;> omega)
           · rw [hin] at hIn
             repeat refine zq ?_
             refine zg follows (by decide +kernel) (by kernel_rfl) fun K hK=>?_
             simp only [go_sem,e0,z0]
             (try simp (disch:=omega) only [zI])
             repeat first | intro _ | refine ⟨by omega,?_⟩ | refine ⟨⟨by omega,by omega⟩,?_⟩
             refine zh (hIn) rfl (by simp only [go_sem,i64,ints,e0,z0]) (by simp only [go_sem,i64,ints,e0,z0]) (by first | exact .inl rfl | exact .inr rfl) ?_
             (try simp only [go_sem,e0,z0])
             (try simp (disch:=omega) only [zI])
             repeat first | intro _ | refine ⟨by omega,?_⟩ | refine ⟨⟨by omega,by omega⟩,?_⟩
             refine hK _ ?_
             clear hK K
             try simp only [go_sem]
             refine ⟨decide (d < x.hi),?_,fit_of [] (by try simp only [go_sem]) (by try simp only [go_sem])⟩
             unfold inB at hin
             simp [stepOk,prevB] at *
             try simp_all
             try omega
             try (by_cases hq : x.hi ≤ d <;> simp [hq] <;> omega)
         | succ j =>
           obtain ⟨y,hy⟩:=opt_of_lt (l:=l) (i:=j) (by omega)
           have hpy : prevB l (j + 1) = some y.b:=by simp [prevB,hy]
           have hj1 : IntKind.i64.wrap ((j : Int) + 1 - 1) = (j : Int):=by rw [zI] <;> omega
           have hj2 : j < l.length:=by omega
           have hj0 : decide ((0 : Int) < (j : Int) + 1) = true:=by first | (simp; done) | (simp; omega)
           have hj3 : (0 < (j : Int) + 1) = True:=by first | (simp; done) | (simp; omega)
           rw [hpy] at *
           cases hle : decide (x.b ≤ y.b)
           · skip
             cases hin : inB x.lo 0 x.hi
             · rw [hin] at hIn
               repeat refine zq ?_
               refine zg follows (by decide +kernel) (by kernel_rfl) fun K hK=>?_
               simp only [go_sem,e0,hj0,hj1,hj2,hj3,hy,hle,bedR]
               (try simp (disch:=omega) only [zI])
               repeat first | intro _ | refine ⟨by omega,?_⟩ | refine ⟨⟨by omega,by omega⟩,?_⟩
               refine zh (hIn) rfl (by simp only [go_sem,i64,ints,e0,hj0,hj1,hj2,hj3,hy,hle,bedR]) (by simp only [go_sem,i64,ints,e0,hj0,hj1,hj2,hj3,hy,hle,bedR]) (by first | exact .inl rfl | exact .inr rfl) ?_
               (try simp only [go_sem,e0,hj0,hj1,hj2,hj3,hy,hle,bedR])
               (try simp (disch:=omega) only [zI])
               repeat first | intro _ | refine ⟨by omega,?_⟩ | refine ⟨⟨by omega,by omega⟩,?_⟩
               refine hK _ ?_
               clear hK K
               try simp only [go_sem]
               refine ⟨true,?_,fit_of [] (by try simp only [go_sem]) (by try simp only [go_sem])⟩
               unfold inB at hin
               simp [stepOk,prevB] at *
               try simp_all
               try omega
               try (by_cases hq : x.hi ≤ d <;> simp [hq] <;> omega)
             · rw [hin] at hIn
               repeat refine zq ?_
               refine zg follows (by decide +kernel) (by kernel_rfl) fun K hK=>?_
               simp only [go_sem,e0,hj0,hj1,hj2,hj3,hy,hle,bedR]
               (try simp (disch:=omega) only [zI])
               repeat first | intro _ | refine ⟨by omega,?_⟩ | refine ⟨⟨by omega,by omega⟩,?_⟩
               refine zh (hIn) rfl (by simp only [go_sem,i64,ints,e0,hj0,hj1,hj2,hj3,hy,hle,bedR]) (by simp only [go_sem,i64,ints,e0,hj0,hj1,hj2,hj3,hy,hle,bedR]) (by first | exact .inl rfl | exact .inr rfl) ?_
               (try simp only [go_sem,e0,hj0,hj1,hj2,hj3,hy,hle,bedR])
               (try simp (disch:=omega) only [zI])
               repeat first | intro _ | refine ⟨by omega,?_⟩ | refine ⟨⟨by omega,by omega⟩,?_⟩
               refine hK _ ?_
               clear hK K
               try simp only [go_sem]
               refine ⟨decide (d < x.hi),?_,fit_of [] (by try simp only [go_sem]) (by try simp only [go_sem])⟩
               unfold inB at hin
               simp [stepOk,prevB] at *
               try simp_all
               try omega
               try (by_cases hq : x.hi ≤ d <;> simp [hq] <;> omega)
           · skip
             repeat refine zq ?_
             refine zg follows (by decide +kernel) (by kernel_rfl) fun K hK=>?_
             simp only [go_sem,e0,hj0,hj1,hj2,hj3,hy,hle,bedR]
             (try simp (disch:=omega) only [zI])
             repeat first | intro _ | refine ⟨by omega,?_⟩ | refine ⟨⟨by omega,by omega⟩,?_⟩
             repeat first | intro _ | refine ⟨by omega,?_⟩ | refine ⟨⟨by omega,by omega⟩,?_⟩
             refine hK _ ?_
             clear hK K
             try simp only [go_sem]
             refine ⟨true,?_,fit_of [] (by try simp only [go_sem]) (by try simp only [go_sem])⟩
             simp [stepOk,prevB] at *
             try simp_all
             try omega
       · have e0 : (x.b != 0) = true:=by simp [h0]
         cases hbk : bedOk x.b
         · rw [hbk] at hB
           repeat refine zq ?_
           refine zg follows (by decide +kernel) (by kernel_rfl) fun K hK=>?_
           simp only [go_sem,e0]
           (try simp (disch:=omega) only [zI])
           repeat first | intro _ | refine ⟨by omega,?_⟩ | refine ⟨⟨by omega,by omega⟩,?_⟩
           refine zh (hB) rfl (by simp only [go_sem,i64,ints,e0]) (by simp only [go_sem,i64,ints,e0]) (by first | exact .inl rfl | exact .inr rfl) ?_
           (try simp only [go_sem,e0])
           (try simp (disch:=omega) only [zI])
           repeat first | intro _ | refine ⟨by omega,?_⟩ | refine ⟨⟨by omega,by omega⟩,?_⟩
           repeat first | intro _ | refine ⟨by omega,?_⟩ | refine ⟨⟨by omega,by omega⟩,?_⟩
           refine hK _ ?_
           clear hK K
           try simp only [go_sem]
           refine ⟨true,?_,fit_of [] (by try simp only [go_sem]) (by try simp only [go_sem])⟩
           simp [stepOk,prevB] at *
           try simp_all
           try omega
         · rw [hbk] at hB
           cases i with
           | zero =>
             have z0 : decide ((0 : Int) < ((0 : Nat) : Int)) = false:=by simp
             cases hin : inB x.lo 0 x.hi
             · rw [hin] at hIn
               repeat refine zq ?_
               refine zg follows (by decide +kernel) (by kernel_rfl) fun K hK=>?_
               simp only [go_sem,e0,z0]
               (try simp (disch:=omega) only [zI])
               repeat first | intro _ | refine ⟨by omega,?_⟩ | refine ⟨⟨by omega,by omega⟩,?_⟩
               refine zh (hB) rfl (by simp only [go_sem,i64,ints,e0,z0]) (by simp only [go_sem,i64,ints,e0,z0]) (by first | exact .inl rfl | exact .inr rfl) ?_
               (try simp only [go_sem,e0,z0])
               (try simp (disch:=omega) only [zI])
               repeat first | intro _ | refine ⟨by omega,?_⟩ | refine ⟨⟨by omega,by omega⟩,?_⟩
               refine zh (hIn) rfl (by simp only [go_sem,i64,ints,e0,z0]) (by simp only [go_sem,i64,ints,e0,z0]) (by first | exact .inl rfl | exact .inr rfl) ?_
               (try simp only [go_sem,e0,z0])
               (try simp (disch:=omega) only [zI])
               repeat first | intro _ | refine ⟨by omega,?_⟩ | refine ⟨⟨by omega,by omega⟩,?_⟩
               refine hK _ ?_
               clear hK K
               try simp only [go_sem]
               refine ⟨true,?_,fit_of [] (by try simp only [go_sem]) (by try simp only [go_sem])⟩
               unfold inB at hin
               simp [stepOk,prevB] at *
               try simp_all
               try omega
               try (by_cases hq : x.hi ≤ d <;> simp [hq] <;> omega)
             · rw [hin] at hIn
               repeat refine zq ?_
               refine zg follows (by decide +kernel) (by kernel_rfl) fun K hK=>?_
               simp only [go_sem,e0,z0]
               (try simp (disch:=omega) only [zI])
               repeat first | intro _ | refine ⟨by omega,?_⟩ | refine ⟨⟨by omega,by omega⟩,?_⟩
               refine zh (hB) rfl (by simp only [go_sem,i64,ints,e0,z0]) (by simp only [go_sem,i64,ints,e0,z0]) (by first | exact .inl rfl | exact .inr rfl) ?_
               (try simp only [go_sem,e0,z0])
               (try simp (disch:=omega) only [zI])
               repeat first | intro _ | refine ⟨by omega,?_⟩ | refine ⟨⟨by omega,by omega⟩,?_⟩
               refine zh (hIn) rfl (by simp only [go_sem,i64,ints,e0,z0]) (by simp only [go_sem,i64,ints,e0,z0]) (by first | exact .inl rfl | exact .inr rfl) ?_
               (try simp only [go_sem,e0,z0])
               (try simp (disch:=omega) only [zI])
               repeat first | intro _ | refine ⟨by omega,?_⟩ | refine ⟨⟨by omega,by omega⟩,?_⟩
               refine hK _ ?_
               clear hK K
               try simp only [go_sem]
               refine ⟨decide (d < x.hi),?_,fit_of [] (by try simp only [go_sem]) (by try simp only [go_sem])⟩
               unfold inB at hin
               simp [stepOk,prevB] at *
               try simp_all
               try omega
               try (by_cases hq : x.hi ≤ d <;> simp [hq] <;> omega)
           | succ j =>
             obtain ⟨y,hy⟩:=opt_of_lt (l:=l) (i:=j) (by omega)
             have hpy : prevB l (j + 1) = some y.b:=by simp [prevB,hy]
             have hj1 : IntKind.i64.wrap ((j : Int) + 1 - 1) = (j : Int):=by rw [zI] <;> omega
             have hj2 : j < l.length:=by omega
             have hj0 : decide ((0 : Int) < (j : Int) + 1) = true:=by first | (simp; done) | (simp; omega)
             have hj3 : (0 < (j : Int) + 1) = True:=by first | (simp; done) | (simp; omega)
             rw [hpy] at *
             cases hle : decide (x.b ≤ y.b)
             · skip
               cases hin : inB x.lo 0 x.hi
               · rw [hin] at hIn
                 repeat refine zq ?_
                 refine zg follows (by decide +kernel) (by kernel_rfl) fun K hK=>?_
                 simp only [go_sem,e0,hj0,hj1,hj2,hj3,hy,hle,bedR]
                 (try simp (disch:=omega) only [zI])
                 repeat first | intro _ | refine ⟨by omega,?_⟩ | refine ⟨⟨by omega,by omega⟩,?_⟩
                 refine zh (hB) rfl (by simp only [go_sem,i64,ints,e0,hj0,hj1,hj2,hj3,hy,hle,bedR]) (by simp only [go_sem,i64,ints,e0,hj0,hj1,hj2,hj3,hy,hle,bedR]) (by first | exact .inl rfl | exact .inr rfl) ?_
                 (try simp only [go_sem,e0,hj0,hj1,hj2,hj3,hy,hle,bedR])
                 (try simp (disch:=omega) only [zI])
                 repeat first | intro _ | refine ⟨by omega,?_⟩ | refine ⟨⟨by omega,by omega⟩,?_⟩
                 refine zh (hIn) rfl (by simp only [go_sem,i64,ints,e0,hj0,hj1,hj2,hj3,hy,hle,bedR]) (by simp only [go_sem,i64,ints,e0,hj0,hj1,hj2,hj3,hy,hle,bedR]) (by first | exact .inl rfl | exact .inr rfl) ?_
                 (try simp only [go_sem,e0,hj0,hj1,hj2,hj3,hy,hle,bedR])
                 (try simp (disch:=omega) only [zI])
                 repeat first | intro _ | refine ⟨by omega,?_⟩ | refine ⟨⟨by omega,by omega⟩,?_⟩
                 refine hK _ ?_
                 clear hK K
                 try simp only [go_sem]
                 refine ⟨true,?_,fit_of [] (by try simp only [go_sem]) (by try simp only [go_sem])⟩
                 unfold inB at hin
                 simp [stepOk,prevB] at *
                 try simp_all
                 try omega
                 try (by_cases hq : x.hi ≤ d <;> simp [hq] <;> omega)
               · rw [hin] at hIn
                 repeat refine zq ?_
                 refine zg follows (by decide +kernel) (by kernel_rfl) fun K hK=>?_
                 simp only [go_sem,e0,hj0,hj1,hj2,hj3,hy,hle,bedR]
                 (try simp (disch:=omega) only [zI])
                 repeat first | intro _ | refine ⟨by omega,?_⟩ | refine ⟨⟨by omega,by omega⟩,?_⟩
                 refine zh (hB) rfl (by simp only [go_sem,i64,ints,e0,hj0,hj1,hj2,hj3,hy,hle,bedR]) (by simp only [go_sem,i64,ints,e0,hj0,hj1,hj2,hj3,hy,hle,bedR]) (by first | exact .inl rfl | exact .inr rfl) ?_
                 (try simp only [go_sem,e0,hj0,hj1,hj2,hj3,hy,hle,bedR])
                 (try simp (disch:=omega) only [zI])
                 repeat first | intro _ | refine ⟨by omega,?_⟩ | refine ⟨⟨by omega,by omega⟩,?_⟩
                 refine zh (hIn) rfl (by simp only [go_sem,i64,ints,e0,hj0,hj1,hj2,hj3,hy,hle,bedR]) (by simp only [go_sem,i64,ints,e0,hj0,hj1,hj2,hj3,hy,hle,bedR]) (by first | exact .inl rfl | exact .inr rfl) ?_
                 (try simp only [go_sem,e0,hj0,hj1,hj2,hj3,hy,hle,bedR])
                 (try simp (disch:=omega) only [zI])
                 repeat first | intro _ | refine ⟨by omega,?_⟩ | refine ⟨⟨by omega,by omega⟩,?_⟩
                 refine hK _ ?_
                 clear hK K
                 try simp only [go_sem]
                 refine ⟨decide (d < x.hi),?_,fit_of [] (by try simp only [go_sem]) (by try simp only [go_sem])⟩
                 unfold inB at hin
                 simp [stepOk,prevB] at *
                 try simp_all
                 try omega
                 try (by_cases hq : x.hi ≤ d <;> simp [hq] <;> omega)
             · skip
               repeat refine zq ?_
               refine zg follows (by decide +kernel) (by kernel_rfl) fun K hK=>?_
               simp only [go_sem,e0,hj0,hj1,hj2,hj3,hy,hle,bedR]
               (try simp (disch:=omega) only [zI])
               repeat first | intro _ | refine ⟨by omega,?_⟩ | refine ⟨⟨by omega,by omega⟩,?_⟩
               refine zh (hB) rfl (by simp only [go_sem,i64,ints,e0,hj0,hj1,hj2,hj3,hy,hle,bedR]) (by simp only [go_sem,i64,ints,e0,hj0,hj1,hj2,hj3,hy,hle,bedR]) (by first | exact .inl rfl | exact .inr rfl) ?_
               (try simp only [go_sem,e0,hj0,hj1,hj2,hj3,hy,hle,bedR])
               (try simp (disch:=omega) only [zI])
               repeat first | intro _ | refine ⟨by omega,?_⟩ | refine ⟨⟨by omega,by omega⟩,?_⟩
               repeat first | intro _ | refine ⟨by omega,?_⟩ | refine ⟨⟨by omega,by omega⟩,?_⟩
               refine hK _ ?_
               clear hK K
               try simp only [go_sem]
               refine ⟨true,?_,fit_of [] (by try simp only [go_sem]) (by try simp only [go_sem])⟩
               simp [stepOk,prevB] at *
               try simp_all
               try omega
     intro b vs hb
     cases b
     · have hok : stepOk d (prevB l i) x = true:=by simpa using hb.symm
       rw [hok,Bool.true_and] at hI
       have hlo : loS (l.take (i + 1)) = loS (l.take i) + x.lo:=by rw [take_of_opt hx,loS_snoc]
       have hhi : hiS (l.take (i + 1)) = hiS (l.take i) + x.hi:=by rw [take_of_opt hx,hiS_snoc]
       have hxs : (0 ≤ x.lo ∧ x.lo ≤ 6000) ∧ 0 ≤ x.hi ∧ x.hi ≤ 6000:=by
        simp only [stepOk,Bool.and_eq_true,decide_eq_true_eq] at hok
        omega
       have hS' : Small (l.take (i + 1)):=by
        rw [take_of_opt hx]
        intro y hy
        rcases List.mem_append.1 hy with hy | hy
        · exact hS y hy
        · rw [List.mem_singleton.1 hy]; exact hxs
       obtain ⟨⟨s1,s2⟩,s3,s4⟩:=sums_le hS
       rw [List.length_take] at s2 s4
       repeat refine zq ?_
       refine zc rfl (fun hc=>?_) (fun hc=>?_) <;> (try simp only [go_sem] at hc)
       refine zx ?_
       try simp only [go_sem]
       repeat refine zq ?_
       refine zg follows (by decide +kernel) (by kernel_rfl) fun K hK=>?_
       simp only [go_sem]
       (try simp (disch:=omega) only [zI])
       repeat first | intro _ | refine ⟨by omega,?_⟩ | refine ⟨⟨by omega,by omega⟩,?_⟩
       refine hK _ ?_
       clear hK K
       refine zw (zk [1,2,5,6,7]) ?_
       simp only [go_sem]
       repeat refine zq ?_
       refine zb (by kernel_rfl) fun K hK=>?_
       simp only [go_sem]
       (try simp (disch:=omega) only [zI])
       repeat first | intro _ | refine ⟨by omega,?_⟩ | refine ⟨⟨by omega,by omega⟩,?_⟩
       refine hK _ ?_
       clear hK K
       try simp only [go_sem]
       refine ⟨hci,⟨hI,hS'⟩,fit_of [] ?_ ?_⟩
       · try simp only [go_sem]
         rw [hlo,hhi]
         exact ⟨rfl,rfl⟩
       · try simp only [go_sem]
     · have hok : stepOk d (prevB l i) x = false:=by simpa using hb.symm
       rw [hok,Bool.false_and] at hI
       repeat refine zq ?_
       refine zc rfl (fun hc=>?_) (fun hc=>?_) <;> (try simp only [go_sem] at hc)
       repeat refine zq ?_
       refine zb (by kernel_rfl) fun K hK=>?_
       simp only [go_sem]
       (try simp (disch:=omega) only [zI])
       repeat first | intro _ | refine ⟨by omega,?_⟩ | refine ⟨⟨by omega,by omega⟩,?_⟩
       refine hK _ ?_
       clear hK K
       refine zw (zk [4]) ?_
       simp only [go_sem]
       refine ze ?_
       simp only [go_sem]
       rw [hA,hI]
       simp
   · have hil : i = l.length:=by omega
     subst hil
     rw [List.take_length]
     have hr : restOk d l l.length = true:=by simp [restOk,seqOk,chOk]
     rw [hr] at hI
     have hB:=refBed_ok a ha
     refine zf ?_
     simp only [go_sem]
     cases hbk : bedOk a
     · rw [hbk] at hB
       repeat refine zq ?_
       refine zb (by kernel_rfl) fun K hK=>?_
       simp only [go_sem]
       (try simp (disch:=omega) only [zI])
       refine zh (hB) rfl (by simp only [go_sem,i64,ints]) (by simp only [go_sem,i64,ints]) (by first | exact .inl rfl | exact .inr rfl) ?_
       (try simp only [go_sem])
       (try simp (disch:=omega) only [zI])
       repeat first | intro _ | refine ⟨by omega,?_⟩ | refine ⟨⟨by omega,by omega⟩,?_⟩
       refine hK _ ?_
       clear hK K
       refine zw (zk [4]) ?_
       simp only [go_sem]
       refine ze ?_
       simp only [go_sem]
       simp [hA,hbk]
     rw [hbk] at hB
     cases hem : l.isEmpty
     rotate_left
     · have hl0 : l = []:=by simpa using hem
       have c1 : decide (1 ≤ (l.length : Int)) = false:=by simp [hl0]
       repeat refine zq ?_
       refine zb (by kernel_rfl) fun K hK=>?_
       simp only [go_sem,c1]
       (try simp (disch:=omega) only [zI])
       refine zh (hB) rfl (by simp only [go_sem,i64,ints,c1]) (by simp only [go_sem,i64,ints,c1]) (by first | exact .inl rfl | exact .inr rfl) ?_
       (try simp only [go_sem,c1])
       (try simp (disch:=omega) only [zI])
       intros
       repeat first | intro _ | refine ⟨by omega,?_⟩ | refine ⟨⟨by omega,by omega⟩,?_⟩
       refine hK _ ?_
       clear hK K
       refine zw (zk [4]) ?_
       simp only [go_sem]
       refine ze ?_
       simp only [go_sem]
       simp [hA,hem]
     have hl0 : 1 ≤ l.length:=by
      cases l with
      | nil=>simp at hem
      | cons=>simp
     have c1 : decide (1 ≤ (l.length : Int)) = true:=by simp; omega
     have hA2 : aimOk d ⟨a,l⟩ = (decide (loS l ≤ d) && decide (d ≤ hiS l)):=by rw [hA,hI,hbk,hem]; simp
     rw [hA2]
     cases c2 : decide (loS l ≤ d)
     · repeat refine zq ?_
       refine zb (by kernel_rfl) fun K hK=>?_
       simp only [go_sem,c1,c2]
       (try simp (disch:=omega) only [zI])
       refine zh (hB) rfl (by simp only [go_sem,i64,ints,c1,c2]) (by simp only [go_sem,i64,ints,c1,c2]) (by first | exact .inl rfl | exact .inr rfl) ?_
       (try simp only [go_sem,c1,c2])
       (try simp (disch:=omega) only [zI])
       intros
       repeat first | intro _ | refine ⟨by omega,?_⟩ | refine ⟨⟨by omega,by omega⟩,?_⟩
       refine hK _ ?_
       clear hK K
       refine zw (zk [4]) ?_
       simp only [go_sem]
       refine ze ?_
       simp only [go_sem]
       simp
     · repeat refine zq ?_
       refine zb (by kernel_rfl) fun K hK=>?_
       simp only [go_sem,c1,c2]
       (try simp (disch:=omega) only [zI])
       refine zh (hB) rfl (by simp only [go_sem,i64,ints,c1,c2]) (by simp only [go_sem,i64,ints,c1,c2]) (by first | exact .inl rfl | exact .inr rfl) ?_
       (try simp only [go_sem,c1,c2])
       (try simp (disch:=omega) only [zI])
       intros
       repeat first | intro _ | refine ⟨by omega,?_⟩ | refine ⟨⟨by omega,by omega⟩,?_⟩
       refine hK _ ?_
       clear hK K
       refine zw (zk [4]) ?_
       simp only [go_sem]
       refine ze ?_
       simp only [go_sem]
       simp
theorem refLaw_ok (d : Int) (l : List Am) (hw : WfL d l) : ACalls Try.prog 43 [lawV d l] (i64 (checkV d l)):=by
 refine acalls_st (rs:=[i64 (checkV d l)]) [.tmp 2] Try.func43 rfl (by kernel_rfl) Try.ntmps43 rfl (by simp) rfl fun C vs=>?_
 repeat refine zq ?_
 refine zb (by kernel_rfl) fun K hK=>?_
 simp only [go_sem]
 (try simp (disch:=omega) only [zI])
 repeat first | intro _ | refine ⟨by omega,?_⟩ | refine ⟨⟨by omega,by omega⟩,?_⟩
 refine hK _ ?_
 clear hK K
 refine zw (sub_frzP 1 1 [i64 d,aimsR l] (by omega) rfl rfl) ?_
 refine zw (zk [1]) ?_
 simp only [go_sem]
 by_cases h20 : 20 < l.length
 · have c : decide ((20 : Int) < (l.length : Int)) = true:=by simp; omega
   repeat refine zq ?_
   refine zb (by kernel_rfl) fun K hK=>?_
   simp only [go_sem,c]
   (try simp (disch:=omega) only [zI])
   intros
   repeat first | intro _ | refine ⟨by omega,?_⟩ | refine ⟨⟨by omega,by omega⟩,?_⟩
   refine hK _ ?_
   clear hK K
   refine zw (zk [1,8]) ?_
   simp only [go_sem]
   repeat refine zq ?_
   refine zc rfl (fun hc=>?_) (fun hc=>?_) <;> (try simp only [go_sem] at hc)
   repeat refine zq ?_
   refine zb (by kernel_rfl) fun K hK=>?_
   simp only [go_sem]
   (try simp (disch:=omega) only [zI])
   repeat first | intro _ | refine ⟨by omega,?_⟩ | refine ⟨⟨by omega,by omega⟩,?_⟩
   refine hK _ ?_
   clear hK K
   refine zw (zk [2]) ?_
   simp only [go_sem]
   refine ze ?_
   simp only [go_sem]
   simp [checkV,h20]
 have c : decide ((20 : Int) < (l.length : Int)) = false:=by simp; omega
 repeat refine zq ?_
 refine zb (by kernel_rfl) fun K hK=>?_
 simp only [go_sem,c]
 (try simp (disch:=omega) only [zI])
 intros
 repeat first | intro _ | refine ⟨by omega,?_⟩ | refine ⟨⟨by omega,by omega⟩,?_⟩
 refine hK _ ?_
 clear hK K
 refine zw (zk [1,8]) ?_
 simp only [go_sem]
 repeat refine zq ?_
 refine zc rfl (fun hc=>?_) (fun hc=>?_) <;> (try simp only [go_sem] at hc)
 refine zx ?_
 try simp only [go_sem]
 repeat refine zq ?_
 refine zb (by kernel_rfl) fun K hK=>?_
 simp only [go_sem]
 (try simp (disch:=omega) only [zI])
 repeat first | intro _ | refine ⟨by omega,?_⟩ | refine ⟨⟨by omega,by omega⟩,?_⟩
 refine hK _ ?_
 clear hK K
 refine zw (zk [1,3]) ?_
 simp only [go_sem]
 repeat refine zq ?_
 refine zd ?_
 refine awp_upto (n:=50) l.length (fun i vs=>[(1,.r (.rp [i64 d,aimsR l])),(3,.r (i64 i))]) (fun i=>[]) (fun i=>(l.take i).any (fun a=>decide (10 < a.beds.length)) = false) 0 (fit_of [] ?_ ?_) (Nat.zero_le _) (by simp) ?_
 · try simp only [go_sem]
 · try simp only [go_sem]
 · intro i vs hi hI
   repeat refine zq ?_
   refine zb (by kernel_rfl) fun K hK=>?_
   simp only [go_sem]
   (try simp (disch:=omega) only [zI])
   intros
   repeat first | intro _ | refine ⟨by omega,?_⟩ | refine ⟨⟨by omega,by omega⟩,?_⟩
   refine hK _ ?_
   clear hK K
   refine zw (zk [1,3,13]) ?_
   simp only [go_sem]
   repeat refine zq ?_
   refine zc rfl (fun hc=>?_) (fun hc=>?_) <;> (try simp only [go_sem] at hc)
   · have hci : i < l.length:=by omega
     obtain ⟨x,hx⟩:=opt_of_lt hci
     refine zx ?_
     try simp only [go_sem]
     repeat refine zq ?_
     refine zd ?_
     repeat refine zq ?_
     refine zb (by kernel_rfl) fun K hK=>?_
     simp only [go_sem,hx,hci,aimR]
     (try simp (disch:=omega) only [zI])
     intros
     repeat first | intro _ | refine ⟨by omega,?_⟩ | refine ⟨⟨by omega,by omega⟩,?_⟩
     refine hK _ ?_
     clear hK K
     refine zw (zk [1,3,23]) ?_
     simp only [go_sem]
     repeat refine zq ?_
     refine zc rfl (fun hc=>?_) (fun hc=>?_) <;> (try simp only [go_sem] at hc)
     · repeat refine zq ?_
       refine zb (by kernel_rfl) fun K hK=>?_
       simp only [go_sem]
       (try simp (disch:=omega) only [zI])
       repeat first | intro _ | refine ⟨by omega,?_⟩ | refine ⟨⟨by omega,by omega⟩,?_⟩
       refine hK _ ?_
       clear hK K
       refine zw (zk [2]) ?_
       simp only [go_sem]
       refine ze ?_
       simp only [go_sem]
       have : l.any (fun a=>decide (10 < a.beds.length)) = true:=List.any_eq_true.2 ⟨x,mem_of_opt hx,by simp; omega⟩
       simp only [checkV,this,Bool.or_true,if_true]
     · refine zx ?_
       try simp only [go_sem]
       repeat refine zq ?_
       refine zb (by kernel_rfl) fun K hK=>?_
       simp only [go_sem]
       (try simp (disch:=omega) only [zI])
       repeat first | intro _ | refine ⟨by omega,?_⟩ | refine ⟨⟨by omega,by omega⟩,?_⟩
       refine hK _ ?_
       clear hK K
       try simp only [go_sem]
       refine ⟨hci,?_,fit_of [] ?_ ?_⟩
       · rw [take_of_opt hx,List.any_append,hI]
         simp; omega
       · try simp only [go_sem]
       · try simp only [go_sem]
   · have hil : i = l.length:=by omega
     subst hil
     rw [List.take_length] at hI
     have h5 : (decide (20 < l.length) || l.any fun a=>decide (10 < a.beds.length)) = false:=by rw [hI]; simp; omega
     refine zf ?_
     simp only [go_sem]
     repeat refine zq ?_
     refine awp_join (n:=50) (fun (b : Bool) vs=>[(1,.r (.rp [i64 d,aimsR l])),(33,.r (.bo b))]) (fun i=>[]) (fun b=>b = (l.isEmpty || !(decide (1 ≤ d) && decide (d ≤ 3000)))) (fun _ h=>h) ?_ ?_
     · cases hem : l.isEmpty
       rotate_left
       · have c1 : ((l.length : Int) == 0) = true:=by simpa using hem
         repeat refine zq ?_
         refine zb (by kernel_rfl) fun K hK=>?_
         simp only [go_sem,c1]
         (try simp (disch:=omega) only [zI])
         intros
         repeat first | intro _ | refine ⟨by omega,?_⟩ | refine ⟨⟨by omega,by omega⟩,?_⟩
         refine hK _ ?_
         clear hK K
         try simp only [go_sem]
         exact ⟨true,by simp,fit_of [] (by try simp only [go_sem]) (by try simp only [go_sem])⟩
       · have c1 : ((l.length : Int) == 0) = false:=by simpa using hem
         have hIn:=in_ok d 1 3000
         repeat refine zq ?_
         refine zb (by kernel_rfl) fun K hK=>?_
         simp only [go_sem,c1]
         (try simp (disch:=omega) only [zI])
         intros
         refine zh (hIn) rfl (by simp only [go_sem,i64,ints,c1]) (by simp only [go_sem,i64,ints,c1]) (by first | exact .inl rfl | exact .inr rfl) ?_
         (try simp only [go_sem,c1])
         (try simp (disch:=omega) only [zI])
         intros
         repeat first | intro _ | refine ⟨by omega,?_⟩ | refine ⟨⟨by omega,by omega⟩,?_⟩
         refine hK _ ?_
         clear hK K
         try simp only [go_sem]
         exact ⟨!(inB d 1 3000),by simp [inB],fit_of [] (by try simp only [go_sem]) (by try simp only [go_sem])⟩
     intro b vs hb
     rw [hb]
     cases hE : (l.isEmpty || !(decide (1 ≤ d) && decide (d ≤ 3000)))
     rotate_left
     · repeat refine zq ?_
       refine zc rfl (fun hc=>?_) (fun hc=>?_) <;> (try simp only [go_sem] at hc)
       repeat refine zq ?_
       refine zb (by kernel_rfl) fun K hK=>?_
       simp only [go_sem]
       (try simp (disch:=omega) only [zI])
       repeat first | intro _ | refine ⟨by omega,?_⟩ | refine ⟨⟨by omega,by omega⟩,?_⟩
       refine hK _ ?_
       clear hK K
       refine zw (zk [2]) ?_
       simp only [go_sem]
       refine ze ?_
       simp only [go_sem]
       simp only [checkV,h5,hE,Bool.false_eq_true,if_false,if_true]
     have hd3 : d ≤ 3000:=by
      simp only [Bool.or_eq_false_iff,Bool.not_eq_false',Bool.and_eq_true,decide_eq_true_eq] at hE
      omega
     repeat refine zq ?_
     refine zc rfl (fun hc=>?_) (fun hc=>?_) <;> (try simp only [go_sem] at hc)
     refine zx ?_
     try simp only [go_sem]
     repeat refine zq ?_
     refine zb (by kernel_rfl) fun K hK=>?_
     simp only [go_sem]
     (try simp (disch:=omega) only [zI])
     repeat first | intro _ | refine ⟨by omega,?_⟩ | refine ⟨⟨by omega,by omega⟩,?_⟩
     refine hK _ ?_
     clear hK K
     refine zw (zk [1,4]) ?_
     simp only [go_sem]
     repeat refine zq ?_
     refine zd ?_
     refine awp_upto (n:=50) l.length (fun i vs=>[(1,.r (.rp [i64 d,aimsR l])),(4,.r (i64 i))]) (fun i=>[]) (fun i=>(l.take i).all (aimOk d) = true) 0 (fit_of [] ?_ ?_) (Nat.zero_le _) (by simp) ?_
     · try simp only [go_sem]
     · try simp only [go_sem]
     · intro i vs hi hJ
       repeat refine zq ?_
       refine zb (by kernel_rfl) fun K hK=>?_
       simp only [go_sem]
       (try simp (disch:=omega) only [zI])
       intros
       repeat first | intro _ | refine ⟨by omega,?_⟩ | refine ⟨⟨by omega,by omega⟩,?_⟩
       refine hK _ ?_
       clear hK K
       refine zw (zk [1,4,38]) ?_
       simp only [go_sem]
       repeat refine zq ?_
       refine zc rfl (fun hc=>?_) (fun hc=>?_) <;> (try simp only [go_sem] at hc)
       · have hci : i < l.length:=by omega
         obtain ⟨x,hx⟩:=opt_of_lt hci
         have hx10 : x.beds.length ≤ 10:=by
          have:=List.any_eq_false.1 hI x (mem_of_opt hx)
          simpa using this
         have hAi:=refAim_ok x d (hw.2 x (mem_of_opt hx)) (by omega) (by omega)
         refine zx ?_
         try simp only [go_sem]
         repeat refine zq ?_
         refine zd ?_
         cases hax : aimOk d x
         · rw [hax] at hAi
           repeat refine zq ?_
           refine zg follows (by decide +kernel) (by kernel_rfl) fun K hK=>?_
           simp only [go_sem,hx,hci,aimR]
           (try simp (disch:=omega) only [zI])
           refine zh (hAi) rfl (by simp only [go_sem,i64,ints]) (by simp only [go_sem,i64,ints]) (by first | exact .inl rfl | exact .inr rfl) ?_
           (try simp only [go_sem])
           (try simp (disch:=omega) only [zI])
           repeat first | intro _ | refine ⟨by omega,?_⟩ | refine ⟨⟨by omega,by omega⟩,?_⟩
           refine hK _ ?_
           clear hK K
           refine zw (zk [1,4,49]) ?_
           simp only [go_sem]
           repeat refine zq ?_
           refine zc rfl (fun hc=>?_) (fun hc=>?_) <;> (try simp only [go_sem] at hc)
           repeat refine zq ?_
           refine zb (by kernel_rfl) fun K hK=>?_
           simp only [go_sem]
           (try simp (disch:=omega) only [zI])
           repeat first | intro _ | refine ⟨by omega,?_⟩ | refine ⟨⟨by omega,by omega⟩,?_⟩
           refine hK _ ?_
           clear hK K
           refine zw (zk [2]) ?_
           simp only [go_sem]
           refine ze ?_
           simp only [go_sem]
           have : l.all (aimOk d) = false:=Bool.eq_false_iff.2 fun h=>by
            have:=List.all_eq_true.1 h x (mem_of_opt hx)
            rw [hax] at this; cases this
           simp only [checkV,h5,hE,this,Bool.false_eq_true,if_false]
         · rw [hax] at hAi
           repeat refine zq ?_
           refine zg follows (by decide +kernel) (by kernel_rfl) fun K hK=>?_
           simp only [go_sem,hx,hci,aimR]
           (try simp (disch:=omega) only [zI])
           refine zh (hAi) rfl (by simp only [go_sem,i64,ints]) (by simp only [go_sem,i64,ints]) (by first | exact .inl rfl | exact .inr rfl) ?_
           (try simp only [go_sem])
           (try simp (disch:=omega) only [zI])
           repeat first | intro _ | refine ⟨by omega,?_⟩ | refine ⟨⟨by omega,by omega⟩,?_⟩
           refine hK _ ?_
           clear hK K
           refine zw (zk [1,4,49]) ?_
           simp only [go_sem]
           repeat refine zq ?_
           refine zc rfl (fun hc=>?_) (fun hc=>?_) <;> (try simp only [go_sem] at hc)
           refine zx ?_
           try simp only [go_sem]
           repeat refine zq ?_
           refine zb (by kernel_rfl) fun K hK=>?_
           simp only [go_sem]
           (try simp (disch:=omega) only [zI])
           repeat first | intro _ | refine ⟨by omega,?_⟩ | refine ⟨⟨by omega,by omega⟩,?_⟩
           refine hK _ ?_
           clear hK K
           try simp only [go_sem]
           refine ⟨hci,?_,fit_of [] ?_ ?_⟩
           · rw [take_of_opt hx,List.all_append,hJ,List.all_cons,List.all_nil,hax]; rfl
           · try simp only [go_sem]
           · try simp only [go_sem]
       · have hil : i = l.length:=by omega
         subst hil
         rw [List.take_length] at hJ
         refine zf ?_
         simp only [go_sem]
         repeat refine zq ?_
         refine zb (by kernel_rfl) fun K hK=>?_
         simp only [go_sem]
         (try simp (disch:=omega) only [zI])
         repeat first | intro _ | refine ⟨by omega,?_⟩ | refine ⟨⟨by omega,by omega⟩,?_⟩
         refine hK _ ?_
         clear hK K
         refine zw (zk [2]) ?_
         simp only [go_sem]
         refine ze ?_
         simp only [go_sem]
         simp only [checkV,h5,hE,hJ,Bool.false_eq_true,if_false,if_true]
end Go.Proofs.Ytlbfkhikmigpbaa

namespace Go.Proofs.Ytlbfkhikmigpbaa
open Go Go.Oc
set_option linter.unusedSimpArgs false
set_option linter.unusedVariables false
set_option maxRecDepth 8000
theorem refLowest_ok (r : Ru) : ACalls Try.prog 45 [ruV r] (i64 (lowestR r)):=by
 refine acalls_st (rs:=[i64 (lowestR r)]) [.tmp 2] Try.func45 rfl (by kernel_rfl) Try.ntmps45 rfl (by simp) rfl fun C vs=>?_
 repeat refine zq ?_
 refine zb (by kernel_rfl) fun K hK=>?_
 simp only [go_sem]
 (try simp (disch:=omega) only [zI])
 repeat first | intro _ | refine ⟨by omega,?_⟩ | refine ⟨⟨by omega,by omega⟩,?_⟩
 refine hK _ ?_
 clear hK K
 refine zw (sub_frzP 1 1 (ruC r) (by omega) rfl rfl) ?_
 refine zw (zk [1]) ?_
 simp only [go_sem]
 by_cases h : r.out = 0
 · have c : (r.out == 0) = true:=by simpa using h
   repeat refine zq ?_
   refine zb (by kernel_rfl) fun K hK=>?_
   simp only [go_sem,c]
   (try simp (disch:=omega) only [zI])
   repeat first | intro _ | refine ⟨by omega,?_⟩ | refine ⟨⟨by omega,by omega⟩,?_⟩
   refine hK _ ?_
   clear hK K
   refine zw (zk [1,5]) ?_
   simp only [go_sem]
   repeat refine zq ?_
   refine zc rfl (fun hc=>?_) (fun hc=>?_) <;> (try simp only [go_sem] at hc)
   repeat refine zq ?_
   refine zb (by kernel_rfl) fun K hK=>?_
   simp only [go_sem]
   (try simp (disch:=omega) only [zI])
   repeat first | intro _ | refine ⟨by omega,?_⟩ | refine ⟨⟨by omega,by omega⟩,?_⟩
   refine hK _ ?_
   clear hK K
   refine zw (zk [2]) ?_
   simp only [go_sem]
   refine ze ?_
   simp only [go_sem]
   simp [lowestR,h]
 · have c : (r.out == 0) = false:=by simpa using h
   repeat refine zq ?_
   refine zb (by kernel_rfl) fun K hK=>?_
   simp only [go_sem,c]
   (try simp (disch:=omega) only [zI])
   repeat first | intro _ | refine ⟨by omega,?_⟩ | refine ⟨⟨by omega,by omega⟩,?_⟩
   refine hK _ ?_
   clear hK K
   refine zw (zk [1,5]) ?_
   simp only [go_sem]
   repeat refine zq ?_
   refine zc rfl (fun hc=>?_) (fun hc=>?_) <;> (try simp only [go_sem] at hc)
   refine zx ?_
   try simp only [go_sem]
   repeat refine zq ?_
   refine zb (by kernel_rfl) fun K hK=>?_
   simp only [go_sem]
   (try simp (disch:=omega) only [zI])
   repeat first | intro _ | refine ⟨by omega,?_⟩ | refine ⟨⟨by omega,by omega⟩,?_⟩
   refine hK _ ?_
   clear hK K
   refine zw (zk [2]) ?_
   simp only [go_sem]
   refine ze ?_
   simp only [go_sem]
   simp [lowestR,h]
theorem dlowest_ok (r : Ru) : ACalls Try.prog 54 [ruV r] (i64 (lowestR r)):=by
 refine acalls_st (rs:=[i64 (lowestR r)]) [.tmp 2] Try.func54 rfl (by kernel_rfl) Try.ntmps54 rfl (by simp) rfl fun C vs=>?_
 repeat refine zq ?_
 refine zb (by kernel_rfl) fun K hK=>?_
 simp only [go_sem]
 (try simp (disch:=omega) only [zI])
 repeat first | intro _ | refine ⟨by omega,?_⟩ | refine ⟨⟨by omega,by omega⟩,?_⟩
 refine hK _ ?_
 clear hK K
 refine zw (sub_frzP 1 1 (ruC r) (by omega) rfl rfl) ?_
 refine zw (zk [1]) ?_
 simp only [go_sem]
 by_cases h : r.out = 0
 · have c : (r.out == 0) = true:=by simpa using h
   repeat refine zq ?_
   refine zb (by kernel_rfl) fun K hK=>?_
   simp only [go_sem,c]
   (try simp (disch:=omega) only [zI])
   repeat first | intro _ | refine ⟨by omega,?_⟩ | refine ⟨⟨by omega,by omega⟩,?_⟩
   refine hK _ ?_
   clear hK K
   refine zw (zk [1,6]) ?_
   simp only [go_sem]
   repeat refine zq ?_
   refine zc rfl (fun hc=>?_) (fun hc=>?_) <;> (try simp only [go_sem] at hc)
   repeat refine zq ?_
   refine zb (by kernel_rfl) fun K hK=>?_
   simp only [go_sem]
   (try simp (disch:=omega) only [zI])
   repeat first | intro _ | refine ⟨by omega,?_⟩ | refine ⟨⟨by omega,by omega⟩,?_⟩
   refine hK _ ?_
   clear hK K
   refine zw (zk [2]) ?_
   simp only [go_sem]
   refine ze ?_
   simp only [go_sem]
   simp [lowestR,h]
 · have c : (r.out == 0) = false:=by simpa using h
   repeat refine zq ?_
   refine zb (by kernel_rfl) fun K hK=>?_
   simp only [go_sem,c]
   (try simp (disch:=omega) only [zI])
   repeat first | intro _ | refine ⟨by omega,?_⟩ | refine ⟨⟨by omega,by omega⟩,?_⟩
   refine hK _ ?_
   clear hK K
   refine zw (zk [1,6]) ?_
   simp only [go_sem]
   repeat refine zq ?_
   refine zc rfl (fun hc=>?_) (fun hc=>?_) <;> (try simp only [go_sem] at hc)
   refine zx ?_
   try simp only [go_sem]
   repeat refine zq ?_
   refine zb (by kernel_rfl) fun K hK=>?_
   simp only [go_sem]
   (try simp (disch:=omega) only [zI])
   repeat first | intro _ | refine ⟨by omega,?_⟩ | refine ⟨⟨by omega,by omega⟩,?_⟩
   refine hK _ ?_
   clear hK K
   refine zw (zk [2]) ?_
   simp only [go_sem]
   refine ze ?_
   simp only [go_sem]
   simp [lowestR,h]
theorem refRules_ok (r : Ru) (hw : WfR r) : ACalls Try.prog 18 [ruV r] (i64 (ruE r)):=by
 have hc:=refLaw_ok r.d r.aims hw.law
 refine acalls_st (rs:=[i64 (ruE r)]) [.tmp 2] Try.func18 rfl (by kernel_rfl) Try.ntmps18 rfl (by simp) rfl fun C vs=>?_
 repeat refine zq ?_
 refine zb (by kernel_rfl) fun K hK=>?_
 simp only [go_sem]
 (try simp (disch:=omega) only [zI])
 repeat first | intro _ | refine ⟨by omega,?_⟩ | refine ⟨⟨by omega,by omega⟩,?_⟩
 refine hK _ ?_
 clear hK K
 refine zw (sub_frzP 1 1 (ruC r) (by omega) rfl rfl) ?_
 refine zw (zk [1]) ?_
 simp only [go_sem]
 repeat refine zq ?_
 refine zb (by kernel_rfl) fun K hK=>?_
 simp only [go_sem]
 (try simp (disch:=omega) only [zI])
 refine zh (hc) rfl (by simp only [go_sem,i64,ints]) (by simp only [go_sem,i64,ints]) (by first | exact .inl rfl | exact .inr rfl) ?_
 (try simp only [go_sem])
 (try simp (disch:=omega) only [zI])
 repeat first | intro _ | refine ⟨by omega,?_⟩ | refine ⟨⟨by omega,by omega⟩,?_⟩
 refine hK _ ?_
 clear hK K
 refine zw (zk [1,3]) ?_
 simp only [go_sem]
 by_cases h0 : checkV r.d r.aims = 0
 rotate_left
 · have c : (checkV r.d r.aims != 0) = true:=by simpa using h0
   have e : ruE r = checkV r.d r.aims:=by simp [ruE,h0]
   repeat refine zq ?_
   refine zb (by kernel_rfl) fun K hK=>?_
   simp only [go_sem,c]
   (try simp (disch:=omega) only [zI])
   repeat first | intro _ | refine ⟨by omega,?_⟩ | refine ⟨⟨by omega,by omega⟩,?_⟩
   refine hK _ ?_
   clear hK K
   refine zw (zk [1,3,9]) ?_
   simp only [go_sem]
   repeat refine zq ?_
   refine zc rfl (fun hc=>?_) (fun hc=>?_) <;> (try simp only [go_sem] at hc)
   repeat refine zq ?_
   refine zb (by kernel_rfl) fun K hK=>?_
   simp only [go_sem]
   (try simp (disch:=omega) only [zI])
   repeat first | intro _ | refine ⟨by omega,?_⟩ | refine ⟨⟨by omega,by omega⟩,?_⟩
   refine hK _ ?_
   clear hK K
   refine zw (zk [2]) ?_
   simp only [go_sem]
   refine ze ?_
   simp only [go_sem]
   rw [e]
 rw [h0]
 repeat refine zq ?_
 refine zb (by kernel_rfl) fun K hK=>?_
 simp only [go_sem,bne_self_eq_false]
 (try simp (disch:=omega) only [zI])
 repeat first | intro _ | refine ⟨by omega,?_⟩ | refine ⟨⟨by omega,by omega⟩,?_⟩
 refine hK _ ?_
 clear hK K
 refine zw (zk [1,3,9]) ?_
 simp only [go_sem]
 repeat refine zq ?_
 refine zc rfl (fun hc=>?_) (fun hc=>?_) <;> (try simp only [go_sem] at hc)
 refine zx ?_
 try simp only [go_sem]
 have hE : ∀ c : Bool,c = (decide (2 ≤ r.start) && decide (r.start ≤ 40) && decide (0 ≤ r.out) && decide (r.out ≤ 2) && decide (1 ≤ r.ends.length) && decide (r.ends.length ≤ 10)) → ruE r = if (c && r.ends.all endOk && decide (lastE r = 1000000)) = true then 0 else 2:=fun c hc=>by
  rw [hc,ruE,if_neg (by simp [h0])]
 have hfin : inB r.start 2 40 = true → inB r.out 0 2 = true → inB (r.ends.length : Int) 1 10 = true → false = !(decide (2 ≤ r.start) && decide (r.start ≤ 40) && decide (0 ≤ r.out) && decide (r.out ≤ 2) && decide (1 ≤ r.ends.length) && decide (r.ends.length ≤ 10)):=fun h1 h2 h3=>by
  simp only [inB,Bool.and_eq_true,decide_eq_true_eq] at h1 h2 h3
  have e1 : 1 ≤ r.ends.length:=by omega
  have e2 : r.ends.length ≤ 10:=by omega
  simp [h1,h2,e1,e2]
 have hfin3 : ∀ (_ _ : True),inB (r.ends.length : Int) 1 10 = false → true = !(decide (2 ≤ r.start) && decide (r.start ≤ 40) && decide (0 ≤ r.out) && decide (r.out ≤ 2) && decide (1 ≤ r.ends.length) && decide (r.ends.length ≤ 10)):=fun _ _ h3=>by
  have e : (decide (1 ≤ r.ends.length) && decide (r.ends.length ≤ 10)) = false:=by
   rw [← h3,inB,Bool.eq_iff_iff]
   simp only [Bool.and_eq_true,decide_eq_true_eq]
   omega
  rw [Bool.and_assoc (_ && _ && _ && _),e,Bool.and_false]; rfl
 have i1:=in_ok r.start 2 40
 have i2:=in_ok r.out 0 2
 have i3:=in_ok (r.ends.length : Int) 1 10
 repeat refine zq ?_
 refine awp_join (n:=68) (fun (b : Bool) vs=>[(1,.r (.rp (ruC r))),(27,.r (.bo b))]) (fun _=>[]) (fun b=>b = !(decide (2 ≤ r.start) && decide (r.start ≤ 40) && decide (0 ≤ r.out) && decide (r.out ≤ 2) && decide (1 ≤ r.ends.length) && decide (r.ends.length ≤ 10))) (fun _ h=>h) ?_ ?_
 · cases b1 : inB r.start 2 40
   · rw [b1] at i1
     repeat refine zq ?_
     refine zb (by kernel_rfl) fun K hK=>?_
     simp only [go_sem]
     (try simp (disch:=omega) only [zI])
     refine zh (i1) rfl (by simp only [go_sem,i64,ints]) (by simp only [go_sem,i64,ints]) (by first | exact .inl rfl | exact .inr rfl) ?_
     (try simp only [go_sem])
     (try simp (disch:=omega) only [zI])
     repeat first | intro _ | refine ⟨by omega,?_⟩ | refine ⟨⟨by omega,by omega⟩,?_⟩
     refine hK _ ?_
     clear hK K
     try simp only [go_sem]
     exact ⟨true,by unfold inB at b1; simp_all; omega,fit_of [] (by try simp only [go_sem]) (by try simp only [go_sem])⟩
   rw [b1] at i1
   cases b2 : inB r.out 0 2
   · rw [b2] at i2
     repeat refine zq ?_
     refine zb (by kernel_rfl) fun K hK=>?_
     simp only [go_sem]
     (try simp (disch:=omega) only [zI])
     refine zh (i1) rfl (by simp only [go_sem,i64,ints]) (by simp only [go_sem,i64,ints]) (by first | exact .inl rfl | exact .inr rfl) ?_
     (try simp only [go_sem])
     (try simp (disch:=omega) only [zI])
     try simp only [go_sem]
     refine zh (i2) rfl (by simp only [go_sem,i64,ints]) (by simp only [go_sem,i64,ints]) (by first | exact .inl rfl | exact .inr rfl) ?_
     (try simp only [go_sem])
     (try simp (disch:=omega) only [zI])
     repeat first | intro _ | refine ⟨by omega,?_⟩ | refine ⟨⟨by omega,by omega⟩,?_⟩
     refine hK _ ?_
     clear hK K
     try simp only [go_sem]
     exact ⟨true,by unfold inB at b1 b2; simp_all; omega,fit_of [] (by try simp only [go_sem]) (by try simp only [go_sem])⟩
   rw [b2] at i2
   cases b3 : inB (r.ends.length : Int) 1 10
   · rw [b3] at i3
     repeat refine zq ?_
     refine zb (by kernel_rfl) fun K hK=>?_
     simp only [go_sem]
     (try simp (disch:=omega) only [zI])
     refine zh (i1) rfl (by simp only [go_sem,i64,ints]) (by simp only [go_sem,i64,ints]) (by first | exact .inl rfl | exact .inr rfl) ?_
     (try simp only [go_sem])
     (try simp (disch:=omega) only [zI])
     try simp only [go_sem]
     refine zh (i2) rfl (by simp only [go_sem,i64,ints]) (by simp only [go_sem,i64,ints]) (by first | exact .inl rfl | exact .inr rfl) ?_
     (try simp only [go_sem])
     (try simp (disch:=omega) only [zI])
     try simp only [go_sem]
     intros
     refine zh (i3) rfl (by simp only [go_sem,i64,ints]) (by simp only [go_sem,i64,ints]) (by first | exact .inl rfl | exact .inr rfl) ?_
     (try simp only [go_sem])
     (try simp (disch:=omega) only [zI])
     repeat first | intro _ | refine ⟨by omega,?_⟩ | refine ⟨⟨by omega,by omega⟩,?_⟩
     refine hK _ ?_
     clear hK K
     try simp only [go_sem]
     exact ⟨true,hfin3 trivial trivial b3,fit_of [] (by try simp only [go_sem]) (by try simp only [go_sem])⟩
   rw [b3] at i3
   repeat refine zq ?_
   refine zb (by kernel_rfl) fun K hK=>?_
   simp only [go_sem]
   (try simp (disch:=omega) only [zI])
   refine zh (i1) rfl (by simp only [go_sem,i64,ints]) (by simp only [go_sem,i64,ints]) (by first | exact .inl rfl | exact .inr rfl) ?_
   (try simp only [go_sem])
   (try simp (disch:=omega) only [zI])
   try simp only [go_sem]
   refine zh (i2) rfl (by simp only [go_sem,i64,ints]) (by simp only [go_sem,i64,ints]) (by first | exact .inl rfl | exact .inr rfl) ?_
   (try simp only [go_sem])
   (try simp (disch:=omega) only [zI])
   try simp only [go_sem]
   intros
   refine zh (i3) rfl (by simp only [go_sem,i64,ints]) (by simp only [go_sem,i64,ints]) (by first | exact .inl rfl | exact .inr rfl) ?_
   (try simp only [go_sem])
   (try simp (disch:=omega) only [zI])
   repeat first | intro _ | refine ⟨by omega,?_⟩ | refine ⟨⟨by omega,by omega⟩,?_⟩
   refine hK _ ?_
   clear hK K
   try simp only [go_sem]
   exact ⟨false,hfin b1 b2 b3,fit_of [] (by try simp only [go_sem]) (by try simp only [go_sem])⟩
 intro b vs hb
 cases hq : (decide (2 ≤ r.start) && decide (r.start ≤ 40) && decide (0 ≤ r.out) && decide (r.out ≤ 2) && decide (1 ≤ r.ends.length) && decide (r.ends.length ≤ 10))
 · rw [hb,hq]
   repeat refine zq ?_
   refine zc rfl (fun hc=>?_) (fun hc=>?_) <;> (try simp only [go_sem] at hc)
   repeat refine zq ?_
   refine zb (by kernel_rfl) fun K hK=>?_
   simp only [go_sem]
   (try simp (disch:=omega) only [zI])
   repeat first | intro _ | refine ⟨by omega,?_⟩ | refine ⟨⟨by omega,by omega⟩,?_⟩
   refine hK _ ?_
   clear hK K
   refine zw (zk [2]) ?_
   simp only [go_sem]
   refine ze ?_
   simp only [go_sem]
   rw [hE false hq.symm]; rfl
 rw [hb,hq]
 have hE2:=hE true hq.symm
 simp only [Bool.and_eq_true,decide_eq_true_eq] at hq
 repeat refine zq ?_
 refine zc rfl (fun hc=>?_) (fun hc=>?_) <;> (try simp only [go_sem] at hc)
 refine zx ?_
 try simp only [go_sem]
 repeat refine zq ?_
 refine zb (by kernel_rfl) fun K hK=>?_
 simp only [go_sem]
 (try simp (disch:=omega) only [zI])
 repeat first | intro _ | refine ⟨by omega,?_⟩ | refine ⟨⟨by omega,by omega⟩,?_⟩
 refine hK _ ?_
 clear hK K
 refine zw (zk [1,4]) ?_
 simp only [go_sem]
 repeat refine zq ?_
 refine zd ?_
 refine awp_upto (n:=68) r.ends.length (fun i vs=>[(1,.r (.rp (ruC r))),(4,.r (i64 i))]) (fun i=>[]) (fun i=>(r.ends.take i).all endOk = true) 0 (fit_of [] ?_ ?_) (Nat.zero_le _) (by simp) ?_
 · try simp only [go_sem]
 · try simp only [go_sem]
 · intro i vs hi hI
   repeat refine zq ?_
   refine zb (by kernel_rfl) fun K hK=>?_
   simp only [go_sem]
   (try simp (disch:=omega) only [zI])
   intros
   repeat first | intro _ | refine ⟨by omega,?_⟩ | refine ⟨⟨by omega,by omega⟩,?_⟩
   refine hK _ ?_
   clear hK K
   refine zw (zk [1,4,32]) ?_
   simp only [go_sem]
   repeat refine zq ?_
   refine zc rfl (fun hc=>?_) (fun hc=>?_) <;> (try simp only [go_sem] at hc)
   · have hci : i < r.ends.length:=by omega
     obtain ⟨x,hx⟩:=opt_of_lt hci
     have i4:=in_ok x.1 0 x.2
     have hbad : endOk x = false → ruE r = 2:=fun h=>by
      have : r.ends.all endOk = false:=Bool.eq_false_iff.2 fun h2=>by
       have:=List.all_eq_true.1 h2 x (mem_of_opt hx)
       rw [h] at this; cases this
      rw [hE2,this]; simp
     have hgood : endOk x = true → (r.ends.take (i + 1)).all endOk = true:=fun h=>by
      rw [take_of_opt hx,List.all_append,hI,List.all_cons,List.all_nil,h]; rfl
     have hen : endOk x = (inB x.1 0 x.2 && decide (x.2 ≤ 1000000)):=by
      unfold endOk inB withinL
      rw [Bool.eq_iff_iff]; simp; omega
     refine zx ?_
     try simp only [go_sem]
     repeat refine zq ?_
     refine zd ?_
     cases b4 : inB x.1 0 x.2
     · rw [b4] at i4
       repeat refine zq ?_
       refine zg follows (by decide +kernel) (by kernel_rfl) fun K hK=>?_
       simp only [go_sem,hx,hci,spanR]
       (try simp (disch:=omega) only [zI])
       refine zh (i4) rfl (by simp only [go_sem,i64,ints,hx,hci,spanR]) (by simp only [go_sem,i64,ints,hx,hci,spanR]) (by first | exact .inl rfl | exact .inr rfl) ?_
       (try simp only [go_sem,hx,hci,spanR])
       (try simp (disch:=omega) only [zI])
       repeat first | intro _ | refine ⟨by omega,?_⟩ | refine ⟨⟨by omega,by omega⟩,?_⟩
       refine hK _ ?_
       clear hK K
       refine zw (zk [1,4,57]) ?_
       simp only [go_sem]
       repeat refine zq ?_
       refine zc rfl (fun hc=>?_) (fun hc=>?_) <;> (try simp only [go_sem] at hc)
       repeat refine zq ?_
       refine zb (by kernel_rfl) fun K hK=>?_
       simp only [go_sem]
       (try simp (disch:=omega) only [zI])
       repeat first | intro _ | refine ⟨by omega,?_⟩ | refine ⟨⟨by omega,by omega⟩,?_⟩
       refine hK _ ?_
       clear hK K
       refine zw (zk [2]) ?_
       simp only [go_sem]
       refine ze ?_
       simp only [go_sem]
       rw [hbad (by rw [hen,b4]; rfl)]
     rw [b4] at i4
     cases b5 : decide (1000000 < x.2)
     · repeat refine zq ?_
       refine zg follows (by decide +kernel) (by kernel_rfl) fun K hK=>?_
       simp only [go_sem,hx,hci,spanR,b5]
       (try simp (disch:=omega) only [zI])
       refine zh (i4) rfl (by simp only [go_sem,i64,ints,hx,hci,spanR,b5]) (by simp only [go_sem,i64,ints,hx,hci,spanR,b5]) (by first | exact .inl rfl | exact .inr rfl) ?_
       (try simp only [go_sem,hx,hci,spanR,b5])
       (try simp (disch:=omega) only [zI])
       repeat first | intro _ | refine ⟨by omega,?_⟩ | refine ⟨⟨by omega,by omega⟩,?_⟩
       refine hK _ ?_
       clear hK K
       refine zw (zk [1,4,57]) ?_
       simp only [go_sem]
       repeat refine zq ?_
       refine zc rfl (fun hc=>?_) (fun hc=>?_) <;> (try simp only [go_sem] at hc)
       refine zx ?_
       try simp only [go_sem]
       repeat refine zq ?_
       refine zb (by kernel_rfl) fun K hK=>?_
       simp only [go_sem]
       (try simp (disch:=omega) only [zI])
       repeat first | intro _ | refine ⟨by omega,?_⟩ | refine ⟨⟨by omega,by omega⟩,?_⟩
       refine hK _ ?_
       clear hK K
       try simp only [go_sem]
       refine ⟨hci,hgood ?_,fit_of [] ?_ ?_⟩
       · rw [hen,b4]; simp at b5 ⊢; omega
       · try simp only [go_sem]
       · try simp only [go_sem]
     · repeat refine zq ?_
       refine zg follows (by decide +kernel) (by kernel_rfl) fun K hK=>?_
       simp only [go_sem,hx,hci,spanR,b5]
       (try simp (disch:=omega) only [zI])
       refine zh (i4) rfl (by simp only [go_sem,i64,ints,hx,hci,spanR,b5]) (by simp only [go_sem,i64,ints,hx,hci,spanR,b5]) (by first | exact .inl rfl | exact .inr rfl) ?_
       (try simp only [go_sem,hx,hci,spanR,b5])
       (try simp (disch:=omega) only [zI])
       repeat first | intro _ | refine ⟨by omega,?_⟩ | refine ⟨⟨by omega,by omega⟩,?_⟩
       refine hK _ ?_
       clear hK K
       refine zw (zk [1,4,57]) ?_
       simp only [go_sem]
       repeat refine zq ?_
       refine zc rfl (fun hc=>?_) (fun hc=>?_) <;> (try simp only [go_sem] at hc)
       repeat refine zq ?_
       refine zb (by kernel_rfl) fun K hK=>?_
       simp only [go_sem]
       (try simp (disch:=omega) only [zI])
       repeat first | intro _ | refine ⟨by omega,?_⟩ | refine ⟨⟨by omega,by omega⟩,?_⟩
       refine hK _ ?_
       clear hK K
       refine zw (zk [2]) ?_
       simp only [go_sem]
       refine ze ?_
       simp only [go_sem]
       rw [hbad (by rw [hen,b4]; simp at b5 ⊢; omega)]
   · have hil : i = r.ends.length:=by omega
     subst hil
     rw [List.take_length] at hI
     obtain ⟨x,hx⟩:=opt_of_lt (l:=r.ends) (i:=r.ends.length - 1) (by omega)
     have hl : lastE r = x.1:=by simp [lastE,List.getD_eq_getElem?_getD,hx]
     have hsb : IntKind.i64.wrap ((r.ends.length : Int) - 1) = ((r.ends.length - 1 : Nat) : Int):=by rw [zI] <;> omega
     have hlt : r.ends.length - 1 < r.ends.length:=by omega
     rw [hI,hl] at hE2
     refine zf ?_
     simp only [go_sem]
     by_cases q : x.1 = 1000000
     · have c : (x.1 != 1000000) = false:=by simp [q]
       repeat refine zq ?_
       refine zb (by kernel_rfl) fun K hK=>?_
       simp only [go_sem,hsb,hx,hlt,spanR,c]
       (try simp (disch:=omega) only [zI])
       intros
       repeat first | intro _ | refine ⟨by omega,?_⟩ | refine ⟨⟨by omega,by omega⟩,?_⟩
       refine hK _ ?_
       clear hK K
       refine zw (zk [67]) ?_
       simp only [go_sem]
       repeat refine zq ?_
       refine zc rfl (fun hc=>?_) (fun hc=>?_) <;> (try simp only [go_sem] at hc)
       refine zx ?_
       try simp only [go_sem]
       repeat refine zq ?_
       refine zb (by kernel_rfl) fun K hK=>?_
       simp only [go_sem]
       (try simp (disch:=omega) only [zI])
       repeat first | intro _ | refine ⟨by omega,?_⟩ | refine ⟨⟨by omega,by omega⟩,?_⟩
       refine hK _ ?_
       clear hK K
       refine zw (zk [2]) ?_
       simp only [go_sem]
       refine ze ?_
       simp only [go_sem]
       rw [hE2]; simp [q]
     · have c : (x.1 != 1000000) = true:=by simp [q]
       repeat refine zq ?_
       refine zb (by kernel_rfl) fun K hK=>?_
       simp only [go_sem,hsb,hx,hlt,spanR,c]
       (try simp (disch:=omega) only [zI])
       intros
       repeat first | intro _ | refine ⟨by omega,?_⟩ | refine ⟨⟨by omega,by omega⟩,?_⟩
       refine hK _ ?_
       clear hK K
       refine zw (zk [67]) ?_
       simp only [go_sem]
       repeat refine zq ?_
       refine zc rfl (fun hc=>?_) (fun hc=>?_) <;> (try simp only [go_sem] at hc)
       repeat refine zq ?_
       refine zb (by kernel_rfl) fun K hK=>?_
       simp only [go_sem]
       (try simp (disch:=omega) only [zI])
       repeat first | intro _ | refine ⟨by omega,?_⟩ | refine ⟨⟨by omega,by omega⟩,?_⟩
       refine hK _ ?_
       clear hK K
       refine zw (zk [2]) ?_
       simp only [go_sem]
       refine ze ?_
       simp only [go_sem]
       rw [hE2]; simp [q]
end Go.Proofs.Ytlbfkhikmigpbaa

namespace Go.Proofs.Ytlbfkhikmigpbaa
open Go Go.Oc
set_option linter.unusedSimpArgs false
set_option linter.unusedVariables false
set_option maxRecDepth 8000
def insB (lt : Bd → Bd → Bool) (x : Bd) : List Bd → List Bd
 | []=>[x]
 | y :: ys=>if lt x y then y :: insB lt x ys else x :: y :: ys
def sortB (lt : Bd → Bd → Bool) : List Bd → List Bd → List Bd
 | [],R=>R
 | x :: xs,R=>sortB lt xs (insB lt x R)
def sortN (lt : Bd → Bd → Bool) (l : List Bd) : List Bd:=(sortB lt l []).reverse
theorem insB_len (lt : Bd → Bd → Bool) (x : Bd) : ∀ R,(insB lt x R).length = R.length + 1
 | []=>rfl
 | y :: R => by
   unfold insB
   split
   · simp [insB_len lt x R]
   · rfl
theorem insB_skip (lt : Bd → Bd → Bool) (x : Bd) : ∀ (R : List Bd) (k : Nat),(∀ y ∈ R.take k,lt x y = true) → insB lt x R = R.take k ++ insB lt x (R.drop k)
 | R,0,_=>by simp
 | [],k + 1,_=>by simp
 | y :: R, k + 1, h => by
   have hy : lt x y = true:=h y (by simp)
   have ih:=insB_skip lt x R k fun z hz=>h z (by simp [hz])
   simp only [List.take_succ_cons,List.drop_succ_cons,List.cons_append]
   rw [← ih]
   simp [insB,hy]
theorem sortB_snoc (lt : Bd → Bd → Bool) : ∀ (l : List Bd) (x : Bd) (R : List Bd),sortB lt (l ++ [x]) R = insB lt x (sortB lt l R)
 | [],_,_=>rfl
 | y :: l,x,R=>by simp only [List.cons_append,sortB]; exact sortB_snoc lt l x _
theorem sortB_len (lt : Bd → Bd → Bool) : ∀ (l R : List Bd),(sortB lt l R).length = l.length + R.length
 | [],R=>by simp [sortB]
 | x :: l,R=>by simp only [sortB]; rw [sortB_len lt l,insB_len]; simp; omega
theorem mem_insB (lt : Bd → Bd → Bool) (x z : Bd) : ∀ R,z ∈ insB lt x R ↔ z = x ∨ z ∈ R
 | []=>by simp [insB]
 | y :: R => by
   unfold insB
   split
   · simp only [List.mem_cons,mem_insB lt x z R]
     constructor
     · rintro (h | h | h) <;> simp [h]
     · rintro (h | h | h) <;> simp [h]
   · simp
theorem mem_sortB (lt : Bd → Bd → Bool) (z : Bd) : ∀ l R,z ∈ sortB lt l R ↔ z ∈ l ∨ z ∈ R
 | [],R=>by simp [sortB]
 | x :: l, R => by
   simp only [sortB]
   rw [mem_sortB lt z l,mem_insB]
   simp only [List.mem_cons]
   constructor
   · rintro (h | h | h) <;> simp [h]
   · rintro ((h | h) | h) <;> simp [h]
def holeL (R : List Bd) (x : Bd) (k : Nat) (rest : List Bd) : List Bd:=(R.drop k).reverse ++ x :: ((R.take k).reverse ++ rest)
theorem hole_len (R : List Bd) (x : Bd) (k : Nat) (rest : List Bd) (hk : k ≤ R.length) : (holeL R x k rest).length = R.length + 1 + rest.length:=by
 simp [holeL]; omega
theorem hole_at (R : List Bd) (x : Bd) (k : Nat) (rest : List Bd) (hk : k ≤ R.length) : (holeL R x k rest)[R.length - k]? = some x:=by
 unfold holeL
 rw [List.getElem?_append_right (by simp)]
 simp
theorem hole_next {R : List Bd} {x y : Bd} {k : Nat} {rest : List Bd} (hy : R[k]? = some y) : (holeL R x k rest)[R.length - k - 1]? = some y ∧ (holeL R x k rest) = (R.drop (k + 1)).reverse ++ y :: x :: ((R.take k).reverse ++ rest) ∧ holeL R x (k + 1) rest = (R.drop (k + 1)).reverse ++ x :: y :: ((R.take k).reverse ++ rest):=by
 have hk:=(List.getElem?_eq_some_iff.1 hy).1
 have hd:=drop_of_opt hy
 have ht:=take_of_opt hy
 have e1 : (holeL R x k rest) = (R.drop (k + 1)).reverse ++ y :: x :: ((R.take k).reverse ++ rest):=by
  unfold holeL; rw [hd]; simp
 refine ⟨?_,e1,by unfold holeL; rw [ht]; simp⟩
 rw [e1,List.getElem?_append_right (by simp; omega)]
 have : R.length - k - 1 - (R.drop (k + 1)).reverse.length = 0:=by simp; omega
 rw [this]; rfl
theorem hole_swap {α : Type} (g : Bd → α) {R : List Bd} {x y : Bd} {k : Nat} {rest : List Bd} (hy : R[k]? = some y) :
 (((holeL R x k rest).map g).set (R.length - k) (g y)).set (R.length - k - 1) (g x) = (holeL R x (k + 1) rest).map g:=by
 obtain ⟨_,e1,e2⟩:=hole_next (x:=x) (rest:=rest) hy
 have hk:=(List.getElem?_eq_some_iff.1 hy).1
 rw [e1,e2,← List.map_set,← List.map_set]
 congr 1
 have hl : (R.drop (k + 1)).reverse.length = R.length - k - 1:=by simp; omega
 generalize (R.drop (k + 1)).reverse = A at hl
 generalize (R.take k).reverse ++ rest = B
 have e3 : R.length - k = A.length + 1:=by omega
 rw [e3,Nat.add_sub_cancel]
 rw [List.set_append_right _ _ (by omega)]
 simp only [Nat.add_sub_cancel_left,List.set_cons_succ,List.set_cons_zero]
 rw [List.set_append_right _ _ (by omega)]
 simp
theorem lent_put {vs : Nat → Nat} {k : Nat} (h : Lent vs) : Lent (upd vs k 0):=fun j hj=>by
 unfold upd; split
 · rfl
 · exact h j hj
abbrev idx (l : List Bd) : List (List RV):=l.map bedR
theorem insertion_ok (lt : Bd → Bd → Bool) (c : Bd → Bd → Int) (f : Nat) (caps : List RV) (l : List Bd) (hl : l.length ≤ 1000) (hlt : ∀ x y,lt x y = decide (c x y < 0))
 (hcc : ∀ x ∈ l,∀ y ∈ l,ACalls Try.prog f (bedV x :: bedV y :: caps) (i64 (c x y))) :
 MCalls Try.prog 99 [(1000,.arr 149 3 (idx l))] [(1000,.arr 149 3 (idx (sortN lt l)))] [.os 1000 0 3 0 l.length,.r (i64 0),.r (i64 l.length),.r (.fn f caps)] (.tu []):=by
 refine mcalls_st (n:=53) (rs:=[]) _ _ [] Try.func99 rfl (by kernel_rfl) Try.ntmps99 rfl (by simp) rfl rfl fun C=>?_
 have hmem : ∀ i z,z ∈ sortB lt (l.take i) [] → z ∈ l:=fun i z hz=>by
  rw [mem_sortB] at hz
  rcases hz with hz | hz
  · exact List.mem_of_mem_take hz
  · cases hz
 repeat refine zq ?_
 refine zb (by kernel_rfl) fun K hK=>?_
 simp only [go_sem]
 (try simp (disch:=omega) only [zI])
 repeat first | intro _ | refine ⟨by omega,?_⟩ | refine ⟨⟨by omega,by omega⟩,?_⟩
 refine hK _ ?_
 clear hK K
 refine zw (zk [0,1,2,3,8]) ?_
 simp only [go_sem]
 repeat refine zq ?_
 refine zd ?_
 refine awp_upto0 (n:=53) (max l.length 1) (fun i vs=>[(0,.os 1000 0 3 0 l.length),(1,.r (i64 0)),(2,.r (i64 l.length)),(3,.r (.fn f caps)),(8,.r (i64 i))])
  (fun i=>[(1000,.arr 149 3 (idx ((sortB lt (l.take i) []).reverse ++ l.drop i)))]) (fun i=>1 ≤ i) 1 (fit0_of [] lent_zero ?_ ?_) (by omega) (Nat.le_refl _) ?_
 · try simp only [go_sem]
 · simp only [go_sem]
   cases l with
   | nil=>rfl
   | cons x l=>simp [sortB,insB]
 · intro i vs hv hi hi1
   have hv0:=hv 1000 (by omega)
   repeat refine zq ?_
   refine zb (by kernel_rfl) fun K hK=>?_
   simp only [go_sem]
   (try simp (disch:=omega) only [zI])
   repeat first | intro _ | refine ⟨by omega,?_⟩ | refine ⟨⟨by omega,by omega⟩,?_⟩
   refine hK _ ?_
   clear hK K
   refine zw (zk [0,1,2,3,8,14]) ?_
   simp only [go_sem]
   repeat refine zq ?_
   refine zc rfl (fun hc=>?_) (fun hc=>?_) <;> (try simp only [go_sem] at hc)
   · have hci : i < l.length:=by omega
     obtain ⟨x,hx⟩:=opt_of_lt hci
     obtain ⟨R,hR⟩ : ∃ R,R = sortB lt (l.take i) []:=⟨_,rfl⟩
     have hRl : R.length = i:=by rw [hR,sortB_len]; simp; omega
     have hRm : ∀ z ∈ R,z ∈ l:=fun z hz=>hmem i z (hR ▸ hz)
     have hnx : sortB lt (l.take (i + 1)) [] = insB lt x R:=by rw [take_of_opt hx,sortB_snoc,hR]
     have hst : (sortB lt (l.take i) []).reverse ++ l.drop i = holeL R x 0 (l.drop (i + 1)):=by rw [← hR,drop_of_opt hx]; simp [holeL]
     rw [hst]
     refine zx ?_
     repeat refine zq ?_
     refine zd ?_
     repeat refine zq ?_
     refine zb (by kernel_rfl) fun K hK=>?_
     simp only [go_sem]
     (try simp (disch:=omega) only [zI])
     repeat first | intro _ | refine ⟨by omega,?_⟩ | refine ⟨⟨by omega,by omega⟩,?_⟩
     refine hK _ ?_
     clear hK K
     refine zw (zk [0,1,2,3,8,9]) ?_
     simp only [go_sem]
     repeat refine zq ?_
     refine zd ?_
     refine awp_upto0 (n:=53) i (fun k vs=>[(0,.os 1000 0 3 0 l.length),(1,.r (i64 0)),(2,.r (i64 l.length)),(3,.r (.fn f caps)),(8,.r (i64 i)),(9,.r (i64 (i - k : Nat)))])
      (fun k=>[(1000,.arr 149 3 (idx (holeL R x k (l.drop (i + 1)))))]) (fun k=>∀ y ∈ R.take k,lt x y = true) 0 (fit0_of [] hv ?_ ?_) (Nat.zero_le _) (by simp) ?_
     · try simp only [go_sem]
     · try simp only [go_sem]
     · intro k vs hv hk hI
       have hv0:=hv 1000 (by omega)
       have hins:=insB_skip lt x R k hI
       have done : insB lt x (R.drop k) = x :: R.drop k → sortB lt (l.take (i + 1)) [] = R.take k ++ x :: R.drop k:=fun h=>by rw [hnx,hins,h]
       by_cases hk0 : k = i
       · have e0 : i - k = 0:=by omega
         repeat refine zq ?_
         refine awp_dreg2 [(0,some 1000)] follows (by decide +kernel) (by kernel_rfl) (by simp only [keysOk,List.mem_cons,List.not_mem_nil,forall_eq_or_imp,Oc.keyOf,go_sem]; simp) fun K hK=>?_
         simp only [go_sem,hv0,e0]
         (try simp (disch:=omega) only [zI])
         repeat first | intro _ | refine ⟨by omega,?_⟩ | refine ⟨⟨by omega,by omega⟩,?_⟩
         refine hK _ ?_
         clear hK K
         refine zw (zk [0,1,2,3,8,9,34]) ?_
         simp only [go_sem]
         repeat refine zq ?_
         refine zc rfl (fun hc=>?_) (fun hc=>?_) <;> (try simp only [go_sem] at hc)
         refine zf ?_
         simp only [go_sem]
         repeat refine zq ?_
         refine zb (by kernel_rfl) fun K hK=>?_
         simp only [go_sem]
         (try simp (disch:=omega) only [zI])
         repeat first | intro _ | refine ⟨by omega,?_⟩ | refine ⟨⟨by omega,by omega⟩,?_⟩
         refine hK _ ?_
         clear hK K
         try simp only [go_sem]
         refine ⟨by omega,fit0_of [] hv ?_ ?_⟩
         · try simp only [go_sem]
         · have hd0 : R.drop k = []:=List.drop_eq_nil_of_le (by omega)
           have:=done (by rw [hd0]; rfl)
           simp only [go_sem,this]
           simp [holeL]
       · obtain ⟨y,hy⟩:=opt_of_lt (l:=R) (i:=k) (by omega)
         obtain ⟨j,hj⟩ : ∃ j,i - k = j + 1:=⟨i - k - 1,by omega⟩
         have hjs : IntKind.i64.wrap ((j : Int) + 1 - 1) = j:=by rw [zI] <;> omega
         have hlen : (holeL R x k (l.drop (i + 1))).length = l.length:=by rw [hole_len _ _ _ _ (by omega),List.length_drop]; omega
         have hxa : (holeL R x k (l.drop (i + 1)))[j + 1]? = some x:=by rw [← hj,← hRl]; exact hole_at R x k _ (by omega)
         have hya : (holeL R x k (l.drop (i + 1)))[j]? = some y:=by
          have:=(hole_next (x:=x) (rest:=l.drop (i + 1)) hy).1
          rw [hRl,hj] at this
          exact this
         have hcall:=hcc x (mem_of_opt hx) y (hRm y (mem_of_opt hy))
         have hpos : (0 < (j : Int) + 1) = True:=by simp
         have hlxy:=hlt x y
         repeat refine zq ?_
         refine awp_dreg2 [(0,some 1000)] follows (by decide +kernel) (by kernel_rfl) (by simp only [keysOk,List.mem_cons,List.not_mem_nil,forall_eq_or_imp,Oc.keyOf,go_sem]; simp) fun K hK=>?_
         simp only [go_sem,hv0,hj,hjs,hxa,hya,hlen,hpos,bedR]
         (try simp (disch:=omega) only [zI])
         refine ⟨by omega,by omega,?_⟩
         refine zh (hcall) rfl (by simp only [go_sem,i64,ints,hv0]) (by simp only [go_sem,i64,ints,hv0]) (by first | exact .inl rfl | exact .inr rfl) ?_
         (try simp only [go_sem,hv0])
         (try simp (disch:=omega) only [zI])
         repeat first | intro _ | refine ⟨by omega,?_⟩ | refine ⟨⟨by omega,by omega⟩,?_⟩
         refine hK _ ?_
         clear hK K
         refine zw (zk [0,1,2,3,8,9,34]) ?_
         simp only [go_sem]
         cases hcx : decide (c x y < 0)
         · repeat refine zq ?_
           refine zc rfl (fun hc=>?_) (fun hc=>?_) <;> (try simp only [go_sem] at hc)
           refine zf ?_
           simp only [go_sem]
           repeat refine zq ?_
           refine zb (by kernel_rfl) fun K hK=>?_
           simp only [go_sem]
           (try simp (disch:=omega) only [zI])
           repeat first | intro _ | refine ⟨by omega,?_⟩ | refine ⟨⟨by omega,by omega⟩,?_⟩
           refine hK _ ?_
           clear hK K
           try simp only [go_sem]
           refine ⟨by omega,fit0_of [] hv ?_ ?_⟩
           · try simp only [go_sem]
           · have:=done (by rw [drop_of_opt hy]; simp [insB,hlxy,hcx])
             simp only [go_sem,this]
             simp [holeL]
         · repeat refine zq ?_
           refine zc rfl (fun hc=>?_) (fun hc=>?_) <;> (try simp only [go_sem] at hc)
           refine zx ?_
           try simp only [go_sem]
           repeat refine zq ?_
           refine zd ?_
           have hset : ((idx (holeL R x k (l.drop (i + 1)))).set (j + 1) [i64 y.b,i64 y.lo,i64 y.hi]).getD j [] = [i64 y.b,i64 y.lo,i64 y.hi]:=by
            rw [List.getD_eq_getElem?_getD,List.getElem?_set_ne (by omega),List.getElem?_map,hya]; rfl
           have hsw:=hole_swap bedR (x:=x) (rest:=l.drop (i + 1)) hy
           rw [hRl,hj] at hsw
           simp only [Nat.add_sub_cancel] at hsw
           repeat refine zq ?_
           refine awp_dreg2 [(0,some 1000)] follows (by decide +kernel) (by kernel_rfl) (by simp only [keysOk,List.mem_cons,List.not_mem_nil,forall_eq_or_imp,Oc.keyOf,go_sem]; simp) fun K hK=>?_
           simp only [go_sem,hv0,hj,hjs,hxa,hya,hlen,hset,List.length_set,bedR]
           (try simp (disch:=omega) only [zI])
           repeat' first | intro _ | refine And.intro ?_ ?_
           all_goals first | omega | skip
           all_goals (refine hK _ ?_; clear hK K)
           refine zw (zk [0,1,2,3,8,9]) ?_
           simp only [go_sem]
           repeat refine zq ?_
           refine zb (by kernel_rfl) fun K hK=>?_
           simp only [go_sem,hjs]
           (try simp (disch:=omega) only [zI])
           repeat first | intro _ | refine ⟨by omega,?_⟩ | refine ⟨⟨by omega,by omega⟩,?_⟩
           refine hK _ ?_
           clear hK K
           try simp only [go_sem]
           have hj2 : i - (k + 1) = j:=by omega
           refine ⟨by omega,?_,fit0_of [] (lent_put (lent_put hv)) ?_ ?_⟩
           · rw [take_of_opt hy]
             intro z hz
             rcases List.mem_append.1 hz with hz | hz
             · exact hI z hz
             · simp only [List.mem_singleton] at hz
               subst hz
               rw [hlxy,hcx]
           · simp only [go_sem,hj2]
           · simp only [go_sem]
             exact congrArg (fun z=>[(1000,RowC.arr 149 3 z)]) hsw
   · refine zf ?_
     simp only [go_sem]
     have h1 : l.take i = l:=List.take_of_length_le (by omega)
     have h2 : l.drop i = []:=List.drop_eq_nil_of_le (by omega)
     rw [h1,h2,List.append_nil]
     rfl
theorem stable_ok (lt : Bd → Bd → Bool) (c : Bd → Bd → Int) (f : Nat) (caps : List RV) (l : List Bd) (hl : l.length ≤ 19) (hlt : ∀ x y,lt x y = decide (c x y < 0))
 (hcc : ∀ x ∈ l,∀ y ∈ l,ACalls Try.prog f (bedV x :: bedV y :: caps) (i64 (c x y))) :
 MCalls Try.prog 98 [(1000,.arr 149 3 (idx l))] [(1000,.arr 149 3 (idx (sortN lt l)))] [.os 1000 0 3 0 l.length,.r (i64 l.length),.r (.fn f caps)] (.tu []):=by
 refine mcalls_st (n:=63) (rs:=[]) _ _ [] Try.func98 rfl (by kernel_rfl) Try.ntmps98 rfl (by simp) rfl rfl fun C=>?_
 repeat refine zq ?_
 refine zb (by kernel_rfl) fun K hK=>?_
 simp only [go_sem]
 (try simp (disch:=omega) only [zI])
 repeat first | intro _ | refine ⟨by omega,?_⟩ | refine ⟨⟨by omega,by omega⟩,?_⟩
 refine hK _ ?_
 clear hK K
 repeat refine zq ?_
 refine zb (by kernel_rfl) fun K hK=>?_
 simp only [go_sem]
 (try simp (disch:=omega) only [zI])
 repeat first | intro _ | refine ⟨by omega,?_⟩ | refine ⟨⟨by omega,by omega⟩,?_⟩
 refine hK _ ?_
 clear hK K
 refine zw (zk [0,1,2,6,7,8]) ?_
 simp only [go_sem]
 repeat refine zq ?_
 refine zd ?_
 refine awp_upto0 (n:=63) 0 (fun i vs=>[(0,.os 1000 0 3 0 l.length),(1,.r (i64 l.length)),(2,.r (.fn f caps)),(6,.r (i64 20)),(7,.r (i64 0)),(8,.r (i64 20))])
  (fun i=>[(1000,.arr 149 3 (idx l))]) (fun i=>True) 0 (fit0_of [] lent_zero ?_ ?_) (Nat.zero_le _) trivial ?_
 · try simp only [go_sem]
 · try simp only [go_sem]
 intro i vs hv _ _
 have hv0:=hv 1000 (by omega)
 repeat refine zq ?_
 refine zb (by kernel_rfl) fun K hK=>?_
 simp only [go_sem]
 (try simp (disch:=omega) only [zI])
 repeat first | intro _ | refine ⟨by omega,?_⟩ | refine ⟨⟨by omega,by omega⟩,?_⟩
 refine hK _ ?_
 clear hK K
 repeat refine zq ?_
 refine zc rfl (fun hc=>?_) (fun hc=>?_) <;> (try simp only [go_sem] at hc)
 · omega
 refine zf ?_
 simp only [go_sem]
 repeat refine zq ?_
 refine zb (by kernel_rfl) fun K hK=>?_
 simp only [go_sem]
 (try simp (disch:=omega) only [zI])
 refine xcall_mut (insertion_ok lt c f caps l (by omega) hlt hcc) [(1000,1000)] rfl (by simp only [go_sem,i64,ints,hv0]) (by simp only [go_sem,i64,ints,hv0]) (by rfl) (by rfl) ?_
 (try simp only [go_sem,hv0])
 (try simp (disch:=omega) only [zI])
 repeat first | intro _ | refine ⟨by omega,?_⟩ | refine ⟨⟨by omega,by omega⟩,?_⟩
 refine hK _ ?_
 clear hK K
 try simp only [go_sem]
 repeat refine zq ?_
 refine zd ?_
 refine awp_upto0 (n:=63) 0 (fun i vs=>[(1,.r (i64 l.length)),(6,.r (i64 20))])
  (fun i=>[(1000,.arr 149 3 (idx (sortN lt l)))]) (fun i=>True) 0 (fit0_of [] hv ?_ ?_) (Nat.zero_le _) trivial ?_
 · try simp only [go_sem]
 · try simp only [go_sem]
 intro i vs hv _ _
 repeat refine zq ?_
 refine zb (by kernel_rfl) fun K hK=>?_
 simp only [go_sem]
 (try simp (disch:=omega) only [zI])
 repeat first | intro _ | refine ⟨by omega,?_⟩ | refine ⟨⟨by omega,by omega⟩,?_⟩
 refine hK _ ?_
 clear hK K
 repeat refine zq ?_
 refine zc rfl (fun hc=>?_) (fun hc=>?_) <;> (try simp only [go_sem] at hc)
 · omega
 refine zf ?_
 simp only [go_sem]
theorem sortStable_ok (lt : Bd → Bd → Bool) (c : Bd → Bd → Int) (f : Nat) (caps : List RV) (l : List Bd) (hl : l.length ≤ 19) (hlt : ∀ x y,lt x y = decide (c x y < 0))
 (hcc : ∀ x ∈ l,∀ y ∈ l,ACalls Try.prog f (bedV x :: bedV y :: caps) (i64 (c x y))) :
 MCalls Try.prog 91 [(1000,.arr 149 3 (idx l))] [(1000,.arr 149 3 (idx (sortN lt l)))] [.os 1000 0 3 0 l.length,.r (.fn f caps)] (.tu []):=by
 refine mcalls_st (n:=9) (rs:=[]) _ _ [] Try.func91 rfl (by kernel_rfl) Try.ntmps91 rfl (by simp) rfl rfl fun C=>?_
 repeat refine zq ?_
 refine zb (by kernel_rfl) fun K hK=>?_
 simp only [go_sem]
 (try simp (disch:=omega) only [zI])
 intro _
 refine xcall_mut (stable_ok lt c f caps l (by omega) hlt hcc) [(1000,1000)] rfl (by simp only [go_sem,i64,ints]) (by simp only [go_sem,i64,ints]) (by rfl) (by rfl) ?_
 (try simp only [go_sem])
 (try simp (disch:=omega) only [zI])
 repeat first | intro _ | refine ⟨by omega,?_⟩ | refine ⟨⟨by omega,by omega⟩,?_⟩
 refine hK _ ?_
 clear hK K
 try simp only [go_sem]
theorem relV_unmap {w : World} {p : Plan} {ver : Nat → Nat} : ∀ {xs : List RV} {vs : List Value},AV.relV w p ver (xs.map .r) vs → RV.relV w p.R xs vs
 | [],_,h=>by simpa only [List.map_nil,AV.relV,RV.relV] using h
 | x :: xs, vs, h => by
   simp only [List.map_cons,AV.relV,AV.rel] at h
   simp only [RV.relV]
   obtain ⟨u,us,h1,h2,h3⟩:=h
   exact ⟨u,us,h1,h2,relV_unmap h3⟩
theorem mcalls_fn {F : Nat} {L L' : List (Nat × RowC)} {x r : AV} {f : Nat} {caps : List RV} (h : MCalls Try.prog F L L' [x,.r (.fn f caps)] r) : MCalls Try.prog F L L' [x,.fn f (caps.map .r)] r :=
 ⟨h.1,fun w p vs h1 h2 h3 h4 h5 h6 hV=>h.2 w p vs h1 h2 h3 h4 h5 h6 (by
  simp only [AV.relV] at hV ⊢
  obtain ⟨u,us,e1,k1,u',us',e2,k2,e3⟩:=hV
  refine ⟨u,us,e1,k1,u',us',e2,?_,e3⟩
  simp only [AV.rel,RV.rel] at k2 ⊢
  obtain ⟨ws,k3,k4⟩:=k2
  exact ⟨ws,k3,relV_unmap k4⟩)⟩
end Go.Proofs.Ytlbfkhikmigpbaa

namespace Go.Proofs.Ytlbfkhikmigpbaa
open Go Go.Oc
set_option linter.unusedSimpArgs false
set_option linter.unusedVariables false
set_option maxRecDepth 8000
abbrev tabR (T : List (List Int)) : RV:=.sl 1 (T.map fun row=>[ints row])
abbrev sideC (r : Ru) (most : Bool) (T : List (List Int)) : List RV:=[i64 r.d,aimsR r.aims,i64 r.start,i64 r.out,spansR r.ends,.bo most,tabR T]
abbrev sideP (r : Ru) (most : Bool) (T : List (List Int)) : RV:=.rp (sideC r most T)
def overD (most : Bool) (n by_ : Int) : Int:=if most then (n + (by_ - 1)) / by_ else n / by_
theorem overD_le {most : Bool} {n by_ m : Int} (h0 : 0 ≤ n) (hb : 1 ≤ by_) (hm : n ≤ m * by_) : 0 ≤ overD most n by_ ∧ overD most n by_ ≤ m:=by
 unfold overD
 split
 · refine ⟨Int.ediv_nonneg (by omega) (by omega),?_⟩
   have : (n + (by_ - 1)) / by_ < m + 1:=Int.ediv_lt_of_lt_mul (by omega) (by rw [Int.add_mul]; omega)
   omega
 · refine ⟨Int.ediv_nonneg h0 (by omega),?_⟩
   have : n / by_ < m + 1:=Int.ediv_lt_of_lt_mul (by omega) (by rw [Int.add_mul]; omega)
   omega
theorem over_ok (r : Ru) (most : Bool) (T : List (List Int)) (n by_ : Int) (h0 : 0 ≤ n) (h1 : n ≤ 1000000000000000) (b0 : 1 ≤ by_) (b1 : by_ ≤ 1000000) : ACalls Try.prog 80 [sideP r most T,i64 n,i64 by_] (i64 (overD most n by_)):=by
 have hd : ∀ m : Int,0 ≤ m → m ≤ 2000000000000000 → IntKind.i64.wrap (m.tdiv by_) = m / by_:=fun m hm0 hm1=>by
  rw [Int.tdiv_eq_ediv_of_nonneg hm0]
  have:=Int.ediv_nonneg hm0 (b:=by_) (by omega)
  have h2 : m / by_ ≤ m:=Int.ediv_le_self _ hm0
  rw [zI] <;> omega
 have q1:=hd n h0 (by omega)
 have q2:=hd (n + (by_ - 1)) (by omega) (by omega)
 refine acalls_st (rs:=[i64 (overD most n by_)]) [.tmp 6] Try.func80 rfl (by kernel_rfl) Try.ntmps80 rfl (by simp) rfl fun C vs=>?_
 repeat refine zq ?_
 refine zb (by kernel_rfl) fun K hK=>?_
 simp only [go_sem]
 (try simp (disch:=omega) only [zI])
 repeat first | intro _ | refine ⟨by omega,?_⟩ | refine ⟨⟨by omega,by omega⟩,?_⟩
 refine hK _ ?_
 clear hK K
 refine zw (zk [0,1,2]) ?_
 simp only [go_sem]
 repeat refine zq ?_
 refine zb (by kernel_rfl) fun K hK=>?_
 simp only [go_sem]
 (try simp (disch:=omega) only [zI])
 repeat first | intro _ | refine ⟨by omega,?_⟩ | refine ⟨⟨by omega,by omega⟩,?_⟩
 refine hK _ ?_
 clear hK K
 refine zw (zk [0,1,2,10]) ?_
 simp only [go_sem]
 cases most
 · repeat refine zq ?_
   refine zc rfl (fun hc=>?_) (fun hc=>?_) <;> (try simp only [go_sem] at hc)
   refine zx ?_
   try simp only [go_sem]
   repeat refine zq ?_
   refine zb (by kernel_rfl) fun K hK=>?_
   simp only [go_sem,q1]
   (try simp (disch:=omega) only [zI])
   refine ⟨by omega,?_⟩
   repeat first | intro _ | refine ⟨by omega,?_⟩ | refine ⟨⟨by omega,by omega⟩,?_⟩
   refine hK _ ?_
   clear hK K
   refine zw (zk [6]) ?_
   simp only [go_sem]
   refine ze ?_
   simp only [go_sem]
   simp [overD,q1]
 · repeat refine zq ?_
   refine zc rfl (fun hc=>?_) (fun hc=>?_) <;> (try simp only [go_sem] at hc)
   repeat refine zq ?_
   refine zb (by kernel_rfl) fun K hK=>?_
   simp only [go_sem]
   (try simp (disch:=omega) only [zI])
   repeat first | intro _ | refine ⟨by omega,?_⟩ | refine ⟨⟨by omega,by omega⟩,?_⟩
   refine hK _ ?_
   clear hK K
   try simp only [go_sem]
   repeat refine zq ?_
   refine zb (by kernel_rfl) fun K hK=>?_
   simp only [go_sem,q2]
   (try simp (disch:=omega) only [zI])
   refine ⟨by omega,?_⟩
   repeat first | intro _ | refine ⟨by omega,?_⟩ | refine ⟨⟨by omega,by omega⟩,?_⟩
   refine hK _ ?_
   clear hK K
   refine zw (zk [6]) ?_
   simp only [go_sem]
   refine ze ?_
   simp only [go_sem]
   simp [overD,q2]
theorem last_ok (r : Ru) (h : r.ends.length ≤ 1000) : ACalls Try.prog 73 [ruV r] (i64 ((r.ends.length : Int) - 1)):=by
 refine acalls_st (rs:=[i64 ((r.ends.length : Int) - 1)]) [.tmp 2] Try.func73 rfl (by kernel_rfl) Try.ntmps73 rfl (by simp) rfl fun C vs=>?_
 repeat refine zq ?_
 refine zb (by kernel_rfl) fun K hK=>?_
 simp only [go_sem]
 (try simp (disch:=omega) only [zI])
 repeat first | intro _ | refine ⟨by omega,?_⟩ | refine ⟨⟨by omega,by omega⟩,?_⟩
 refine hK _ ?_
 clear hK K
 refine zw (sub_frzP 1 1 (ruC r) (by omega) rfl rfl) ?_
 refine zw (zk [1]) ?_
 simp only [go_sem]
 repeat refine zq ?_
 refine zb (by kernel_rfl) fun K hK=>?_
 simp only [go_sem]
 (try simp (disch:=omega) only [zI])
 intros
 repeat first | intro _ | refine ⟨by omega,?_⟩ | refine ⟨⟨by omega,by omega⟩,?_⟩
 refine hK _ ?_
 clear hK K
 refine zw (zk [2]) ?_
 simp only [go_sem]
 refine ze ?_
 simp only [go_sem]
theorem cmp_ok (r : Ru) (most : Bool) (T : List (List Int)) (x y : Bd) (hx : 0 ≤ x.b ∧ x.b ≤ 1000000) (hy : 0 ≤ y.b ∧ y.b ≤ 1000000) : ACalls Try.prog 92 [bedV x,bedV y,.rp [sideP r most T]] (i64 (if most then y.b - x.b else x.b - y.b)):=by
 refine acalls_st (rs:=[i64 (if most then y.b - x.b else x.b - y.b)]) [.tmp 5] Try.func92 rfl (by kernel_rfl) Try.ntmps92 rfl (by simp) rfl fun C vs=>?_
 repeat refine zq ?_
 refine zb (by kernel_rfl) fun K hK=>?_
 simp only [go_sem]
 (try simp (disch:=omega) only [zI])
 repeat first | intro _ | refine ⟨by omega,?_⟩ | refine ⟨⟨by omega,by omega⟩,?_⟩
 refine hK _ ?_
 clear hK K
 refine zw (zk [2,3,4]) ?_
 simp only [go_sem]
 repeat refine zq ?_
 refine zb (by kernel_rfl) fun K hK=>?_
 simp only [go_sem]
 (try simp (disch:=omega) only [zI])
 repeat first | intro _ | refine ⟨by omega,?_⟩ | refine ⟨⟨by omega,by omega⟩,?_⟩
 refine hK _ ?_
 clear hK K
 refine zw (zk [3,4,9]) ?_
 simp only [go_sem]
 cases most
 · repeat refine zq ?_
   refine zc rfl (fun hc=>?_) (fun hc=>?_) <;> (try simp only [go_sem] at hc)
   refine zx ?_
   try simp only [go_sem]
   repeat refine zq ?_
   refine zb (by kernel_rfl) fun K hK=>?_
   simp only [go_sem]
   (try simp (disch:=omega) only [zI])
   repeat first | intro _ | refine ⟨by omega,?_⟩ | refine ⟨⟨by omega,by omega⟩,?_⟩
   refine hK _ ?_
   clear hK K
   refine zw (zk [5]) ?_
   simp only [go_sem]
   refine ze ?_
   simp only [go_sem]
 · repeat refine zq ?_
   refine zc rfl (fun hc=>?_) (fun hc=>?_) <;> (try simp only [go_sem] at hc)
   repeat refine zq ?_
   refine zb (by kernel_rfl) fun K hK=>?_
   simp only [go_sem]
   (try simp (disch:=omega) only [zI])
   repeat first | intro _ | refine ⟨by omega,?_⟩ | refine ⟨⟨by omega,by omega⟩,?_⟩
   refine hK _ ?_
   clear hK K
   try simp only [go_sem]
   repeat refine zq ?_
   refine zb (by kernel_rfl) fun K hK=>?_
   simp only [go_sem]
   (try simp (disch:=omega) only [zI])
   repeat first | intro _ | refine ⟨by omega,?_⟩ | refine ⟨⟨by omega,by omega⟩,?_⟩
   refine hK _ ?_
   clear hK K
   refine zw (zk [5]) ?_
   simp only [go_sem]
   refine ze ?_
   simp only [go_sem]
def endsD (most : Bool) (e : Int × Int) : Int:=if most then e.1 else e.2
def afterD (r : Ru) (most : Bool) (T : List (List Int)) (k left : Nat) : Int :=
 if k + 1 = r.ends.length then 0 else overD most (((T.getD (k + 1) []).getD left 0) * (1000000 - endsD most (r.ends.getD k (0,0)))) 1000000
theorem endOk_le {x : Int × Int} (h : endOk x = true) : 0 ≤ x.1 ∧ x.1 ≤ x.2 ∧ x.2 ≤ 1000000:=by
 simp only [endOk,withinL,List.all_cons,List.all_nil,Bool.and_true,Bool.and_eq_true,decide_eq_true_eq] at h
 omega
theorem after_ok (r : Ru) (most : Bool) (T : List (List Int)) (k left : Nat) (row : List Int) (v : Int) (hk : k < r.ends.length) (h10 : r.ends.length ≤ 10) (he : ∀ x ∈ r.ends,endOk x = true)
 (hT : k + 1 < r.ends.length → T[k + 1]? = some row ∧ row[left]? = some v ∧ 0 ≤ v ∧ v ≤ 1000000) : ACalls Try.prog 58 [sideP r most T,i64 k,i64 left] (i64 (afterD r most T k left)):=by
 obtain ⟨e,hek⟩:=opt_of_lt hk
 obtain ⟨g1,g2,g3⟩:=endOk_le (he e (mem_of_opt hek))
 have hl:=last_ok r (by omega)
 refine acalls_st (rs:=[i64 (afterD r most T k left)]) [.tmp 6] Try.func58 rfl (by kernel_rfl) Try.ntmps58 rfl (by simp) rfl fun C vs=>?_
 repeat refine zq ?_
 refine zb (by kernel_rfl) fun K hK=>?_
 simp only [go_sem]
 (try simp (disch:=omega) only [zI])
 repeat first | intro _ | refine ⟨by omega,?_⟩ | refine ⟨⟨by omega,by omega⟩,?_⟩
 refine hK _ ?_
 clear hK K
 refine zw (zk [0,1,2]) ?_
 simp only [go_sem]
 by_cases hlast : k + 1 = r.ends.length
 · have c : ((k : Int) == (r.ends.length : Int) - 1) = true:=by simp; omega
   repeat refine zq ?_
   refine zb (by kernel_rfl) fun K hK=>?_
   simp only [go_sem,c]
   (try simp (disch:=omega) only [zI])
   refine zh (hl) rfl (by simp only [go_sem,i64,ints,c]) (by simp only [go_sem,i64,ints,c]) (by first | exact .inl rfl | exact .inr rfl) ?_
   (try simp only [go_sem,c])
   (try simp (disch:=omega) only [zI])
   repeat first | intro _ | refine ⟨by omega,?_⟩ | refine ⟨⟨by omega,by omega⟩,?_⟩
   refine hK _ ?_
   clear hK K
   refine zw (zk [0,1,2,14]) ?_
   simp only [go_sem]
   repeat refine zq ?_
   refine zc rfl (fun hc=>?_) (fun hc=>?_) <;> (try simp only [go_sem] at hc)
   repeat refine zq ?_
   refine zb (by kernel_rfl) fun K hK=>?_
   simp only [go_sem]
   (try simp (disch:=omega) only [zI])
   repeat first | intro _ | refine ⟨by omega,?_⟩ | refine ⟨⟨by omega,by omega⟩,?_⟩
   refine hK _ ?_
   clear hK K
   refine zw (zk [6]) ?_
   simp only [go_sem]
   refine ze ?_
   simp only [go_sem]
   simp [afterD,hlast]
 have c : ((k : Int) == (r.ends.length : Int) - 1) = false:=by simp; omega
 obtain ⟨t1,t2,t3,t4⟩:=hT (by omega)
 have hk1 : k + 1 < T.length:=(List.getElem?_eq_some_iff.1 t1).1
 have hlf : left < row.length:=(List.getElem?_eq_some_iff.1 t2).1
 have hA : afterD r most T k left = overD most (v * (1000000 - endsD most e)) 1000000:=by
  simp [afterD,hlast,List.getD_eq_getElem?_getD,t1,t2,hek]
 rw [hA]
 have hm0 : ∀ q : Int,0 ≤ q → q ≤ 1000000 → 0 ≤ v * (1000000 - q) ∧ v * (1000000 - q) ≤ 1000000 * 1000000:=fun q h1 h2 =>
  ⟨Int.mul_nonneg t3 (by omega),Int.mul_le_mul t4 (by omega) (by omega) (by omega)⟩
 have htn : ((k : Int) + 1).toNat = k + 1:=by omega
 have hkw : IntKind.i64.wrap ((k : Int) + 1) = ((k + 1 : Nat) : Int):=by rw [zI] <;> omega
 repeat refine zq ?_
 refine zb (by kernel_rfl) fun K hK=>?_
 simp only [go_sem,c]
 (try simp (disch:=omega) only [zI])
 refine zh (hl) rfl (by simp only [go_sem,i64,ints,c]) (by simp only [go_sem,i64,ints,c]) (by first | exact .inl rfl | exact .inr rfl) ?_
 (try simp only [go_sem,c])
 (try simp (disch:=omega) only [zI])
 repeat first | intro _ | refine ⟨by omega,?_⟩ | refine ⟨⟨by omega,by omega⟩,?_⟩
 refine hK _ ?_
 clear hK K
 refine zw (zk [0,1,2,14]) ?_
 simp only [go_sem]
 repeat refine zq ?_
 refine zc rfl (fun hc=>?_) (fun hc=>?_) <;> (try simp only [go_sem] at hc)
 refine zx ?_
 try simp only [go_sem]
 repeat refine zq ?_
 refine zb (by kernel_rfl) fun K hK=>?_
 simp only [go_sem,hek,hk,spanR]
 (try simp (disch:=omega) only [zI])
 repeat first | intro _ | refine ⟨by omega,?_⟩ | refine ⟨⟨by omega,by omega⟩,?_⟩
 refine hK _ ?_
 clear hK K
 refine zw (zk [0,1,2,7]) ?_
 simp only [go_sem]
 repeat refine zq ?_
 refine zb (by kernel_rfl) fun K hK=>?_
 simp only [go_sem]
 (try simp (disch:=omega) only [zI])
 repeat first | intro _ | refine ⟨by omega,?_⟩ | refine ⟨⟨by omega,by omega⟩,?_⟩
 refine hK _ ?_
 clear hK K
 refine zw (zk [0,1,2,7,28]) ?_
 simp only [go_sem]
 cases most
 · obtain ⟨m1,m2⟩:=hm0 e.2 (by omega) (by omega)
   have hov:=over_ok r false T (v * (1000000 - e.2)) 1000000 m1 (by omega) (by omega) (by omega)
   have hmw : IntKind.i64.wrap (v * (1000000 - e.2)) = v * (1000000 - e.2):=by rw [zI] <;> omega
   repeat refine zq ?_
   refine zc rfl (fun hc=>?_) (fun hc=>?_) <;> (try simp only [go_sem] at hc)
   refine zx ?_
   try simp only [go_sem]
   repeat refine zq ?_
   refine zb (by kernel_rfl) fun K hK=>?_
   simp only [go_sem,hkw,t1,t2,hk1,hlf,htn,hmw]
   (try simp (disch:=omega) only [zI])
   repeat first | intro _ | refine ⟨by omega,?_⟩ | refine ⟨⟨by omega,by omega⟩,?_⟩
   refine zh (hov) rfl (by simp only [go_sem,i64,ints,hmw]) (by simp only [go_sem,i64,ints,hmw]) (by first | exact .inl rfl | exact .inr rfl) ?_
   (try simp only [go_sem,hmw])
   (try simp (disch:=omega) only [zI])
   repeat first | intro _ | refine ⟨by omega,?_⟩ | refine ⟨⟨by omega,by omega⟩,?_⟩
   refine hK _ ?_
   clear hK K
   refine zw (zk [6]) ?_
   simp only [go_sem]
   refine ze ?_
   simp only [go_sem]
   simp [endsD]
 · obtain ⟨m1,m2⟩:=hm0 e.1 (by omega) (by omega)
   have hov:=over_ok r true T (v * (1000000 - e.1)) 1000000 m1 (by omega) (by omega) (by omega)
   have hmw : IntKind.i64.wrap (v * (1000000 - e.1)) = v * (1000000 - e.1):=by rw [zI] <;> omega
   repeat refine zq ?_
   refine zc rfl (fun hc=>?_) (fun hc=>?_) <;> (try simp only [go_sem] at hc)
   repeat refine zq ?_
   refine zb (by kernel_rfl) fun K hK=>?_
   simp only [go_sem,hek,hk,spanR]
   (try simp (disch:=omega) only [zI])
   repeat first | intro _ | refine ⟨by omega,?_⟩ | refine ⟨⟨by omega,by omega⟩,?_⟩
   refine hK _ ?_
   clear hK K
   try simp only [go_sem]
   repeat refine zq ?_
   refine zb (by kernel_rfl) fun K hK=>?_
   simp only [go_sem,hkw,t1,t2,hk1,hlf,htn,hmw]
   (try simp (disch:=omega) only [zI])
   repeat first | intro _ | refine ⟨by omega,?_⟩ | refine ⟨⟨by omega,by omega⟩,?_⟩
   refine zh (hov) rfl (by simp only [go_sem,i64,ints,hmw]) (by simp only [go_sem,i64,ints,hmw]) (by first | exact .inl rfl | exact .inr rfl) ?_
   (try simp only [go_sem,hmw])
   (try simp (disch:=omega) only [zI])
   repeat first | intro _ | refine ⟨by omega,?_⟩ | refine ⟨⟨by omega,by omega⟩,?_⟩
   refine hK _ ?_
   clear hK K
   refine zw (zk [6]) ?_
   simp only [go_sem]
   refine ze ?_
   simp only [go_sem]
   simp [endsD]
def opensD (out b : Int) : Bool:=if out = 1 then decide (b / 100 = 2) else if out = 2 then decide (2 ≤ b / 100) else true
theorem div100 {b : Int} (h0 : 0 ≤ b) (h1 : b ≤ 499) : IntKind.i64.wrap (b.tdiv 100) = b / 100 ∧ 0 ≤ b / 100 ∧ b / 100 ≤ 4:=by
 rw [Int.tdiv_eq_ediv_of_nonneg h0]
 refine ⟨?_,by omega,by omega⟩
 rw [zI] <;> omega
theorem opens_ok (r : Ru) (b : Int) (h0 : 0 ≤ b) (h1 : b ≤ 499) : ACalls Try.prog 90 [ruV r,i64 b] (.bo (opensD r.out b)):=by
 obtain ⟨hd,_,_⟩:=div100 h0 h1
 refine acalls_st (rs:=[.bo (opensD r.out b)]) [.tmp 4] Try.func90 rfl (by kernel_rfl) Try.ntmps90 rfl (by simp) rfl fun C vs=>?_
 repeat refine zq ?_
 refine zb (by kernel_rfl) fun K hK=>?_
 simp only [go_sem]
 (try simp (disch:=omega) only [zI])
 repeat first | intro _ | refine ⟨by omega,?_⟩ | refine ⟨⟨by omega,by omega⟩,?_⟩
 refine hK _ ?_
 clear hK K
 refine zw (sub_frzP 2 2 (ruC r) (by omega) rfl rfl) ?_
 refine zw (zk [1,2]) ?_
 simp only [go_sem]
 repeat refine zq ?_
 refine zb (by kernel_rfl) fun K hK=>?_
 simp only [go_sem,hd]
 (try simp (disch:=omega) only [zI])
 repeat first | intro _ | refine ⟨by omega,?_⟩ | refine ⟨⟨by omega,by omega⟩,?_⟩
 refine hK _ ?_
 clear hK K
 refine zw (zk [2,5]) ?_
 simp only [go_sem]
 repeat refine zq ?_
 refine zb (by kernel_rfl) fun K hK=>?_
 simp only [go_sem]
 (try simp (disch:=omega) only [zI])
 repeat first | intro _ | refine ⟨by omega,?_⟩ | refine ⟨⟨by omega,by omega⟩,?_⟩
 refine hK _ ?_
 clear hK K
 refine zw (zk [5,10]) ?_
 simp only [go_sem]
 repeat refine zq ?_
 refine zd ?_
 by_cases c1 : r.out = 1
 · have e1 : (r.out == 1) = true:=by simpa using c1
   repeat refine zq ?_
   refine zb (by kernel_rfl) fun K hK=>?_
   simp only [go_sem,e1]
   (try simp (disch:=omega) only [zI])
   repeat first | intro _ | refine ⟨by omega,?_⟩ | refine ⟨⟨by omega,by omega⟩,?_⟩
   refine hK _ ?_
   clear hK K
   refine zw (zk [5,10,11]) ?_
   simp only [go_sem]
   repeat refine zq ?_
   refine zc rfl (fun hc=>?_) (fun hc=>?_) <;> (try simp only [go_sem] at hc)
   repeat refine zq ?_
   refine zb (by kernel_rfl) fun K hK=>?_
   simp only [go_sem]
   (try simp (disch:=omega) only [zI])
   repeat first | intro _ | refine ⟨by omega,?_⟩ | refine ⟨⟨by omega,by omega⟩,?_⟩
   refine hK _ ?_
   clear hK K
   refine zw (zk [4]) ?_
   simp only [go_sem]
   refine ze ?_
   simp only [go_sem]
   simp only [opensD,c1,if_true]
   rfl
 have e1 : (r.out == 1) = false:=by simpa using c1
 repeat refine zq ?_
 refine zb (by kernel_rfl) fun K hK=>?_
 simp only [go_sem,e1]
 (try simp (disch:=omega) only [zI])
 repeat first | intro _ | refine ⟨by omega,?_⟩ | refine ⟨⟨by omega,by omega⟩,?_⟩
 refine hK _ ?_
 clear hK K
 refine zw (zk [5,10,11]) ?_
 simp only [go_sem]
 repeat refine zq ?_
 refine zc rfl (fun hc=>?_) (fun hc=>?_) <;> (try simp only [go_sem] at hc)
 by_cases c2 : r.out = 2
 · have e2 : (r.out == 2) = true:=by simpa using c2
   repeat refine zq ?_
   refine zb (by kernel_rfl) fun K hK=>?_
   simp only [go_sem,e2]
   (try simp (disch:=omega) only [zI])
   repeat first | intro _ | refine ⟨by omega,?_⟩ | refine ⟨⟨by omega,by omega⟩,?_⟩
   refine hK _ ?_
   clear hK K
   refine zw (zk [5,15]) ?_
   simp only [go_sem]
   repeat refine zq ?_
   refine zc rfl (fun hc=>?_) (fun hc=>?_) <;> (try simp only [go_sem] at hc)
   repeat refine zq ?_
   refine zb (by kernel_rfl) fun K hK=>?_
   simp only [go_sem]
   (try simp (disch:=omega) only [zI])
   repeat first | intro _ | refine ⟨by omega,?_⟩ | refine ⟨⟨by omega,by omega⟩,?_⟩
   refine hK _ ?_
   clear hK K
   refine zw (zk [4]) ?_
   simp only [go_sem]
   refine ze ?_
   simp only [go_sem]
   simp [opensD,c2]
 have e2 : (r.out == 2) = false:=by simpa using c2
 repeat refine zq ?_
 refine zb (by kernel_rfl) fun K hK=>?_
 simp only [go_sem,e2]
 (try simp (disch:=omega) only [zI])
 repeat first | intro _ | refine ⟨by omega,?_⟩ | refine ⟨⟨by omega,by omega⟩,?_⟩
 refine hK _ ?_
 clear hK K
 refine zw (zk [5,15]) ?_
 simp only [go_sem]
 repeat refine zq ?_
 refine zc rfl (fun hc=>?_) (fun hc=>?_) <;> (try simp only [go_sem] at hc)
 refine zx ?_
 try simp only [go_sem]
 repeat refine zq ?_
 refine zb (by kernel_rfl) fun K hK=>?_
 simp only [go_sem]
 (try simp (disch:=omega) only [zI])
 repeat first | intro _ | refine ⟨by omega,?_⟩ | refine ⟨⟨by omega,by omega⟩,?_⟩
 refine hK _ ?_
 clear hK K
 refine zw (zk [4]) ?_
 simp only [go_sem]
 refine ze ?_
 simp only [go_sem]
 simp [opensD,c1,c2]
end Go.Proofs.Ytlbfkhikmigpbaa

namespace Go.Proofs.Ytlbfkhikmigpbaa
open Go Go.Oc
set_option linter.unusedSimpArgs false
set_option linter.unusedVariables false
set_option maxRecDepth 8000
theorem over_up {n by_ : Int} (h0 : 0 ≤ n) (hb : 1 ≤ by_) : (n + (by_ - 1)) / by_ = if n % by_ = 0 then n / by_ else n / by_ + 1:=by
 have h1:=Int.emod_add_mul_ediv n by_
 have h2:=Int.emod_nonneg n (show by_ ≠ 0 by omega)
 have h3:=Int.emod_lt_of_pos n (show 0 < by_ by omega)
 split
 · rename_i h
   have e : n + (by_ - 1) = (by_ - 1) + by_ * (n / by_):=by omega
   rw [e,Int.add_mul_ediv_left _ _ (by omega),Int.ediv_eq_zero_of_lt (by omega) (by omega)]
   omega
 · rename_i h
   have e : n + (by_ - 1) = (n % by_ - 1) + by_ * (n / by_ + 1):=by rw [Int.mul_add]; omega
   rw [e,Int.add_mul_ediv_left _ _ (by omega),Int.ediv_eq_zero_of_lt (by omega) (by omega)]
   omega
theorem refOver_ok (most : Bool) (n by_ : Int) (h0 : 0 ≤ n) (h1 : n ≤ 1000000000000000) (b0 : 1 ≤ by_) (b1 : by_ ≤ 1000000) : ACalls Try.prog 59 [i64 n,i64 by_,.bo most] (i64 (overD most n by_)):=by
 have hn:=Int.ediv_nonneg h0 (b:=by_) (by omega)
 have h2 : n / by_ ≤ n:=Int.ediv_le_self _ h0
 have q1 : IntKind.i64.wrap (n.tdiv by_) = n / by_:=by
  rw [Int.tdiv_eq_ediv_of_nonneg h0,zI] <;> omega
 have q2 : IntKind.i64.wrap (n / by_ + 1) = n / by_ + 1:=by rw [zI] <;> omega
 have q3 : n.tmod by_ = n % by_:=Int.tmod_eq_emod_of_nonneg h0
 refine acalls_st (rs:=[i64 (overD most n by_)]) [.tmp 6] Try.func59 rfl (by kernel_rfl) Try.ntmps59 rfl (by simp) rfl fun C vs=>?_
 repeat refine zq ?_
 refine zb (by kernel_rfl) fun K hK=>?_
 simp only [go_sem]
 (try simp (disch:=omega) only [zI])
 repeat first | intro _ | refine ⟨by omega,?_⟩ | refine ⟨⟨by omega,by omega⟩,?_⟩
 refine hK _ ?_
 clear hK K
 refine zw (zk [0,1,2]) ?_
 simp only [go_sem]
 cases most
 · repeat refine zq ?_
   refine zb (by kernel_rfl) fun K hK=>?_
   simp only [go_sem]
   (try simp (disch:=omega) only [zI])
   repeat first | intro _ | refine ⟨by omega,?_⟩ | refine ⟨⟨by omega,by omega⟩,?_⟩
   refine hK _ ?_
   clear hK K
   refine zw (zk [0,1,2,13]) ?_
   simp only [go_sem]
   repeat refine zq ?_
   refine zc rfl (fun hc=>?_) (fun hc=>?_) <;> (try simp only [go_sem] at hc)
   refine zx ?_
   try simp only [go_sem]
   repeat refine zq ?_
   refine zb (by kernel_rfl) fun K hK=>?_
   simp only [go_sem,q1]
   (try simp (disch:=omega) only [zI])
   refine ⟨by omega,?_⟩
   repeat first | intro _ | refine ⟨by omega,?_⟩ | refine ⟨⟨by omega,by omega⟩,?_⟩
   refine hK _ ?_
   clear hK K
   refine zw (zk [6]) ?_
   simp only [go_sem]
   refine ze ?_
   simp only [go_sem]
   simp [overD]
 · by_cases hz : n % by_ = 0
   · have c : (n % by_ != 0) = false:=by simp [hz]
     repeat refine zq ?_
     refine zb (by kernel_rfl) fun K hK=>?_
     simp only [go_sem,q3,c]
     (try simp (disch:=omega) only [zI])
     refine ⟨by omega,?_⟩
     repeat first | intro _ | refine ⟨by omega,?_⟩ | refine ⟨⟨by omega,by omega⟩,?_⟩
     refine hK _ ?_
     clear hK K
     refine zw (zk [0,1,2,13]) ?_
     simp only [go_sem]
     repeat refine zq ?_
     refine zc rfl (fun hc=>?_) (fun hc=>?_) <;> (try simp only [go_sem] at hc)
     refine zx ?_
     try simp only [go_sem]
     repeat refine zq ?_
     refine zb (by kernel_rfl) fun K hK=>?_
     simp only [go_sem,q1]
     (try simp (disch:=omega) only [zI])
     refine ⟨by omega,?_⟩
     repeat first | intro _ | refine ⟨by omega,?_⟩ | refine ⟨⟨by omega,by omega⟩,?_⟩
     refine hK _ ?_
     clear hK K
     refine zw (zk [6]) ?_
     simp only [go_sem]
     refine ze ?_
     simp only [go_sem]
     simp [overD,over_up h0 b0,hz]
   · have c : (n % by_ != 0) = true:=by simp [hz]
     repeat refine zq ?_
     refine zb (by kernel_rfl) fun K hK=>?_
     simp only [go_sem,q3,c]
     (try simp (disch:=omega) only [zI])
     refine ⟨by omega,?_⟩
     repeat first | intro _ | refine ⟨by omega,?_⟩ | refine ⟨⟨by omega,by omega⟩,?_⟩
     refine hK _ ?_
     clear hK K
     refine zw (zk [0,1,2,13]) ?_
     simp only [go_sem]
     repeat refine zq ?_
     refine zc rfl (fun hc=>?_) (fun hc=>?_) <;> (try simp only [go_sem] at hc)
     repeat refine zq ?_
     refine zb (by kernel_rfl) fun K hK=>?_
     simp only [go_sem,q1,q2]
     (try simp (disch:=omega) only [zI])
     refine ⟨by omega,?_⟩
     repeat first | intro _ | refine ⟨by omega,?_⟩ | refine ⟨⟨by omega,by omega⟩,?_⟩
     refine hK _ ?_
     clear hK K
     refine zw (zk [6]) ?_
     simp only [go_sem]
     refine ze ?_
     simp only [go_sem]
     simp [overD,over_up h0 b0,hz]
theorem refOpens_ok (out b : Int) (h0 : 0 ≤ b) (h1 : b ≤ 499) (ho : out = 0 ∨ out = 1 ∨ out = 2) : ACalls Try.prog 93 [i64 out,i64 b] (.bo (opensD out b)):=by
 obtain ⟨hd,_,_⟩:=div100 h0 h1
 refine acalls_st (rs:=[.bo (opensD out b)]) [.tmp 4] Try.func93 rfl (by kernel_rfl) Try.ntmps93 rfl (by simp) rfl fun C vs=>?_
 repeat refine zq ?_
 refine zb (by kernel_rfl) fun K hK=>?_
 simp only [go_sem]
 (try simp (disch:=omega) only [zI])
 repeat first | intro _ | refine ⟨by omega,?_⟩ | refine ⟨⟨by omega,by omega⟩,?_⟩
 refine hK _ ?_
 clear hK K
 refine zw (zk [0,1]) ?_
 simp only [go_sem]
 rcases ho with rfl | rfl | rfl
 · repeat refine zq ?_
   refine zb (by kernel_rfl) fun K hK=>?_
   simp only [go_sem,hd,beq_self_eq_true]
   (try simp (disch:=omega) only [zI])
   repeat first | intro _ | refine ⟨by omega,?_⟩ | refine ⟨⟨by omega,by omega⟩,?_⟩
   refine hK _ ?_
   clear hK K
   refine zw (zk [4]) ?_
   simp only [go_sem]
   refine ze ?_
   simp only [go_sem]
   simp [opensD]
 · have e1 : ((1 : Int) == 0) = false:=rfl
   have e2 : ((1 : Int) == 2) = false:=rfl
   by_cases h2 : b / 100 = 2
   · have e3 : (b / 100 == 2) = true:=by simpa using h2
     repeat refine zq ?_
     refine zb (by kernel_rfl) fun K hK=>?_
     simp only [go_sem,hd,e1,e2,e3]
     (try simp (disch:=omega) only [zI])
     repeat first | intro _ | refine ⟨by omega,?_⟩ | refine ⟨⟨by omega,by omega⟩,?_⟩
     refine hK _ ?_
     clear hK K
     refine zw (zk [4]) ?_
     simp only [go_sem]
     refine ze ?_
     simp only [go_sem]
     simp [opensD,h2]
   · have e3 : (b / 100 == 2) = false:=by simpa using h2
     repeat refine zq ?_
     refine zb (by kernel_rfl) fun K hK=>?_
     simp only [go_sem,hd,e1,e2,e3]
     (try simp (disch:=omega) only [zI])
     repeat first | intro _ | refine ⟨by omega,?_⟩ | refine ⟨⟨by omega,by omega⟩,?_⟩
     refine hK _ ?_
     clear hK K
     refine zw (zk [4]) ?_
     simp only [go_sem]
     refine ze ?_
     simp only [go_sem]
     simp [opensD,h2]
 · have e1 : ((2 : Int) == 0) = false:=rfl
   have e2 : ((2 : Int) == 2) = true:=rfl
   by_cases h2 : b / 100 = 2
   · have e3 : (b / 100 == 2) = true:=by simpa using h2
     repeat refine zq ?_
     refine zb (by kernel_rfl) fun K hK=>?_
     simp only [go_sem,hd,e1,e2,e3]
     (try simp (disch:=omega) only [zI])
     repeat first | intro _ | refine ⟨by omega,?_⟩ | refine ⟨⟨by omega,by omega⟩,?_⟩
     refine hK _ ?_
     clear hK K
     refine zw (zk [4]) ?_
     simp only [go_sem]
     refine ze ?_
     simp only [go_sem]
     simp [opensD,h2]
   · have e3 : (b / 100 == 2) = false:=by simpa using h2
     repeat refine zq ?_
     refine zb (by kernel_rfl) fun K hK=>?_
     simp only [go_sem,hd,e1,e2,e3]
     (try simp (disch:=omega) only [zI])
     repeat first | intro _ | refine ⟨by omega,?_⟩ | refine ⟨⟨by omega,by omega⟩,?_⟩
     refine hK _ ?_
     clear hK K
     refine zw (zk [4]) ?_
     simp only [go_sem]
     refine ze ?_
     simp only [go_sem]
     simp [opensD]; omega
theorem refAfter_ok (r : Ru) (most : Bool) (T : List (List Int)) (k left : Nat) (row : List Int) (v : Int) (hk : k < r.ends.length) (h10 : r.ends.length ≤ 10) (he : ∀ x ∈ r.ends,endOk x = true)
 (hT : k + 1 < r.ends.length → T[k + 1]? = some row ∧ row[left]? = some v ∧ 0 ≤ v ∧ v ≤ 1000000) : ACalls Try.prog 31 [ruV r,tabR T,i64 k,i64 left,.bo most] (i64 (afterD r most T k left)):=by
 obtain ⟨e,hek⟩:=opt_of_lt hk
 obtain ⟨g1,g2,g3⟩:=endOk_le (he e (mem_of_opt hek))
 refine acalls_st (rs:=[i64 (afterD r most T k left)]) [.tmp 10] Try.func31 rfl (by kernel_rfl) Try.ntmps31 rfl (by simp) rfl fun C vs=>?_
 repeat refine zq ?_
 refine zb (by kernel_rfl) fun K hK=>?_
 simp only [go_sem]
 (try simp (disch:=omega) only [zI])
 repeat first | intro _ | refine ⟨by omega,?_⟩ | refine ⟨⟨by omega,by omega⟩,?_⟩
 refine hK _ ?_
 clear hK K
 refine zw (sub_frzP 5 5 (ruC r) (by omega) rfl rfl) ?_
 refine zw (zk [1,2,3,4,5]) ?_
 simp only [go_sem]
 have hlw : IntKind.i64.wrap ((r.ends.length : Int) - 1) = (r.ends.length : Int) - 1:=by rw [zI] <;> omega
 by_cases hlast : k + 1 = r.ends.length
 · have c : ((k : Int) == (r.ends.length : Int) - 1) = true:=by simp; omega
   repeat refine zq ?_
   refine zb (by kernel_rfl) fun K hK=>?_
   simp only [go_sem,hlw,c]
   (try simp (disch:=omega) only [zI])
   intros
   repeat first | intro _ | refine ⟨by omega,?_⟩ | refine ⟨⟨by omega,by omega⟩,?_⟩
   refine hK _ ?_
   clear hK K
   refine zw (zk [1,2,3,4,5,17]) ?_
   simp only [go_sem]
   repeat refine zq ?_
   refine zc rfl (fun hc=>?_) (fun hc=>?_) <;> (try simp only [go_sem] at hc)
   repeat refine zq ?_
   refine zb (by kernel_rfl) fun K hK=>?_
   simp only [go_sem]
   (try simp (disch:=omega) only [zI])
   repeat first | intro _ | refine ⟨by omega,?_⟩ | refine ⟨⟨by omega,by omega⟩,?_⟩
   refine hK _ ?_
   clear hK K
   refine zw (zk [10]) ?_
   simp only [go_sem]
   refine ze ?_
   simp only [go_sem]
   simp [afterD,hlast]
 have c : ((k : Int) == (r.ends.length : Int) - 1) = false:=by simp; omega
 obtain ⟨t1,t2,t3,t4⟩:=hT (by omega)
 have hk1 : k + 1 < T.length:=(List.getElem?_eq_some_iff.1 t1).1
 have hlf : left < row.length:=(List.getElem?_eq_some_iff.1 t2).1
 have hA : afterD r most T k left = overD most (v * (1000000 - endsD most e)) 1000000:=by
  simp [afterD,hlast,List.getD_eq_getElem?_getD,t1,t2,hek]
 rw [hA]
 have hm0 : ∀ q : Int,0 ≤ q → q ≤ 1000000 → 0 ≤ v * (1000000 - q) ∧ v * (1000000 - q) ≤ 1000000 * 1000000:=fun q h1 h2 =>
  ⟨Int.mul_nonneg t3 (by omega),Int.mul_le_mul t4 (by omega) (by omega) (by omega)⟩
 have htn : ((k : Int) + 1).toNat = k + 1:=by omega
 have hkw : IntKind.i64.wrap ((k : Int) + 1) = ((k + 1 : Nat) : Int):=by rw [zI] <;> omega
 repeat refine zq ?_
 refine zb (by kernel_rfl) fun K hK=>?_
 simp only [go_sem,hlw,c]
 (try simp (disch:=omega) only [zI])
 intros
 repeat first | intro _ | refine ⟨by omega,?_⟩ | refine ⟨⟨by omega,by omega⟩,?_⟩
 refine hK _ ?_
 clear hK K
 refine zw (zk [1,2,3,4,5,17]) ?_
 simp only [go_sem]
 repeat refine zq ?_
 refine zc rfl (fun hc=>?_) (fun hc=>?_) <;> (try simp only [go_sem] at hc)
 refine zx ?_
 try simp only [go_sem]
 repeat refine zq ?_
 refine zb (by kernel_rfl) fun K hK=>?_
 simp only [go_sem,hek,hk,spanR]
 (try simp (disch:=omega) only [zI])
 repeat first | intro _ | refine ⟨by omega,?_⟩ | refine ⟨⟨by omega,by omega⟩,?_⟩
 refine hK _ ?_
 clear hK K
 refine zw (zk [1,2,3,4,5,11]) ?_
 simp only [go_sem]
 repeat refine zq ?_
 refine zb (by kernel_rfl) fun K hK=>?_
 simp only [go_sem]
 (try simp (disch:=omega) only [zI])
 repeat first | intro _ | refine ⟨by omega,?_⟩ | refine ⟨⟨by omega,by omega⟩,?_⟩
 refine hK _ ?_
 clear hK K
 refine zw (zk [1,2,3,4,5,11,24]) ?_
 simp only [go_sem]
 cases most
 · obtain ⟨m1,m2⟩:=hm0 e.2 (by omega) (by omega)
   have hov:=refOver_ok false (v * (1000000 - e.2)) 1000000 m1 (by omega) (by omega) (by omega)
   have hmw : IntKind.i64.wrap (v * (1000000 - e.2)) = v * (1000000 - e.2):=by rw [zI] <;> omega
   repeat refine zq ?_
   refine zc rfl (fun hc=>?_) (fun hc=>?_) <;> (try simp only [go_sem] at hc)
   refine zx ?_
   try simp only [go_sem]
   repeat refine zq ?_
   refine zb (by kernel_rfl) fun K hK=>?_
   simp only [go_sem,hkw,t1,t2,hk1,hlf,htn,hmw]
   (try simp (disch:=omega) only [zI])
   repeat first | intro _ | refine ⟨by omega,?_⟩ | refine ⟨⟨by omega,by omega⟩,?_⟩
   refine zh (hov) rfl (by simp only [go_sem,i64,ints,hmw]) (by simp only [go_sem,i64,ints,hmw]) (by first | exact .inl rfl | exact .inr rfl) ?_
   (try simp only [go_sem,hmw])
   (try simp (disch:=omega) only [zI])
   repeat first | intro _ | refine ⟨by omega,?_⟩ | refine ⟨⟨by omega,by omega⟩,?_⟩
   refine hK _ ?_
   clear hK K
   refine zw (zk [10]) ?_
   simp only [go_sem]
   refine ze ?_
   simp only [go_sem]
   simp [endsD]
 · obtain ⟨m1,m2⟩:=hm0 e.1 (by omega) (by omega)
   have hov:=refOver_ok true (v * (1000000 - e.1)) 1000000 m1 (by omega) (by omega) (by omega)
   have hmw : IntKind.i64.wrap (v * (1000000 - e.1)) = v * (1000000 - e.1):=by rw [zI] <;> omega
   repeat refine zq ?_
   refine zc rfl (fun hc=>?_) (fun hc=>?_) <;> (try simp only [go_sem] at hc)
   repeat refine zq ?_
   refine zb (by kernel_rfl) fun K hK=>?_
   simp only [go_sem,hek,hk,spanR]
   (try simp (disch:=omega) only [zI])
   repeat first | intro _ | refine ⟨by omega,?_⟩ | refine ⟨⟨by omega,by omega⟩,?_⟩
   refine hK _ ?_
   clear hK K
   try simp only [go_sem]
   repeat refine zq ?_
   refine zb (by kernel_rfl) fun K hK=>?_
   simp only [go_sem,hkw,t1,t2,hk1,hlf,htn,hmw]
   (try simp (disch:=omega) only [zI])
   repeat first | intro _ | refine ⟨by omega,?_⟩ | refine ⟨⟨by omega,by omega⟩,?_⟩
   refine zh (hov) rfl (by simp only [go_sem,i64,ints,hmw]) (by simp only [go_sem,i64,ints,hmw]) (by first | exact .inl rfl | exact .inr rfl) ?_
   (try simp only [go_sem,hmw])
   (try simp (disch:=omega) only [zI])
   repeat first | intro _ | refine ⟨by omega,?_⟩ | refine ⟨⟨by omega,by omega⟩,?_⟩
   refine hK _ ?_
   clear hK K
   refine zw (zk [10]) ?_
   simp only [go_sem]
   refine ze ?_
   simp only [go_sem]
   simp [endsD]
end Go.Proofs.Ytlbfkhikmigpbaa

namespace Go.Proofs.Ytlbfkhikmigpbaa
open Go Go.Oc
set_option linter.unusedSimpArgs false
set_option linter.unusedVariables false
set_option maxRecDepth 8000
def ltD (most : Bool) (x y : Bd) : Bool:=decide ((if most then y.b - x.b else x.b - y.b) < 0)
def loV (l : List Bd) : Int:=(l.map fun c=>c.lo * c.b).sum
theorem loV_snoc (l : List Bd) (x : Bd) : loV (l ++ [x]) = loV l + x.lo * x.b:=by simp [loV]
def fillG : List Bd → Int × Int → Int × Int
 | [],x=>x
 | c :: cs,x=>fillG cs (x.1 - min x.1 (c.hi - c.lo),x.2 + min x.1 (c.hi - c.lo) * c.b)
theorem fillG_snoc : ∀ (l : List Bd) (c : Bd) (x : Int × Int),fillG (l ++ [c]) x = ((fillG l x).1 - min (fillG l x).1 (c.hi - c.lo),(fillG l x).2 + min (fillG l x).1 (c.hi - c.lo) * c.b)
 | [],_,_=>rfl
 | d :: l,c,x=>by simp only [List.cons_append,fillG]; exact fillG_snoc l c _
def meanD (most : Bool) (den : Int) (l : List Bd) : Int:=overD most (fillG (sortN (ltD most) l) (den - loS (sortN (ltD most) l),loV (sortN (ltD most) l))).2 den
structure ChG (den : Int) (l : List Bd) : Prop where
 len : l.length ≤ 19
 den0 : 1 ≤ den
 den1 : den ≤ 3000
 low : loS l ≤ den
 each : ∀ c ∈ l,(0 ≤ c.b ∧ c.b ≤ 1000000) ∧ 0 ≤ c.lo ∧ c.lo ≤ c.hi ∧ c.hi ≤ 3000
theorem loV_le {l : List Bd} (h : ∀ c ∈ l,(0 ≤ c.b ∧ c.b ≤ 1000000) ∧ 0 ≤ c.lo ∧ c.lo ≤ c.hi ∧ c.hi ≤ 3000) : 0 ≤ loV l ∧ loV l ≤ 3000000000 * l.length:=by
 induction l with
 | nil=>simp [loV]
 | cons c l ih =>
   obtain ⟨h1,h2⟩:=ih fun x hx=>h x (by simp [hx])
   obtain ⟨⟨b0,b1⟩,g0,g1,g2⟩:=h c (by simp)
   have m0:=Int.mul_nonneg g0 b0
   have m1 : c.lo * c.b ≤ 3000 * 1000000:=Int.mul_le_mul (by omega) b1 b0 (by omega)
   simp only [loV,List.map_cons,List.sum_cons,List.length_cons] at h1 h2 ⊢
   omega
theorem insB_perm (lt : Bd → Bd → Bool) (x : Bd) : ∀ R,(insB lt x R).Perm (x :: R)
 | []=>List.Perm.refl _
 | y :: R => by
   unfold insB
   split
   · exact ((insB_perm lt x R).cons y).trans (List.Perm.swap _ _ _)
   · exact List.Perm.refl _
theorem sortB_perm (lt : Bd → Bd → Bool) : ∀ l R,(sortB lt l R).Perm (l ++ R)
 | [],R=>List.Perm.refl _
 | x :: l, R => by
   rw [sortB]
   refine (sortB_perm lt l _).trans ?_
   exact ((insB_perm lt x R).append_left l).trans List.perm_middle
theorem sortN_perm (lt : Bd → Bd → Bool) (l : List Bd) : (sortN lt l).Perm l:=by
 unfold sortN
 have:=sortB_perm lt l []
 rw [List.append_nil] at this
 exact (List.reverse_perm _).trans this
theorem perm_sum {α : Type} {f : α → Int} {l m : List α} (h : l.Perm m) : (l.map f).sum = (m.map f).sum:=by
 induction h with
 | nil=>rfl
 | cons x _ ih=>simp only [List.map_cons,List.sum_cons,ih]
 | swap x y l=>simp only [List.map_cons,List.sum_cons]; omega
 | trans _ _ h1 h2=>exact h1.trans h2
def GOk (x : Int × Int) : Prop:=(0 ≤ x.1 ∧ x.1 ≤ 3000) ∧ 0 ≤ x.2 ∧ x.2 ≤ 57000000000 + 1000000 * (3000 - x.1)
theorem gOk_step {c : Bd} {x : Int × Int} (h : GOk x) (hc : (0 ≤ c.b ∧ c.b ≤ 1000000) ∧ 0 ≤ c.lo ∧ c.lo ≤ c.hi ∧ c.hi ≤ 3000) :
 (0 ≤ min x.1 (c.hi - c.lo) ∧ min x.1 (c.hi - c.lo) ≤ x.1) ∧ (0 ≤ min x.1 (c.hi - c.lo) * c.b ∧ min x.1 (c.hi - c.lo) * c.b ≤ 3000000000) ∧ GOk (x.1 - min x.1 (c.hi - c.lo),x.2 + min x.1 (c.hi - c.lo) * c.b):=by
 obtain ⟨⟨h1,h2⟩,h3,h4⟩:=h
 obtain ⟨⟨b0,b1⟩,g0,g1,g2⟩:=hc
 generalize hm : min x.1 (c.hi - c.lo) = m
 have m0 : 0 ≤ m:=by omega
 have m1 : m ≤ x.1:=by omega
 have p0:=Int.mul_nonneg m0 b0
 have p1 : m * c.b ≤ m * 1000000:=Int.mul_le_mul_of_nonneg_left b1 m0
 refine ⟨⟨m0,m1⟩,⟨p0,by omega⟩,⟨by simp only; omega,by simp only; omega⟩,by simp only; omega,by simp only; omega⟩
theorem gOk_all {l : List Bd} : ∀ {x : Int × Int},(∀ c ∈ l,(0 ≤ c.b ∧ c.b ≤ 1000000) ∧ 0 ≤ c.lo ∧ c.lo ≤ c.hi ∧ c.hi ≤ 3000) → GOk x → GOk (fillG l x):=by
 induction l with
 | nil=>intro x _ h; exact h
 | cons c l ih =>
   intro x hc h
   exact ih (fun y hy=>hc y (by simp [hy])) (gOk_step h (hc c (by simp))).2.2
theorem mean_ok (r : Ru) (most : Bool) (T : List (List Int)) (l : List Bd) (h : ChG r.d l) :
 MCalls Try.prog 75 [(1000,.arr 149 3 (idx l))] [(1000,.arr 149 3 (idx (sortN (ltD most) l)))] [.r (sideP r most T),.os 1000 0 3 0 l.length] (.r (i64 (meanD most r.d l))):=by
 have hsort:=sortStable_ok (ltD most) (fun x y=>if most then y.b - x.b else x.b - y.b) 92 [.rp [sideP r most T]] l h.len (fun _ _=>rfl) (fun x hx y hy=>cmp_ok r most T x y (h.each x hx).1 (h.each y hy).1)
 obtain ⟨S,hS⟩ : ∃ S,S = sortN (ltD most) l:=⟨_,rfl⟩
 have hperm : S.Perm l:=hS ▸ sortN_perm _ _
 have hSl : S.length = l.length:=hperm.length_eq
 have hSe : ∀ c ∈ S,(0 ≤ c.b ∧ c.b ≤ 1000000) ∧ 0 ≤ c.lo ∧ c.lo ≤ c.hi ∧ c.hi ≤ 3000:=fun c hc=>h.each c (hperm.mem_iff.1 hc)
 have hlo : loS S = loS l:=perm_sum hperm
 have hl19:=h.len
 have hd0:=h.den0
 have hd1:=h.den1
 have hlow:=h.low
 rw [show meanD most r.d l = overD most (fillG S (r.d - loS S,loV S)).2 r.d by rw [meanD,← hS]]
 rw [← hS] at hsort ⊢
 have hsub : ∀ i,(0 ≤ loS (S.take i) ∧ loS (S.take i) ≤ 57000) ∧ 0 ≤ loV (S.take i) ∧ loV (S.take i) ≤ 57000000000:=fun i=>by
  have hm : ∀ c ∈ S.take i,(0 ≤ c.b ∧ c.b ≤ 1000000) ∧ 0 ≤ c.lo ∧ c.lo ≤ c.hi ∧ c.hi ≤ 3000:=fun c hc=>hSe c (List.mem_of_mem_take hc)
  have h1:=loV_le hm
  have h2 : 0 ≤ loS (S.take i) ∧ loS (S.take i) ≤ 3000 * (S.take i).length:=by
   generalize S.take i = L at hm
   clear h1
   induction L with
   | nil=>simp [loS]
   | cons c L ih =>
     obtain ⟨i1,i2⟩:=ih fun x hx=>hm x (by simp [hx])
     have:=hm c (by simp)
     simp only [loS,List.map_cons,List.sum_cons,List.length_cons] at i1 i2 ⊢
     omega
  have h3 : (S.take i).length ≤ 19:=by rw [List.length_take]; omega
  omega
 have hall:=hsub S.length
 rw [List.take_length] at hall
 have hG0 : GOk (r.d - loS S,loV S):=⟨⟨by simp only; omega,by simp only; omega⟩,by simp only; omega,by simp only; omega⟩
 refine mcalls_st (n:=77) (rs:=[.r (i64 (overD most (fillG S (r.d - loS S,loV S)).2 r.d))]) _ _ [.tmp 4] Try.func75 rfl (by kernel_rfl) Try.ntmps75 rfl (by simp) rfl rfl fun C=>?_
 repeat refine zq ?_
 refine zb (by kernel_rfl) fun K hK=>?_
 simp only [go_sem]
 (try simp (disch:=omega) only [zI])
 repeat first | intro _ | refine ⟨by omega,?_⟩ | refine ⟨⟨by omega,by omega⟩,?_⟩
 refine hK _ ?_
 clear hK K
 refine zw (sub_frzP 2 2 [sideP r most T] (by omega) rfl rfl) ?_
 refine zw (zk [1,2]) ?_
 simp only [go_sem]
 repeat refine zq ?_
 refine zb (by kernel_rfl) fun K hK=>?_
 simp only [go_sem]
 (try simp (disch:=omega) only [zI])
 refine xcall_mut (mcalls_fn hsort) [(1000,1000)] rfl (by simp only [go_sem,i64,ints]) (by simp only [go_sem,i64,ints]) (by rfl) (by rfl) ?_
 (try simp only [go_sem])
 (try simp (disch:=omega) only [zI])
 repeat first | intro _ | refine ⟨by omega,?_⟩ | refine ⟨⟨by omega,by omega⟩,?_⟩
 refine hK _ ?_
 clear hK K
 refine zw (zk [1,2]) ?_
 simp only [go_sem]
 repeat refine zq ?_
 refine zb (by kernel_rfl) fun K hK=>?_
 simp only [go_sem]
 (try simp (disch:=omega) only [zI])
 repeat first | intro _ | refine ⟨by omega,?_⟩ | refine ⟨⟨by omega,by omega⟩,?_⟩
 refine hK _ ?_
 clear hK K
 refine zw (zk [1,2,5,6]) ?_
 simp only [go_sem]
 repeat refine zq ?_
 refine zb (by kernel_rfl) fun K hK=>?_
 simp only [go_sem]
 (try simp (disch:=omega) only [zI])
 repeat first | intro _ | refine ⟨by omega,?_⟩ | refine ⟨⟨by omega,by omega⟩,?_⟩
 refine hK _ ?_
 clear hK K
 refine zw (zk [1,2,5,6,22,23,24]) ?_
 simp only [go_sem]
 repeat refine zq ?_
 refine zd ?_
 refine awp_uptoV (n:=77) l.length (fun i vs=>[(1,.os 1000 (vs 1000) 3 0 l.length),(2,.r (.rp [sideP r most T])),(5,.r (i64 (r.d - loS (S.take i)))),(6,.r (i64 (loV (S.take i)))),(22,.os 1000 (vs 1000) 3 0 l.length),(23,.r (i64 l.length)),(24,.r (i64 i))])
  (fun i vs=>[(1000,.arr 149 3 (idx S))]) (fun _=>True) 0 (zj [] ?_ ?_) (Nat.zero_le _) trivial ?_
 · try simp only [go_sem]
   simp [loS,loV]
 · try simp only [go_sem]
 · intro i vs hi _
   repeat refine zq ?_
   refine zb (by kernel_rfl) fun K hK=>?_
   simp only [go_sem]
   (try simp (disch:=omega) only [zI])
   repeat first | intro _ | refine ⟨by omega,?_⟩ | refine ⟨⟨by omega,by omega⟩,?_⟩
   refine hK _ ?_
   clear hK K
   refine zw (zk [1,2,5,6,22,23,24,25]) ?_
   simp only [go_sem]
   repeat refine zq ?_
   refine zc rfl (fun hc=>?_) (fun hc=>?_) <;> (try simp only [go_sem] at hc)
   · have hci : i < S.length:=by omega
     obtain ⟨c,hx⟩:=opt_of_lt hci
     obtain ⟨⟨b0,b1⟩,g0,g1,g2⟩:=hSe c (mem_of_opt hx)
     have m0:=Int.mul_nonneg g0 b0
     have m1 : c.lo * c.b ≤ 3000 * 1000000:=Int.mul_le_mul (by omega) b1 b0 (by omega)
     have hmw : IntKind.i64.wrap (c.lo * c.b) = c.lo * c.b:=by rw [zI] <;> omega
     have hs1:=hsub i
     have hlS : loS (S.take (i + 1)) = loS (S.take i) + c.lo:=by rw [take_of_opt hx,loS_snoc]
     have hlV : loV (S.take (i + 1)) = loV (S.take i) + c.lo * c.b:=by rw [take_of_opt hx,loV_snoc]
     refine zx ?_
     try simp only [go_sem]
     repeat refine zq ?_
     refine zd ?_
     repeat refine zq ?_
     refine zb (by kernel_rfl) fun K hK=>?_
     simp only [go_sem,hx,hci,hSl,bedR]
     (try simp (disch:=omega) only [zI])
     repeat first | intro _ | refine ⟨by omega,?_⟩ | refine ⟨⟨by omega,by omega⟩,?_⟩
     repeat first | intro _ | refine ⟨by omega,?_⟩ | refine ⟨⟨by omega,by omega⟩,?_⟩
     refine hK _ ?_
     clear hK K
     refine zw (sub_frzP 8 8 (bedR c) (by omega) rfl rfl) ?_
     simp only [go_sem,bedR]
     refine zw (zk [1,2,5,6,8,22,23,24]) ?_
     simp only [go_sem]
     repeat refine zq ?_
     refine zg follows (by decide +kernel) (by kernel_rfl) fun K hK=>?_
     simp only [go_sem,hmw]
     (try simp (disch:=omega) only [zI])
     repeat first | intro _ | refine ⟨by omega,?_⟩ | refine ⟨⟨by omega,by omega⟩,?_⟩
     refine hK _ ?_
     clear hK K
     refine zw (zk [1,2,5,6,22,23,24]) ?_
     simp only [go_sem]
     repeat refine zq ?_
     refine zb (by kernel_rfl) fun K hK=>?_
     simp only [go_sem]
     (try simp (disch:=omega) only [zI])
     repeat first | intro _ | refine ⟨by omega,?_⟩ | refine ⟨⟨by omega,by omega⟩,?_⟩
     refine hK _ ?_
     clear hK K
     try simp only [go_sem]
     refine ⟨by omega,zj [] ?_ ?_⟩
     · try simp only [go_sem]
       rw [hlS,hlV]
       exact ⟨by rw [Int.sub_sub],rfl⟩
     · try simp only [go_sem]
   · have hil : i = S.length:=by omega
     subst hil
     rw [List.take_length]
     refine zf ?_
     simp only [go_sem]
     repeat refine zq ?_
     refine zb (by kernel_rfl) fun K hK=>?_
     simp only [go_sem]
     (try simp (disch:=omega) only [zI])
     repeat first | intro _ | refine ⟨by omega,?_⟩ | refine ⟨⟨by omega,by omega⟩,?_⟩
     refine hK _ ?_
     clear hK K
     refine zw (zk [2,5,6,42,43,44]) ?_
     simp only [go_sem]
     repeat refine zq ?_
     refine zd ?_
     refine awp_uptoV (n:=77) l.length (fun i vs=>[(2,.r (.rp [sideP r most T])),(5,.r (i64 (fillG (S.take i) (r.d - loS S,loV S)).1)),(6,.r (i64 (fillG (S.take i) (r.d - loS S,loV S)).2)),(42,.os 1000 (vs 1000) 3 0 l.length),(43,.r (i64 l.length)),(44,.r (i64 i))])
      (fun i vs=>[(1000,.arr 149 3 (idx S))]) (fun _=>True) 0 (zj [] ?_ ?_) (Nat.zero_le _) trivial ?_
     · try simp only [go_sem]
       simp [fillG]
     · try simp only [go_sem]
     · intro i vs hi2 _
       have hG : GOk (fillG (S.take i) (r.d - loS S,loV S)):=gOk_all (fun c hc=>hSe c (List.mem_of_mem_take hc)) hG0
       repeat refine zq ?_
       refine zb (by kernel_rfl) fun K hK=>?_
       simp only [go_sem]
       (try simp (disch:=omega) only [zI])
       repeat first | intro _ | refine ⟨by omega,?_⟩ | refine ⟨⟨by omega,by omega⟩,?_⟩
       refine hK _ ?_
       clear hK K
       refine zw (zk [2,5,6,42,43,44,45]) ?_
       simp only [go_sem]
       repeat refine zq ?_
       refine zc rfl (fun hc=>?_) (fun hc=>?_) <;> (try simp only [go_sem] at hc)
       · have hci : i < S.length:=by omega
         obtain ⟨c,hx⟩:=opt_of_lt hci
         obtain ⟨⟨b0,b1⟩,g0,g1,g2⟩:=hSe c (mem_of_opt hx)
         obtain ⟨⟨k0,k1⟩,⟨k2,k3⟩,k4⟩:=gOk_step hG (hSe c (mem_of_opt hx))
         rw [take_of_opt hx,fillG_snoc]
         obtain ⟨⟨q1,q2⟩,q3,q4⟩:=hG
         generalize fillG (S.take i) (r.d - loS S,loV S) = X at *
         obtain ⟨lf,sm⟩:=X
         simp only at *
         have hsw : IntKind.i64.wrap (c.hi - c.lo) = c.hi - c.lo:=by rw [zI] <;> omega
         generalize hmm : min lf (c.hi - c.lo) = m at *
         have hmw : IntKind.i64.wrap (m * c.b) = m * c.b:=by rw [zI] <;> omega
         refine zx ?_
         try simp only [go_sem]
         repeat refine zq ?_
         refine zd ?_
         repeat refine zq ?_
         refine zb (by kernel_rfl) fun K hK=>?_
         simp only [go_sem,hx,hci,hSl,bedR]
         (try simp (disch:=omega) only [zI])
         repeat first | intro _ | refine ⟨by omega,?_⟩ | refine ⟨⟨by omega,by omega⟩,?_⟩
         repeat first | intro _ | refine ⟨by omega,?_⟩ | refine ⟨⟨by omega,by omega⟩,?_⟩
         refine hK _ ?_
         clear hK K
         refine zw (sub_frzP 10 10 (bedR c) (by omega) rfl rfl) ?_
         simp only [go_sem,bedR]
         refine zw (zk [2,5,6,10,42,43,44]) ?_
         simp only [go_sem]
         repeat refine zq ?_
         refine zb (by kernel_rfl) fun K hK=>?_
         simp only [go_sem,hsw,hmm]
         (try simp (disch:=omega) only [zI])
         repeat first | intro _ | refine ⟨by omega,?_⟩ | refine ⟨⟨by omega,by omega⟩,?_⟩
         refine hK _ ?_
         clear hK K
         refine zw (zk [2,5,6,10,11,42,43,44]) ?_
         simp only [go_sem]
         repeat refine zq ?_
         refine zg follows (by decide +kernel) (by kernel_rfl) fun K hK=>?_
         simp only [go_sem,hmw]
         (try simp (disch:=omega) only [zI])
         repeat first | intro _ | refine ⟨by omega,?_⟩ | refine ⟨⟨by omega,by omega⟩,?_⟩
         refine hK _ ?_
         clear hK K
         refine zw (zk [2,5,6,42,43,44]) ?_
         simp only [go_sem]
         repeat refine zq ?_
         refine zb (by kernel_rfl) fun K hK=>?_
         simp only [go_sem]
         (try simp (disch:=omega) only [zI])
         repeat first | intro _ | refine ⟨by omega,?_⟩ | refine ⟨⟨by omega,by omega⟩,?_⟩
         refine hK _ ?_
         clear hK K
         try simp only [go_sem]
         refine ⟨by omega,zj [] ?_ ?_⟩
         · try simp only [go_sem]
         · try simp only [go_sem]
       · have hil : i = S.length:=by omega
         subst hil
         rw [List.take_length] at hG ⊢
         have hov:=over_ok r most T (fillG S (r.d - loS S,loV S)).2 r.d hG.2.1 (by have:=hG.1; have:=hG.2.2; omega) (by omega) (by omega)
         refine zf ?_
         simp only [go_sem]
         repeat refine zq ?_
         refine zg follows (by decide +kernel) (by kernel_rfl) fun K hK=>?_
         simp only [go_sem]
         (try simp (disch:=omega) only [zI])
         refine zh (hov) rfl (by simp only [go_sem,i64,ints]) (by simp only [go_sem,i64,ints]) (by first | exact .inl rfl | exact .inr rfl) ?_
         (try simp only [go_sem])
         (try simp (disch:=omega) only [zI])
         repeat first | intro _ | refine ⟨by omega,?_⟩ | refine ⟨⟨by omega,by omega⟩,?_⟩
         refine hK _ ?_
         clear hK K
         refine zw (zk [4]) ?_
         simp only [go_sem]
         refine ze ?_
         simp only [go_sem]
end Go.Proofs.Ytlbfkhikmigpbaa

namespace Go.Proofs.Ytlbfkhikmigpbaa
open Go Go.Oc
set_option linter.unusedSimpArgs false
set_option linter.unusedVariables false
set_option maxRecDepth 8000
abbrev visC (r : Ru) (most : Bool) (T : List (List Int)) (k st : Int) (m v : Nat) : List AV:=[.r (sideP r most T),.r (i64 k),.r (i64 st),.mp m v]
theorem newVisit_ok (r : Ru) (most : Bool) (T : List (List Int)) (k st : Int) :
 NCalls Try.prog 48 [sideP r most T,i64 k,i64 st] [(12,.box (visC r most T k st 10 0)),(10,.mp [])] (.pt 12 0 0):=by
 refine ncalls_st (n:=13) _ _ (.tmp 6) Try.func48 rfl (by kernel_rfl) Try.ntmps48 rfl (by simp) rfl rfl fun C hC=>?_
 repeat refine zq ?_
 refine zb (by kernel_rfl) fun K hK=>?_
 simp only [go_sem]
 (try simp (disch:=omega) only [zI])
 repeat first | intro _ | refine ⟨by omega,?_⟩ | refine ⟨⟨by omega,by omega⟩,?_⟩
 refine hK _ ?_
 clear hK K
 refine zw (zk [0,1,2]) ?_
 simp only [go_sem]
 repeat refine zq ?_
 refine zb (by kernel_rfl) fun K hK=>?_
 simp only [go_sem]
 (try simp (disch:=omega) only [zI])
 repeat first | intro _ | refine ⟨by omega,?_⟩ | refine ⟨⟨by omega,by omega⟩,?_⟩
 refine hK _ ?_
 clear hK K
 refine zw (zk [6]) ?_
 simp only [go_sem]
 refine ze ?_
 try simp only [go_sem]
end Go.Proofs.Ytlbfkhikmigpbaa

namespace Go.Proofs.Ytlbfkhikmigpbaa
open Go Go.Oc
set_option linter.unusedSimpArgs false
set_option linter.unusedVariables false
set_option maxRecDepth 8000
def nextV (r : Ru) (most : Bool) (T : List (List Int)) (k st : Nat) (val : Nat → Int) (last : Bool) (left : Nat) (b : Int) : Int :=
 if decide (0 < scoreOf b) && (decide ((left : Int) - scoreOf b = 0) && opensD r.out b) then 1000000
 else if decide (0 < scoreOf b) && decide ((left : Int) - scoreOf b < lowestR r) then afterD r most T k st
 else if last then afterD r most T k ((left : Int) - scoreOf b).toNat
 else val ((left : Int) - scoreOf b).toNat
def maxL (l : List Int) : Int:=l.foldl max (l.headD 0)
def chW (f : Int → Int) (l : List Bd) : List Bd:=l.map fun c=>⟨f c.b,c.lo,c.hi⟩
def meansV (r : Ru) (most : Bool) (f : Int → Int) : List Int:=r.aims.map fun a=>meanD most r.d (chW f a.beds)
def valV (r : Ru) (most : Bool) (T : List (List Int)) (k st : Nat) : Nat → Nat → Int
 | 0,_=>0
 | n + 1,left=>maxL (meansV r most (nextV r most T k st (valV r most T k st n) (decide (n = 0)) left))
def memoV (r : Ru) (most : Bool) (T : List (List Int)) (k st : Nat) (m : List (RV × RV)) : Prop :=
 ∀ e ∈ m,∃ n left : Nat,e = (.ag [i64 (left : Int),i64 (n : Int)],i64 (valV r most T k st n left))
theorem memo_find {r : Ru} {most : Bool} {T : List (List Int)} {k st n left : Nat} : ∀ {m : List (RV × RV)} {i : Nat},memoV r most T k st m →
 findK (.ag [i64 (left : Int),i64 (n : Int)]) m i = some none ∨ ∃ j,findK (.ag [i64 (left : Int),i64 (n : Int)]) m i = some (some (j,i64 (valV r most T k st n left)))
 | [],i,_=>.inl rfl
 | e :: m, i, h => by
   obtain ⟨n',left',rfl⟩:=h e (by simp)
   have ih:=memo_find (n:=n) (left:=left) (m:=m) (i:=i + 1) fun x hx=>h x (by simp [hx])
   by_cases he : left = left' ∧ n = n'
   · obtain ⟨rfl,rfl⟩:=he
     exact .inr ⟨i,by simp [findK,sameK,cmpL,i64]⟩
   · have hf : sameK (.ag [i64 (left : Int),i64 (n : Int)]) (.ag [i64 (left' : Int),i64 (n' : Int)]) = some false:=by
      simp only [sameK,cmpL,i64,if_true,Option.some.injEq,Bool.and_true,Bool.and_eq_false_iff,beq_eq_false_iff_ne]
      omega
     simp only [findK,hf]
     exact ih
theorem memo_set {r : Ru} {most : Bool} {T : List (List Int)} {k st n left : Nat} {m : List (RV × RV)} (h : memoV r most T k st m) (i : Nat) : memoV r most T k st (m.set i (.ag [i64 (left : Int),i64 (n : Int)],i64 (valV r most T k st n left))):=fun e he=>by
 rcases List.mem_or_eq_of_mem_set he with he | rfl
 · exact h e he
 · exact ⟨n,left,rfl⟩
theorem memo_app {r : Ru} {most : Bool} {T : List (List Int)} {k st n left : Nat} {m : List (RV × RV)} (h : memoV r most T k st m) : memoV r most T k st (m ++ [(.ag [i64 (left : Int),i64 (n : Int)],i64 (valV r most T k st n left))]):=fun e he=>by
 rcases List.mem_append.1 he with he | he
 · exact h e he
 · rw [List.mem_singleton] at he; exact ⟨n,left,he⟩
abbrev visL (r : Ru) (most : Bool) (T : List (List Int)) (k st : Nat) : List (Nat × RowC):=[(1000,.box (visC r most T (k : Int) (st : Int) 1001 0)),(1001,.mem (memoV r most T k st))]
end Go.Proofs.Ytlbfkhikmigpbaa

namespace Go.Proofs.Ytlbfkhikmigpbaa
open Go Go.Oc
set_option linter.unusedSimpArgs false
set_option linter.unusedVariables false
set_option maxRecDepth 8000
structure VisG (r : Ru) (T : List (List Int)) (k st : Nat) : Prop where
 kk : k < r.ends.length
 h10 : r.ends.length ≤ 10
 ends : ∀ x ∈ r.ends,endOk x = true
 st40 : (st : Int) ≤ r.start
 s40 : r.start ≤ 40
 tab : ∀ left : Nat,(left : Int) ≤ r.start → ∃ row v,k + 1 < r.ends.length → T[k + 1]? = some row ∧ row[left]? = some v ∧ 0 ≤ v ∧ v ≤ 1000000
theorem VisG.after {r : Ru} {T : List (List Int)} {k st : Nat} (h : VisG r T k st) (most : Bool) {left : Nat} (hl : (left : Int) ≤ r.start) : ACalls Try.prog 58 [sideP r most T,i64 k,i64 left] (i64 (afterD r most T k left)):=by
 obtain ⟨row,v,hv⟩:=h.tab left hl
 exact after_ok r most T k left row v h.kk h.h10 h.ends hv
theorem next_ok (r : Ru) (most : Bool) (T : List (List Int)) (k st n left : Nat) (b : Int) (hG : VisG r T k st) (hl1 : 1 ≤ left) (hl : (left : Int) ≤ r.start) (hn : n ≤ 100) (b0 : 0 ≤ b) (b1 : b ≤ 499)
 (hval : n ≠ 0 → ∀ left' : Nat,1 ≤ left' → (left' : Int) ≤ r.start → MCalls Try.prog 79 (visL r most T k st) (visL r most T k st) [.pt 1000 0 0,.r (.ag [i64 (left' : Int),i64 (n : Int)])] (.r (i64 (valV r most T k st n left')))) :
 MCalls Try.prog 74 (visL r most T k st) (visL r most T k st) [.pt 1000 0 0,.r (.ag [i64 (left : Int),i64 ((n : Int) + 1)]),.r (i64 b)] (.r (i64 (nextV r most T k st (valV r most T k st n) (decide (n = 0)) left b))):=by
 have h40:=hG.s40
 have hq:=tdiv100 (b:=b) ⟨by omega,by omega⟩
 have hm:=score_mul b0 b1
 obtain ⟨s0,s1⟩:=score_le b0 b1
 obtain ⟨x,hx⟩ : ∃ x,x = scoreOf b:=⟨_,rfl⟩
 have hdn : IntKind.i64.wrap ((n : Int) + 1 - 1) = n:=by rw [zI] <;> omega
 have hlx : IntKind.i64.wrap ((left : Int) - scoreOf b) = left - scoreOf b:=by rw [zI] <;> omega
 have hop:=opens_ok r b b0 b1
 have hlo : ACalls Try.prog 54 [ruV r] (i64 (lowestR r)):=dlowest_ok r
 refine mcalls_st (n:=88) (rs:=[.r (i64 (nextV r most T k st (valV r most T k st n) (decide (n = 0)) left b))]) _ _ [.tmp 6] Try.func74 rfl (by kernel_rfl) Try.ntmps74 rfl (by simp) rfl rfl fun C=>?_
 repeat refine zq ?_
 refine zb (by kernel_rfl) fun K hK=>?_
 simp only [go_sem]
 (try simp (disch:=omega) only [zI])
 repeat first | intro _ | refine ⟨by omega,?_⟩ | refine ⟨⟨by omega,by omega⟩,?_⟩
 refine hK _ ?_
 clear hK K
 refine zw (zk [0,2,4]) ?_
 simp only [go_sem]
 repeat refine zq ?_
 refine zb (by kernel_rfl) fun K hK=>?_
 simp only [go_sem,hq,hm]
 (try simp (disch:=omega) only [zI])
 repeat first | intro _ | refine ⟨by omega,?_⟩ | refine ⟨⟨by omega,by omega⟩,?_⟩
 refine hK _ ?_
 clear hK K
 refine zw (zk [0,2,4,7]) ?_
 simp only [go_sem]
 repeat refine zq ?_
 refine zb (by kernel_rfl) fun K hK=>?_
 simp only [go_sem,hlx]
 (try simp (disch:=omega) only [zI])
 repeat first | intro _ | refine ⟨by omega,?_⟩ | refine ⟨⟨by omega,by omega⟩,?_⟩
 refine hK _ ?_
 clear hK K
 refine zw (zk [0,2,4,7]) ?_
 simp only [go_sem]
 repeat refine zq ?_
 refine zb (by kernel_rfl) fun K hK=>?_
 simp only [go_sem,hdn]
 (try simp (disch:=omega) only [zI])
 repeat first | intro _ | refine ⟨by omega,?_⟩ | refine ⟨⟨by omega,by omega⟩,?_⟩
 refine hK _ ?_
 clear hK K
 refine zw (zk [0,2,4,7]) ?_
 simp only [go_sem]
 rw [← hx] at hlx ⊢
 repeat refine zq ?_
 refine zd ?_
 have hst:=hG.after most hG.st40
 have hv : nextV r most T k st (valV r most T k st n) (decide (n = 0)) left b = if decide (0 < x) && (decide ((left : Int) - x = 0) && opensD r.out b) then 1000000
  else if decide (0 < x) && decide ((left : Int) - x < lowestR r) then afterD r most T k st else if n = 0 then afterD r most T k ((left : Int) - x).toNat else valV r most T k st n ((left : Int) - x).toNat:=by
  unfold nextV; rw [← hx]; simp only [decide_eq_true_eq]
 by_cases c1 : 0 < x
 · have d1 : decide (0 < x) = true:=by simpa using c1
   by_cases c2 : (left : Int) - x = 0
   · have d2 : ((left : Int) - x == 0) = true:=by simpa using c2
     cases c3 : opensD r.out b
     · have c4 : (left : Int) - x < lowestR r:=by unfold lowestR; split <;> omega
       have d4 : decide ((left : Int) - x < lowestR r) = true:=by simpa using c4
       rw [c3] at hop
       repeat refine zq ?_
       refine zb (by kernel_rfl) fun K hK=>?_
       simp only [go_sem,d1,d2]
       (try simp (disch:=omega) only [zI])
       refine zh (hop) rfl (by simp only [go_sem,i64,ints,d1,d2]) (by simp only [go_sem,i64,ints,d1,d2]) (by first | exact .inl rfl | exact .inr rfl) ?_
       (try simp only [go_sem,d1,d2])
       (try simp (disch:=omega) only [zI])
       repeat first | intro _ | refine ⟨by omega,?_⟩ | refine ⟨⟨by omega,by omega⟩,?_⟩
       refine hK _ ?_
       clear hK K
       refine zw (zk [0,4,7,22]) ?_
       simp only [go_sem]
       repeat refine zq ?_
       refine zc rfl (fun hc=>?_) (fun hc=>?_) <;> (try simp only [go_sem] at hc)
       repeat refine zq ?_
       refine zg follows (by decide +kernel) (by kernel_rfl) fun K hK=>?_
       simp only [go_sem,d1,d4]
       (try simp (disch:=omega) only [zI])
       refine zh (hlo) rfl (by simp only [go_sem,i64,ints,d1,d4]) (by simp only [go_sem,i64,ints,d1,d4]) (by first | exact .inl rfl | exact .inr rfl) ?_
       (try simp only [go_sem,d1,d4])
       (try simp (disch:=omega) only [zI])
       repeat first | intro _ | refine ⟨by omega,?_⟩ | refine ⟨⟨by omega,by omega⟩,?_⟩
       refine hK _ ?_
       clear hK K
       refine zw (zk [0,4,41]) ?_
       simp only [go_sem]
       repeat refine zq ?_
       refine zc rfl (fun hc=>?_) (fun hc=>?_) <;> (try simp only [go_sem] at hc)
       repeat refine zq ?_
       refine zg follows (by decide +kernel) (by kernel_rfl) fun K hK=>?_
       simp only [go_sem]
       (try simp (disch:=omega) only [zI])
       refine zh (hst) rfl (by simp only [go_sem,i64,ints]) (by simp only [go_sem,i64,ints]) (by first | exact .inl rfl | exact .inr rfl) ?_
       (try simp only [go_sem])
       (try simp (disch:=omega) only [zI])
       repeat first | intro _ | refine ⟨by omega,?_⟩ | refine ⟨⟨by omega,by omega⟩,?_⟩
       refine hK _ ?_
       clear hK K
       refine zw (zk [6]) ?_
       simp only [go_sem]
       refine ze ?_
       simp only [go_sem]
       rw [hv]; simp [c1,c3,c4]
     · rw [c3] at hop
       repeat refine zq ?_
       refine zb (by kernel_rfl) fun K hK=>?_
       simp only [go_sem,d1,d2]
       (try simp (disch:=omega) only [zI])
       refine zh (hop) rfl (by simp only [go_sem,i64,ints,d1,d2]) (by simp only [go_sem,i64,ints,d1,d2]) (by first | exact .inl rfl | exact .inr rfl) ?_
       (try simp only [go_sem,d1,d2])
       (try simp (disch:=omega) only [zI])
       repeat first | intro _ | refine ⟨by omega,?_⟩ | refine ⟨⟨by omega,by omega⟩,?_⟩
       refine hK _ ?_
       clear hK K
       refine zw (zk [0,4,7,22]) ?_
       simp only [go_sem]
       repeat refine zq ?_
       refine zc rfl (fun hc=>?_) (fun hc=>?_) <;> (try simp only [go_sem] at hc)
       repeat refine zq ?_
       refine zb (by kernel_rfl) fun K hK=>?_
       simp only [go_sem]
       (try simp (disch:=omega) only [zI])
       repeat first | intro _ | refine ⟨by omega,?_⟩ | refine ⟨⟨by omega,by omega⟩,?_⟩
       refine hK _ ?_
       clear hK K
       refine zw (zk [6]) ?_
       simp only [go_sem]
       refine ze ?_
       simp only [go_sem]
       rw [hv]; simp [c1,c2,c3]
   · have d2 : ((left : Int) - x == 0) = false:=by simpa using c2
     repeat refine zq ?_
     refine zb (by kernel_rfl) fun K hK=>?_
     simp only [go_sem,d1,d2]
     (try simp (disch:=omega) only [zI])
     repeat first | intro _ | refine ⟨by omega,?_⟩ | refine ⟨⟨by omega,by omega⟩,?_⟩
     refine hK _ ?_
     clear hK K
     refine zw (zk [0,4,7,22]) ?_
     simp only [go_sem]
     repeat refine zq ?_
     refine zc rfl (fun hc=>?_) (fun hc=>?_) <;> (try simp only [go_sem] at hc)
     by_cases c4 : (left : Int) - x < lowestR r
     · have d4 : decide ((left : Int) - x < lowestR r) = true:=by simpa using c4
       repeat refine zq ?_
       refine zg follows (by decide +kernel) (by kernel_rfl) fun K hK=>?_
       simp only [go_sem,d1,d4]
       (try simp (disch:=omega) only [zI])
       refine zh (hlo) rfl (by simp only [go_sem,i64,ints,d1,d4]) (by simp only [go_sem,i64,ints,d1,d4]) (by first | exact .inl rfl | exact .inr rfl) ?_
       (try simp only [go_sem,d1,d4])
       (try simp (disch:=omega) only [zI])
       repeat first | intro _ | refine ⟨by omega,?_⟩ | refine ⟨⟨by omega,by omega⟩,?_⟩
       refine hK _ ?_
       clear hK K
       refine zw (zk [0,4,41]) ?_
       simp only [go_sem]
       repeat refine zq ?_
       refine zc rfl (fun hc=>?_) (fun hc=>?_) <;> (try simp only [go_sem] at hc)
       repeat refine zq ?_
       refine zg follows (by decide +kernel) (by kernel_rfl) fun K hK=>?_
       simp only [go_sem]
       (try simp (disch:=omega) only [zI])
       refine zh (hst) rfl (by simp only [go_sem,i64,ints]) (by simp only [go_sem,i64,ints]) (by first | exact .inl rfl | exact .inr rfl) ?_
       (try simp only [go_sem])
       (try simp (disch:=omega) only [zI])
       repeat first | intro _ | refine ⟨by omega,?_⟩ | refine ⟨⟨by omega,by omega⟩,?_⟩
       refine hK _ ?_
       clear hK K
       refine zw (zk [6]) ?_
       simp only [go_sem]
       refine ze ?_
       simp only [go_sem]
       rw [hv]; simp [c1,c2,c4]
     · have d4 : decide ((left : Int) - x < lowestR r) = false:=by simpa using c4
       have hl1' : 1 ≤ lowestR r:=by unfold lowestR; split <;> omega
       obtain ⟨y,hy⟩ : ∃ y : Nat,(left : Int) - x = (y : Int):=⟨((left : Int) - x).toNat,by omega⟩
       have hyn : ((left : Int) - x).toNat = y:=by omega
       have haf:=hG.after most (left:=y) (by omega)
       rw [hy] at c2 c4
       repeat refine zq ?_
       refine zg follows (by decide +kernel) (by kernel_rfl) fun K hK=>?_
       simp only [go_sem,d1,d4]
       (try simp (disch:=omega) only [zI])
       refine zh (hlo) rfl (by simp only [go_sem,i64,ints,d1,d4]) (by simp only [go_sem,i64,ints,d1,d4]) (by first | exact .inl rfl | exact .inr rfl) ?_
       (try simp only [go_sem,d1,d4])
       (try simp (disch:=omega) only [zI])
       repeat first | intro _ | refine ⟨by omega,?_⟩ | refine ⟨⟨by omega,by omega⟩,?_⟩
       refine hK _ ?_
       clear hK K
       refine zw (zk [0,4,41]) ?_
       simp only [go_sem]
       repeat refine zq ?_
       refine zc rfl (fun hc=>?_) (fun hc=>?_) <;> (try simp only [go_sem] at hc)
       by_cases c5 : n = 0
       · have d5 : ((n : Int) == 0) = true:=by simpa using c5
         repeat refine zq ?_
         refine zb (by kernel_rfl) fun K hK=>?_
         simp only [go_sem,d5]
         (try simp (disch:=omega) only [zI])
         repeat first | intro _ | refine ⟨by omega,?_⟩ | refine ⟨⟨by omega,by omega⟩,?_⟩
         refine hK _ ?_
         clear hK K
         refine zw (zk [0,4,70]) ?_
         simp only [go_sem]
         repeat refine zq ?_
         refine zc rfl (fun hc=>?_) (fun hc=>?_) <;> (try simp only [go_sem] at hc)
         repeat refine zq ?_
         refine zg follows (by decide +kernel) (by kernel_rfl) fun K hK=>?_
         simp only [go_sem,hy]
         (try simp (disch:=omega) only [zI])
         refine zh (haf) rfl (by simp only [go_sem,i64,ints]) (by simp only [go_sem,i64,ints]) (by first | exact .inl rfl | exact .inr rfl) ?_
         (try simp only [go_sem])
         (try simp (disch:=omega) only [zI])
         repeat first | intro _ | refine ⟨by omega,?_⟩ | refine ⟨⟨by omega,by omega⟩,?_⟩
         refine hK _ ?_
         clear hK K
         refine zw (zk [6]) ?_
         simp only [go_sem]
         refine ze ?_
         simp only [go_sem]
         have c2' : ¬ y = 0:=by omega
         rw [hv,hyn]; simp [c1,c2,c2',c4,c5,hy]
       · have d5 : ((n : Int) == 0) = false:=by simpa using c5
         have hvl:=hval c5 y (by omega) (by omega)
         repeat refine zq ?_
         refine zb (by kernel_rfl) fun K hK=>?_
         simp only [go_sem,d5]
         (try simp (disch:=omega) only [zI])
         repeat first | intro _ | refine ⟨by omega,?_⟩ | refine ⟨⟨by omega,by omega⟩,?_⟩
         refine hK _ ?_
         clear hK K
         refine zw (zk [0,4,70]) ?_
         simp only [go_sem]
         repeat refine zq ?_
         refine zc rfl (fun hc=>?_) (fun hc=>?_) <;> (try simp only [go_sem] at hc)
         refine zx ?_
         try simp only [go_sem]
         refine zw (sub_frzP 4 4 [i64 ((left : Int) - x),i64 (n : Int)] (by omega) rfl rfl) ?_
         refine zw (zk [0,4]) ?_
         simp only [go_sem]
         repeat refine zq ?_
         refine zb (by kernel_rfl) fun K hK=>?_
         simp only [go_sem,hy]
         (try simp (disch:=omega) only [zI])
         refine xcall_mut (hvl) [(1000,1000),(1001,1001)] rfl (by simp only [go_sem,i64,ints]) (by simp only [go_sem,i64,ints]) (by rfl) (by rfl) ?_
         (try simp only [go_sem])
         (try simp (disch:=omega) only [zI])
         repeat first | intro _ | refine ⟨by omega,?_⟩ | refine ⟨⟨by omega,by omega⟩,?_⟩
         refine hK _ ?_
         clear hK K
         refine zw (zk [6]) ?_
         simp only [go_sem]
         refine ze ?_
         simp only [go_sem]
         have c2' : ¬ y = 0:=by omega
         rw [hv,hyn]; simp [c1,c2,c2',c4,c5,hy]
 · have d1 : decide (0 < x) = false:=by simpa using c1
   have hx0 : x = 0:=by omega
   repeat refine zq ?_
   refine zb (by kernel_rfl) fun K hK=>?_
   simp only [go_sem,d1]
   (try simp (disch:=omega) only [zI])
   repeat first | intro _ | refine ⟨by omega,?_⟩ | refine ⟨⟨by omega,by omega⟩,?_⟩
   refine hK _ ?_
   clear hK K
   refine zw (zk [0,4,7,22]) ?_
   simp only [go_sem]
   repeat refine zq ?_
   refine zc rfl (fun hc=>?_) (fun hc=>?_) <;> (try simp only [go_sem] at hc)
   repeat refine zq ?_
   refine zg follows (by decide +kernel) (by kernel_rfl) fun K hK=>?_
   simp only [go_sem,d1]
   (try simp (disch:=omega) only [zI])
   repeat first | intro _ | refine ⟨by omega,?_⟩ | refine ⟨⟨by omega,by omega⟩,?_⟩
   refine hK _ ?_
   clear hK K
   refine zw (zk [0,4,41]) ?_
   simp only [go_sem]
   have haf:=hG.after most hl
   have hx1 : ((left : Int) - x).toNat = left:=by omega
   subst hx0
   simp only [Int.sub_zero] at hx1 ⊢
   repeat refine zq ?_
   refine zc rfl (fun hc=>?_) (fun hc=>?_) <;> (try simp only [go_sem] at hc)
   by_cases c5 : n = 0
   · have d5 : ((n : Int) == 0) = true:=by simpa using c5
     repeat refine zq ?_
     refine zb (by kernel_rfl) fun K hK=>?_
     simp only [go_sem,d5]
     (try simp (disch:=omega) only [zI])
     repeat first | intro _ | refine ⟨by omega,?_⟩ | refine ⟨⟨by omega,by omega⟩,?_⟩
     refine hK _ ?_
     clear hK K
     refine zw (zk [0,4,70]) ?_
     simp only [go_sem]
     repeat refine zq ?_
     refine zc rfl (fun hc=>?_) (fun hc=>?_) <;> (try simp only [go_sem] at hc)
     repeat refine zq ?_
     refine zg follows (by decide +kernel) (by kernel_rfl) fun K hK=>?_
     simp only [go_sem]
     (try simp (disch:=omega) only [zI])
     refine zh (haf) rfl (by simp only [go_sem,i64,ints]) (by simp only [go_sem,i64,ints]) (by first | exact .inl rfl | exact .inr rfl) ?_
     (try simp only [go_sem])
     (try simp (disch:=omega) only [zI])
     repeat first | intro _ | refine ⟨by omega,?_⟩ | refine ⟨⟨by omega,by omega⟩,?_⟩
     refine hK _ ?_
     clear hK K
     refine zw (zk [6]) ?_
     simp only [go_sem]
     refine ze ?_
     simp only [go_sem]
     rw [hv]; simp [c1,c5]
   · have d5 : ((n : Int) == 0) = false:=by simpa using c5
     have hvl:=hval c5 left (by omega) (by omega)
     repeat refine zq ?_
     refine zb (by kernel_rfl) fun K hK=>?_
     simp only [go_sem,d5]
     (try simp (disch:=omega) only [zI])
     repeat first | intro _ | refine ⟨by omega,?_⟩ | refine ⟨⟨by omega,by omega⟩,?_⟩
     refine hK _ ?_
     clear hK K
     refine zw (zk [0,4,70]) ?_
     simp only [go_sem]
     repeat refine zq ?_
     refine zc rfl (fun hc=>?_) (fun hc=>?_) <;> (try simp only [go_sem] at hc)
     refine zx ?_
     try simp only [go_sem]
     refine zw (sub_frzP 4 4 [i64 (left : Int),i64 (n : Int)] (by omega) rfl rfl) ?_
     refine zw (zk [0,4]) ?_
     simp only [go_sem]
     repeat refine zq ?_
     refine zb (by kernel_rfl) fun K hK=>?_
     simp only [go_sem]
     (try simp (disch:=omega) only [zI])
     refine xcall_mut (hvl) [(1000,1000),(1001,1001)] rfl (by simp only [go_sem,i64,ints]) (by simp only [go_sem,i64,ints]) (by rfl) (by rfl) ?_
     (try simp only [go_sem])
     (try simp (disch:=omega) only [zI])
     repeat first | intro _ | refine ⟨by omega,?_⟩ | refine ⟨⟨by omega,by omega⟩,?_⟩
     refine hK _ ?_
     clear hK K
     refine zw (zk [6]) ?_
     simp only [go_sem]
     refine ze ?_
     simp only [go_sem]
     rw [hv]; simp [c1,c5]
end Go.Proofs.Ytlbfkhikmigpbaa

namespace Go.Proofs.Ytlbfkhikmigpbaa
open Go Go.Oc
set_option linter.unusedSimpArgs false
set_option linter.unusedVariables false
set_option maxRecDepth 8000
def rowF (r : Ru) (most : Bool) (T : List (List Int)) (k : Nat) (val : Nat → Int) (last : Bool) (y : Nat) : Int:=if last then afterD r most T k y else val y
theorem VisG.refAfter {r : Ru} {T : List (List Int)} {k st : Nat} (h : VisG r T k st) (most : Bool) {left : Nat} (hl : (left : Int) ≤ r.start) : ACalls Try.prog 31 [ruV r,tabR T,i64 k,i64 left,.bo most] (i64 (afterD r most T k left)):=by
 obtain ⟨row,v,hv⟩:=h.tab left hl
 exact refAfter_ok r most T k left row v h.kk h.h10 h.ends hv
theorem refNext_ok {r : Ru} (most : Bool) {T : List (List Int)} {k st left : Nat} {b : Int} (val : Nat → Int) (last : Bool) (row : List Int) (hG : VisG r T k st) (hlo : lowestR r ≤ left) (hl : (left : Int) ≤ r.start)
 (b0 : 0 ≤ b) (b1 : b ≤ 499) (hb : b = 0 ∨ 0 < scoreOf b) (ho : r.out = 0 ∨ r.out = 1 ∨ r.out = 2) (hrow : ∀ y : Nat,lowestR r ≤ y → y ≤ left → row[y]? = some (rowF r most T k val last y)) :
 ACalls Try.prog 76 [ruV r,tabR T,ints row,i64 k,i64 st,i64 left,i64 b,.bo most] (i64 (nextV r most T k st val last left b)):=by
 have h40:=hG.s40
 have hq:=tdiv100 (b:=b) ⟨by omega,by omega⟩
 have hm:=score_mul b0 b1
 obtain ⟨s0,s1⟩:=score_le b0 b1
 obtain ⟨x,hx⟩ : ∃ x,x = scoreOf b:=⟨_,rfl⟩
 have hlx : IntKind.i64.wrap ((left : Int) - scoreOf b) = left - scoreOf b:=by rw [zI] <;> omega
 have hop:=refOpens_ok r.out b b0 b1 ho
 have hlw:=refLowest_ok r
 have haf:=hG.refAfter most hG.st40
 have hl1 : 1 ≤ lowestR r:=by unfold lowestR; split <;> omega
 have hv : nextV r most T k st val last left b = if decide (0 < x) && (decide ((left : Int) - x = 0) && opensD r.out b) then 1000000
  else if decide (0 < x) && decide ((left : Int) - x < lowestR r) then afterD r most T k st else rowF r most T k val last ((left : Int) - x).toNat:=by
  unfold nextV rowF; rw [← hx]
 refine acalls_st (rs:=[i64 (nextV r most T k st val last left b)]) [.tmp 16] Try.func76 rfl (by kernel_rfl) Try.ntmps76 rfl (by simp) rfl fun C vs=>?_
 repeat refine zq ?_
 refine zb (by kernel_rfl) fun K hK=>?_
 simp only [go_sem]
 (try simp (disch:=omega) only [zI])
 repeat first | intro _ | refine ⟨by omega,?_⟩ | refine ⟨⟨by omega,by omega⟩,?_⟩
 refine hK _ ?_
 clear hK K
 refine zw (sub_frzP 8 8 (ruC r) (by omega) rfl rfl) ?_
 refine zw (zk [1,2,3,4,5,6,7,8]) ?_
 simp only [go_sem]
 repeat refine zq ?_
 refine zb (by kernel_rfl) fun K hK=>?_
 simp only [go_sem,hq,hm,hlx]
 (try simp (disch:=omega) only [zI])
 repeat first | intro _ | refine ⟨by omega,?_⟩ | refine ⟨⟨by omega,by omega⟩,?_⟩
 refine hK _ ?_
 clear hK K
 refine zw (zk [1,2,3,4,6,7,8,17]) ?_
 simp only [go_sem]
 rw [← hx] at hlx s0 s1 hb ⊢
 repeat refine zq ?_
 refine zd ?_
 by_cases c1 : b = 0
 · have hx0 : x = 0:=by rw [hx,c1]; rfl
   have d1 : (b != 0) = false:=by simp [c1]
   have d4 : decide ((left : Int) - x < lowestR r) = false:=by simp; omega
   have hy:=hrow left hlo (Nat.le_refl _)
   have hyl : left < row.length:=(List.getElem?_eq_some_iff.1 hy).1
   repeat refine zq ?_
   refine zb (by kernel_rfl) fun K hK=>?_
   simp only [go_sem,d1]
   (try simp (disch:=omega) only [zI])
   repeat first | intro _ | refine ⟨by omega,?_⟩ | refine ⟨⟨by omega,by omega⟩,?_⟩
   refine hK _ ?_
   clear hK K
   refine zw (zk [1,2,3,4,7,8,17,25]) ?_
   simp only [go_sem]
   repeat refine zq ?_
   refine zc rfl (fun hc=>?_) (fun hc=>?_) <;> (try simp only [go_sem] at hc)
   repeat refine zq ?_
   refine zb (by kernel_rfl) fun K hK=>?_
   simp only [go_sem,d4]
   (try simp (disch:=omega) only [zI])
   refine zh (hlw) rfl (by simp only [go_sem,i64,ints,d4]) (by simp only [go_sem,i64,ints,d4]) (by first | exact .inl rfl | exact .inr rfl) ?_
   (try simp only [go_sem,d4])
   (try simp (disch:=omega) only [zI])
   repeat first | intro _ | refine ⟨by omega,?_⟩ | refine ⟨⟨by omega,by omega⟩,?_⟩
   refine hK _ ?_
   clear hK K
   refine zw (zk [1,2,3,4,7,8,17,38]) ?_
   simp only [go_sem]
   repeat refine zq ?_
   refine zc rfl (fun hc=>?_) (fun hc=>?_) <;> (try simp only [go_sem] at hc)
   refine zx ?_
   try simp only [go_sem]
   have hlx0 : (left : Int) - x = (left : Int):=by omega
   rw [hlx0]
   repeat refine zq ?_
   refine zb (by kernel_rfl) fun K hK=>?_
   simp only [go_sem,hy,hyl]
   (try simp (disch:=omega) only [zI])
   repeat first | intro _ | refine ⟨by omega,?_⟩ | refine ⟨⟨by omega,by omega⟩,?_⟩
   refine hK _ ?_
   clear hK K
   refine zw (zk [16]) ?_
   simp only [go_sem]
   refine ze ?_
   simp only [go_sem]
   rw [hv]; simp [hx0]
 have c1' : 0 < x:=hb.resolve_left c1
 have d1 : (b != 0) = true:=by simpa using c1
 by_cases c2 : (left : Int) - x = 0
 · have d2 : ((left : Int) - x == 0) = true:=by simpa using c2
   cases c3 : opensD r.out b
   · have d4 : decide ((left : Int) - x < lowestR r) = true:=by simp; omega
     rw [c3] at hop
     repeat refine zq ?_
     refine zb (by kernel_rfl) fun K hK=>?_
     simp only [go_sem,d1,d2]
     (try simp (disch:=omega) only [zI])
     refine zh (hop) rfl (by simp only [go_sem,i64,ints,d1,d2]) (by simp only [go_sem,i64,ints,d1,d2]) (by first | exact .inl rfl | exact .inr rfl) ?_
     (try simp only [go_sem,d1,d2])
     (try simp (disch:=omega) only [zI])
     repeat first | intro _ | refine ⟨by omega,?_⟩ | refine ⟨⟨by omega,by omega⟩,?_⟩
     refine hK _ ?_
     clear hK K
     refine zw (zk [1,2,3,4,7,8,17,25]) ?_
     simp only [go_sem]
     repeat refine zq ?_
     refine zc rfl (fun hc=>?_) (fun hc=>?_) <;> (try simp only [go_sem] at hc)
     repeat refine zq ?_
     refine zb (by kernel_rfl) fun K hK=>?_
     simp only [go_sem,d4]
     (try simp (disch:=omega) only [zI])
     refine zh (hlw) rfl (by simp only [go_sem,i64,ints,d4]) (by simp only [go_sem,i64,ints,d4]) (by first | exact .inl rfl | exact .inr rfl) ?_
     (try simp only [go_sem,d4])
     (try simp (disch:=omega) only [zI])
     repeat first | intro _ | refine ⟨by omega,?_⟩ | refine ⟨⟨by omega,by omega⟩,?_⟩
     refine hK _ ?_
     clear hK K
     refine zw (zk [1,2,3,4,7,8,17,38]) ?_
     simp only [go_sem]
     repeat refine zq ?_
     refine zc rfl (fun hc=>?_) (fun hc=>?_) <;> (try simp only [go_sem] at hc)
     repeat refine zq ?_
     refine zb (by kernel_rfl) fun K hK=>?_
     simp only [go_sem]
     (try simp (disch:=omega) only [zI])
     refine zh (haf) rfl (by simp only [go_sem,i64,ints]) (by simp only [go_sem,i64,ints]) (by first | exact .inl rfl | exact .inr rfl) ?_
     (try simp only [go_sem])
     (try simp (disch:=omega) only [zI])
     repeat first | intro _ | refine ⟨by omega,?_⟩ | refine ⟨⟨by omega,by omega⟩,?_⟩
     refine hK _ ?_
     clear hK K
     refine zw (zk [16]) ?_
     simp only [go_sem]
     refine ze ?_
     simp only [go_sem]
     rw [hv]; simp [c1',c3]; omega
   · rw [c3] at hop
     repeat refine zq ?_
     refine zb (by kernel_rfl) fun K hK=>?_
     simp only [go_sem,d1,d2]
     (try simp (disch:=omega) only [zI])
     refine zh (hop) rfl (by simp only [go_sem,i64,ints,d1,d2]) (by simp only [go_sem,i64,ints,d1,d2]) (by first | exact .inl rfl | exact .inr rfl) ?_
     (try simp only [go_sem,d1,d2])
     (try simp (disch:=omega) only [zI])
     repeat first | intro _ | refine ⟨by omega,?_⟩ | refine ⟨⟨by omega,by omega⟩,?_⟩
     refine hK _ ?_
     clear hK K
     refine zw (zk [1,2,3,4,7,8,17,25]) ?_
     simp only [go_sem]
     repeat refine zq ?_
     refine zc rfl (fun hc=>?_) (fun hc=>?_) <;> (try simp only [go_sem] at hc)
     repeat refine zq ?_
     refine zb (by kernel_rfl) fun K hK=>?_
     simp only [go_sem]
     (try simp (disch:=omega) only [zI])
     repeat first | intro _ | refine ⟨by omega,?_⟩ | refine ⟨⟨by omega,by omega⟩,?_⟩
     refine hK _ ?_
     clear hK K
     refine zw (zk [16]) ?_
     simp only [go_sem]
     refine ze ?_
     simp only [go_sem]
     rw [hv]; simp [c1',c2,c3]
 · have d2 : ((left : Int) - x == 0) = false:=by simpa using c2
   by_cases c4 : (left : Int) - x < lowestR r
   · have d4 : decide ((left : Int) - x < lowestR r) = true:=by simpa using c4
     repeat refine zq ?_
     refine zb (by kernel_rfl) fun K hK=>?_
     simp only [go_sem,d1,d2]
     (try simp (disch:=omega) only [zI])
     repeat first | intro _ | refine ⟨by omega,?_⟩ | refine ⟨⟨by omega,by omega⟩,?_⟩
     refine hK _ ?_
     clear hK K
     refine zw (zk [1,2,3,4,7,8,17,25]) ?_
     simp only [go_sem]
     repeat refine zq ?_
     refine zc rfl (fun hc=>?_) (fun hc=>?_) <;> (try simp only [go_sem] at hc)
     repeat refine zq ?_
     refine zb (by kernel_rfl) fun K hK=>?_
     simp only [go_sem,d4]
     (try simp (disch:=omega) only [zI])
     refine zh (hlw) rfl (by simp only [go_sem,i64,ints,d4]) (by simp only [go_sem,i64,ints,d4]) (by first | exact .inl rfl | exact .inr rfl) ?_
     (try simp only [go_sem,d4])
     (try simp (disch:=omega) only [zI])
     repeat first | intro _ | refine ⟨by omega,?_⟩ | refine ⟨⟨by omega,by omega⟩,?_⟩
     refine hK _ ?_
     clear hK K
     refine zw (zk [1,2,3,4,7,8,17,38]) ?_
     simp only [go_sem]
     repeat refine zq ?_
     refine zc rfl (fun hc=>?_) (fun hc=>?_) <;> (try simp only [go_sem] at hc)
     repeat refine zq ?_
     refine zb (by kernel_rfl) fun K hK=>?_
     simp only [go_sem]
     (try simp (disch:=omega) only [zI])
     refine zh (haf) rfl (by simp only [go_sem,i64,ints]) (by simp only [go_sem,i64,ints]) (by first | exact .inl rfl | exact .inr rfl) ?_
     (try simp only [go_sem])
     (try simp (disch:=omega) only [zI])
     repeat first | intro _ | refine ⟨by omega,?_⟩ | refine ⟨⟨by omega,by omega⟩,?_⟩
     refine hK _ ?_
     clear hK K
     refine zw (zk [16]) ?_
     simp only [go_sem]
     refine ze ?_
     simp only [go_sem]
     rw [hv]; simp [c1',c2,c4]
   · have d4 : decide ((left : Int) - x < lowestR r) = false:=by simpa using c4
     obtain ⟨y,hy⟩ : ∃ y : Nat,(left : Int) - x = (y : Int):=⟨((left : Int) - x).toNat,by omega⟩
     have hyn : ((left : Int) - x).toNat = y:=by omega
     have hyr:=hrow y (by omega) (by omega)
     have hyl : y < row.length:=(List.getElem?_eq_some_iff.1 hyr).1
     repeat refine zq ?_
     refine zb (by kernel_rfl) fun K hK=>?_
     simp only [go_sem,d1,d2]
     (try simp (disch:=omega) only [zI])
     repeat first | intro _ | refine ⟨by omega,?_⟩ | refine ⟨⟨by omega,by omega⟩,?_⟩
     refine hK _ ?_
     clear hK K
     refine zw (zk [1,2,3,4,7,8,17,25]) ?_
     simp only [go_sem]
     repeat refine zq ?_
     refine zc rfl (fun hc=>?_) (fun hc=>?_) <;> (try simp only [go_sem] at hc)
     repeat refine zq ?_
     refine zb (by kernel_rfl) fun K hK=>?_
     simp only [go_sem,d4]
     (try simp (disch:=omega) only [zI])
     refine zh (hlw) rfl (by simp only [go_sem,i64,ints,d4]) (by simp only [go_sem,i64,ints,d4]) (by first | exact .inl rfl | exact .inr rfl) ?_
     (try simp only [go_sem,d4])
     (try simp (disch:=omega) only [zI])
     repeat first | intro _ | refine ⟨by omega,?_⟩ | refine ⟨⟨by omega,by omega⟩,?_⟩
     refine hK _ ?_
     clear hK K
     refine zw (zk [1,2,3,4,7,8,17,38]) ?_
     simp only [go_sem]
     repeat refine zq ?_
     refine zc rfl (fun hc=>?_) (fun hc=>?_) <;> (try simp only [go_sem] at hc)
     refine zx ?_
     try simp only [go_sem]
     rw [hy]
     repeat refine zq ?_
     refine zb (by kernel_rfl) fun K hK=>?_
     simp only [go_sem,hyr,hyl]
     (try simp (disch:=omega) only [zI])
     repeat first | intro _ | refine ⟨by omega,?_⟩ | refine ⟨⟨by omega,by omega⟩,?_⟩
     refine hK _ ?_
     clear hK K
     refine zw (zk [16]) ?_
     simp only [go_sem]
     refine ze ?_
     simp only [go_sem]
     rw [hv,hyn]; simp [c1',c2,c4]
end Go.Proofs.Ytlbfkhikmigpbaa
