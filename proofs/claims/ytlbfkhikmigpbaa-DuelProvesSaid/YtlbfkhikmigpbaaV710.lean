/- For all matches by small numbers, the given function DuelProves returns true: both tables prove what they say; with one number changed by one to the wrong side this inequality is the first one that fails; a table that is made worse by some numbers of its first round is proved. No conditions beyond those of the given statement. -/
import Derived.Test.YtlbfkhikmigpbaaV79
import Derived.Test.YtlbfkhikmigpbaaV78
import Derived.Test.YtlbfkhikmigpbaaV75
import Derived.ChangeShapes
import Derived.WideShapes
import Derived.OpenShut
import Derived.ShutString
import Derived.ChangeOld
import Derived.Carry
import Derived.Below
import Derived.Test.YtlbfkhikmigpbaaRows
import Derived.JoinedOf
namespace Go.Proofs.Ytlbfkhikmigpbaa
open Go Go.Oc
set_option linter.unusedSimpArgs false
set_option linter.unusedVariables false
set_option maxRecDepth 8000
set_option maxHeartbeats 4000000
abbrev aimsN (m : Mt) (i : Nat) : List Am:=(List.range i).map (aimM m)
theorem aimsN_succ (m : Mt) (i : Nat) : aimsN m (i + 1) = aimsN m i ++ [aimM m i]:=by simp only [aimsN,List.range_succ,List.map_append,List.map_cons,List.map_nil]
theorem aimN_lt (m : Mt) (i : Nat) : i < aimN m ↔ i = 0 ∨ (i < m.aims.length ∧ i < 3):=by unfold aimN; omega
def vI (b : Nat → Bool) (j : Nat) (v : AV) : AV:=if b j then v else .r .un
theorem dI {ops : Array Oper} {b : Nat → Bool} (h : ∀ j e,j < ops.size → (deps ops j).contains e = true → b j = true → b e = true) (j e : Nat) (h1 : j < ops.size) (h2 : (deps ops j).contains e = true) (he : b e = false) : b j = false:=by
 cases hb : b j
 · rfl
 · rw [h j e h1 h2 hb] at he; cases he
def ibF (A : List RV) (i k j : Nat) (left : Int) (c : Bd) (l : List Bd) (b : Nat → Bool) (vs : Nat → Nat) : List (Nat × AV) :=
 [(1,.r (.rp A)),(2,.pt 2 (vs 2) 0),(3,.pt 3 (vs 3) 0),(4,.r (i64 (i : Int))),(5,.pt 5 (vs 5) 0),(6,.r (i64 left)),(7,.r (i64 (k : Int))),(10,.r (i64 (j : Int))),(13,.r (.rp (bedR c))),
  (123,vI b 0 (.r .ns)),
  (124,vI b 1 (.pt 5 (vs 5) 1)),
  (125,vI b 2 (.r (.sl 3 (l.map bedR)))),
  (126,vI b 3 (.r (i64 (j : Int)))),
  (127,vI b 4 (.r (.sl 3 ((l.map bedR).take j)))),
  (128,vI b 5 (.os 128 (vs 128 - (bif b 13 then 2 else bif b 8 then 1 else 0)) 3 0 j)),
  (129,vI b 6 (.r (.ag (bedR c)))),
  (130,vI b 7 (.r (.sl 3 [bedR c]))),
  (131,vI b 8 (.os 128 (vs 128 - (bif b 13 then 1 else 0)) 3 0 (j + 1))),
  (132,vI b 9 (.pt 5 (vs 5) 1)),
  (133,vI b 10 (.r (.sl 3 (l.map bedR)))),
  (134,vI b 11 (.r (i64 (j : Int)))),
  (135,vI b 12 (.r (.sl 3 ((l.map bedR).drop j)))),
  (136,vI b 13 (.os 128 (vs 128) 3 0 (l.length + 1))),
  (137,vI b 14 (.pt 5 (vs 5) 1))]
def ibR (d s o : Int) (i j : Nat) (aa : List (List RV)) (c : Bd) (l : List Bd) (b : Nat → Bool) (vs : Nat → Nat) : List (Nat × RowC) :=
 bif b 15 then [(2,.box [.r (i64 0),.r .ns,.r (i64 0),.r (i64 0),.r .ns]),(3,.box [.r (i64 d),.os 158 (vs 158) 2 0 i,.r (i64 s),.r (i64 o),.r .ns]),(5,.box [.r (i64 201),.os 128 (vs 128) 3 0 (l.length + 1)]),(128,.arr 90 3 ((l.map bedR).take j ++ bedR c :: (l.map bedR).drop j)),(158,.arr 78 2 aa)]
 else bif b 13 then [(2,.box [.r (i64 0),.r .ns,.r (i64 0),.r (i64 0),.r .ns]),(3,.box [.r (i64 d),.os 158 (vs 158) 2 0 i,.r (i64 s),.r (i64 o),.r .ns]),(5,.box [.r (i64 201),.r (.sl 3 (l.map bedR))]),(128,.arr 90 3 ((l.map bedR).take j ++ bedR c :: (l.map bedR).drop j)),(158,.arr 78 2 aa)]
 else bif b 8 then [(2,.box [.r (i64 0),.r .ns,.r (i64 0),.r (i64 0),.r .ns]),(3,.box [.r (i64 d),.os 158 (vs 158) 2 0 i,.r (i64 s),.r (i64 o),.r .ns]),(5,.box [.r (i64 201),.r (.sl 3 (l.map bedR))]),(128,.arr 90 3 ((l.map bedR).take j ++ [bedR c])),(158,.arr 78 2 aa)]
 else bif b 5 then [(2,.box [.r (i64 0),.r .ns,.r (i64 0),.r (i64 0),.r .ns]),(3,.box [.r (i64 d),.os 158 (vs 158) 2 0 i,.r (i64 s),.r (i64 o),.r .ns]),(5,.box [.r (i64 201),.r (.sl 3 (l.map bedR))]),(128,.arr 90 3 ((l.map bedR).take j)),(158,.arr 78 2 aa)]
 else [(2,.box [.r (i64 0),.r .ns,.r (i64 0),.r (i64 0),.r .ns]),(3,.box [.r (i64 d),.os 158 (vs 158) 2 0 i,.r (i64 s),.r (i64 o),.r .ns]),(5,.box [.r (i64 201),.r (.sl 3 (l.map bedR))]),(158,.arr 78 2 aa)]
theorem awp_fitV {P : Program} {C : Ctx} {c : Code} {Q : Exit → AS → Prop} {n : Nat} {F : (Nat → Nat) → List (Nat × AV)} {R : (Nat → Nat) → List (Nat × RowC)} {s : AS} (h : FitV n F R s) (hQ : ∀ vs,awp P C c Q (st n (F vs) vs (R vs))) : awp P C c Q s:=by
 obtain ⟨vs,hs⟩:=h
 exact zw hs (hQ vs)
theorem mrules_walk (m : Mt) (hw : WfM m) : ∃ c,Try.f32.body = some c ∧ ∀ (C : Ctx) (vs0 : Nat → Nat) (Q : Exit → AS → Prop),
 (∀ vs,awp Try.prog C .ret Q (st 205 [(2,.pt 2 (vs 2) 0)] vs [(2,.box [.r (i64 (ruM m).d),.r (aimsR (ruM m).aims),.r (i64 (ruM m).start),.r (i64 (ruM m).out),.os 196 (vs 196) 2 0 (ruM m).ends.length]),(196,.arr 52 2 ((ruM m).ends.map spanR))])) →
 awp Try.prog C c Q (st 205 (argL 0 [.ag (mtC m)]) vs0 []):=by
 have hone:=one_ok 1000000
 obtain ⟨d0,d1⟩:=hw.den
 obtain ⟨s0,s1⟩:=hw.start
 obtain ⟨o0,o1⟩:=hw.out
 have q1 : IntKind.i64.wrap m.den = m.den:=by rw [zI] <;> omega
 have q2 : IntKind.i64.wrap m.start = m.start:=by rw [zI] <;> omega
 have q3 : IntKind.i64.wrap m.out = m.out:=by rw [zI] <;> omega
 have q4 : m.start.tmod 7 = m.start % 7:=Int.tmod_eq_emod_of_nonneg s0
 have q5 : m.out.tmod 3 = m.out % 3:=Int.tmod_eq_emod_of_nonneg o0
 refine ⟨_,rfl,fun C vs0 Q hQ=>?_⟩
 repeat refine zq ?_
 refine zb (by kernel_rfl) fun K hK=>?_
 simp only [go_sem]
 (try simp (disch:=omega) only [zI])
 repeat first | intro _ | refine ⟨by omega,?_⟩ | refine ⟨⟨by omega,by omega⟩,?_⟩
 refine hK _ ?_
 clear hK K
 refine zw (sub_frzP 1 1 (mtC m) (by omega) rfl rfl) ?_
 refine zw (zk [1,2]) ?_
 simp only [go_sem]
 repeat refine zq ?_
 refine zb (by kernel_rfl) fun K hK=>?_
 simp only [go_sem,q1,q2,q3,q4,q5]
 (try simp (disch:=omega) only [zI])
 repeat first | intro _ | refine ⟨by omega,?_⟩ | refine ⟨⟨by omega,by omega⟩,?_⟩
 refine hK _ ?_
 clear hK K
 refine zw (zk [1,2,3]) ?_
 simp only [go_sem]
 repeat refine zq ?_
 refine zb (by kernel_rfl) fun K hK=>?_
 simp only [go_sem]
 (try simp (disch:=omega) only [zI])
 repeat first | intro _ | refine ⟨by omega,?_⟩ | refine ⟨⟨by omega,by omega⟩,?_⟩
 refine hK _ ?_
 clear hK K
 refine zw (zk [1,2,3,4]) ?_
 simp only [go_sem]
 repeat refine zq ?_
 refine zd ?_
 refine zw (sub_ownB 3 1 158 78 2 (by omega) (by omega) rfl rfl) ?_
 try simp only [go_sem]
 refine awp_whileV (n:=205) (fun (i : Nat) vs=>[(1,.r (.rp (mtC m))),(2,.pt 2 (vs 2) 0),(3,.pt 3 (vs 3) 0),(4,.r (i64 i))])
  (fun i vs=>[(2,.box [.r (i64 0),.r .ns,.r (i64 0),.r (i64 0),.r .ns]),(3,.box [.r (i64 (4 + m.den)),.os 158 (vs 158) 2 0 i,.r (i64 (2 + m.start % 7)),.r (i64 (m.out % 3)),.r .ns]),(158,.arr 78 2 ((aimsN m i).map aimR))])
  (fun i=>i ≤ aimN m) (fun i=>aimN m - i) 0 (zj [] ?_ ?_) (Nat.zero_le _) ?_
 · try simp only [go_sem]
 · try simp only [go_sem]
   rfl
 · intro i vs hi
   have hml:=aimN_lt m i
   repeat refine zq ?_
   refine awp_joinV (n:=205) (fun (_ : Unit) vs=>[(1,.r (.rp (mtC m))),(2,.pt 2 (vs 2) 0),(3,.pt 3 (vs 3) 0),(4,.r (i64 i)),(43,.r (.bo (decide (i < aimN m))))])
    (fun _ vs=>[(2,.box [.r (i64 0),.r .ns,.r (i64 0),.r (i64 0),.r .ns]),(3,.box [.r (i64 (4 + m.den)),.os 158 (vs 158) 2 0 i,.r (i64 (2 + m.start % 7)),.r (i64 (m.out % 3)),.r .ns]),(158,.arr 78 2 ((aimsN m i).map aimR))]) (fun _=>True) (fun _ h=>h) ?_ ?_
   · repeat refine zq ?_
     refine zb (by kernel_rfl) fun K hK=>?_
     simp only [go_sem]
     (try simp (disch:=omega) only [zI])
     repeat' first | intro _ | refine And.intro ?_ ?_
     all_goals first | omega | skip
     all_goals (refine hK _ ?_; clear hK K)
     all_goals (try simp only [go_sem])
     all_goals (refine ⟨(),zj [] ?_ ?_⟩ <;> try simp only [go_sem])
     all_goals (rw [Bool.eq_iff_iff]; simp; omega)
   · intro _ vs _
     repeat refine zq ?_
     refine zc rfl (fun hc=>?_) (fun hc=>?_) <;> (try simp only [go_sem] at hc)
     · have hil : i < aimN m:=by simpa using hc
       refine zx ?_
       try simp only [go_sem]
       repeat refine zq ?_
       refine zd ?_
       repeat refine zq ?_
       refine zb (by kernel_rfl) fun K hK=>?_
       simp only [go_sem]
       (try simp (disch:=omega) only [zI])
       repeat first | intro _ | refine ⟨by omega,?_⟩ | refine ⟨⟨by omega,by omega⟩,?_⟩
       refine hK _ ?_
       clear hK K
       refine zw (zk [1,2,3,4,5]) ?_
       simp only [go_sem]
       repeat refine zq ?_
       refine zb (by kernel_rfl) fun K hK=>?_
       simp only [go_sem]
       (try simp (disch:=omega) only [zI])
       repeat first | intro _ | refine ⟨by omega,?_⟩ | refine ⟨⟨by omega,by omega⟩,?_⟩
       refine hK _ ?_
       clear hK K
       refine zw (zk [1,2,3,4,5,6]) ?_
       simp only [go_sem]
       repeat refine zq ?_
       refine zb (by kernel_rfl) fun K hK=>?_
       simp only [go_sem]
       (try simp (disch:=omega) only [zI])
       repeat first | intro _ | refine ⟨by omega,?_⟩ | refine ⟨⟨by omega,by omega⟩,?_⟩
       refine hK _ ?_
       clear hK K
       refine zw (sub_ownB 5 1 128 90 3 (by omega) (by omega) rfl rfl) ?_
       refine zw (zk [1,2,3,4,5,6,7]) ?_
       simp only [go_sem]
       repeat refine zq ?_
       refine zd ?_
       generalize hee : m.aims.getD i [] = e
       have heL : i < m.aims.length → m.aims[i]? = some e ∧ e.length = 12 ∧ ∀ x ∈ e,0 ≤ x ∧ x ≤ 255:=fun h=>by
        obtain ⟨e',he'⟩:=opt_of_lt h
        have : e' = e:=by rw [← hee]; simp [List.getD,he']
        subst this
        exact ⟨he',hw.aims e' (mem_of_opt he')⟩
       obtain ⟨N,hN⟩ : ∃ N : Nat,N = if i < m.aims.length then 4 else 0:=⟨_,rfl⟩
       refine awp_uptoV (n:=205) N (fun k vs=>[(1,.r (.rp (mtC m))),(2,.pt 2 (vs 2) 0),(3,.pt 3 (vs 3) 0),(4,.r (i64 i)),(5,.pt 5 (vs 5) 0),(6,.r (i64 (stB (4 + m.den) e k).2)),(7,.r (i64 (k : Int)))])
        (fun k vs=>[(2,.box [.r (i64 0),.r .ns,.r (i64 0),.r (i64 0),.r .ns]),(3,.box [.r (i64 (4 + m.den)),.os 158 (vs 158) 2 0 i,.r (i64 (2 + m.start % 7)),.r (i64 (m.out % 3)),.r .ns]),(5,.box [.r (i64 201),.os 128 (vs 128) 3 0 (stB (4 + m.den) e k).1.length]),(128,.arr 90 3 ((stB (4 + m.den) e k).1.map bedR)),(158,.arr 78 2 ((aimsN m i).map aimR))]) (fun _=>True) 0 (zj [] ?_ ?_) (Nat.zero_le _) trivial ?_
       · try simp only [go_sem]
         simp [stB]
       · try simp only [go_sem]
         simp [stB]
       · intro k vs hk _
         repeat refine zq ?_
         refine awp_joinV (n:=205) (fun (_ : Unit) vs=>[(1,.r (.rp (mtC m))),(2,.pt 2 (vs 2) 0),(3,.pt 3 (vs 3) 0),(4,.r (i64 i)),(5,.pt 5 (vs 5) 0),(6,.r (i64 (stB (4 + m.den) e k).2)),(7,.r (i64 (k : Int))),(58,.r (.bo (decide (k < N))))])
          (fun _ vs=>[(2,.box [.r (i64 0),.r .ns,.r (i64 0),.r (i64 0),.r .ns]),(3,.box [.r (i64 (4 + m.den)),.os 158 (vs 158) 2 0 i,.r (i64 (2 + m.start % 7)),.r (i64 (m.out % 3)),.r .ns]),(5,.box [.r (i64 201),.os 128 (vs 128) 3 0 (stB (4 + m.den) e k).1.length]),(128,.arr 90 3 ((stB (4 + m.den) e k).1.map bedR)),(158,.arr 78 2 ((aimsN m i).map aimR))]) (fun _=>True) (fun _ h=>h) ?_ ?_
         · repeat refine zq ?_
           refine zb (by kernel_rfl) fun K hK=>?_
           simp only [go_sem]
           (try simp (disch:=omega) only [zI])
           repeat' first | intro _ | refine And.intro ?_ ?_
           all_goals first | omega | skip
           all_goals (refine hK _ ?_; clear hK K)
           all_goals (try simp only [go_sem])
           all_goals (refine ⟨(),zj [] ?_ ?_⟩ <;> try simp only [go_sem])
           all_goals (rw [Bool.eq_iff_iff]; simp; first | omega | (split at hN <;> omega))
         · intro _ vs _
           repeat refine zq ?_
           refine zc rfl (fun hc=>?_) (fun hc=>?_) <;> (try simp only [go_sem] at hc)
           · have hkN : k < N:=by simpa using hc
             have hiL : i < m.aims.length:=by
              by_cases h : i < m.aims.length
              · exact h
              · rw [if_neg h] at hN; omega
             have hk4 : k < 4:=by rw [if_pos hiL] at hN; omega
             obtain ⟨he1,he2,he3⟩:=heL hiL
             obtain ⟨hv1,hv2⟩:=v_drop he2 hk4
             obtain ⟨⟨vx0,vx1⟩,⟨vy0,vy1⟩,vz0,vz1⟩:=v_le he3 k
             have hst:=(stB_ok (den:=4 + m.den) (by omega) he3 k).1
             have hsl:=(stB_ok (den:=4 + m.den) (by omega) he3 k).2
             have hnx : stB (4 + m.den) e (k + 1) = addB (4 + m.den) (stB (4 + m.den) e k) (vAt e k):=rfl
             generalize hS : stB (4 + m.den) e k = S at hst hsl hnx ⊢
             obtain ⟨l,left⟩:=S
             simp only at hsl
             generalize hv : vAt e k = v at *
             obtain ⟨x,y,z⟩:=v
             simp only at hv1 vx0 vx1 vy0 vy1 vz0 vz1
             refine zx ?_
             try simp only [go_sem]
             repeat refine zq ?_
             refine zd ?_
             repeat refine zq ?_
             refine zb (by kernel_rfl) fun K hK=>?_
             simp only [go_sem,he1,hiL,hv1,hv2]
             (try simp (disch:=omega) only [zI])
             repeat first | intro _ | refine ⟨by omega,?_⟩ | refine ⟨⟨by omega,by omega⟩,?_⟩
             refine hK _ ?_
             clear hK K
             refine zw (sub_frzP 8 8 [it8 x,it8 y,it8 z] (by omega) rfl rfl) ?_
             refine zw (zk [1,2,3,4,5,6,7,8]) ?_
             simp only [go_sem]
             have hbed:=bed_ok x vx0 vx1
             repeat refine zq ?_
             refine zb (by kernel_rfl) fun K hK=>?_
             simp only [go_sem]
             (try simp (disch:=omega) only [zI])
             refine zh (hbed) rfl (by simp only [go_sem,i64,ints]) (by simp only [go_sem,i64,ints]) (by first | exact .inl rfl | exact .inr rfl) ?_
             (try simp only [go_sem])
             (try simp (disch:=omega) only [zI])
             repeat first | intro _ | refine ⟨by omega,?_⟩ | refine ⟨⟨by omega,by omega⟩,?_⟩
             refine hK _ ?_
             clear hK K
             refine zw (zk [1,2,3,4,5,6,7,8,9,10]) ?_
             simp only [go_sem]
             repeat refine zq ?_
             refine zb (by kernel_rfl) fun K hK=>?_
             simp only [go_sem]
             (try simp (disch:=omega) only [zI])
             repeat first | intro _ | refine ⟨by omega,?_⟩ | refine ⟨⟨by omega,by omega⟩,?_⟩
             refine hK _ ?_
             clear hK K
             refine zw (zk [1,2,3,4,5,6,7,8,9,10,11]) ?_
             simp only [go_sem]
             repeat refine zq ?_
             refine zd ?_
             refine awp_uptoV (n:=205) (frontB (bedN x) l).length (fun j vs=>[(1,.r (.rp (mtC m))),(2,.pt 2 (vs 2) 0),(3,.pt 3 (vs 3) 0),(4,.r (i64 i)),(5,.pt 5 (vs 5) 0),(6,.r (i64 left)),(7,.r (i64 (k : Int))),(8,.r (.rp [it8 x,it8 y,it8 z])),(9,.r (i64 (bedN x))),(10,.r (i64 (j : Int))),(11,.r (.bo (((frontB (bedN x) l).take j).any fun c=>decide (c.b = bedN x))))])
              (fun j vs=>[(2,.box [.r (i64 0),.r .ns,.r (i64 0),.r (i64 0),.r .ns]),(3,.box [.r (i64 (4 + m.den)),.os 158 (vs 158) 2 0 i,.r (i64 (2 + m.start % 7)),.r (i64 (m.out % 3)),.r .ns]),(5,.box [.r (i64 201),.os 128 (vs 128) 3 0 l.length]),(128,.arr 90 3 (l.map bedR)),(158,.arr 78 2 ((aimsN m i).map aimR))]) (fun _=>True) 0 (zj [] ?_ ?_) (Nat.zero_le _) trivial ?_
             · try simp only [go_sem]
               rfl
             · try simp only [go_sem]
             · intro j vs hj _
               have hfl:=front_le (bedN x) l
               by_cases hjN : j < (frontB (bedN x) l).length
               · obtain ⟨c,hc1,hc2,hc3⟩:=front_get hjN
                 have hjl : j < l.length:=by omega
                 repeat refine zq ?_
                 refine zb (by kernel_rfl) fun K hK=>?_
                 simp only [go_sem,hc1,hc3,hjl,bedR,List.headD_cons]
                 (try simp (disch:=omega) only [zI])
                 repeat first | intro _ | refine ⟨by omega,?_⟩ | refine ⟨⟨by omega,by omega⟩,?_⟩
                 refine hK _ ?_
                 clear hK K
                 refine zw (zk [1,2,3,4,5,6,7,8,9,10,11,85]) ?_
                 simp only [go_sem]
                 repeat refine zq ?_
                 refine zc rfl (fun hc=>?_) (fun hc=>?_) <;> (try simp only [go_sem] at hc)
                 refine zx ?_
                 try simp only [go_sem]
                 repeat refine zq ?_
                 refine zd ?_
                 have hts : ((frontB (bedN x) l).take (j + 1)).any (fun c=>decide (c.b = bedN x)) = (((frontB (bedN x) l).take j).any (fun c=>decide (c.b = bedN x)) || decide (c.b = bedN x)):=by
                  rw [List.take_add_one,hc2]; simp
                 have hj1 : IntKind.i64.wrap ((j : Int) + 1) = ((j + 1 : Nat) : Int):=by rw [zI] <;> omega
                 cases hA : ((frontB (bedN x) l).take j).any (fun c=>decide (c.b = bedN x)) with
                 | true =>
                   rw [hA,Bool.true_or] at hts
                   repeat refine zq ?_
                   refine zb (by kernel_rfl) fun K hK=>?_
                   simp only [go_sem]
                   (try simp (disch:=omega) only [zI])
                   repeat first | intro _ | refine ⟨by omega,?_⟩ | refine ⟨⟨by omega,by omega⟩,?_⟩
                   refine hK _ ?_
                   clear hK K
                   refine zw (zk [1,2,3,4,5,6,7,8,9,10,11]) ?_
                   simp only [go_sem]
                   repeat refine zq ?_
                   refine zb (by kernel_rfl) fun K hK=>?_
                   simp only [go_sem]
                   (try simp (disch:=omega) only [zI])
                   repeat first | intro _ | refine ⟨by omega,?_⟩ | refine ⟨⟨by omega,by omega⟩,?_⟩
                   refine hK _ ?_
                   clear hK K
                   try simp only [go_sem]
                   refine ⟨hjN,zj [] ?_ ?_⟩
                   · try simp only [go_sem]
                     simpa using hts
                   · try simp only [go_sem]
                 | false =>
                   rw [hA,Bool.false_or] at hts
                   repeat refine zq ?_
                   refine zb (by kernel_rfl) fun K hK=>?_
                   simp only [go_sem,hc1,hjl,bedR,List.headD_cons]
                   (try simp (disch:=omega) only [zI])
                   repeat first | intro _ | refine ⟨by omega,?_⟩ | refine ⟨⟨by omega,by omega⟩,?_⟩
                   refine hK _ ?_
                   clear hK K
                   refine zw (zk [1,2,3,4,5,6,7,8,9,10,11]) ?_
                   simp only [go_sem]
                   repeat refine zq ?_
                   refine zb (by kernel_rfl) fun K hK=>?_
                   simp only [go_sem]
                   (try simp (disch:=omega) only [zI])
                   repeat first | intro _ | refine ⟨by omega,?_⟩ | refine ⟨⟨by omega,by omega⟩,?_⟩
                   refine hK _ ?_
                   clear hK K
                   try simp only [go_sem]
                   refine ⟨hjN,zj [] ?_ ?_⟩
                   · try simp only [go_sem]
                     rw [hts]; rfl
                   · try simp only [go_sem]
               · have hjN : j = (frontB (bedN x) l).length:=by omega
                 have hft : (frontB (bedN x) l).take j = frontB (bedN x) l:=by rw [hjN]; exact List.take_length
                 rw [hft]
                 generalize hany : (frontB (bedN x) l).any (fun c=>decide (c.b = bedN x)) = an at *
                 repeat refine zq ?_
                 refine awp_joinV (n:=205) (fun (_ : Unit) vs=>[(1,.r (.rp (mtC m))),(2,.pt 2 (vs 2) 0),(3,.pt 3 (vs 3) 0),(4,.r (i64 i)),(5,.pt 5 (vs 5) 0),(6,.r (i64 left)),(7,.r (i64 (k : Int))),(8,.r (.rp [it8 x,it8 y,it8 z])),(9,.r (i64 (bedN x))),(10,.r (i64 (j : Int))),(11,.r (.bo an)),(85,.r (.bo false))])
                  (fun _ vs=>[(2,.box [.r (i64 0),.r .ns,.r (i64 0),.r (i64 0),.r .ns]),(3,.box [.r (i64 (4 + m.den)),.os 158 (vs 158) 2 0 i,.r (i64 (2 + m.start % 7)),.r (i64 (m.out % 3)),.r .ns]),(5,.box [.r (i64 201),.os 128 (vs 128) 3 0 l.length]),(128,.arr 90 3 (l.map bedR)),(158,.arr 78 2 ((aimsN m i).map aimR))]) (fun _=>True) (fun _ h=>h) ?_ ?_
                 · by_cases hjl : j < l.length
                   · obtain ⟨c,hc1⟩:=opt_of_lt hjl
                     have hgt : bedN x < c.b:=front_end (by rw [← hjN]; exact hc1)
                     have hcle : (decide (c.b ≤ bedN x)) = false:=by simp; omega
                     repeat refine zq ?_
                     refine zb (by kernel_rfl) fun K hK=>?_
                     simp only [go_sem,hc1,hjl,hcle,bedR,List.headD_cons]
                     (try simp (disch:=omega) only [zI])
                     repeat first | intro _ | refine ⟨by omega,?_⟩ | refine ⟨⟨by omega,by omega⟩,?_⟩
                     refine hK _ ?_
                     clear hK K
                     try simp only [go_sem]
                     exact ⟨(),zj [] (by try simp only [go_sem]) (by try simp only [go_sem])⟩
                   · repeat refine zq ?_
                     refine zb (by kernel_rfl) fun K hK=>?_
                     simp only [go_sem,hjl]
                     (try simp (disch:=omega) only [zI])
                     repeat first | intro _ | refine ⟨by omega,?_⟩ | refine ⟨⟨by omega,by omega⟩,?_⟩
                     refine hK _ ?_
                     clear hK K
                     try simp only [go_sem]
                     exact ⟨(),zj [] (by try simp only [go_sem]) (by try simp only [go_sem])⟩
                 intro _ vs _
                 repeat refine zq ?_
                 refine zc rfl (fun hc=>?_) (fun hc=>?_) <;> (try simp only [go_sem] at hc)
                 refine zf ?_
                 simp only [go_sem]
                 repeat refine zq ?_
                 refine zb (by kernel_rfl) fun K hK=>?_
                 simp only [go_sem]
                 (try simp (disch:=omega) only [zI])
                 repeat first | intro _ | refine ⟨by omega,?_⟩ | refine ⟨⟨by omega,by omega⟩,?_⟩
                 refine hK _ ?_
                 clear hK K
                 refine zw (zk [1,2,3,4,5,6,7,8,9,10,99]) ?_
                 simp only [go_sem]
                 repeat refine zq ?_
                 refine zc rfl (fun hc=>?_) (fun hc=>?_) <;> (try simp only [go_sem] at hc)
                 · have hnx2 : stB (4 + m.den) e (k + 1) = (l,left):=by
                    rw [hnx]
                    simp [addB,hany,hc]
                   refine zf ?_
                   simp only [go_sem]
                   repeat refine zq ?_
                   refine zb (by kernel_rfl) fun K hK=>?_
                   simp only [go_sem]
                   (try simp (disch:=omega) only [zI])
                   repeat first | intro _ | refine ⟨by omega,?_⟩ | refine ⟨⟨by omega,by omega⟩,?_⟩
                   refine hK _ ?_
                   clear hK K
                   try simp only [go_sem]
                   refine ⟨hkN,zj [] ?_ ?_⟩
                   · try simp only [go_sem]
                     simp [hnx2]
                   · try simp only [go_sem]
                     simp [hnx2]
                 · have hll:=beds_left hst
                   simp only at hll
                   have hlf0 : 0 ≤ left:=hst.left0
                   have hly0 : 0 ≤ left * y:=Int.mul_nonneg hlf0 vy0
                   have hly : left * y ≤ 259 * 255:=Int.mul_le_mul (by omega) vy1 vy0 (by omega)
                   have hnx2 : stB (4 + m.den) e (k + 1) = (l.take (frontB (bedN x) l).length ++ (⟨bedN x,left * y / 512,min (4 + m.den) (left * y / 512 + z % 50)⟩ :: l.drop (frontB (bedN x) l).length),left - left * y / 512):=by
                    rw [hnx]
                    simp [addB,hany,hc]
                   have w1 : IntKind.i64.wrap (left * y) = left * y:=by rw [zI] <;> omega
                   have w2 : IntKind.i64.wrap ((left * y).tdiv 512) = left * y / 512:=by rw [Int.tdiv_eq_ediv_of_nonneg hly0,zI] <;> omega
                   have w3 : z.tmod 50 = z % 50:=Int.tmod_eq_emod_of_nonneg vz0
                   have w4 : IntKind.i64.wrap y = y:=by rw [zI] <;> omega
                   have w5 : IntKind.i64.wrap z = z:=by rw [zI] <;> omega
                   have hlo0 : 0 ≤ left * y / 512 ∧ left * y / 512 ≤ 200:=by omega
                   refine zx ?_
                   try simp only [go_sem]
                   repeat refine zq ?_
                   refine zb (by kernel_rfl) fun K hK=>?_
                   simp only [go_sem,w1,w2,w4]
                   (try simp (disch:=omega) only [zI])
                   repeat first | intro _ | refine ⟨by omega,?_⟩ | refine ⟨⟨by omega,by omega⟩,?_⟩
                   refine hK _ ?_
                   clear hK K
                   generalize hlow : left * y / 512 = low at *
                   refine zw (zk [1,2,3,4,5,6,7,8,9,10,12]) ?_
                   simp only [go_sem]
                   repeat refine zq ?_
                   refine zb (by kernel_rfl) fun K hK=>?_
                   simp only [go_sem,w3,w5]
                   (try simp (disch:=omega) only [zI])
                   repeat first | intro _ | refine ⟨by omega,?_⟩ | refine ⟨⟨by omega,by omega⟩,?_⟩
                   refine hK _ ?_
                   clear hK K
                   refine zw (sub_frzP 13 13 [i64 (bedN x),i64 low,i64 (min (4 + m.den) (low + z % 50))] (by omega) rfl rfl) ?_
                   refine zw (zk [1,2,3,4,5,6,7,10,12,13]) ?_
                   simp only [go_sem]
                   repeat refine zq ?_
                   refine zb (by kernel_rfl) fun K hK=>?_
                   simp only [go_sem]
                   (try simp (disch:=omega) only [zI])
                   repeat first | intro _ | refine ⟨by omega,?_⟩ | refine ⟨⟨by omega,by omega⟩,?_⟩
                   refine hK _ ?_
                   clear hK K
                   refine zw (zk [1,2,3,4,5,6,7,10,13]) ?_
                   simp only [go_sem]
                   refine zw (sub_frzB 5 1 128 (by omega) (by omega) rfl rfl rfl (by simp)) ?_
                   try simp only [go_sem]
                   have hfl2:=front_le (bedN x) l
                   have hjl : j ≤ l.length:=by omega
                   have hmin : min j l.length = j:=by omega
                   have hj1 : j + 1 + (l.length - j) = l.length + 1:=by omega
                   have ha1 : ∀ n : Nat,n + 1 - 1 = n:=fun n=>by omega
                   have ha2 : ∀ n : Nat,n + 1 - 2 = n - 1:=fun n=>by omega
                   have hcb : (⟨bedN x,low,min (4 + m.den) (low + z % 50)⟩ : Bd) = (⟨bedN x,low,min (4 + m.den) (low + z % 50)⟩ : Bd):=rfl
                   generalize hcd : (⟨bedN x,low,min (4 + m.den) (low + z % 50)⟩ : Bd) = c at hcb
                   have hcR : [i64 (bedN x),i64 low,i64 (min (4 + m.den) (low + z % 50))] = bedR c:=by rw [← hcd]; rfl
                   rw [hcR]
                   repeat refine zq ?_
                   refine awp_inv (n:=205) (ibF (mtC m) i k j (left - low) c l) (ibR (4 + m.den) (2 + m.start % 7) (m.out % 3) i j ((aimsN m i).map aimR) c l) follows (by kernel_rfl) (by kernel_rfl) (by decide +kernel) (zj [] ?_ ?_) ?_ ?_
                   · simp only [go_sem,ibF,vI,if_true,if_false,Bool.false_eq_true]
                   · simp only [go_sem,ibR]
                   · refine ⟨fun b vs hdn hbk hde=>?_,fun b vs hdn hbk hde=>?_,fun b vs hdn hbk hde=>?_,fun b vs hdn hbk hde=>?_,fun b vs hdn hbk hde=>?_,fun b vs hdn hbk hde=>?_,fun b vs hdn hbk hde=>?_,fun b vs hdn hbk hde=>?_,fun b vs hdn hbk hde=>?_,fun b vs hdn hbk hde=>?_,fun b vs hdn hbk hde=>?_,fun b vs hdn hbk hde=>?_,fun b vs hdn hbk hde=>?_,fun b vs hdn hbk hde=>?_,fun b vs hdn hbk hde=>?_,fun b vs hdn hbk hde=>?_,trivial⟩
                     · skip
                       have f5 : b 5 = false:=dI hdn 5 0 (by decide +kernel) (by decide +kernel) hbk
                       have f14 : b 14 = false:=dI hdn 14 0 (by decide +kernel) (by decide +kernel) hbk
                       have f15 : b 15 = false:=dI hdn 15 0 (by decide +kernel) (by decide +kernel) hbk
                       have f8 : b 8 = false:=dI hdn 8 5 (by decide +kernel) (by decide +kernel) f5
                       have f13 : b 13 = false:=dI hdn 13 8 (by decide +kernel) (by decide +kernel) f8
                       (simp only [go_sem,ibF,ibR,upd,vI,cond_true,cond_false,if_true,Bool.false_eq_true,if_false,hbk,f5,f8,f13,f14,f15,hmin,Nat.sub_zero,hj1,bedR,List.length_map,List.length_take,List.length_drop,List.length_append,List.length_cons,List.length_nil,Nat.zero_add])
                       all_goals (refine zj [] ?_ ?_ <;> (simp only [go_sem,ibF,ibR,upd,vI,cond_true,cond_false,if_true,Bool.false_eq_true,if_false,hbk,f5,f8,f13,f14,f15,hj1,ha1,ha2,Nat.sub_zero,List.append_assoc,List.cons_append,List.nil_append,bedR]))
                     · skip
                       have f2 : b 2 = false:=dI hdn 2 1 (by decide +kernel) (by decide +kernel) hbk
                       have f14 : b 14 = false:=dI hdn 14 1 (by decide +kernel) (by decide +kernel) hbk
                       have f15 : b 15 = false:=dI hdn 15 1 (by decide +kernel) (by decide +kernel) hbk
                       have f4 : b 4 = false:=dI hdn 4 2 (by decide +kernel) (by decide +kernel) f2
                       have f5 : b 5 = false:=dI hdn 5 4 (by decide +kernel) (by decide +kernel) f4
                       have f8 : b 8 = false:=dI hdn 8 5 (by decide +kernel) (by decide +kernel) f5
                       have f13 : b 13 = false:=dI hdn 13 8 (by decide +kernel) (by decide +kernel) f8
                       (simp only [go_sem,ibF,ibR,upd,vI,cond_true,cond_false,if_true,Bool.false_eq_true,if_false,hbk,f2,f4,f5,f8,f13,f14,f15,hmin,Nat.sub_zero,hj1,bedR,List.length_map,List.length_take,List.length_drop,List.length_append,List.length_cons,List.length_nil,Nat.zero_add])
                       all_goals (refine zj [] ?_ ?_ <;> (simp only [go_sem,ibF,ibR,upd,vI,cond_true,cond_false,if_true,Bool.false_eq_true,if_false,hbk,f2,f4,f5,f8,f13,f14,f15,hj1,ha1,ha2,Nat.sub_zero,List.append_assoc,List.cons_append,List.nil_append,bedR]))
                     · skip
                       have h1 : b 1 = true:=hde 1 (by decide +kernel)
                       have f4 : b 4 = false:=dI hdn 4 2 (by decide +kernel) (by decide +kernel) hbk
                       have f14 : b 14 = false:=dI hdn 14 2 (by decide +kernel) (by decide +kernel) hbk
                       have f15 : b 15 = false:=dI hdn 15 2 (by decide +kernel) (by decide +kernel) hbk
                       have f5 : b 5 = false:=dI hdn 5 4 (by decide +kernel) (by decide +kernel) f4
                       have f8 : b 8 = false:=dI hdn 8 5 (by decide +kernel) (by decide +kernel) f5
                       have f13 : b 13 = false:=dI hdn 13 8 (by decide +kernel) (by decide +kernel) f8
                       (simp only [go_sem,ibF,ibR,upd,vI,cond_true,cond_false,if_true,Bool.false_eq_true,if_false,h1,hbk,f4,f5,f8,f13,f14,f15,hmin,Nat.sub_zero,hj1,bedR,List.length_map,List.length_take,List.length_drop,List.length_append,List.length_cons,List.length_nil,Nat.zero_add])
                       all_goals (refine zj [] ?_ ?_ <;> (simp only [go_sem,ibF,ibR,upd,vI,cond_true,cond_false,if_true,Bool.false_eq_true,if_false,h1,hbk,f4,f5,f8,f13,f14,f15,hj1,ha1,ha2,Nat.sub_zero,List.append_assoc,List.cons_append,List.nil_append,bedR]))
                     · skip
                       have f4 : b 4 = false:=dI hdn 4 3 (by decide +kernel) (by decide +kernel) hbk
                       have f14 : b 14 = false:=dI hdn 14 3 (by decide +kernel) (by decide +kernel) hbk
                       have f15 : b 15 = false:=dI hdn 15 3 (by decide +kernel) (by decide +kernel) hbk
                       have f5 : b 5 = false:=dI hdn 5 4 (by decide +kernel) (by decide +kernel) f4
                       have f8 : b 8 = false:=dI hdn 8 5 (by decide +kernel) (by decide +kernel) f5
                       have f13 : b 13 = false:=dI hdn 13 8 (by decide +kernel) (by decide +kernel) f8
                       (simp only [go_sem,ibF,ibR,upd,vI,cond_true,cond_false,if_true,Bool.false_eq_true,if_false,hbk,f4,f5,f8,f13,f14,f15,hmin,Nat.sub_zero,hj1,bedR,List.length_map,List.length_take,List.length_drop,List.length_append,List.length_cons,List.length_nil,Nat.zero_add])
                       all_goals (refine zj [] ?_ ?_ <;> (simp only [go_sem,ibF,ibR,upd,vI,cond_true,cond_false,if_true,Bool.false_eq_true,if_false,hbk,f4,f5,f8,f13,f14,f15,hj1,ha1,ha2,Nat.sub_zero,List.append_assoc,List.cons_append,List.nil_append,bedR]))
                     · skip
                       have h2 : b 2 = true:=hde 2 (by decide +kernel)
                       have h3 : b 3 = true:=hde 3 (by decide +kernel)
                       have h1 : b 1 = true:=hdn 2 1 (by decide +kernel) (by decide +kernel) h2
                       have f5 : b 5 = false:=dI hdn 5 4 (by decide +kernel) (by decide +kernel) hbk
                       have f14 : b 14 = false:=dI hdn 14 4 (by decide +kernel) (by decide +kernel) hbk
                       have f15 : b 15 = false:=dI hdn 15 4 (by decide +kernel) (by decide +kernel) hbk
                       have f8 : b 8 = false:=dI hdn 8 5 (by decide +kernel) (by decide +kernel) f5
                       have f13 : b 13 = false:=dI hdn 13 8 (by decide +kernel) (by decide +kernel) f8
                       (simp only [go_sem,ibF,ibR,upd,vI,cond_true,cond_false,if_true,Bool.false_eq_true,if_false,h1,h2,h3,hbk,f5,f8,f13,f14,f15,hmin,Nat.sub_zero,hj1,bedR,List.length_map,List.length_take,List.length_drop,List.length_append,List.length_cons,List.length_nil,Nat.zero_add])
                       all_goals refine ⟨by omega,?_⟩
                       all_goals (refine zj [] ?_ ?_ <;> (simp only [go_sem,ibF,ibR,upd,vI,cond_true,cond_false,if_true,Bool.false_eq_true,if_false,h1,h2,h3,hbk,f5,f8,f13,f14,f15,hj1,ha1,ha2,Nat.sub_zero,List.append_assoc,List.cons_append,List.nil_append,bedR]))
                     · skip
                       have h0 : b 0 = true:=hde 0 (by decide +kernel)
                       have h4 : b 4 = true:=hde 4 (by decide +kernel)
                       have h2 : b 2 = true:=hdn 4 2 (by decide +kernel) (by decide +kernel) h4
                       have h3 : b 3 = true:=hdn 4 3 (by decide +kernel) (by decide +kernel) h4
                       have h1 : b 1 = true:=hdn 2 1 (by decide +kernel) (by decide +kernel) h2
                       have f8 : b 8 = false:=dI hdn 8 5 (by decide +kernel) (by decide +kernel) hbk
                       have f14 : b 14 = false:=dI hdn 14 5 (by decide +kernel) (by decide +kernel) hbk
                       have f15 : b 15 = false:=dI hdn 15 5 (by decide +kernel) (by decide +kernel) hbk
                       have f13 : b 13 = false:=dI hdn 13 8 (by decide +kernel) (by decide +kernel) f8
                       (simp only [go_sem,ibF,ibR,upd,vI,cond_true,cond_false,if_true,Bool.false_eq_true,if_false,h0,h1,h2,h3,h4,hbk,f8,f13,f14,f15,hmin,Nat.sub_zero,hj1,bedR,List.length_map,List.length_take,List.length_drop,List.length_append,List.length_cons,List.length_nil,Nat.zero_add])
                       all_goals refine ⟨by omega,?_⟩
                       all_goals (refine zj [] ?_ ?_ <;> (simp only [go_sem,ibF,ibR,upd,vI,cond_true,cond_false,if_true,Bool.false_eq_true,if_false,h0,h1,h2,h3,h4,hbk,f8,f13,f14,f15,hj1,ha1,ha2,Nat.sub_zero,List.append_assoc,List.cons_append,List.nil_append,bedR]))
                     · skip
                       have f7 : b 7 = false:=dI hdn 7 6 (by decide +kernel) (by decide +kernel) hbk
                       have f14 : b 14 = false:=dI hdn 14 6 (by decide +kernel) (by decide +kernel) hbk
                       have f15 : b 15 = false:=dI hdn 15 6 (by decide +kernel) (by decide +kernel) hbk
                       have f8 : b 8 = false:=dI hdn 8 7 (by decide +kernel) (by decide +kernel) f7
                       have f13 : b 13 = false:=dI hdn 13 8 (by decide +kernel) (by decide +kernel) f8
                       cases g5 : b 5
                       all_goals (simp only [go_sem,ibF,ibR,upd,vI,cond_true,cond_false,if_true,Bool.false_eq_true,if_false,hbk,f7,f8,f13,f14,f15,g5,hmin,Nat.sub_zero,hj1,bedR,List.length_map,List.length_take,List.length_drop,List.length_append,List.length_cons,List.length_nil,Nat.zero_add])
                       all_goals (refine zj [] ?_ ?_ <;> (simp only [go_sem,ibF,ibR,upd,vI,cond_true,cond_false,if_true,Bool.false_eq_true,if_false,hbk,f7,f8,f13,f14,f15,g5,hj1,ha1,ha2,Nat.sub_zero,List.append_assoc,List.cons_append,List.nil_append,bedR]))
                     · skip
                       have h6 : b 6 = true:=hde 6 (by decide +kernel)
                       have f8 : b 8 = false:=dI hdn 8 7 (by decide +kernel) (by decide +kernel) hbk
                       have f14 : b 14 = false:=dI hdn 14 7 (by decide +kernel) (by decide +kernel) hbk
                       have f15 : b 15 = false:=dI hdn 15 7 (by decide +kernel) (by decide +kernel) hbk
                       have f13 : b 13 = false:=dI hdn 13 8 (by decide +kernel) (by decide +kernel) f8
                       cases g5 : b 5
                       all_goals (simp only [go_sem,ibF,ibR,upd,vI,cond_true,cond_false,if_true,Bool.false_eq_true,if_false,h6,hbk,f8,f13,f14,f15,g5,hmin,Nat.sub_zero,hj1,bedR,List.length_map,List.length_take,List.length_drop,List.length_append,List.length_cons,List.length_nil,Nat.zero_add])
                       all_goals (refine zj [] ?_ ?_ <;> (simp only [go_sem,ibF,ibR,upd,vI,cond_true,cond_false,if_true,Bool.false_eq_true,if_false,h6,hbk,f8,f13,f14,f15,g5,hj1,ha1,ha2,Nat.sub_zero,List.append_assoc,List.cons_append,List.nil_append,bedR]))
                     · skip
                       have h5 : b 5 = true:=hde 5 (by decide +kernel)
                       have h7 : b 7 = true:=hde 7 (by decide +kernel)
                       have h0 : b 0 = true:=hdn 5 0 (by decide +kernel) (by decide +kernel) h5
                       have h4 : b 4 = true:=hdn 5 4 (by decide +kernel) (by decide +kernel) h5
                       have h6 : b 6 = true:=hdn 7 6 (by decide +kernel) (by decide +kernel) h7
                       have h2 : b 2 = true:=hdn 4 2 (by decide +kernel) (by decide +kernel) h4
                       have h3 : b 3 = true:=hdn 4 3 (by decide +kernel) (by decide +kernel) h4
                       have h1 : b 1 = true:=hdn 2 1 (by decide +kernel) (by decide +kernel) h2
                       have f13 : b 13 = false:=dI hdn 13 8 (by decide +kernel) (by decide +kernel) hbk
                       have f14 : b 14 = false:=dI hdn 14 8 (by decide +kernel) (by decide +kernel) hbk
                       have f15 : b 15 = false:=dI hdn 15 8 (by decide +kernel) (by decide +kernel) hbk
                       (simp only [go_sem,ibF,ibR,upd,vI,cond_true,cond_false,if_true,Bool.false_eq_true,if_false,h0,h1,h2,h3,h4,h5,h6,h7,hbk,f13,f14,f15,hmin,Nat.sub_zero,hj1,bedR,List.length_map,List.length_take,List.length_drop,List.length_append,List.length_cons,List.length_nil,Nat.zero_add])
                       all_goals refine ⟨by omega,?_⟩
                       all_goals (refine zj [] ?_ ?_ <;> (simp only [go_sem,ibF,ibR,upd,vI,cond_true,cond_false,if_true,Bool.false_eq_true,if_false,h0,h1,h2,h3,h4,h5,h6,h7,hbk,f13,f14,f15,hj1,ha1,ha2,Nat.sub_zero,List.append_assoc,List.cons_append,List.nil_append,bedR]))
                     · skip
                       have f10 : b 10 = false:=dI hdn 10 9 (by decide +kernel) (by decide +kernel) hbk
                       have f14 : b 14 = false:=dI hdn 14 9 (by decide +kernel) (by decide +kernel) hbk
                       have f15 : b 15 = false:=dI hdn 15 9 (by decide +kernel) (by decide +kernel) hbk
                       have f12 : b 12 = false:=dI hdn 12 10 (by decide +kernel) (by decide +kernel) f10
                       have f13 : b 13 = false:=dI hdn 13 12 (by decide +kernel) (by decide +kernel) f12
                       cases g5 : b 5 <;> cases g8 : b 8
                       all_goals (simp only [go_sem,ibF,ibR,upd,vI,cond_true,cond_false,if_true,Bool.false_eq_true,if_false,hbk,f10,f12,f13,f14,f15,g5,g8,hmin,Nat.sub_zero,hj1,bedR,List.length_map,List.length_take,List.length_drop,List.length_append,List.length_cons,List.length_nil,Nat.zero_add])
                       all_goals (refine zj [] ?_ ?_ <;> (simp only [go_sem,ibF,ibR,upd,vI,cond_true,cond_false,if_true,Bool.false_eq_true,if_false,hbk,f10,f12,f13,f14,f15,g5,g8,hj1,ha1,ha2,Nat.sub_zero,List.append_assoc,List.cons_append,List.nil_append,bedR]))
                     · skip
                       have h9 : b 9 = true:=hde 9 (by decide +kernel)
                       have f12 : b 12 = false:=dI hdn 12 10 (by decide +kernel) (by decide +kernel) hbk
                       have f14 : b 14 = false:=dI hdn 14 10 (by decide +kernel) (by decide +kernel) hbk
                       have f15 : b 15 = false:=dI hdn 15 10 (by decide +kernel) (by decide +kernel) hbk
                       have f13 : b 13 = false:=dI hdn 13 12 (by decide +kernel) (by decide +kernel) f12
                       cases g5 : b 5 <;> cases g8 : b 8
                       all_goals (simp only [go_sem,ibF,ibR,upd,vI,cond_true,cond_false,if_true,Bool.false_eq_true,if_false,h9,hbk,f12,f13,f14,f15,g5,g8,hmin,Nat.sub_zero,hj1,bedR,List.length_map,List.length_take,List.length_drop,List.length_append,List.length_cons,List.length_nil,Nat.zero_add])
                       all_goals (refine zj [] ?_ ?_ <;> (simp only [go_sem,ibF,ibR,upd,vI,cond_true,cond_false,if_true,Bool.false_eq_true,if_false,h9,hbk,f12,f13,f14,f15,g5,g8,hj1,ha1,ha2,Nat.sub_zero,List.append_assoc,List.cons_append,List.nil_append,bedR]))
                     · skip
                       have f12 : b 12 = false:=dI hdn 12 11 (by decide +kernel) (by decide +kernel) hbk
                       have f14 : b 14 = false:=dI hdn 14 11 (by decide +kernel) (by decide +kernel) hbk
                       have f15 : b 15 = false:=dI hdn 15 11 (by decide +kernel) (by decide +kernel) hbk
                       have f13 : b 13 = false:=dI hdn 13 12 (by decide +kernel) (by decide +kernel) f12
                       cases g5 : b 5 <;> cases g8 : b 8
                       all_goals (simp only [go_sem,ibF,ibR,upd,vI,cond_true,cond_false,if_true,Bool.false_eq_true,if_false,hbk,f12,f13,f14,f15,g5,g8,hmin,Nat.sub_zero,hj1,bedR,List.length_map,List.length_take,List.length_drop,List.length_append,List.length_cons,List.length_nil,Nat.zero_add])
                       all_goals (refine zj [] ?_ ?_ <;> (simp only [go_sem,ibF,ibR,upd,vI,cond_true,cond_false,if_true,Bool.false_eq_true,if_false,hbk,f12,f13,f14,f15,g5,g8,hj1,ha1,ha2,Nat.sub_zero,List.append_assoc,List.cons_append,List.nil_append,bedR]))
                     · skip
                       have h10 : b 10 = true:=hde 10 (by decide +kernel)
                       have h11 : b 11 = true:=hde 11 (by decide +kernel)
                       have h9 : b 9 = true:=hdn 10 9 (by decide +kernel) (by decide +kernel) h10
                       have f13 : b 13 = false:=dI hdn 13 12 (by decide +kernel) (by decide +kernel) hbk
                       have f14 : b 14 = false:=dI hdn 14 12 (by decide +kernel) (by decide +kernel) hbk
                       have f15 : b 15 = false:=dI hdn 15 12 (by decide +kernel) (by decide +kernel) hbk
                       cases g5 : b 5 <;> cases g8 : b 8
                       all_goals (simp only [go_sem,ibF,ibR,upd,vI,cond_true,cond_false,if_true,Bool.false_eq_true,if_false,h9,h10,h11,hbk,f13,f14,f15,g5,g8,hmin,Nat.sub_zero,hj1,bedR,List.length_map,List.length_take,List.length_drop,List.length_append,List.length_cons,List.length_nil,Nat.zero_add])
                       all_goals refine ⟨by omega,?_⟩
                       all_goals (refine zj [] ?_ ?_ <;> (simp only [go_sem,ibF,ibR,upd,vI,cond_true,cond_false,if_true,Bool.false_eq_true,if_false,h9,h10,h11,hbk,f13,f14,f15,g5,g8,hj1,ha1,ha2,Nat.sub_zero,List.append_assoc,List.cons_append,List.nil_append,bedR]))
                     · skip
                       have h8 : b 8 = true:=hde 8 (by decide +kernel)
                       have h12 : b 12 = true:=hde 12 (by decide +kernel)
                       have h5 : b 5 = true:=hdn 8 5 (by decide +kernel) (by decide +kernel) h8
                       have h7 : b 7 = true:=hdn 8 7 (by decide +kernel) (by decide +kernel) h8
                       have h10 : b 10 = true:=hdn 12 10 (by decide +kernel) (by decide +kernel) h12
                       have h11 : b 11 = true:=hdn 12 11 (by decide +kernel) (by decide +kernel) h12
                       have h0 : b 0 = true:=hdn 5 0 (by decide +kernel) (by decide +kernel) h5
                       have h4 : b 4 = true:=hdn 5 4 (by decide +kernel) (by decide +kernel) h5
                       have h6 : b 6 = true:=hdn 7 6 (by decide +kernel) (by decide +kernel) h7
                       have h9 : b 9 = true:=hdn 10 9 (by decide +kernel) (by decide +kernel) h10
                       have h2 : b 2 = true:=hdn 4 2 (by decide +kernel) (by decide +kernel) h4
                       have h3 : b 3 = true:=hdn 4 3 (by decide +kernel) (by decide +kernel) h4
                       have h1 : b 1 = true:=hdn 2 1 (by decide +kernel) (by decide +kernel) h2
                       have f14 : b 14 = false:=dI hdn 14 13 (by decide +kernel) (by decide +kernel) hbk
                       have f15 : b 15 = false:=dI hdn 15 13 (by decide +kernel) (by decide +kernel) hbk
                       (simp only [go_sem,ibF,ibR,upd,vI,cond_true,cond_false,if_true,Bool.false_eq_true,if_false,h0,h1,h2,h3,h4,h5,h6,h7,h8,h9,h10,h11,h12,hbk,f14,f15,hmin,Nat.sub_zero,hj1,bedR,List.length_map,List.length_take,List.length_drop,List.length_append,List.length_cons,List.length_nil,Nat.zero_add])
                       all_goals refine ⟨by omega,?_⟩
                       all_goals (refine zj [] ?_ ?_ <;> (simp only [go_sem,ibF,ibR,upd,vI,cond_true,cond_false,if_true,Bool.false_eq_true,if_false,h0,h1,h2,h3,h4,h5,h6,h7,h8,h9,h10,h11,h12,hbk,f14,f15,hj1,ha1,ha2,Nat.sub_zero,List.append_assoc,List.cons_append,List.nil_append,bedR]))
                     · skip
                       have h0 : b 0 = true:=hde 0 (by decide +kernel)
                       have h1 : b 1 = true:=hde 1 (by decide +kernel)
                       have h2 : b 2 = true:=hde 2 (by decide +kernel)
                       have h3 : b 3 = true:=hde 3 (by decide +kernel)
                       have h4 : b 4 = true:=hde 4 (by decide +kernel)
                       have h5 : b 5 = true:=hde 5 (by decide +kernel)
                       have h6 : b 6 = true:=hde 6 (by decide +kernel)
                       have h7 : b 7 = true:=hde 7 (by decide +kernel)
                       have h8 : b 8 = true:=hde 8 (by decide +kernel)
                       have h9 : b 9 = true:=hde 9 (by decide +kernel)
                       have h10 : b 10 = true:=hde 10 (by decide +kernel)
                       have h11 : b 11 = true:=hde 11 (by decide +kernel)
                       have h12 : b 12 = true:=hde 12 (by decide +kernel)
                       have h13 : b 13 = true:=hde 13 (by decide +kernel)
                       have f15 : b 15 = false:=dI hdn 15 14 (by decide +kernel) (by decide +kernel) hbk
                       (simp only [go_sem,ibF,ibR,upd,vI,cond_true,cond_false,if_true,Bool.false_eq_true,if_false,h0,h1,h2,h3,h4,h5,h6,h7,h8,h9,h10,h11,h12,h13,hbk,f15,hmin,Nat.sub_zero,hj1,bedR,List.length_map,List.length_take,List.length_drop,List.length_append,List.length_cons,List.length_nil,Nat.zero_add])
                       all_goals (refine zj [] ?_ ?_ <;> (simp only [go_sem,ibF,ibR,upd,vI,cond_true,cond_false,if_true,Bool.false_eq_true,if_false,h0,h1,h2,h3,h4,h5,h6,h7,h8,h9,h10,h11,h12,h13,hbk,f15,hj1,ha1,ha2,Nat.sub_zero,List.append_assoc,List.cons_append,List.nil_append,bedR]))
                     · skip
                       have h0 : b 0 = true:=hde 0 (by decide +kernel)
                       have h1 : b 1 = true:=hde 1 (by decide +kernel)
                       have h2 : b 2 = true:=hde 2 (by decide +kernel)
                       have h3 : b 3 = true:=hde 3 (by decide +kernel)
                       have h4 : b 4 = true:=hde 4 (by decide +kernel)
                       have h5 : b 5 = true:=hde 5 (by decide +kernel)
                       have h6 : b 6 = true:=hde 6 (by decide +kernel)
                       have h7 : b 7 = true:=hde 7 (by decide +kernel)
                       have h8 : b 8 = true:=hde 8 (by decide +kernel)
                       have h9 : b 9 = true:=hde 9 (by decide +kernel)
                       have h10 : b 10 = true:=hde 10 (by decide +kernel)
                       have h11 : b 11 = true:=hde 11 (by decide +kernel)
                       have h12 : b 12 = true:=hde 12 (by decide +kernel)
                       have h13 : b 13 = true:=hde 13 (by decide +kernel)
                       have h14 : b 14 = true:=hde 14 (by decide +kernel)
                       (simp only [go_sem,ibF,ibR,upd,vI,cond_true,cond_false,if_true,Bool.false_eq_true,if_false,h0,h1,h2,h3,h4,h5,h6,h7,h8,h9,h10,h11,h12,h13,h14,hbk,hmin,Nat.sub_zero,hj1,bedR,List.length_map,List.length_take,List.length_drop,List.length_append,List.length_cons,List.length_nil,Nat.zero_add])
                       all_goals (refine zj [] ?_ ?_ <;> (simp only [go_sem,ibF,ibR,upd,vI,cond_true,cond_false,if_true,Bool.false_eq_true,if_false,h0,h1,h2,h3,h4,h5,h6,h7,h8,h9,h10,h11,h12,h13,h14,hbk,hj1,ha1,ha2,Nat.sub_zero,List.append_assoc,List.cons_append,List.nil_append,bedR]))
                   · intro b vs hb
                     have fb : ∀ j v,vI b j v = v:=fun j v=>by rw [vI,if_pos (hb j)]
                     have hk1 : IntKind.i64.wrap ((k : Int) + 1) = ((k + 1 : Nat) : Int):=by rw [zI] <;> omega
                     have hlen : (l.take j ++ c :: l.drop j).length = l.length + 1:=by simp; omega
                     rw [hcd,← hjN] at hnx2
                     simp only [go_sem,ibF,ibR,fb,hb 15,cond_true]
                     refine zw (zk [1,2,3,4,5,6,7]) ?_
                     simp only [go_sem]
                     repeat refine zq ?_
                     refine zb (by kernel_rfl) fun K hK=>?_
                     simp only [go_sem,hk1]
                     (try simp (disch:=omega) only [zI])
                     repeat first | intro _ | refine ⟨by omega,?_⟩ | refine ⟨⟨by omega,by omega⟩,?_⟩
                     refine hK _ ?_
                     clear hK K
                     try simp only [go_sem]
                     refine ⟨hkN,zj [] ?_ ?_⟩
                     · try simp only [go_sem]
                       simp [hnx2]
                     · try simp only [go_sem]
                       simp [hnx2,hmin]
                       omega
           · have hkN' : k = N:=by
              have : ¬ k < N:=by simpa using hc
              omega
             have hB : (stB (4 + m.den) e k).1 = bedsM m i ∧ (stB (4 + m.den) e k).1.length ≤ 4:=by
              by_cases hiL : i < m.aims.length
              · obtain ⟨he1,he2,he3⟩:=heL hiL
                rw [if_pos hiL] at hN
                have hst:=(stB_ok (den:=4 + m.den) (by omega) he3 k).2
                refine ⟨?_,by omega⟩
                rw [hkN',hN]
                simp only [bedsM,if_pos hiL,hee]
              · rw [if_neg hiL] at hN
                rw [hkN',hN]
                simp [bedsM,if_neg hiL,stB]
             generalize (stB (4 + m.den) e k).2 = left
             generalize (stB (4 + m.den) e k).1 = bs at hB ⊢
             obtain ⟨hB,hB4⟩:=hB
             have hfin : aimM m i = ⟨201,finB (4 + m.den) bs⟩:=by rw [hB]; rfl
             have hsucc:=aimsN_succ m i
             have hi1 : IntKind.i64.wrap ((i : Int) + 1) = ((i + 1 : Nat) : Int):=by rw [zI] <;> omega
             have hml : i < 3:=by omega
             have hal : (aimsN m i).length = i:=by simp [aimsN]
             refine zf ?_
             simp only [go_sem]
             repeat refine zq ?_
             refine zb (by kernel_rfl) fun K hK=>?_
             simp only [go_sem]
             (try simp (disch:=omega) only [zI])
             repeat first | intro _ | refine ⟨by omega,?_⟩ | refine ⟨⟨by omega,by omega⟩,?_⟩
             refine hK _ ?_
             clear hK K
             refine zw (zk [1,2,3,4,5,141]) ?_
             simp only [go_sem]
             cases bs with
             | nil =>
               repeat refine zq ?_
               refine zc rfl (fun hc=>?_) (fun hc=>?_) <;> (try simp only [go_sem] at hc)
               repeat refine zq ?_
               refine awp_long ?_
               refine sops_take 1 (by kernel_rfl) fun K hK=>?_
               simp only [go_sem,List.take_succ_cons,List.take_zero,List.drop_succ_cons,List.drop_zero,List.append_eq,List.cons_append,List.nil_append]
               (try simp (disch:=omega) only [zI])
               repeat first | intro _ | refine ⟨by omega,?_⟩ | refine ⟨⟨by omega,by omega⟩,?_⟩
               refine hK _ rfl ?_
               clear hK K
               refine sops_litB (by simp [go_sem]) ?_
               simp only [go_sem,sLitBox,lay,List.replicate_succ,List.replicate_zero,List.flatten_cons,List.flatten_nil,List.map_cons,List.map_nil,List.cons_append,List.nil_append]
               repeat first | refine ⟨by omega,?_⟩ | refine ⟨⟨by omega,by omega⟩,?_⟩
               refine sops_end (by kernel_rfl) fun K hK=>?_
               simp only [go_sem,List.drop_succ_cons,List.drop_zero,List.append_eq,List.cons_append,List.nil_append]
               (try simp (disch:=omega) only [zI])
               repeat first | intro _ | refine ⟨by omega,?_⟩ | refine ⟨⟨by omega,by omega⟩,?_⟩
               refine hK _ ?_
               clear hK K
               refine zw (sub_arr 143 [[i64 201,i64 0,i64 0]] rfl (by rfl) (by simp) (by omega)) ?_
               refine zw (zk [1,2,3,4,5]) ?_
               simp only [go_sem]
               repeat refine zq ?_
               refine zb (by kernel_rfl) fun K hK=>?_
               simp only [go_sem]
               (try simp (disch:=omega) only [zI])
               repeat first | intro _ | refine ⟨by omega,?_⟩ | refine ⟨⟨by omega,by omega⟩,?_⟩
               refine hK _ ?_
               clear hK K
               refine zw (zk [1,2,3,4,5]) ?_
               simp only [go_sem]
               refine zw (sub_frzB 5 1 143 (by omega) (by omega) rfl rfl rfl (by simp)) ?_
               try simp only [go_sem]
               repeat refine zq ?_
               refine zb (by kernel_rfl) fun K hK=>?_
               simp only [go_sem,hal,List.length_map]
               (try simp (disch:=omega) only [zI])
               repeat first | intro _ | refine ⟨by omega,?_⟩ | refine ⟨⟨by omega,by omega⟩,?_⟩
               refine hK _ ?_
               clear hK K
               refine zw (zk [1,2,3,4]) ?_
               simp only [go_sem]
               repeat refine zq ?_
               refine zb (by kernel_rfl) fun K hK=>?_
               simp only [go_sem,hi1]
               (try simp (disch:=omega) only [zI])
               repeat first | intro _ | refine ⟨by omega,?_⟩ | refine ⟨⟨by omega,by omega⟩,?_⟩
               refine hK _ ?_
               clear hK K
               try simp only [go_sem]
               refine ⟨i + 1,by omega,by omega,zj [5,128] ?_ ?_⟩
               · try simp only [go_sem]
               · rw [hsucc,hfin]
                 try simp only [go_sem]
                 simp [aimR,bedR,finB]
             | cons c rest =>
               repeat refine zq ?_
               refine zc rfl (fun hc=>?_) (fun hc=>?_) <;> (try simp only [go_sem] at hc)
               · exfalso
                 omega
               refine zx ?_
               try simp only [go_sem]
               repeat refine zq ?_
               refine zb (by kernel_rfl) fun K hK=>?_
               simp only [go_sem,bedR]
               (try simp (disch:=omega) only [zI])
               repeat first | intro _ | refine ⟨by omega,?_⟩ | refine ⟨⟨by omega,by omega⟩,?_⟩
               refine hK _ ?_
               clear hK K
               refine zw (zk [1,2,3,4,5]) ?_
               simp only [go_sem]
               refine zw (sub_frzB 5 1 128 (by omega) (by omega) rfl rfl rfl (by simp)) ?_
               try simp only [go_sem]
               repeat refine zq ?_
               refine zb (by kernel_rfl) fun K hK=>?_
               simp only [go_sem,hal,List.length_map]
               (try simp (disch:=omega) only [zI])
               repeat first | intro _ | refine ⟨by omega,?_⟩ | refine ⟨⟨by omega,by omega⟩,?_⟩
               refine hK _ ?_
               clear hK K
               refine zw (zk [1,2,3,4]) ?_
               simp only [go_sem]
               repeat refine zq ?_
               refine zb (by kernel_rfl) fun K hK=>?_
               simp only [go_sem,hi1]
               (try simp (disch:=omega) only [zI])
               repeat first | intro _ | refine ⟨by omega,?_⟩ | refine ⟨⟨by omega,by omega⟩,?_⟩
               refine hK _ ?_
               clear hK K
               try simp only [go_sem]
               refine ⟨i + 1,by omega,by omega,zj [5,128] ?_ ?_⟩
               · try simp only [go_sem]
               · rw [hsucc,hfin]
                 try simp only [go_sem]
                 simp [aimR,bedR,finB]
     · have : i = aimN m:=by
        have : ¬ i < aimN m:=by simpa using hc
        omega
       subst this
       have hal : (aimsN m (aimN m)).length = aimN m:=by simp [aimsN]
       refine zw (sub_frzB 3 1 158 (by omega) (by omega) rfl rfl rfl (by simp [aimsN])) ?_
       refine zf ?_
       simp only [go_sem]
       try simp only [go_sem]
       refine zw (sub_ownB 3 4 196 52 2 (by omega) (by omega) rfl rfl) ?_
       repeat refine zq ?_
       refine zb (by kernel_rfl) fun K hK=>?_
       simp only [go_sem]
       (try simp (disch:=omega) only [zI])
       repeat first | intro _ | refine ⟨by omega,?_⟩ | refine ⟨⟨by omega,by omega⟩,?_⟩
       refine hK _ ?_
       clear hK K
       refine zw (zk [1,2,3,14]) ?_
       simp only [go_sem]
       repeat refine zq ?_
       refine zd ?_
       have hE1 : ∀ e ∈ m.ends,0 ≤ e.1 * 15 ∧ e.1 * 15 ≤ 1000000:=fun e he=>by
        have:=(hw.ends e he).1
        omega
       refine awp_uptoV (n:=205) (min 3 m.ends.length) (fun k vs=>[(1,.r (.rp (mtC m))),(2,.pt 2 (vs 2) 0),(3,.pt 3 (vs 3) 0),(14,.r (i64 (k : Int)))])
        (fun k vs=>[(2,.box [.r (i64 0),.r .ns,.r (i64 0),.r (i64 0),.r .ns]),(3,.box [.r (i64 (4 + m.den)),.r (aimsR (ruM m).aims),.r (i64 (2 + m.start % 7)),.r (i64 (m.out % 3)),.os 196 (vs 196) 2 0 k]),(196,.arr 52 2 (((m.ends.take k).map endM).map spanR))]) (fun _=>True) 0 (zj [] ?_ ?_) (Nat.zero_le _) trivial ?_
       · try simp only [go_sem]
       · try simp only [go_sem]
         rw [show List.take (aimN m) (List.map aimR (aimsN m (aimN m))) = List.map aimR (ruM m).aims from List.take_of_length_le (by simp [aimsN])]
       · intro k vs hk _
         repeat refine zq ?_
         refine awp_joinV (n:=205) (fun (_ : Unit) vs=>[(1,.r (.rp (mtC m))),(2,.pt 2 (vs 2) 0),(3,.pt 3 (vs 3) 0),(14,.r (i64 (k : Int))),(169,.r (.bo (decide (k < min 3 m.ends.length))))])
          (fun _ vs=>[(2,.box [.r (i64 0),.r .ns,.r (i64 0),.r (i64 0),.r .ns]),(3,.box [.r (i64 (4 + m.den)),.r (aimsR (ruM m).aims),.r (i64 (2 + m.start % 7)),.r (i64 (m.out % 3)),.os 196 (vs 196) 2 0 k]),(196,.arr 52 2 (((m.ends.take k).map endM).map spanR))]) (fun _=>True) (fun _ h=>h) ?_ ?_
         · repeat refine zq ?_
           refine zb (by kernel_rfl) fun K hK=>?_
           simp only [go_sem]
           (try simp (disch:=omega) only [zI])
           repeat' first | intro _ | refine And.intro ?_ ?_
           all_goals first | omega | skip
           all_goals (refine hK _ ?_; clear hK K)
           all_goals (try simp only [go_sem])
           all_goals (refine ⟨(),zj [] ?_ ?_⟩ <;> try simp only [go_sem])
           all_goals (rw [Bool.eq_iff_iff]; simp; omega)
         · intro _ vs _
           repeat refine zq ?_
           refine zc rfl (fun hc=>?_) (fun hc=>?_) <;> (try simp only [go_sem] at hc)
           · have hkl : k < min 3 m.ends.length:=by simpa using hc
             obtain ⟨e,he⟩:=opt_of_lt (show k < m.ends.length by omega)
             obtain ⟨⟨a0,a1⟩,b0,b1⟩:=hw.ends e (mem_of_opt he)
             have hel : (m.ends.take k).length = k:=by simp; omega
             have ht : m.ends.take (k + 1) = m.ends.take k ++ [e]:=by rw [List.take_add_one,he]; rfl
             have v1 : IntKind.i64.wrap e.1 = e.1:=by rw [zI] <;> omega
             have v2 : IntKind.i64.wrap e.2 = e.2:=by rw [zI] <;> omega
             have hk1 : IntKind.i64.wrap ((k : Int) + 1) = ((k + 1 : Nat) : Int):=by rw [zI] <;> omega
             refine zx ?_
             try simp only [go_sem]
             repeat refine zq ?_
             refine zd ?_
             repeat refine zq ?_
             refine zb (by kernel_rfl) fun K hK=>?_
             simp only [go_sem,he,v1]
             (try simp (disch:=omega) only [zI])
             repeat first | intro _ | refine ⟨by omega,?_⟩ | refine ⟨⟨by omega,by omega⟩,?_⟩
             refine hK _ ?_
             clear hK K
             refine zw (zk [1,2,3,14,15]) ?_
             simp only [go_sem]
             repeat refine zq ?_
             refine awp_dreg3 [(1,none),(3,some 3),(14,none),(15,none)] [3] follows (by decide +kernel) (by kernel_rfl) (by simp only [keysOk,List.mem_cons,List.not_mem_nil,forall_eq_or_imp,Oc.keyOf,go_sem]; simp) (by intro k hk; simp only [List.mem_cons,List.not_mem_nil,or_false] at hk; first | (subst hk; exact ⟨_,rfl⟩) | (rcases hk with rfl | rfl <;> exact ⟨_,rfl⟩) | (rcases hk with rfl | rfl | rfl <;> exact ⟨_,rfl⟩)) fun K hK=>?_
             simp only [go_sem,he,v2,List.length_map,hel]
             (try simp (disch:=omega) only [zI])
             repeat first | intro _ | refine ⟨by omega,?_⟩ | refine ⟨⟨by omega,by omega⟩,?_⟩
             refine hK _ ?_
             clear hK K
             refine zw (zk [1,2,3,14]) ?_
             simp only [go_sem]
             repeat refine zq ?_
             refine zb (by kernel_rfl) fun K hK=>?_
             simp only [go_sem,hk1]
             (try simp (disch:=omega) only [zI])
             repeat first | intro _ | refine ⟨by omega,?_⟩ | refine ⟨⟨by omega,by omega⟩,?_⟩
             refine hK _ ?_
             clear hK K
             try simp only [go_sem]
             refine ⟨hkl,zj [] ?_ ?_⟩
             · try simp only [go_sem]
             · try simp only [go_sem]
               simp [ht,endM,spanR]
           · have hkl : k = min 3 m.ends.length:=by
              have : ¬ k < min 3 m.ends.length:=by simpa using hc
              omega
             have hel : (m.ends.take k).length = k:=by simp; omega
             have htk : m.ends.take k = m.ends.take 3:=by
              rw [List.take_eq_take_iff]
              omega
             refine zf ?_
             simp only [go_sem]
             have hkm : min k m.ends.length = k:=by omega
             repeat refine zq ?_
             refine awp_dreg3 [(3,some 3)] [3] follows (by decide +kernel) (by kernel_rfl) (by simp only [keysOk,List.mem_cons,List.not_mem_nil,forall_eq_or_imp,Oc.keyOf,go_sem]; simp) (by intro k hk; simp only [List.mem_cons,List.not_mem_nil,or_false] at hk; first | (subst hk; exact ⟨_,rfl⟩) | (rcases hk with rfl | rfl <;> exact ⟨_,rfl⟩) | (rcases hk with rfl | rfl | rfl <;> exact ⟨_,rfl⟩)) fun K hK=>?_
             simp only [go_sem,List.length_map,hkm]
             (try simp (disch:=omega) only [zI])
             refine zh (hone) rfl (by simp only [go_sem,i64,ints,List.length_map,hkm]) (by simp only [go_sem,i64,ints,List.length_map,hkm]) (by first | exact .inl rfl | exact .inr rfl) ?_
             (try simp only [go_sem,List.length_map,hkm])
             (try simp (disch:=omega) only [zI])
             repeat first | intro _ | refine ⟨by omega,?_⟩ | refine ⟨⟨by omega,by omega⟩,?_⟩
             refine hK _ ?_
             clear hK K
             refine zw (zk [2,3]) ?_
             simp only [go_sem]
             have hen : (m.ends.take k).map endM ++ [(1000000,1000000)] = (ruM m).ends:=by rw [htk]; rfl
             have hel2 : (ruM m).ends.length = k + 1:=by rw [← hen]; simp [hkm]
             repeat refine zq ?_
             refine zb (by kernel_rfl) fun K hK=>?_
             simp only [go_sem]
             (try simp (disch:=omega) only [zI])
             repeat first | intro _ | refine ⟨by omega,?_⟩ | refine ⟨⟨by omega,by omega⟩,?_⟩
             refine hK _ ?_
             clear hK K
             refine zw (zk [2]) ?_
             simp only [go_sem]
             refine awp_fitV (F:=fun vs=>[(2,.pt 2 (vs 2) 0)]) (R:=fun vs=>[(2,.box [.r (i64 (ruM m).d),.r (aimsR (ruM m).aims),.r (i64 (ruM m).start),.r (i64 (ruM m).out),.os 196 (vs 196) 2 0 (ruM m).ends.length]),(196,.arr 52 2 ((ruM m).ends.map spanR))]) (zj [3] ?_ ?_) hQ
             · try simp only [go_sem]
             · try simp only [go_sem]
               rw [hel2,← hen,List.map_append]
               rfl
theorem mrules_ok (m : Mt) (hw : WfM m) : ACalls Try.prog 32 [.ag (mtC m)] (ruV (ruM m)):=by
 obtain ⟨c,hc,hwalk⟩:=mrules_walk m hw
 refine acalls_st (rs:=[ruV (ruM m)]) [.cell 2 28] Try.func32 hc (by kernel_rfl) Try.ntmps32 rfl (by simp) rfl fun C vs=>hwalk C vs _ fun vs=>?_
 refine zw (sub_frzB 2 4 196 (by omega) (by omega) rfl rfl rfl (by simp)) ?_
 try simp only [go_sem]
 refine ze ?_
 simp only [go_sem]
end Go.Proofs.Ytlbfkhikmigpbaa

namespace Go.Proofs.Ytlbfkhikmigpbaa
open Go Go.Oc
set_option linter.unusedSimpArgs false
set_option linter.unusedVariables false
set_option maxRecDepth 8000
theorem seqOk_of : ∀ {l : List Bd} {p : Option Int},l.Pairwise (fun a b=>a.b < b.b) → (∀ c ∈ l,c.b = 0 ∨ bedOk c.b = true) → (∀ q,p = some q → ∀ c ∈ l,q < c.b) → seqOk p l = true
 | [],_,_,_,_=>by simp [seqOk]
 | c :: l, p, hp, hb, hq => by
   obtain ⟨h1,h2⟩:=List.pairwise_cons.1 hp
   have ih:=seqOk_of (p:=some c.b) h2 (fun x hx=>hb x (by simp [hx])) fun q e x hx=>by injection e with e; subst e; exact h1 x hx
   have hc:=hb c (by simp)
   unfold seqOk
   rw [ih,Bool.and_true,Bool.and_eq_true]
   refine ⟨by simpa using hc,?_⟩
   cases p with
   | none=>rfl
   | some q=>simpa using hq q rfl c (by simp)
theorem bedsM_ok (m : Mt) (hw : WfM m) (i : Nat) : BedsI (4 + m.den) ((bedsM m i),4 + m.den - loS (bedsM m i)) ∧ (bedsM m i).length ≤ 4:=by
 obtain ⟨d0,d1⟩:=hw.den
 unfold bedsM
 split
 · rename_i h
   obtain ⟨e,he⟩:=opt_of_lt h
   have e2 : m.aims.getD i [] = e:=by simp [List.getD,he]
   rw [e2]
   obtain ⟨h1,h2⟩:=stB_ok (den:=4 + m.den) (by omega) (hw.aims e (mem_of_opt he)).2 4
   have hs:=h1.sum
   have h0:=h1.left0
   exact ⟨⟨h1.up,h1.ok,by simp only; omega,by simp only; omega⟩,h2⟩
 · exact ⟨⟨by simp,by simp,by simp [loS],by simp only [loS,List.map_nil,List.sum_nil]; omega⟩,by simp⟩
theorem aimM_ok (m : Mt) (hw : WfM m) (i : Nat) : aimOk (4 + m.den) (aimM m i) = true ∧ WfA (aimM m i) ∧ (aimM m i).beds.length ≤ 4:=by
 obtain ⟨d0,d1⟩:=hw.den
 obtain ⟨h,h4⟩:=bedsM_ok m hw i
 unfold aimM
 generalize bedsM m i = l at *
 have key : ∀ k : List Bd,k ≠ [] → k.length ≤ 4 → k.Pairwise (fun a b=>a.b < b.b) → (∀ c ∈ k,(c.b = 0 ∨ bedOk c.b = true) ∧ 0 ≤ c.lo ∧ c.lo ≤ c.hi ∧ c.hi ≤ 4 + m.den) → loS k ≤ 4 + m.den → 4 + m.den ≤ hiS k →
  aimOk (4 + m.den) ⟨201,k⟩ = true ∧ WfA ⟨201,k⟩ ∧ k.length ≤ 4:=fun k hne hl hp hc hlo hhi=>by
  refine ⟨?_,⟨by unfold I64; simp only; omega,fun c hx=>?_⟩,hl⟩
  · have h1 : seqOk none k = true:=seqOk_of hp (fun c hx=>(hc c hx).1) fun q e=>by cases e
    have h2 : chOk (4 + m.den) k = true:=by
     simp only [chOk,List.all_eq_true,Bool.and_eq_true,decide_eq_true_eq]
     exact fun c hx=>⟨⟨(hc c hx).2.1,(hc c hx).2.2.1⟩,(hc c hx).2.2.2⟩
    simp only [aimOk,h1,h2,Bool.and_true,Bool.and_eq_true,decide_eq_true_eq]
    refine ⟨⟨⟨by decide,?_⟩,hlo⟩,hhi⟩
    cases k with
    | nil=>exact absurd rfl hne
    | cons c k=>rfl
  · obtain ⟨g1,g2,g3,g4⟩:=hc c hx
    have hb : 0 ≤ c.b ∧ c.b ≤ 499:=by
     rcases g1 with g | g
     · omega
     · exact bedOk_le g
    unfold I64
    omega
 cases l with
 | nil =>
   refine key [⟨201,0,4 + m.den⟩] (by simp) (by simp) (by simp) (fun c hc=>?_) (by simp [loS]; omega) (by simp [hiS])
   simp only [List.mem_singleton] at hc
   subst hc
   exact ⟨.inr (show bedOk 201 = true by decide),by simp only; omega,by simp only; omega,by simp only; omega⟩
 | cons c l =>
   have hs:=h.sum
   have hl0:=h.left0
   have hup:=List.pairwise_cons.1 h.up
   have hc:=h.ok c (by simp)
   simp only at hs hl0
   have hlo : loS ((⟨c.b,c.lo,4 + m.den⟩ : Bd) :: l) = loS (c :: l):=by simp [loS]
   have hhi : 4 + m.den ≤ hiS ((⟨c.b,c.lo,4 + m.den⟩ : Bd) :: l):=by
    have : ∀ k : List Bd,(∀ x ∈ k,0 ≤ x.hi) → 0 ≤ hiS k:=by
     intro k
     induction k with
     | nil=>intro _; simp [hiS]
     | cons x k ih=>intro hk; have h1:=hk x (by simp); have h2:=ih fun y hy=>hk y (by simp [hy]); simp only [hiS,List.map_cons,List.sum_cons] at h2 ⊢; omega
    have h3:=this l fun x hx=>by have:=(h.ok x (by simp [hx])).2; omega
    simp only [hiS,List.map_cons,List.sum_cons] at h3 ⊢
    omega
   refine key (⟨c.b,c.lo,4 + m.den⟩ :: l) (by simp) (by simpa using h4) (List.pairwise_cons.2 ⟨hup.1,hup.2⟩) (fun x hx=>?_) (by rw [hlo]; omega) hhi
   rcases List.mem_cons.1 hx with rfl | hx
   · exact ⟨hc.1,hc.2.1,by simp only; omega,by simp only; omega⟩
   · exact h.ok x (by simp [hx])
theorem ruM_wf (m : Mt) (hw : WfM m) : WfR (ruM m):=by
 obtain ⟨d0,d1⟩:=hw.den
 refine ⟨⟨by unfold I64; simp only [ruM]; omega,fun a ha=>?_⟩⟩
 obtain ⟨i,_,rfl⟩:=List.mem_map.1 (show a ∈ (List.range (aimN m)).map (aimM m) from ha)
 exact (aimM_ok m hw i).2.1
theorem ends_ok (m : Mt) (hw : WfM m) : ∀ x ∈ (ruM m).ends,endOk x = true:=fun x hx=>by
 rcases List.mem_append.1 (show x ∈ ((m.ends.take 3).map endM) ++ [(1000000,1000000)] from hx) with hx | hx
 · obtain ⟨e,he,rfl⟩:=List.mem_map.1 hx
   obtain ⟨⟨a0,a1⟩,b0,b1⟩:=hw.ends e (List.mem_of_mem_take he)
   simp only [endOk,endM,withinL,List.all_cons,List.all_nil,Bool.and_true,Bool.and_eq_true,decide_eq_true_eq]
   refine ⟨?_,⟨?_,?_⟩,?_,?_⟩
   · exact decide_eq_true (by omega)
   all_goals omega
 · simp only [List.mem_singleton] at hx
   subst hx
   decide
theorem ruM_ok (m : Mt) (hw : WfM m) : ruE (ruM m) = 0:=by
 obtain ⟨d0,d1⟩:=hw.den
 have hc : checkV (ruM m).d (ruM m).aims = 0:=by
  have hn : 1 ≤ aimN m ∧ aimN m ≤ 3:=by unfold aimN; omega
  have h1 : (decide (20 < (ruM m).aims.length) || (ruM m).aims.any fun a=>decide (10 < a.beds.length)) = false:=by
   simp only [ruM,List.length_map,List.length_range,Bool.or_eq_false_iff,decide_eq_false_iff_not,List.any_eq_false]
   refine ⟨by omega,fun a ha=>?_⟩
   obtain ⟨i,_,rfl⟩:=List.mem_map.1 ha
   have:=(aimM_ok m hw i).2.2
   simp; omega
  have h2 : ((ruM m).aims.isEmpty || !(decide (1 ≤ (ruM m).d) && decide ((ruM m).d ≤ 3000))) = false:=by
   have e1 : (ruM m).aims.isEmpty = false:=by
    cases h : (ruM m).aims with
    | nil=>have:=congrArg List.length h; simp [ruM] at this; omega
    | cons=>rfl
   have e2 : 1 ≤ (ruM m).d ∧ (ruM m).d ≤ 3000:=by simp only [ruM]; omega
   rw [e1]
   simp only [Bool.false_or,Bool.not_eq_false',Bool.and_eq_true,decide_eq_true_eq]
   exact e2
  have h3 : (ruM m).aims.all (aimOk (ruM m).d) = true:=List.all_eq_true.2 fun a ha=>by
   obtain ⟨i,_,rfl⟩:=List.mem_map.1 (show a ∈ (List.range (aimN m)).map (aimM m) from ha)
   exact (aimM_ok m hw i).1
  simp only [checkV,h1,h2,h3,Bool.false_eq_true,if_false,if_true]
 have he:=List.all_eq_true.2 (ends_ok m hw)
 have hl : lastE (ruM m) = 1000000:=by
  unfold lastE
  simp [ruM]
 have s : 2 ≤ (ruM m).start ∧ (ruM m).start ≤ 40:=by simp only [ruM]; omega
 have o : 0 ≤ (ruM m).out ∧ (ruM m).out ≤ 2:=by simp only [ruM]; omega
 have n : 1 ≤ (ruM m).ends.length ∧ (ruM m).ends.length ≤ 10:=by simp only [ruM,List.length_append,List.length_map,List.length_take,List.length_singleton]; omega
 simp [ruE,hc,he,hl,s,o,n]
end Go.Proofs.Ytlbfkhikmigpbaa

namespace Go.Proofs.Ytlbfkhikmigpbaa
open Go Go.Oc
set_option linter.unusedSimpArgs false
set_option linter.unusedVariables false
set_option maxRecDepth 8000
set_option maxHeartbeats 4000000
theorem pv_true {r : Ru} (hw : WfR r) (hE : ruE r = 0) {most : Bool} {T : List (List Int)} (hf : formE r T = 0) (hp : provesO r most T = none) : ACalls Try.prog 27 [ruV r,tabR T,.bo most] (.tu [.bo true,i64 0,i64 0,i64 0]):=by
 have h:=proves_ok r hw most T
 have e : provesE r T = 0:=by unfold provesE; rw [if_pos hE,hf]
 rw [provesR,if_pos e,hp] at h
 exact h
theorem pv_false {r : Ru} (hw : WfR r) (hE : ruE r = 0) {most : Bool} {T : List (List Int)} {k p : Nat} (hf : formE r T = 0) (hp : provesO r most T = some (k,p)) : ACalls Try.prog 27 [ruV r,tabR T,.bo most] (.tu [.bo false,i64 (k : Int),i64 (p : Int),i64 0]):=by
 have h:=proves_ok r hw most T
 have e : provesE r T = 0:=by unfold provesE; rw [if_pos hE,hf]
 rw [provesR,if_pos e,hp] at h
 exact h
theorem pv_facts {r : Ru} (hw : WfR r) (hE : ruE r = 0) (most : Bool) {k p : Nat} (hk : k < r.ends.length) (hp1 : 2 ≤ p) (hp2 : (p : Int) ≤ r.start) (less : Int) (hl0 : 0 ≤ less) :
 ACalls Try.prog 27 [ruV r,tabR (tabF r most),.bo most] (.tu [.bo true,i64 0,i64 0,i64 0]) ∧
 (∀ n,n = ((tabF r most).getD k []).getD p 0 + (if most then -1 else 1) → 0 ≤ n → n ≤ 1000000 → ACalls Try.prog 27 [ruV r,tabR (setT (tabF r most) k p n),.bo most] (.tu [.bo false,i64 (k : Int),i64 (p : Int),i64 0])) ∧
 ∀ n,n = (if most then min 1000000 (((tabF r most).getD 0 []).getD p 0 + less) else max 0 (((tabF r most).getD 0 []).getD p 0 - less)) → ACalls Try.prog 27 [ruV r,tabR (setT (tabF r most) 0 p n),.bo most] (.tu [.bo true,i64 0,i64 0,i64 0]):=by
 obtain ⟨hG,e1,_,_⟩:=ruG_of hE
 have hH:=refH_of hE
 have hlow:=lowest_le r
 refine ⟨pv_true hw hE (tabF_form hG most) (tabF_proves hG most),fun n hn n0 n1=>?_,fun n hn=>?_⟩
 · refine pv_false hw hE (set_form hG hk (by omega) hp2 ⟨n0,n1⟩) (set_bad hG hH hk (by omega) hp2 ⟨n0,n1⟩ ?_)
   cases most <;> simp only [Bool.false_eq_true,if_false,if_true] at hn ⊢ <;> omega
 · have hb:=tabF_bound hG most (show 0 < r.ends.length by omega) hp2
   have hn2 : 0 ≤ n ∧ n ≤ 1000000:=by
    cases most <;> simp only [Bool.false_eq_true,if_false,if_true] at hn <;> omega
   refine pv_true hw hE (set_form hG (by omega) (by omega) hp2 hn2) (set_easy hG hH (by omega) hp2 ?_)
   cases most <;> simp only [Bool.false_eq_true,if_false,if_true] at hn ⊢ <;> omega
theorem proves_law (m : Mt) (hw : WfM m) (a b less : Int) (ha : 0 ≤ a ∧ a ≤ 255) (hb : 0 ≤ b ∧ b ≤ 255) (hle : 0 ≤ less ∧ less ≤ 65535) : ACalls Try.prog 8 [.ag (mtC m),.ag [it8 a,it8 b],.it .u16 less] (.bo true):=by
 have hkn:=known_ok
 have hmr:=mrules_ok m hw
 have hE:=ruM_ok m hw
 have hwR:=ruM_wf m hw
 obtain ⟨l1,l2,l3⟩ : (ruM m).aims.length ≤ 1000000 ∧ (ruM m).ends.length ≤ 1000000 ∧ ∀ a ∈ (ruM m).aims,a.beds.length ≤ 1000000:=by
  refine ⟨?_,?_,fun a ha=>?_⟩
  · have : aimN m ≤ 3:=by unfold aimN; omega
    simp only [ruM,List.length_map,List.length_range]; omega
  · simp only [ruM,List.length_append,List.length_map,List.length_take,List.length_singleton]; omega
  · obtain ⟨i,_,rfl⟩:=List.mem_map.1 (show a ∈ (List.range (aimN m)).map (aimM m) from ha)
    have:=(aimM_ok m hw i).2.2
    omega
 generalize ruM m = r at *
 obtain ⟨hG,e1,_,_⟩:=ruG_of hE
 have hH:=refH_of hE
 have hrl:=rules_ok r l1 l2 l3
 have hta:=table_ok r hwR
 have s2:=hG.s2
 have s40:=hG.s40
 have h10:=hG.h10
 rw [hE] at hta
 simp only [tabsV,if_pos hE] at hta
 have z1 : 0 ≤ a % r.ends.length ∧ a % r.ends.length < r.ends.length:=⟨Int.emod_nonneg _ (by omega),Int.emod_lt_of_pos _ (by omega)⟩
 have z2 : 0 ≤ b % (r.start - 1) ∧ b % (r.start - 1) < r.start - 1:=⟨Int.emod_nonneg _ (by omega),Int.emod_lt_of_pos _ (by omega)⟩
 have q1 : IntKind.i64.wrap a = a:=by rw [zI] <;> omega
 have q2 : IntKind.i64.wrap b = b:=by rw [zI] <;> omega
 have q3 : IntKind.i64.wrap less = less:=by rw [zI] <;> omega
 obtain ⟨k,hk⟩ : ∃ k : Nat,a % r.ends.length = (k : Int):=⟨_,(Int.toNat_of_nonneg z1.1).symm⟩
 obtain ⟨p,hp⟩ : ∃ p : Nat,2 + b % (r.start - 1) = (p : Int):=⟨_,(Int.toNat_of_nonneg (show 0 ≤ 2 + b % (r.start - 1) by omega)).symm⟩
 have t1 : a.tmod r.ends.length = k:=by rw [Int.tmod_eq_emod_of_nonneg ha.1,hk]
 have t2 : b.tmod (r.start - 1) = (p : Int) - 2:=by rw [Int.tmod_eq_emod_of_nonneg hb.1]; omega
 have n1 : ((r.ends.length : Int) == 0) = false:=beq_eq_false_iff_ne.2 (by omega)
 have n2 : (r.start - 1 == 0) = false:=beq_eq_false_iff_ne.2 (by omega)
 have w2 : IntKind.i64.wrap (r.start - 1) = r.start - 1:=by rw [zI] <;> omega
 have w3 : IntKind.i64.wrap (2 + ((p : Int) - 2)) = p:=by rw [zI] <;> omega
 have w4 : IntKind.i64.wrap (r.start + 1) = r.start + 1:=by rw [zI] <;> omega
 have hkl : k < r.ends.length:=by omega
 have hp1 : 2 ≤ p:=by omega
 have hp2 : (p : Int) ≤ r.start:=by omega
 obtain ⟨pa0,pb0,pc0⟩:=pv_facts hwR hE false hkl hp1 hp2 less hle.1
 have hl0 : (tabF r false).length = r.ends.length:=tabF_len r false
 have hr0 : ∀ j,j < r.ends.length → ((tabF r false).getD j []).length = r.start.toNat + 1:=fun j hj=>tabF_rowlen false hj
 have hv0 : ∀ j,j < r.ends.length → 0 ≤ ((tabF r false).getD j []).getD p 0 ∧ ((tabF r false).getD j []).getD p 0 ≤ 1000000:=fun j hj=>tabF_bound hG false hj hp2
 generalize tabF r false = T0 at *
 obtain ⟨pa1,pb1,pc1⟩:=pv_facts hwR hE true hkl hp1 hp2 less hle.1
 have hl1 : (tabF r true).length = r.ends.length:=tabF_len r true
 have hr1 : ∀ j,j < r.ends.length → ((tabF r true).getD j []).length = r.start.toNat + 1:=fun j hj=>tabF_rowlen true hj
 have hv1 : ∀ j,j < r.ends.length → 0 ≤ ((tabF r true).getD j []).getD p 0 ∧ ((tabF r true).getD j []).getD p 0 ≤ 1000000:=fun j hj=>tabF_bound hG true hj hp2
 generalize tabF r true = T1 at *
 clear hG hH hwR l1 l2 l3 z1 z2 hk hp
 refine acalls_st (rs:=[.bo true]) [.tmp 6] Try.func8 rfl (by kernel_rfl) Try.ntmps8 rfl (by simp) rfl fun C vs=>?_
 repeat refine zq ?_
 refine zb (by kernel_rfl) fun K hK=>?_
 simp only [go_sem]
 (try simp (disch:=omega) only [zI])
 repeat first | intro _ | refine ⟨by omega,?_⟩ | refine ⟨⟨by omega,by omega⟩,?_⟩
 refine hK _ ?_
 clear hK K
 refine zw (sub_frzP 4 4 [it8 a,it8 b] (by omega) rfl rfl) ?_
 refine zw (zk [2,3,4]) ?_
 simp only [go_sem]
 repeat refine zq ?_
 refine zb (by kernel_rfl) fun K hK=>?_
 simp only [go_sem]
 (try simp (disch:=omega) only [zI])
 refine zh (hmr) rfl (by simp only [go_sem,i64,ints]) (by simp only [go_sem,i64,ints]) (by first | exact .inl rfl | exact .inr rfl) ?_
 (try simp only [go_sem])
 (try simp (disch:=omega) only [zI])
 repeat first | intro _ | refine ⟨by omega,?_⟩ | refine ⟨⟨by omega,by omega⟩,?_⟩
 refine hK _ ?_
 clear hK K
 refine zw (sub_frzP 7 7 (ruC r) (by omega) rfl rfl) ?_
 refine zw (zk [2,4,7]) ?_
 simp only [go_sem]
 repeat refine zq ?_
 refine zb (by kernel_rfl) fun K hK=>?_
 simp only [go_sem]
 (try simp (disch:=omega) only [zI])
 refine zh (hrl) rfl (by simp only [go_sem,i64,ints]) (by simp only [go_sem,i64,ints]) (by first | exact .inl rfl | exact .inr rfl) ?_
 (try simp only [go_sem])
 (try simp (disch:=omega) only [zI])
 refine zh (hta) rfl (by simp only [go_sem,i64,ints]) (by simp only [go_sem,i64,ints]) (by first | exact .inl rfl | exact .inr rfl) ?_
 (try simp only [go_sem])
 (try simp (disch:=omega) only [zI])
 repeat first | intro _ | refine ⟨by omega,?_⟩ | refine ⟨⟨by omega,by omega⟩,?_⟩
 refine hK _ ?_
 clear hK K
 refine zw (zk [2,4,7,8,9,10]) ?_
 simp only [go_sem]
 repeat refine zq ?_
 refine zb (by kernel_rfl) fun K hK=>?_
 simp only [go_sem,hl0,hl1,bne_self_eq_false]
 (try simp (disch:=omega) only [zI])
 repeat first | intro _ | refine ⟨by omega,?_⟩ | refine ⟨⟨by omega,by omega⟩,?_⟩
 refine hK _ ?_
 clear hK K
 refine zw (zk [2,4,7,8,9,52]) ?_
 simp only [go_sem]
 repeat refine zq ?_
 refine zc rfl (fun hc=>?_) (fun hc=>?_) <;> (try simp only [go_sem] at hc)
 refine zx ?_
 try simp only [go_sem]
 repeat refine zq ?_
 refine zb (by kernel_rfl) fun K hK=>?_
 simp only [go_sem]
 (try simp (disch:=omega) only [zI])
 repeat first | intro _ | refine ⟨by omega,?_⟩ | refine ⟨⟨by omega,by omega⟩,?_⟩
 refine hK _ ?_
 clear hK K
 refine zw (zk [2,4,7,8,9,11]) ?_
 simp only [go_sem]
 repeat refine zq ?_
 refine zd ?_
 refine awp_uptoV (n:=216) 2 (fun i vs=>[(2,.r (.it .u16 less)),(4,.r (.rp [it8 a,it8 b])),(7,.r (.rp (ruC r))),(8,.r (tabR T0)),(9,.r (tabR T1)),(11,.r (i64 (i : Int)))])
  (fun i vs=>[]) (fun _=>True) 0 (zj [3] ?_ ?_) (Nat.zero_le _) trivial ?_
 · try simp only [go_sem]
 · try simp only [go_sem]
 · intro i vs hi _
   have h012 : i = 0 ∨ i = 1 ∨ i = 2:=by omega
   rcases h012 with rfl | rfl | rfl
   · have hkT : k < T0.length:=by omega
     have eb : ((0 : Int) == 1) = false:=rfl
     have h0T : 0 < T0.length:=by omega
     have hrk:=hr0 k hkl
     have hrz:=hr0 0 (by omega)
     have hvk:=hv0 k hkl
     have hv0:=hv0 0 (by omega)
     have hln : ∀ row ∈ T0,row.length ≤ 1000000:=fun row hm=>by
      obtain ⟨j,hj⟩:=List.getElem?_of_mem hm
      have hjl:=(List.getElem?_eq_some_iff.1 hj).1
      have:=hr0 j (by omega)
      rw [List.getD_eq_getElem?_getD,hj] at this
      simp only [Option.getD_some] at this
      omega
     have hli:=lists_ok T0 (by omega) hln
     have hnk:=lists_new T0 k hkT (by omega) hln
     have hn0:=lists_new T0 0 h0T (by omega) hln
     obtain ⟨vk,hvk'⟩:=opt_of_lt (show p < (T0.getD k []).length by omega)
     obtain ⟨v0,hv0'⟩:=opt_of_lt (show p < (T0.getD 0 []).length by omega)
     have ek : (T0.getD k []).getD p 0 = vk:=by rw [List.getD_eq_getElem?_getD (i:=p),hvk']; rfl
     have e0 : (T0.getD 0 []).getD p 0 = v0:=by rw [List.getD_eq_getElem?_getD (i:=p),hv0']; rfl
     rw [ek] at hvk pb0
     rw [e0] at hv0 pc0
     repeat refine zq ?_
     refine zb (by kernel_rfl) fun K hK=>?_
     simp only [go_sem]
     (try simp (disch:=omega) only [zI])
     repeat first | intro _ | refine ⟨by omega,?_⟩ | refine ⟨⟨by omega,by omega⟩,?_⟩
     refine hK _ ?_
     clear hK K
     refine zw (zk [2,4,7,8,9,11,54]) ?_
     simp only [go_sem]
     repeat refine zq ?_
     refine zc rfl (fun hc=>?_) (fun hc=>?_) <;> (try simp only [go_sem] at hc)
     refine zx ?_
     try simp only [go_sem]
     repeat refine zq ?_
     refine zd ?_
     repeat refine zq ?_
     refine zb (by kernel_rfl) fun K hK=>?_
     simp only [go_sem]
     (try simp (disch:=omega) only [zI])
     repeat first | intro _ | refine ⟨by omega,?_⟩ | refine ⟨⟨by omega,by omega⟩,?_⟩
     refine hK _ ?_
     clear hK K
     refine zw (zk [2,4,7,8,9,11,12]) ?_
     simp only [go_sem]
     repeat refine zq ?_
     refine zb (by kernel_rfl) fun K hK=>?_
     simp only [go_sem]
     (try simp (disch:=omega) only [zI])
     refine zh (hrl) rfl (by simp only [go_sem,i64,ints]) (by simp only [go_sem,i64,ints]) (by first | exact .inl rfl | exact .inr rfl) ?_
     (try simp only [go_sem])
     (try simp (disch:=omega) only [zI])
     refine zh (hli) rfl (by simp only [go_sem,i64,ints]) (by simp only [go_sem,i64,ints]) (by first | exact .inl rfl | exact .inr rfl) ?_
     (try simp only [go_sem])
     (try simp (disch:=omega) only [zI])
     refine zh (pa0) rfl (by simp only [go_sem,i64,ints,eb]) (by simp only [go_sem,i64,ints,eb]) (by first | exact .inl rfl | exact .inr rfl) ?_
     (try simp only [go_sem,eb])
     (try simp (disch:=omega) only [zI])
     repeat first | intro _ | refine ⟨by omega,?_⟩ | refine ⟨⟨by omega,by omega⟩,?_⟩
     refine hK _ ?_
     clear hK K
     refine zw (zk [2,4,7,8,9,11,12,13,14,15,16]) ?_
     simp only [go_sem]
     repeat refine zq ?_
     refine zb (by kernel_rfl) fun K hK=>?_
     simp only [go_sem,bne_self_eq_false]
     (try simp (disch:=omega) only [zI])
     repeat first | intro _ | refine ⟨by omega,?_⟩ | refine ⟨⟨by omega,by omega⟩,?_⟩
     refine hK _ ?_
     clear hK K
     refine zw (zk [2,4,7,8,9,11,12,87]) ?_
     simp only [go_sem]
     repeat refine zq ?_
     refine zc rfl (fun hc=>?_) (fun hc=>?_) <;> (try simp only [go_sem] at hc)
     refine zx ?_
     try simp only [go_sem]
     repeat refine zq ?_
     refine zg follows (by decide +kernel) (by kernel_rfl) fun K hK=>?_
     simp only [go_sem,q1,q2,hl0,t1,w2,t2,n1,n2,w3]
     (try simp (disch:=omega) only [zI])
     repeat first | intro _ | refine ⟨by omega,?_⟩ | refine ⟨⟨by omega,by omega⟩,?_⟩
     refine hK _ ?_
     clear hK K
     refine zw (zk [2,4,7,8,9,11,12,17,18]) ?_
     simp only [go_sem]
     repeat refine zq ?_
     refine awp_long ?_
     refine sops_take 2 (by kernel_rfl) fun K hK=>?_
     simp only [go_sem,List.take_succ_cons,List.take_zero,List.drop_succ_cons,List.drop_zero,List.append_eq,List.cons_append,List.nil_append]
     (try simp (disch:=omega) only [zI])
     refine xcall_new hnk [(20,920),(30,930)] rfl (by rfl) (by rfl) (by rfl) (by rfl) (by rfl) ?_
     simp only [go_sem,idK,backA,backC,backL,pinOf,lendKey]
     rw [back_cellQ (q':=930) (by rfl)]
     repeat first | intro _ | refine ⟨by omega,?_⟩ | refine ⟨⟨by omega,by omega⟩,?_⟩
     refine hK _ rfl ?_
     clear hK K
     refine sops_end (by kernel_rfl) fun K hK=>?_
     simp only [go_sem,List.drop_succ_cons,List.drop_zero,List.append_eq,List.cons_append,List.nil_append]
     (try simp (disch:=omega) only [zI])
     repeat first | intro _ | refine ⟨by omega,?_⟩ | refine ⟨⟨by omega,by omega⟩,?_⟩
     refine hK _ ?_
     clear hK K
     refine zw (zk [2,4,7,8,9,11,12,17,18,19]) ?_
     simp only [go_sem]
     have hcd : ∀ v,(List.drop (k * 1) (cellQ 930 T0 k T0.length v)).headD (.r .un) = .os 930 v 1 0 (r.start.toNat + 1):=fun v=>by
      rw [Nat.mul_one,List.headD_eq_head?_getD,List.head?_drop,cellQ_get hkT,hrk]; rfl
     have hcl : ∀ v,(cellQ 930 T0 k T0.length v).length = T0.length:=fun v=>cellK_len (q:=930) (Nat.le_refl _) hkT
     have nb : ((r.start.toNat : Int) + 1 != r.start + 1) = false:=by simp; omega
     repeat refine zq ?_
     refine zg follows (by decide +kernel) (by kernel_rfl) fun K hK=>?_
     simp only [go_sem,hcd,hcl,w4,nb]
     (try simp (disch:=omega) only [zI])
     repeat first | intro _ | refine ⟨by omega,?_⟩ | refine ⟨⟨by omega,by omega⟩,?_⟩
     refine hK _ ?_
     clear hK K
     refine zw (zk [2,4,7,8,9,11,12,17,18,19,112]) ?_
     simp only [go_sem]
     repeat refine zq ?_
     refine zc rfl (fun hc=>?_) (fun hc=>?_) <;> (try simp only [go_sem] at hc)
     refine zx ?_
     try simp only [go_sem]
     have hpl : p < r.start.toNat + 1:=by omega
     have hplk : p < (T0.getD k []).length:=by omega
     repeat refine zq ?_
     refine zb (by kernel_rfl) fun K hK=>?_
     simp only [go_sem,hcd,hcl,hvk']
     (try simp (disch:=omega) only [zI])
     repeat first | intro _ | refine ⟨by omega,?_⟩ | refine ⟨⟨by omega,by omega⟩,?_⟩
     refine hK _ ?_
     clear hK K
     refine zw (zk [2,4,7,8,9,11,12,17,18,19]) ?_
     simp only [go_sem]
     obtain ⟨nv,hnv⟩ : ∃ nv : Int,nv = vk + 1:=⟨_,rfl⟩
     rw [← hnv,show [RV.it IntKind.i64 nv] = (fun x : Int=>[i64 x]) nv from rfl,← List.map_set]
     have hpk:=pb0 nv (by rw [hnv]; rfl)
     have hset : setT T0 k p nv = T0.set k ((T0.getD k []).set p nv):=rfl
     rw [hset] at hpk
     have hl' : ((T0.getD k []).set p nv).length = r.start.toNat + 1:=by rw [List.length_set]; exact hrk
     have hn' : ((T0.getD k []).set p nv)[p]? = some nv:=List.getElem?_set_self hplk
     generalize (T0.getD k []).set p nv = row' at *
     repeat refine zq ?_
     refine zb (by kernel_rfl) fun K hK=>?_
     simp only [go_sem,hcd,hcl,hn']
     (try simp (disch:=omega) only [zI])
     repeat first | intro _ | refine ⟨by omega,?_⟩ | refine ⟨⟨by omega,by omega⟩,?_⟩
     refine hK _ ?_
     clear hK K
     refine zw (zk [2,4,7,8,9,11,12,17,18,19,20]) ?_
     simp only [go_sem]
     refine zw (sub_frzBA (tb:=46) (sb:=1) (sz:=1) (off:=0) (m:=r.start.toNat + 1) (ty:=3) (es:=row'.map fun x=>[i64 x]) 920 k 930 (by omega) (by omega) rfl ((cellQ_get hkT).trans (by rw [hrk]; rfl)) rfl (by simp; omega)) ?_
     try simp only [go_sem]
     have etk : List.take (r.start.toNat + 1) (row'.map fun x=>[i64 x]) = row'.map fun x=>[i64 x]:=List.take_of_length_le (by simp; omega)
     rw [etk,cellQ_set hkT]
     refine zw (sub_arr 920 ((T0.set k row').map fun row=>[ints row]) rfl (flat_tab _) (fun e he=>by obtain ⟨x,_,rfl⟩:=List.mem_map.1 he; rfl) (by omega)) ?_
     try simp only [go_sem]
     refine zw (sub_frz (ty:=46) (sz:=1) (off:=0) (m:=T0.length) (es:=(T0.set k row').map fun row=>[ints row]) 19 920 (by omega) (by try simp only [go_sem]) rfl (by simp)) ?_
     have etT : (((T0.set k row').map fun row=>[ints row]).drop 0).take T0.length = (T0.set k row').map fun row=>[ints row]:=by
      rw [List.drop_zero,List.take_of_length_le (by simp)]
     rw [etT]
     refine zw (zk [2,4,7,8,9,11,12,17,18,19,20]) ?_
     simp only [go_sem]
     repeat refine zq ?_
     refine awp_joinV (n:=216) (fun (x : Bool) vs=>[(2,.r (.it .u16 less)),(4,.r (.rp [it8 a,it8 b])),(7,.r (.rp (ruC r))),(8,.r (tabR T0)),(9,.r (tabR T1)),(11,.r (i64 0)),(12,.r (tabR T0)),(17,.r (i64 (k : Int))),(18,.r (i64 (p : Int))),(19,.r (tabR (T0.set k row'))),(137,.r (.bo x))]) (fun _ vs=>[]) (fun x=>x = true → 0 ≤ nv ∧ nv ≤ 1000000) (fun _ h=>h) ?_ ?_
     · repeat refine zq ?_
       refine zb (by kernel_rfl) fun K hK=>?_
       simp only [go_sem]
       (try simp (disch:=omega) only [zI])
       repeat' first | intro _ | refine And.intro ?_ ?_
       all_goals (refine hK _ ?_; clear hK K)
       · exact ⟨decide (nv ≤ 1000000),fun h=>⟨by omega,by simpa using h⟩,zj [] (by try simp only [go_sem]) (by try simp only [go_sem])⟩
       · exact ⟨false,(fun h=>by cases h),zj [] (by try simp only [go_sem]) (by try simp only [go_sem])⟩
     intro x vs hx
     repeat refine zq ?_
     refine awp_joinV (n:=216) (fun (_ : Unit) vs=>[(2,.r (.it .u16 less)),(4,.r (.rp [it8 a,it8 b])),(7,.r (.rp (ruC r))),(8,.r (tabR T0)),(9,.r (tabR T1)),(11,.r (i64 0)),(12,.r (tabR T0)),(18,.r (i64 (p : Int)))]) (fun _ vs=>[]) (fun _=>True) (fun _ h=>h) ?_ ?_
     · repeat refine zq ?_
       refine zc rfl (fun hc=>?_) (fun hc=>?_) <;> (try simp only [go_sem] at hc)
       · have hpk:=hpk (hx (by simpa using hc)).1 (hx (by simpa using hc)).2
         repeat refine zq ?_
         refine zb (by kernel_rfl) fun K hK=>?_
         simp only [go_sem]
         (try simp (disch:=omega) only [zI])
         refine zh (hrl) rfl (by simp only [go_sem,i64,ints]) (by simp only [go_sem,i64,ints]) (by first | exact .inl rfl | exact .inr rfl) ?_
         (try simp only [go_sem])
         (try simp (disch:=omega) only [zI])
         refine zh (hpk) rfl (by simp only [go_sem,i64,ints,eb]) (by simp only [go_sem,i64,ints,eb]) (by first | exact .inl rfl | exact .inr rfl) ?_
         (try simp only [go_sem,eb])
         (try simp (disch:=omega) only [zI])
         repeat first | intro _ | refine ⟨by omega,?_⟩ | refine ⟨⟨by omega,by omega⟩,?_⟩
         refine hK _ ?_
         clear hK K
         refine zw (zk [2,4,7,8,9,11,12,13,14,15,16,17,18]) ?_
         simp only [go_sem]
         repeat refine zq ?_
         refine zb (by kernel_rfl) fun K hK=>?_
         simp only [go_sem,bne_self_eq_false]
         (try simp (disch:=omega) only [zI])
         repeat first | intro _ | refine ⟨by omega,?_⟩ | refine ⟨⟨by omega,by omega⟩,?_⟩
         refine hK _ ?_
         clear hK K
         refine zw (zk [2,4,7,8,9,11,12,18,163]) ?_
         simp only [go_sem]
         repeat refine zq ?_
         refine zc rfl (fun hc=>?_) (fun hc=>?_) <;> (try simp only [go_sem] at hc)
         refine zx ?_
         try simp only [go_sem]
         exact ⟨(),zj [] (by try simp only [go_sem]) (by try simp only [go_sem])⟩
       · refine zx ?_
         try simp only [go_sem]
         exact ⟨(),zj [] (by try simp only [go_sem]) (by try simp only [go_sem])⟩
     intro _ vs _
     repeat refine zq ?_
     refine awp_long ?_
     refine sops_take 2 (by kernel_rfl) fun K hK=>?_
     simp only [go_sem,List.take_succ_cons,List.take_zero,List.drop_succ_cons,List.drop_zero,List.append_eq,List.cons_append,List.nil_append]
     (try simp (disch:=omega) only [zI])
     refine xcall_new hn0 [(20,920),(30,930)] rfl (by rfl) (by rfl) (by rfl) (by rfl) (by rfl) ?_
     simp only [go_sem,idK,backA,backC,backL,pinOf,lendKey]
     rw [back_cellQ (q':=930) (by rfl)]
     repeat first | intro _ | refine ⟨by omega,?_⟩ | refine ⟨⟨by omega,by omega⟩,?_⟩
     refine hK _ rfl ?_
     clear hK K
     refine sops_end (by kernel_rfl) fun K hK=>?_
     simp only [go_sem,List.drop_succ_cons,List.drop_zero,List.append_eq,List.cons_append,List.nil_append]
     (try simp (disch:=omega) only [zI])
     repeat first | intro _ | refine ⟨by omega,?_⟩ | refine ⟨⟨by omega,by omega⟩,?_⟩
     refine hK _ ?_
     clear hK K
     refine zw (zk [2,4,7,8,9,11,12,18,21]) ?_
     simp only [go_sem]
     have hcd0 : ∀ v,(cellQ 930 T0 0 T0.length v).headD (.r .un) = .os 930 v 1 0 (r.start.toNat + 1):=fun v=>by
      rw [List.headD_eq_head?_getD,List.head?_eq_getElem?,cellQ_get h0T,hrz]; rfl
     have hcl0 : ∀ v,(cellQ 930 T0 0 T0.length v).length = T0.length:=fun v=>cellK_len (q:=930) (Nat.le_refl _) h0T
     have hplz : p < (T0.getD 0 []).length:=by omega
     repeat refine zq ?_
     refine zg follows (by decide +kernel) (by kernel_rfl) fun K hK=>?_
     simp only [go_sem,hcd0,hcl0,hv0',q3]
     (try simp (disch:=omega) only [zI])
     repeat first | intro _ | refine ⟨by omega,?_⟩ | refine ⟨⟨by omega,by omega⟩,?_⟩
     refine hK _ ?_
     clear hK K
     refine zw (zk [2,4,7,8,9,11,12,18,21]) ?_
     simp only [go_sem]
     obtain ⟨ne,hne⟩ : ∃ ne : Int,ne = max 0 (v0 - less):=⟨_,rfl⟩
     rw [← hne,show [RV.it IntKind.i64 ne] = (fun x : Int=>[i64 x]) ne from rfl,← List.map_set]
     repeat refine zq ?_
     refine zb (by kernel_rfl) fun K hK=>?_
     simp only [go_sem,eb]
     (try simp (disch:=omega) only [zI])
     repeat first | intro _ | refine ⟨by omega,?_⟩ | refine ⟨⟨by omega,by omega⟩,?_⟩
     refine hK _ ?_
     clear hK K
     refine zw (zk [2,4,7,8,9,11,12,18,21,182]) ?_
     simp only [go_sem]
     repeat refine zq ?_
     refine zc rfl (fun hc=>?_) (fun hc=>?_) <;> (try simp only [go_sem] at hc)
     refine zx ?_
     try simp only [go_sem]
     have hpe:=pc0 ne hne
     rw [show setT T0 0 p ne = T0.set 0 ((T0.getD 0 []).set p ne) from rfl] at hpe
     have hl2 : ((T0.getD 0 []).set p ne).length = r.start.toNat + 1:=by rw [List.length_set]; exact hrz
     generalize (T0.getD 0 []).set p ne = row2 at *
     refine zw (sub_frzBA (tb:=46) (sb:=1) (sz:=1) (off:=0) (m:=r.start.toNat + 1) (ty:=3) (es:=row2.map fun x=>[i64 x]) 920 0 930 (by omega) (by omega) rfl ((cellQ_get h0T).trans (by rw [hrz]; rfl)) rfl (by simp; omega)) ?_
     try simp only [go_sem]
     have etz : List.take (r.start.toNat + 1) (row2.map fun x=>[i64 x]) = row2.map fun x=>[i64 x]:=List.take_of_length_le (by simp; omega)
     rw [etz,cellQ_set h0T]
     refine zw (sub_arr 920 ((T0.set 0 row2).map fun row=>[ints row]) rfl (flat_tab _) (fun e he=>by obtain ⟨x,_,rfl⟩:=List.mem_map.1 he; rfl) (by omega)) ?_
     try simp only [go_sem]
     refine zw (sub_frz (ty:=46) (sz:=1) (off:=0) (m:=T0.length) (es:=(T0.set 0 row2).map fun row=>[ints row]) 21 920 (by omega) (by try simp only [go_sem]) rfl (by simp)) ?_
     have etZ : (((T0.set 0 row2).map fun row=>[ints row]).drop 0).take T0.length = (T0.set 0 row2).map fun row=>[ints row]:=by
      rw [List.drop_zero,List.take_of_length_le (by simp)]
     rw [etZ]
     refine zw (zk [2,4,7,8,9,11,21]) ?_
     simp only [go_sem]
     repeat refine zq ?_
     refine zb (by kernel_rfl) fun K hK=>?_
     simp only [go_sem]
     (try simp (disch:=omega) only [zI])
     refine zh (hrl) rfl (by simp only [go_sem,i64,ints]) (by simp only [go_sem,i64,ints]) (by first | exact .inl rfl | exact .inr rfl) ?_
     (try simp only [go_sem])
     (try simp (disch:=omega) only [zI])
     refine zh (hpe) rfl (by simp only [go_sem,i64,ints,eb]) (by simp only [go_sem,i64,ints,eb]) (by first | exact .inl rfl | exact .inr rfl) ?_
     (try simp only [go_sem,eb])
     (try simp (disch:=omega) only [zI])
     repeat first | intro _ | refine ⟨by omega,?_⟩ | refine ⟨⟨by omega,by omega⟩,?_⟩
     refine hK _ ?_
     clear hK K
     refine zw (zk [2,4,7,8,9,11,22,25]) ?_
     simp only [go_sem]
     repeat refine zq ?_
     refine zb (by kernel_rfl) fun K hK=>?_
     simp only [go_sem,bne_self_eq_false]
     (try simp (disch:=omega) only [zI])
     repeat first | intro _ | refine ⟨by omega,?_⟩ | refine ⟨⟨by omega,by omega⟩,?_⟩
     refine hK _ ?_
     clear hK K
     refine zw (zk [2,4,7,8,9,11,214]) ?_
     simp only [go_sem]
     repeat refine zq ?_
     refine zc rfl (fun hc=>?_) (fun hc=>?_) <;> (try simp only [go_sem] at hc)
     refine zx ?_
     try simp only [go_sem]
     repeat refine zq ?_
     refine zb (by kernel_rfl) fun K hK=>?_
     simp only [go_sem]
     (try simp (disch:=omega) only [zI])
     repeat first | intro _ | refine ⟨by omega,?_⟩ | refine ⟨⟨by omega,by omega⟩,?_⟩
     refine hK _ ?_
     clear hK K
     try simp only [go_sem]
     refine zj [] ?_ ?_
     · try simp only [go_sem]
     · try simp only [go_sem]
   · have hkT : k < T1.length:=by omega
     have eb : ((1 : Int) == 1) = true:=rfl
     have h0T : 0 < T1.length:=by omega
     have hrk:=hr1 k hkl
     have hrz:=hr1 0 (by omega)
     have hvk:=hv1 k hkl
     have hv0:=hv1 0 (by omega)
     have hln : ∀ row ∈ T1,row.length ≤ 1000000:=fun row hm=>by
      obtain ⟨j,hj⟩:=List.getElem?_of_mem hm
      have hjl:=(List.getElem?_eq_some_iff.1 hj).1
      have:=hr1 j (by omega)
      rw [List.getD_eq_getElem?_getD,hj] at this
      simp only [Option.getD_some] at this
      omega
     have hli:=lists_ok T1 (by omega) hln
     have hnk:=lists_new T1 k hkT (by omega) hln
     have hn0:=lists_new T1 0 h0T (by omega) hln
     obtain ⟨vk,hvk'⟩:=opt_of_lt (show p < (T1.getD k []).length by omega)
     obtain ⟨v0,hv0'⟩:=opt_of_lt (show p < (T1.getD 0 []).length by omega)
     have ek : (T1.getD k []).getD p 0 = vk:=by rw [List.getD_eq_getElem?_getD (i:=p),hvk']; rfl
     have e0 : (T1.getD 0 []).getD p 0 = v0:=by rw [List.getD_eq_getElem?_getD (i:=p),hv0']; rfl
     rw [ek] at hvk pb1
     rw [e0] at hv0 pc1
     repeat refine zq ?_
     refine zb (by kernel_rfl) fun K hK=>?_
     simp only [go_sem]
     (try simp (disch:=omega) only [zI])
     repeat first | intro _ | refine ⟨by omega,?_⟩ | refine ⟨⟨by omega,by omega⟩,?_⟩
     refine hK _ ?_
     clear hK K
     refine zw (zk [2,4,7,8,9,11,54]) ?_
     simp only [go_sem]
     repeat refine zq ?_
     refine zc rfl (fun hc=>?_) (fun hc=>?_) <;> (try simp only [go_sem] at hc)
     refine zx ?_
     try simp only [go_sem]
     repeat refine zq ?_
     refine zd ?_
     repeat refine zq ?_
     refine zb (by kernel_rfl) fun K hK=>?_
     simp only [go_sem]
     (try simp (disch:=omega) only [zI])
     repeat first | intro _ | refine ⟨by omega,?_⟩ | refine ⟨⟨by omega,by omega⟩,?_⟩
     refine hK _ ?_
     clear hK K
     refine zw (zk [2,4,7,8,9,11,12]) ?_
     simp only [go_sem]
     repeat refine zq ?_
     refine zb (by kernel_rfl) fun K hK=>?_
     simp only [go_sem]
     (try simp (disch:=omega) only [zI])
     refine zh (hrl) rfl (by simp only [go_sem,i64,ints]) (by simp only [go_sem,i64,ints]) (by first | exact .inl rfl | exact .inr rfl) ?_
     (try simp only [go_sem])
     (try simp (disch:=omega) only [zI])
     refine zh (hli) rfl (by simp only [go_sem,i64,ints]) (by simp only [go_sem,i64,ints]) (by first | exact .inl rfl | exact .inr rfl) ?_
     (try simp only [go_sem])
     (try simp (disch:=omega) only [zI])
     refine zh (pa1) rfl (by simp only [go_sem,i64,ints,eb]) (by simp only [go_sem,i64,ints,eb]) (by first | exact .inl rfl | exact .inr rfl) ?_
     (try simp only [go_sem,eb])
     (try simp (disch:=omega) only [zI])
     repeat first | intro _ | refine ⟨by omega,?_⟩ | refine ⟨⟨by omega,by omega⟩,?_⟩
     refine hK _ ?_
     clear hK K
     refine zw (zk [2,4,7,8,9,11,12,13,14,15,16]) ?_
     simp only [go_sem]
     repeat refine zq ?_
     refine zb (by kernel_rfl) fun K hK=>?_
     simp only [go_sem,bne_self_eq_false]
     (try simp (disch:=omega) only [zI])
     repeat first | intro _ | refine ⟨by omega,?_⟩ | refine ⟨⟨by omega,by omega⟩,?_⟩
     refine hK _ ?_
     clear hK K
     refine zw (zk [2,4,7,8,9,11,12,87]) ?_
     simp only [go_sem]
     repeat refine zq ?_
     refine zc rfl (fun hc=>?_) (fun hc=>?_) <;> (try simp only [go_sem] at hc)
     refine zx ?_
     try simp only [go_sem]
     repeat refine zq ?_
     refine zg follows (by decide +kernel) (by kernel_rfl) fun K hK=>?_
     simp only [go_sem,q1,q2,hl1,t1,w2,t2,n1,n2,w3]
     (try simp (disch:=omega) only [zI])
     repeat first | intro _ | refine ⟨by omega,?_⟩ | refine ⟨⟨by omega,by omega⟩,?_⟩
     refine hK _ ?_
     clear hK K
     refine zw (zk [2,4,7,8,9,11,12,17,18]) ?_
     simp only [go_sem]
     repeat refine zq ?_
     refine awp_long ?_
     refine sops_take 2 (by kernel_rfl) fun K hK=>?_
     simp only [go_sem,List.take_succ_cons,List.take_zero,List.drop_succ_cons,List.drop_zero,List.append_eq,List.cons_append,List.nil_append]
     (try simp (disch:=omega) only [zI])
     refine xcall_new hnk [(20,920),(30,930)] rfl (by rfl) (by rfl) (by rfl) (by rfl) (by rfl) ?_
     simp only [go_sem,idK,backA,backC,backL,pinOf,lendKey]
     rw [back_cellQ (q':=930) (by rfl)]
     repeat first | intro _ | refine ⟨by omega,?_⟩ | refine ⟨⟨by omega,by omega⟩,?_⟩
     refine hK _ rfl ?_
     clear hK K
     refine sops_end (by kernel_rfl) fun K hK=>?_
     simp only [go_sem,List.drop_succ_cons,List.drop_zero,List.append_eq,List.cons_append,List.nil_append]
     (try simp (disch:=omega) only [zI])
     repeat first | intro _ | refine ⟨by omega,?_⟩ | refine ⟨⟨by omega,by omega⟩,?_⟩
     refine hK _ ?_
     clear hK K
     refine zw (zk [2,4,7,8,9,11,12,17,18,19]) ?_
     simp only [go_sem]
     have hcd : ∀ v,(List.drop (k * 1) (cellQ 930 T1 k T1.length v)).headD (.r .un) = .os 930 v 1 0 (r.start.toNat + 1):=fun v=>by
      rw [Nat.mul_one,List.headD_eq_head?_getD,List.head?_drop,cellQ_get hkT,hrk]; rfl
     have hcl : ∀ v,(cellQ 930 T1 k T1.length v).length = T1.length:=fun v=>cellK_len (q:=930) (Nat.le_refl _) hkT
     have nb : ((r.start.toNat : Int) + 1 != r.start + 1) = false:=by simp; omega
     repeat refine zq ?_
     refine zg follows (by decide +kernel) (by kernel_rfl) fun K hK=>?_
     simp only [go_sem,hcd,hcl,w4,nb]
     (try simp (disch:=omega) only [zI])
     repeat first | intro _ | refine ⟨by omega,?_⟩ | refine ⟨⟨by omega,by omega⟩,?_⟩
     refine hK _ ?_
     clear hK K
     refine zw (zk [2,4,7,8,9,11,12,17,18,19,112]) ?_
     simp only [go_sem]
     repeat refine zq ?_
     refine zc rfl (fun hc=>?_) (fun hc=>?_) <;> (try simp only [go_sem] at hc)
     refine zx ?_
     try simp only [go_sem]
     have hpl : p < r.start.toNat + 1:=by omega
     have hplk : p < (T1.getD k []).length:=by omega
     repeat refine zq ?_
     refine zb (by kernel_rfl) fun K hK=>?_
     simp only [go_sem,hcd,hcl,hvk']
     (try simp (disch:=omega) only [zI])
     repeat first | intro _ | refine ⟨by omega,?_⟩ | refine ⟨⟨by omega,by omega⟩,?_⟩
     refine hK _ ?_
     clear hK K
     refine zw (zk [2,4,7,8,9,11,12,17,18,19]) ?_
     simp only [go_sem]
     obtain ⟨nv,hnv⟩ : ∃ nv : Int,nv = vk + -1:=⟨_,rfl⟩
     rw [← hnv,show [RV.it IntKind.i64 nv] = (fun x : Int=>[i64 x]) nv from rfl,← List.map_set]
     have hpk:=pb1 nv (by rw [hnv]; rfl)
     have hset : setT T1 k p nv = T1.set k ((T1.getD k []).set p nv):=rfl
     rw [hset] at hpk
     have hl' : ((T1.getD k []).set p nv).length = r.start.toNat + 1:=by rw [List.length_set]; exact hrk
     have hn' : ((T1.getD k []).set p nv)[p]? = some nv:=List.getElem?_set_self hplk
     generalize (T1.getD k []).set p nv = row' at *
     repeat refine zq ?_
     refine zb (by kernel_rfl) fun K hK=>?_
     simp only [go_sem,hcd,hcl,hn']
     (try simp (disch:=omega) only [zI])
     repeat first | intro _ | refine ⟨by omega,?_⟩ | refine ⟨⟨by omega,by omega⟩,?_⟩
     refine hK _ ?_
     clear hK K
     refine zw (zk [2,4,7,8,9,11,12,17,18,19,20]) ?_
     simp only [go_sem]
     refine zw (sub_frzBA (tb:=46) (sb:=1) (sz:=1) (off:=0) (m:=r.start.toNat + 1) (ty:=3) (es:=row'.map fun x=>[i64 x]) 920 k 930 (by omega) (by omega) rfl ((cellQ_get hkT).trans (by rw [hrk]; rfl)) rfl (by simp; omega)) ?_
     try simp only [go_sem]
     have etk : List.take (r.start.toNat + 1) (row'.map fun x=>[i64 x]) = row'.map fun x=>[i64 x]:=List.take_of_length_le (by simp; omega)
     rw [etk,cellQ_set hkT]
     refine zw (sub_arr 920 ((T1.set k row').map fun row=>[ints row]) rfl (flat_tab _) (fun e he=>by obtain ⟨x,_,rfl⟩:=List.mem_map.1 he; rfl) (by omega)) ?_
     try simp only [go_sem]
     refine zw (sub_frz (ty:=46) (sz:=1) (off:=0) (m:=T1.length) (es:=(T1.set k row').map fun row=>[ints row]) 19 920 (by omega) (by try simp only [go_sem]) rfl (by simp)) ?_
     have etT : (((T1.set k row').map fun row=>[ints row]).drop 0).take T1.length = (T1.set k row').map fun row=>[ints row]:=by
      rw [List.drop_zero,List.take_of_length_le (by simp)]
     rw [etT]
     refine zw (zk [2,4,7,8,9,11,12,17,18,19,20]) ?_
     simp only [go_sem]
     repeat refine zq ?_
     refine awp_joinV (n:=216) (fun (x : Bool) vs=>[(2,.r (.it .u16 less)),(4,.r (.rp [it8 a,it8 b])),(7,.r (.rp (ruC r))),(8,.r (tabR T0)),(9,.r (tabR T1)),(11,.r (i64 1)),(12,.r (tabR T1)),(17,.r (i64 (k : Int))),(18,.r (i64 (p : Int))),(19,.r (tabR (T1.set k row'))),(137,.r (.bo x))]) (fun _ vs=>[]) (fun x=>x = true → 0 ≤ nv ∧ nv ≤ 1000000) (fun _ h=>h) ?_ ?_
     · repeat refine zq ?_
       refine zb (by kernel_rfl) fun K hK=>?_
       simp only [go_sem]
       (try simp (disch:=omega) only [zI])
       repeat' first | intro _ | refine And.intro ?_ ?_
       all_goals (refine hK _ ?_; clear hK K)
       · exact ⟨decide (nv ≤ 1000000),fun h=>⟨by omega,by simpa using h⟩,zj [] (by try simp only [go_sem]) (by try simp only [go_sem])⟩
       · exact ⟨false,(fun h=>by cases h),zj [] (by try simp only [go_sem]) (by try simp only [go_sem])⟩
     intro x vs hx
     repeat refine zq ?_
     refine awp_joinV (n:=216) (fun (_ : Unit) vs=>[(2,.r (.it .u16 less)),(4,.r (.rp [it8 a,it8 b])),(7,.r (.rp (ruC r))),(8,.r (tabR T0)),(9,.r (tabR T1)),(11,.r (i64 1)),(12,.r (tabR T1)),(18,.r (i64 (p : Int)))]) (fun _ vs=>[]) (fun _=>True) (fun _ h=>h) ?_ ?_
     · repeat refine zq ?_
       refine zc rfl (fun hc=>?_) (fun hc=>?_) <;> (try simp only [go_sem] at hc)
       · have hpk:=hpk (hx (by simpa using hc)).1 (hx (by simpa using hc)).2
         repeat refine zq ?_
         refine zb (by kernel_rfl) fun K hK=>?_
         simp only [go_sem]
         (try simp (disch:=omega) only [zI])
         refine zh (hrl) rfl (by simp only [go_sem,i64,ints]) (by simp only [go_sem,i64,ints]) (by first | exact .inl rfl | exact .inr rfl) ?_
         (try simp only [go_sem])
         (try simp (disch:=omega) only [zI])
         refine zh (hpk) rfl (by simp only [go_sem,i64,ints,eb]) (by simp only [go_sem,i64,ints,eb]) (by first | exact .inl rfl | exact .inr rfl) ?_
         (try simp only [go_sem,eb])
         (try simp (disch:=omega) only [zI])
         repeat first | intro _ | refine ⟨by omega,?_⟩ | refine ⟨⟨by omega,by omega⟩,?_⟩
         refine hK _ ?_
         clear hK K
         refine zw (zk [2,4,7,8,9,11,12,13,14,15,16,17,18]) ?_
         simp only [go_sem]
         repeat refine zq ?_
         refine zb (by kernel_rfl) fun K hK=>?_
         simp only [go_sem,bne_self_eq_false]
         (try simp (disch:=omega) only [zI])
         repeat first | intro _ | refine ⟨by omega,?_⟩ | refine ⟨⟨by omega,by omega⟩,?_⟩
         refine hK _ ?_
         clear hK K
         refine zw (zk [2,4,7,8,9,11,12,18,163]) ?_
         simp only [go_sem]
         repeat refine zq ?_
         refine zc rfl (fun hc=>?_) (fun hc=>?_) <;> (try simp only [go_sem] at hc)
         refine zx ?_
         try simp only [go_sem]
         exact ⟨(),zj [] (by try simp only [go_sem]) (by try simp only [go_sem])⟩
       · refine zx ?_
         try simp only [go_sem]
         exact ⟨(),zj [] (by try simp only [go_sem]) (by try simp only [go_sem])⟩
     intro _ vs _
     repeat refine zq ?_
     refine awp_long ?_
     refine sops_take 2 (by kernel_rfl) fun K hK=>?_
     simp only [go_sem,List.take_succ_cons,List.take_zero,List.drop_succ_cons,List.drop_zero,List.append_eq,List.cons_append,List.nil_append]
     (try simp (disch:=omega) only [zI])
     refine xcall_new hn0 [(20,920),(30,930)] rfl (by rfl) (by rfl) (by rfl) (by rfl) (by rfl) ?_
     simp only [go_sem,idK,backA,backC,backL,pinOf,lendKey]
     rw [back_cellQ (q':=930) (by rfl)]
     repeat first | intro _ | refine ⟨by omega,?_⟩ | refine ⟨⟨by omega,by omega⟩,?_⟩
     refine hK _ rfl ?_
     clear hK K
     refine sops_end (by kernel_rfl) fun K hK=>?_
     simp only [go_sem,List.drop_succ_cons,List.drop_zero,List.append_eq,List.cons_append,List.nil_append]
     (try simp (disch:=omega) only [zI])
     repeat first | intro _ | refine ⟨by omega,?_⟩ | refine ⟨⟨by omega,by omega⟩,?_⟩
     refine hK _ ?_
     clear hK K
     refine zw (zk [2,4,7,8,9,11,12,18,21]) ?_
     simp only [go_sem]
     have hcd0 : ∀ v,(cellQ 930 T1 0 T1.length v).headD (.r .un) = .os 930 v 1 0 (r.start.toNat + 1):=fun v=>by
      rw [List.headD_eq_head?_getD,List.head?_eq_getElem?,cellQ_get h0T,hrz]; rfl
     have hcl0 : ∀ v,(cellQ 930 T1 0 T1.length v).length = T1.length:=fun v=>cellK_len (q:=930) (Nat.le_refl _) h0T
     have hplz : p < (T1.getD 0 []).length:=by omega
     repeat refine zq ?_
     refine zg follows (by decide +kernel) (by kernel_rfl) fun K hK=>?_
     simp only [go_sem,hcd0,hcl0,hv0',q3]
     (try simp (disch:=omega) only [zI])
     repeat first | intro _ | refine ⟨by omega,?_⟩ | refine ⟨⟨by omega,by omega⟩,?_⟩
     refine hK _ ?_
     clear hK K
     refine zw (zk [2,4,7,8,9,11,12,18,21]) ?_
     simp only [go_sem]
     rw [show [RV.it IntKind.i64 (max 0 (v0 - less))] = (fun x : Int=>[i64 x]) (max 0 (v0 - less)) from rfl,← List.map_set]
     repeat refine zq ?_
     refine zb (by kernel_rfl) fun K hK=>?_
     simp only [go_sem,eb]
     (try simp (disch:=omega) only [zI])
     repeat first | intro _ | refine ⟨by omega,?_⟩ | refine ⟨⟨by omega,by omega⟩,?_⟩
     refine hK _ ?_
     clear hK K
     refine zw (zk [2,4,7,8,9,11,12,18,21,182]) ?_
     simp only [go_sem]
     repeat refine zq ?_
     refine zc rfl (fun hc=>?_) (fun hc=>?_) <;> (try simp only [go_sem] at hc)
     try simp only [go_sem]
     have hTz : T1[0]? = some (T1.getD 0 []):=by
      obtain ⟨x,hx⟩:=opt_of_lt h0T
      rw [List.getD_eq_getElem?_getD,hx]; rfl
     have hls : p < ((T1.getD 0 []).set p (max 0 (v0 - less))).length:=by rw [List.length_set]; exact hplz
     have hz3 : ((T1.getD 0 []).set p (max 0 (v0 - less)))[p]? = some (max 0 (v0 - less)):=List.getElem?_set_self hplz
     repeat refine zq ?_
     refine zg follows (by decide +kernel) (by kernel_rfl) fun K hK=>?_
     simp only [go_sem,hcd0,hcl0,hv0',hTz,q3,hz3]
     (try simp (disch:=omega) only [zI])
     repeat first | intro _ | refine ⟨by omega,?_⟩ | refine ⟨⟨by omega,by omega⟩,?_⟩
     refine hK _ ?_
     clear hK K
     refine zw (zk [2,4,7,8,9,11,12,18,21]) ?_
     simp only [go_sem]
     obtain ⟨ne,hne⟩ : ∃ ne : Int,ne = min 1000000 (v0 + less):=⟨_,rfl⟩
     rw [← hne,show [RV.it IntKind.i64 ne] = (fun x : Int=>[i64 x]) ne from rfl,← List.map_set,List.set_set]
     have hpe:=pc1 ne hne
     rw [show setT T1 0 p ne = T1.set 0 ((T1.getD 0 []).set p ne) from rfl] at hpe
     have hl2 : ((T1.getD 0 []).set p ne).length = r.start.toNat + 1:=by rw [List.length_set]; exact hrz
     generalize (T1.getD 0 []).set p ne = row2 at *
     refine zw (sub_frzBA (tb:=46) (sb:=1) (sz:=1) (off:=0) (m:=r.start.toNat + 1) (ty:=3) (es:=row2.map fun x=>[i64 x]) 920 0 930 (by omega) (by omega) rfl ((cellQ_get h0T).trans (by rw [hrz]; rfl)) rfl (by simp; omega)) ?_
     try simp only [go_sem]
     have etz : List.take (r.start.toNat + 1) (row2.map fun x=>[i64 x]) = row2.map fun x=>[i64 x]:=List.take_of_length_le (by simp; omega)
     rw [etz,cellQ_set h0T]
     refine zw (sub_arr 920 ((T1.set 0 row2).map fun row=>[ints row]) rfl (flat_tab _) (fun e he=>by obtain ⟨x,_,rfl⟩:=List.mem_map.1 he; rfl) (by omega)) ?_
     try simp only [go_sem]
     refine zw (sub_frz (ty:=46) (sz:=1) (off:=0) (m:=T1.length) (es:=(T1.set 0 row2).map fun row=>[ints row]) 21 920 (by omega) (by try simp only [go_sem]) rfl (by simp)) ?_
     have etZ : (((T1.set 0 row2).map fun row=>[ints row]).drop 0).take T1.length = (T1.set 0 row2).map fun row=>[ints row]:=by
      rw [List.drop_zero,List.take_of_length_le (by simp)]
     rw [etZ]
     refine zw (zk [2,4,7,8,9,11,21]) ?_
     simp only [go_sem]
     repeat refine zq ?_
     refine zb (by kernel_rfl) fun K hK=>?_
     simp only [go_sem]
     (try simp (disch:=omega) only [zI])
     refine zh (hrl) rfl (by simp only [go_sem,i64,ints]) (by simp only [go_sem,i64,ints]) (by first | exact .inl rfl | exact .inr rfl) ?_
     (try simp only [go_sem])
     (try simp (disch:=omega) only [zI])
     refine zh (hpe) rfl (by simp only [go_sem,i64,ints,eb]) (by simp only [go_sem,i64,ints,eb]) (by first | exact .inl rfl | exact .inr rfl) ?_
     (try simp only [go_sem,eb])
     (try simp (disch:=omega) only [zI])
     repeat first | intro _ | refine ⟨by omega,?_⟩ | refine ⟨⟨by omega,by omega⟩,?_⟩
     refine hK _ ?_
     clear hK K
     refine zw (zk [2,4,7,8,9,11,22,25]) ?_
     simp only [go_sem]
     repeat refine zq ?_
     refine zb (by kernel_rfl) fun K hK=>?_
     simp only [go_sem,bne_self_eq_false]
     (try simp (disch:=omega) only [zI])
     repeat first | intro _ | refine ⟨by omega,?_⟩ | refine ⟨⟨by omega,by omega⟩,?_⟩
     refine hK _ ?_
     clear hK K
     refine zw (zk [2,4,7,8,9,11,214]) ?_
     simp only [go_sem]
     repeat refine zq ?_
     refine zc rfl (fun hc=>?_) (fun hc=>?_) <;> (try simp only [go_sem] at hc)
     refine zx ?_
     try simp only [go_sem]
     repeat refine zq ?_
     refine zb (by kernel_rfl) fun K hK=>?_
     simp only [go_sem]
     (try simp (disch:=omega) only [zI])
     repeat first | intro _ | refine ⟨by omega,?_⟩ | refine ⟨⟨by omega,by omega⟩,?_⟩
     refine hK _ ?_
     clear hK K
     try simp only [go_sem]
     refine zj [] ?_ ?_
     · try simp only [go_sem]
     · try simp only [go_sem]
   · repeat refine zq ?_
     refine zb (by kernel_rfl) fun K hK=>?_
     simp only [go_sem]
     (try simp (disch:=omega) only [zI])
     repeat first | intro _ | refine ⟨by omega,?_⟩ | refine ⟨⟨by omega,by omega⟩,?_⟩
     refine hK _ ?_
     clear hK K
     refine zw (zk [2,4,7,8,9,11,54]) ?_
     simp only [go_sem]
     repeat refine zq ?_
     refine zc rfl (fun hc=>?_) (fun hc=>?_) <;> (try simp only [go_sem] at hc)
     refine zf ?_
     simp only [go_sem]
     repeat refine zq ?_
     refine zb (by kernel_rfl) fun K hK=>?_
     simp only [go_sem]
     (try simp (disch:=omega) only [zI])
     refine zh (hkn) rfl (by simp only [go_sem,i64,ints]) (by simp only [go_sem,i64,ints]) (by first | exact .inl rfl | exact .inr rfl) ?_
     (try simp only [go_sem])
     (try simp (disch:=omega) only [zI])
     repeat first | intro _ | refine ⟨by omega,?_⟩ | refine ⟨⟨by omega,by omega⟩,?_⟩
     refine hK _ ?_
     clear hK K
     refine zw (zk [6]) ?_
     simp only [go_sem]
     refine ze ?_
     simp only [go_sem]
end Go.Proofs.Ytlbfkhikmigpbaa

namespace Go.Oc
open Go Go.RowKit Go.ChangeShapes Go.WideShapes
inductive Sh where
 | int (k : IntKind)
 | bool
 | sl (es : List Sh)
def fieldsSh (P : Program) (sh : TypeId → Option (List Sh)) : List Field → Nat → Option (List Sh)
 | [],_=>some []
 | f :: fs, o =>
   match sh f.type with
   | some ss=>if f.offset == o && ss.length == P.cellsOf f.type then match fieldsSh P sh fs (o + ss.length) with | some q=>some (ss ++ q) | none=>none else none
   | none=>none
def shape (P : Program) : Nat → TypeId → Option (List Sh)
 | 0,_=>none
 | n + 1, t =>
   match P.underlying t with
   | some (.int k)=>some [.int k]
   | some .bool=>some [.bool]
   | some (.slice e) =>
     match shape P n e with
     | some ss=>if ss.length == P.cellsOf e && decide (0 < ss.length) then some [.sl ss] else none
     | none=>none
   | some (.array m e) =>
     match shape P n e with
     | some ss=>if ss.length == P.cellsOf e && P.cellsOf t == m * ss.length then some (List.replicate m ss).flatten else none
     | none=>none
   | some (.struct fs) =>
     match fieldsSh P (shape P n) fs.toList 0 with
     | some ss=>if ss.length == P.cellsOf t then some ss else none
     | none=>none
   | _=>none
mutual
def Fits : Sh → RV → Prop
 | .int k,x=>∃ n,x = .it k n ∧ (Lit.int k n).wf = true
 | .bool,x=>∃ b,x = .bo b
 | .sl ss,x=>∃ es,x = .sl ss.length es ∧ FitsE ss es
def FitsL : List Sh → List RV → Prop
 | [],xs=>xs = []
 | s :: ss,xs=>∃ y ys,xs = y :: ys ∧ Fits s y ∧ FitsL ss ys
def FitsE (ss : List Sh) : List (List RV) → Prop
 | []=>True
 | e :: es=>FitsL ss e ∧ FitsE ss es
end
theorem fitsL_append : ∀ {s1 s2 : List Sh} {x1 x2 : List RV},FitsL s1 x1 → FitsL s2 x2 → FitsL (s1 ++ s2) (x1 ++ x2)
 | [],_,_,_,h1,h2=>by simp only [FitsL] at h1; subst h1; simpa using h2
 | s :: ss, s2, x1, x2, h1, h2 => by
   simp only [FitsL] at h1
   obtain ⟨y,ys,rfl,h3,h4⟩:=h1
   simp only [List.cons_append,FitsL]
   exact ⟨y,_,rfl,h3,fitsL_append h4 h2⟩
theorem fitsL_length : ∀ {ss : List Sh} {xs : List RV},FitsL ss xs → xs.length = ss.length
 | [],_,h=>by simp only [FitsL] at h; subst h; rfl
 | s :: ss, _, h => by
   simp only [FitsL] at h
   obtain ⟨y,ys,rfl,_,h⟩:=h
   simp [fitsL_length h]
theorem fitsE_of : ∀ {ss : List Sh} {es : List (List RV)},(∀ e ∈ es,FitsL ss e) → FitsE ss es
 | _,[],_=>by simp only [FitsE]
 | ss,e :: es,h=>by simp only [FitsE]; exact ⟨h e (by simp),fitsE_of fun x hx=>h x (by simp [hx])⟩
theorem choice {α : Type} {Q : Nat → α → Prop} : ∀ (n : Nat),(∀ i,i < n → ∃ x,Q i x) → ∃ xs : List α,xs.length = n ∧ ∀ i x,xs[i]? = some x → Q i x
 | 0,_=>⟨[],rfl,by simp⟩
 | n + 1, h => by
   obtain ⟨xs,hl,hx⟩:=choice n fun i hi=>h i (by omega)
   obtain ⟨y,hy⟩:=h n (by omega)
   refine ⟨xs ++ [y],by simp [hl],fun i x hi=>?_⟩
   by_cases h1 : i < n
   · rw [List.getElem?_append_left (by omega)] at hi; exact hx i x hi
   · rw [List.getElem?_append_right (by omega)] at hi
     have : i = n:=by have:=(List.getElem?_eq_some_iff.1 hi).1; simp at this; omega
     subst this
     simp [hl] at hi
     exact hi ▸ hy
section
variable {w : World} {P : Program}
theorem cells?_get {base n : Nat} {a : Addr} {cs : List Value} (h : w.cells? base a n = some cs) : cs.length = n ∧ ∀ i,i < n → w.cell? (a.add i) = cs[i]?:=by
 unfold World.cells? at h
 split at h
 · exact ⟨by simpa using mapM_some_length h,fun i hi=>mapM_some_get h i i (by simp [hi])⟩
 · cases h
theorem cell_lt {a : Addr} {v : Value} (h : w.cell? a = some v) : a.block < w.heap.size:=by
 refine Decidable.byContradiction fun hn=>?_
 have : w.heap[a.block]? = none:=by simp; omega
 simp [World.cell?,this] at h
def old (w : World) : Nat → Prop:=fun b=>b < w.heap.size
theorem relC_of_cells {xs : List RV} {cs : List Value} {ad : Addr} (hV : RV.relV w (old w) xs cs) (hone : ∀ u ∈ cs,u.oneCell' = true) (hc : ∀ i,i < cs.length → w.cell? (ad.add i) = cs[i]?) : RV.relC w (old w) xs ad 0:=by
 refine RV.relC_of_get fun i x hx=>?_
 obtain ⟨u,hu,hr⟩:=RV.relV_get hV hx
 have hi:=(List.getElem?_eq_some_iff.1 hu).1
 refine ⟨u,?_,hone u (List.mem_of_getElem? hu),hr⟩
 rw [Nat.zero_add,hc i hi,hu]
variable {H : Type} {enc : TypeId × Value → H} {base : Nat} {spare : Nat → Bool} {held : Bool}
def Good3 (w : World) (ss : List Sh) (cs : List Value) : Prop:=∃ xs,FitsL ss xs ∧ RV.relV w (old w) xs cs ∧ ∀ u ∈ cs,u.oneCell' = true
theorem good3_append {s1 s2 : List Sh} {c1 c2 : List Value} (h1 : Good3 w s1 c1) (h2 : Good3 w s2 c2) : Good3 w (s1 ++ s2) (c1 ++ c2):=by
 obtain ⟨x1,f1,r1,o1⟩:=h1
 obtain ⟨x2,f2,r2,o2⟩:=h2
 refine ⟨x1 ++ x2,fitsL_append f1 f2,RV.relV_append r1 r2,fun u hu=>?_⟩
 rcases List.mem_append.1 hu with hu | hu
 · exact o1 u hu
 · exact o2 u hu
theorem good3_length {ss : List Sh} {cs : List Value} (h : Good3 w ss cs) : cs.length = ss.length:=by
 obtain ⟨xs,f,r,_⟩:=h
 rw [RV.relV_length r,fitsL_length f]
theorem trod_fits : ∀ (fuel n : Nat) (t : TypeId) (cs : List Value) (x : DataW H × List MemPlace) (ss : List Sh),DataW.trod enc P w base spare held fuel t cs = some x → shape P n t = some ss → Good3 w ss cs:=by
 intro fuel
 induction fuel with
 | zero=>intro n t cs x ss h; simp [DataW.trod] at h
 | succ fuel ih =>
   intro n t cs x ss h hs
   cases n with
   | zero=>simp [shape] at hs
   | succ n =>
     unfold shape at hs
     split at hs
     · rename_i k ht
       injection hs with hs; subst hs
       obtain ⟨m,rfl,_,hw⟩:=DataW.trod_int ht h
       exact ⟨[.it k m],by simp only [FitsL,Fits]; exact ⟨_,[],rfl,⟨m,rfl,hw⟩,rfl⟩,by simp only [RV.relV,RV.rel]; exact ⟨_,[],rfl,rfl,rfl⟩,by simp [Value.oneCell']⟩
     · rename_i ht
       injection hs with hs; subst hs
       obtain ⟨b,rfl,_⟩:=DataW.trod_bool ht h
       exact ⟨[.bo b],by simp only [FitsL,Fits]; exact ⟨_,[],rfl,⟨b,rfl⟩,rfl⟩,by simp only [RV.relV,RV.rel]; exact ⟨_,[],rfl,rfl,rfl⟩,by simp [Value.oneCell']⟩
     · rename_i e ht
       split at hs
       · rename_i es hes
         split at hs
         · rename_i hc
           simp only [Bool.and_eq_true,beq_iff_eq,decide_eq_true_eq] at hc
           injection hs with hs; subst hs
           rcases DataW.trod_slice ht h with ⟨rfl,_⟩ | ⟨a,len,cap,elems,rest,m,hm,rfl,_,_,hlc,hcm,hel,hget,_⟩
           · refine ⟨[.sl es.length []],?_,?_,by simp [Value.oneCell']⟩
             · simp only [FitsL,Fits]
               exact ⟨_,[],rfl,⟨[],rfl,by simp only [FitsE]⟩,rfl⟩
             · simp only [RV.relV,RV.rel]
               exact ⟨_,[],rfl,⟨none,0,rfl,Nat.le_refl _,Nat.zero_le _,fun h=>absurd rfl h⟩,rfl⟩
           · injection hm with hm; subst hm
             have hall : ∀ i,i < len → ∃ e',FitsL es e' ∧ e'.length = es.length ∧ RV.relC w (old w) e' (a.add (i * es.length)) 0 ∧ a.block < w.heap.size:=fun i hi=>by
              have h1:=hget i hi
              have h2 : i < elems.length:=by omega
              rw [List.getElem?_eq_getElem h2] at h1
              obtain ⟨ci,hci,htr⟩:=Option.bind_eq_some_iff.1 h1
              rw [← hc.1] at hci
              obtain ⟨hl,hcell⟩:=cells?_get hci
              obtain ⟨xs,f,r,o⟩:=ih n e ci _ es htr hes
              refine ⟨xs,f,fitsL_length f,relC_of_cells r o (fun j hj=>hcell j (by omega)),?_⟩
              have h3:=hcell 0 hc.2
              have h4 : 0 < ci.length:=by omega
              rw [List.getElem?_eq_getElem h4] at h3
              have:=cell_lt h3
              rwa [block_add,block_add] at this
             obtain ⟨els,hlen,hels⟩:=choice len hall
             refine ⟨[.sl es.length els],?_,?_,by simp [Value.oneCell']⟩
             · simp only [FitsL,Fits]
               refine ⟨_,[],rfl,⟨els,rfl,fitsE_of fun e' he'=>?_⟩,rfl⟩
               obtain ⟨i,hi⟩:=List.getElem?_of_mem he'
               exact (hels i e' hi).1
             · simp only [RV.relV,RV.rel]
               refine ⟨_,[],rfl,⟨some a,cap,by rw [hlen],by omega,hcm,fun hne=>?_⟩,rfl⟩
               obtain ⟨e0,he0⟩ : ∃ e0,els[0]? = some e0:=by
                cases els with
                | nil=>exact absurd rfl hne
                | cons a l=>exact ⟨a,rfl⟩
               refine ⟨a,rfl,(hels 0 e0 he0).2.2.2,RV.relE_of_get fun i e' he'=>?_⟩
               obtain ⟨_,q1,q2,_⟩:=hels i e' he'
               exact ⟨q1,RV.relC_unbase _ q2⟩
         · cases hs
       · cases hs
     · rename_i m e ht
       split at hs
       · rename_i es hes
         split at hs
         · rename_i hc
           simp only [Bool.and_eq_true,beq_iff_eq] at hc
           injection hs with hs; subst hs
           obtain ⟨xs,fm,hm,_,hcl,hxl,hget⟩:=DataW.trod_array ht h
           injection hm with hm; subst hm
           have key : ∀ j,j ≤ m → Good3 w (List.replicate j es).flatten (cs.take (j * es.length)):=by
            intro j
            induction j with
            | zero=>intro _; exact ⟨[],by simp [FitsL],by simp [RV.relV],by simp⟩
            | succ j ihj =>
              intro hj
              have h1:=hget j (by omega)
              have h2 : j < xs.length:=by omega
              rw [List.getElem?_eq_getElem h2,← hc.1] at h1
              have h3:=ih n e _ _ es h1 hes
              have:=good3_append (ihj (by omega)) h3
              rw [← List.take_add] at this
              rw [List.replicate_succ',List.flatten_append,Nat.add_mul]
              simpa using this
           have:=key m (Nat.le_refl _)
           rwa [← hc.2,← hcl,List.take_length] at this
         · cases hs
       · cases hs
     · rename_i fs ht
       split at hs
       · rename_i q hq
         split at hs
         · rename_i hc
           simp only [beq_iff_eq] at hc
           injection hs with hs; subst hs
           obtain ⟨xs,fm,hm,_,hcl,hxl,hget⟩:=DataW.trod_struct ht h
           injection hm with hm; subst hm
           have key : ∀ (l : List Field) (o : Nat) (q : List Sh),(∀ f ∈ l,∃ y,DataW.trod enc P w base spare held fuel f.type ((cs.drop f.offset).take (P.cellsOf f.type)) = some y) → fieldsSh P (shape P n) l o = some q → Good3 w q ((cs.drop o).take q.length):=by
            intro l
            induction l with
            | nil =>
              intro o q _ hq
              simp only [fieldsSh,Option.some.injEq] at hq
              subst hq
              exact ⟨[],by simp [FitsL],by simp [RV.relV],by simp⟩
            | cons f l ihl =>
              intro o q hall hq
              simp only [fieldsSh] at hq
              split at hq
              · rename_i s1 hs1
                split at hq
                · rename_i hc1
                  simp only [Bool.and_eq_true,beq_iff_eq] at hc1
                  split at hq
                  · rename_i q2 hq2
                    injection hq with hq; subst hq
                    obtain ⟨y,hy⟩:=hall f (by simp)
                    have g1:=ih n f.type _ _ s1 hy hs1
                    have g2:=ihl (o + s1.length) q2 (fun f' hf'=>hall f' (by simp [hf'])) hq2
                    rw [hc1.1,← hc1.2] at g1
                    have:=good3_append g1 g2
                    rw [← List.drop_drop,← List.take_add] at this
                    simpa using this
                  · cases hq
                · cases hq
              · cases hq
           have:=key fs.toList 0 q (fun f hf=>by
            obtain ⟨i,hi⟩:=List.getElem?_of_mem hf
            have hi' : fs[i]? = some f:=by simpa using hi
            have h1:=hget i f hi'
            have h2 : i < xs.length:=by have:=(Array.getElem?_eq_some_iff.1 hi').1; omega
            exact ⟨xs[i],by rw [h1]; exact List.getElem?_eq_getElem h2⟩) hq
           rwa [List.drop_zero,hc,← hcl,List.take_length] at this
         · cases hs
       · cases hs
     · cases hs
def FitsT (P : Program) (n : Nat) (t : TypeId) (x : RV) : Prop:=∃ ss,shape P n t = some ss ∧ if aggOf P t then ∃ xs,x = .ag xs ∧ FitsL ss xs else FitsL ss [x]
theorem arg_fits {n : Nat} {t : TypeId} {v : Value} {d : DataW H} {ps : List MemPlace} {r : Reach} {b0 : Nat} (hs : (shape P n t).isSome = true) (hval : Value.okWide P w r b0 t v) (h : DataW.Trod enc P w base spare held t v d ps) :
 ∃ x,FitsT P n t x ∧ x.rel w (old w) v:=by
 obtain ⟨ss,hss⟩:=Option.isSome_iff_exists.1 hs
 obtain ⟨fuel,hf⟩:=h
 obtain ⟨xs,f,r,o⟩:=trod_fits fuel n t _ _ ss hf hss
 have one : aggOf P t = false → v.cells.toList = [v] → ∃ x,FitsT P n t x ∧ x.rel w (old w) v:=fun ha hc=>by
  rw [hc] at r
  match xs,r with
  | [x], r =>
    simp only [RV.relV] at r
    obtain ⟨u,us,e,hr,_⟩:=r
    injection e with e1 e2
    subst e1
    exact ⟨x,⟨ss,hss,by rw [ha]; exact f⟩,hr⟩
  | [],r=>simp [RV.relV] at r
  | _ :: _ :: _, r =>
    simp only [RV.relV] at r
    obtain ⟨u,us,e,_,u2,us2,e2,_⟩:=r
    injection e with _ e
    rw [e2] at e; cases e
 cases n with
 | zero=>simp [shape] at hss
 | succ n =>
   have hss':=hss
   unfold shape at hss'
   split at hss'
   · rename_i k ht
     obtain ⟨m,rfl⟩:=okWide_int ht hval
     exact one (by simp [aggOf,ht]) rfl
   · rename_i ht
     obtain ⟨b,rfl⟩:=okWide_bool ht hval
     exact one (by simp [aggOf,ht]) rfl
   · rename_i e ht
     obtain ⟨a,l,c,rfl⟩:=okWide_slice ht hval
     exact one (by simp [aggOf,ht]) rfl
   · rename_i m e ht
     obtain ⟨cs,rfl⟩ : ∃ cs,v = .agg cs:=by
      simp only [Value.okWide,ht] at hval
      obtain ⟨cs,h1,_⟩:=hval
      exact ⟨cs,h1⟩
     exact ⟨.ag xs,⟨ss,hss,by simp only [aggOf,ht,if_true]; exact ⟨xs,rfl,f⟩⟩,by simp only [RV.rel]; exact ⟨cs,rfl,o,r⟩⟩
   · rename_i fs ht
     obtain ⟨cs,rfl,_⟩:=okWide_struct ht hval
     exact ⟨.ag xs,⟨ss,hss,by simp only [aggOf,ht,if_true]; exact ⟨xs,rfl,f⟩⟩,by simp only [RV.rel]; exact ⟨cs,rfl,o,r⟩⟩
   · cases hss'
theorem wf_i64 {n : Int} (h : (Lit.int .i64 n).wf = true) : -9223372036854775808 ≤ n ∧ n ≤ 9223372036854775807:=by
 simp only [Lit.wf,Bool.and_eq_true,decide_eq_true_eq] at h
 have h1 : IntKind.min .i64 = -9223372036854775808:=by decide
 have h2 : IntKind.max .i64 = 9223372036854775807:=by decide
 rw [h1,h2] at h
 exact h
theorem fitsE_ints : ∀ {es : List (List RV)},FitsE [.int .i64] es → ∃ l : List Int,es = l.map (fun x=>[.it .i64 x]) ∧ ∀ x ∈ l,-9223372036854775808 ≤ x ∧ x ≤ 9223372036854775807
 | [],_=>⟨[],rfl,by simp⟩
 | e :: es, h => by
   simp only [FitsE,FitsL,Fits] at h
   obtain ⟨⟨y,ys,rfl,⟨n,rfl,hn⟩,rfl⟩,h⟩:=h
   obtain ⟨l,rfl,hl⟩:=fitsE_ints h
   refine ⟨n :: l,rfl,fun x hx=>?_⟩
   rcases List.mem_cons.1 hx with rfl | hx
   · exact wf_i64 hn
   · exact hl x hx
theorem fitsT_ag {n : Nat} {t : TypeId} {x : RV} {ss : List Sh} (h : FitsT P n t x) (hs : shape P n t = some ss) (ha : aggOf P t = true) : ∃ xs,x = .ag xs ∧ FitsL ss xs:=by
 obtain ⟨s',h1,h2⟩:=h
 rw [hs] at h1; injection h1 with h1; subst h1
 rw [ha] at h2
 exact h2
theorem fitsT_one {n : Nat} {t : TypeId} {x : RV} {s : Sh} (h : FitsT P n t x) (hs : shape P n t = some [s]) (ha : aggOf P t = false) : Fits s x:=by
 obtain ⟨s',h1,h2⟩:=h
 rw [hs] at h1; injection h1 with h1; subst h1
 rw [ha] at h2
 simp only [Bool.false_eq_true,if_false,FitsL] at h2
 obtain ⟨y,ys,e,h3,_⟩:=h2
 injection e with e1 e2
 subst e1
 exact h3
theorem fitsT_int {n : Nat} {t : TypeId} {x : RV} (h : FitsT P n t x) (hs : shape P n t = some [.int .i64]) (ha : aggOf P t = false) : ∃ m,x = .it .i64 m ∧ -9223372036854775808 ≤ m ∧ m ≤ 9223372036854775807:=by
 have:=fitsT_one h hs ha
 simp only [Fits] at this
 obtain ⟨m,h1,h2⟩:=this
 exact ⟨m,h1,wf_i64 h2⟩
theorem fitsT_ints {n : Nat} {t : TypeId} {x : RV} (h : FitsT P n t x) (hs : shape P n t = some [.sl [.int .i64]]) (ha : aggOf P t = false) : ∃ l : List Int,x = .sl 1 (l.map (fun x=>[.it .i64 x])) ∧ ∀ x ∈ l,-9223372036854775808 ≤ x ∧ x ≤ 9223372036854775807:=by
 have:=fitsT_one h hs ha
 simp only [Fits] at this
 obtain ⟨es,h1,h2⟩:=this
 obtain ⟨l,rfl,hl⟩:=fitsE_ints h2
 exact ⟨l,h1,hl⟩
end
end Go.Oc

namespace Go.Proofs.Ytlbfkhikmigpbaa
open Go Go.Oc
theorem wf8 {n : Int} (h : (Lit.int .u8 n).wf = true) : 0 ≤ n ∧ n ≤ 255:=by
 simp only [Lit.wf,Bool.and_eq_true,decide_eq_true_eq] at h
 have h1 : IntKind.min .u8 = 0:=by decide
 have h2 : IntKind.max .u8 = 255:=by decide
 rw [h1,h2] at h
 exact h
theorem wf16 {n : Int} (h : (Lit.int .u16 n).wf = true) : 0 ≤ n ∧ n ≤ 65535:=by
 simp only [Lit.wf,Bool.and_eq_true,decide_eq_true_eq] at h
 have h1 : IntKind.min .u16 = 0:=by decide
 have h2 : IntKind.max .u16 = 65535:=by decide
 rw [h1,h2] at h
 exact h
theorem fitsL_bytes : ∀ (n : Nat) {xs : List RV},FitsL (List.replicate n (.int .u8)) xs → ∃ l : List Int,xs = l.map it8 ∧ l.length = n ∧ ∀ x ∈ l,0 ≤ x ∧ x ≤ 255
 | 0, xs, h => by
   simp only [List.replicate_zero,Oc.FitsL] at h
   exact ⟨[],h,rfl,by simp⟩
 | n + 1, xs, h => by
   simp only [List.replicate_succ,Oc.FitsL,Oc.Fits] at h
   obtain ⟨_,_,rfl,⟨a,rfl,ha⟩,h⟩:=h
   obtain ⟨l,rfl,hl,hx⟩:=fitsL_bytes n h
   refine ⟨a :: l,rfl,by simp [hl],fun x hm=>?_⟩
   rcases List.mem_cons.1 hm with rfl | hm
   · exact wf8 ha
   · exact hx x hm
theorem fitsE_bytes (n : Nat) : ∀ {es : List (List RV)},FitsE (List.replicate n (.int .u8)) es → ∃ l : List (List Int),es = l.map (fun e=>e.map it8) ∧ ∀ e ∈ l,e.length = n ∧ ∀ x ∈ e,0 ≤ x ∧ x ≤ 255
 | [],_=>⟨[],rfl,by simp⟩
 | e :: es, h => by
   simp only [Oc.FitsE] at h
   obtain ⟨h1,h2⟩:=h
   obtain ⟨a,rfl,ha,hx⟩:=fitsL_bytes n h1
   obtain ⟨l,rfl,hl⟩:=fitsE_bytes n h2
   refine ⟨a :: l,rfl,fun x hm=>?_⟩
   rcases List.mem_cons.1 hm with rfl | hm
   · exact ⟨ha,hx⟩
   · exact hl x hm
theorem fitsE_pairs : ∀ {es : List (List RV)},FitsE [.int .u16,.int .u16] es → ∃ l : List (Int × Int),es = l.map (fun e=>[.it .u16 e.1,.it .u16 e.2]) ∧ ∀ e ∈ l,(0 ≤ e.1 ∧ e.1 ≤ 65535) ∧ 0 ≤ e.2 ∧ e.2 ≤ 65535
 | [],_=>⟨[],rfl,by simp⟩
 | e :: es, h => by
   simp only [Oc.FitsE,Oc.FitsL,Oc.Fits] at h
   obtain ⟨⟨_,_,rfl,⟨a,rfl,ha⟩,_,_,rfl,⟨b,rfl,hb⟩,rfl⟩,h⟩:=h
   obtain ⟨l,rfl,hl⟩:=fitsE_pairs h
   refine ⟨(a,b) :: l,rfl,fun x hm=>?_⟩
   rcases List.mem_cons.1 hm with rfl | hm
   · exact ⟨wf16 ha,wf16 hb⟩
   · exact hl x hm
theorem fits66 {x : RV} (h : FitsT Try.prog 9 66 x) : ∃ m : Mt,x = .ag (mtC m) ∧ WfM m:=by
 obtain ⟨xs,rfl,hx⟩:=fitsT_ag (ss:=[.int .u8,.sl (List.replicate 12 (.int .u8)),.int .u8,.int .u8,.sl [.int .u16,.int .u16]]) h (by kernel_rfl) (by kernel_rfl)
 simp only [Oc.FitsL,Oc.Fits] at hx
 obtain ⟨_,_,rfl,⟨d,rfl,hd⟩,_,_,rfl,⟨es,rfl,hes⟩,_,_,rfl,⟨st,rfl,hs⟩,_,_,rfl,⟨ou,rfl,ho⟩,_,_,rfl,⟨en,rfl,hen⟩,rfl⟩:=hx
 obtain ⟨l,rfl,hl⟩:=fitsE_bytes 12 hes
 obtain ⟨e,rfl,he⟩:=fitsE_pairs hen
 exact ⟨⟨d,l,st,ou,e⟩,rfl,⟨wf8 hd,hl,wf8 hs,wf8 ho,he⟩⟩
theorem fits86 {x : RV} (h : FitsT Try.prog 9 86 x) : ∃ a b c d : Int,x = .ag [it8 a,it8 b,it8 c,it8 d] ∧ (0 ≤ a ∧ a ≤ 255) ∧ (0 ≤ b ∧ b ≤ 255) ∧ (0 ≤ c ∧ c ≤ 255) ∧ 0 ≤ d ∧ d ≤ 255:=by
 obtain ⟨xs,rfl,hx⟩:=fitsT_ag (ss:=[.int .u8,.int .u8,.int .u8,.int .u8]) h (by kernel_rfl) (by kernel_rfl)
 simp only [Oc.FitsL,Oc.Fits] at hx
 obtain ⟨_,_,rfl,⟨a,rfl,ha⟩,_,_,rfl,⟨b,rfl,hb⟩,_,_,rfl,⟨c,rfl,hc⟩,_,_,rfl,⟨d,rfl,hd⟩,rfl⟩:=hx
 exact ⟨a,b,c,d,rfl,wf8 ha,wf8 hb,wf8 hc,wf8 hd⟩
theorem fits82 {x : RV} (h : FitsT Try.prog 9 82 x) : ∃ a b : Int,x = .ag [it8 a,it8 b] ∧ (0 ≤ a ∧ a ≤ 255) ∧ 0 ≤ b ∧ b ≤ 255:=by
 obtain ⟨xs,rfl,hx⟩:=fitsT_ag (ss:=[.int .u8,.int .u8]) h (by kernel_rfl) (by kernel_rfl)
 simp only [Oc.FitsL,Oc.Fits] at hx
 obtain ⟨_,_,rfl,⟨a,rfl,ha⟩,_,_,rfl,⟨b,rfl,hb⟩,rfl⟩:=hx
 exact ⟨a,b,rfl,wf8 ha,wf8 hb⟩
theorem fits83 {x : RV} (h : FitsT Try.prog 9 83 x) : ∃ a : Int,x = .it .u16 a ∧ 0 ≤ a ∧ a ≤ 65535:=by
 have h1:=fitsT_one (s:=.int .u16) h (by kernel_rfl) (by kernel_rfl)
 simp only [Oc.Fits] at h1
 obtain ⟨a,rfl,ha⟩:=h1
 exact ⟨a,rfl,wf16 ha⟩
end Go.Proofs.Ytlbfkhikmigpbaa

namespace Go.Oc
open Go Go.RowKit
theorem wf_u8 {n : Int} (h : (Lit.int .u8 n).wf = true) : 0 ≤ n ∧ n ≤ 255:=by
 simp only [Lit.wf,Bool.and_eq_true,decide_eq_true_eq] at h
 have h1 : IntKind.min .u8 = 0:=by decide
 have h2 : IntKind.max .u8 = 255:=by decide
 rw [h1,h2] at h
 exact h
theorem wf_u16 {n : Int} (h : (Lit.int .u16 n).wf = true) : 0 ≤ n ∧ n ≤ 65535:=by
 simp only [Lit.wf,Bool.and_eq_true,decide_eq_true_eq] at h
 have h1 : IntKind.min .u16 = 0:=by decide
 have h2 : IntKind.max .u16 = 65535:=by decide
 rw [h1,h2] at h
 exact h
theorem wf_u32 {n : Int} (h : (Lit.int .u32 n).wf = true) : 0 ≤ n ∧ n ≤ 4294967295:=by
 simp only [Lit.wf,Bool.and_eq_true,decide_eq_true_eq] at h
 have h1 : IntKind.min .u32 = 0:=by decide
 have h2 : IntKind.max .u32 = 4294967295:=by decide
 rw [h1,h2] at h
 exact h
theorem fitsE_u8 : ∀ {es : List (List RV)},FitsE [.int .u8] es → ∃ l : List Int,es = l.map (fun x=>[.it .u8 x]) ∧ ∀ x ∈ l,0 ≤ x ∧ x ≤ 255
 | [],_=>⟨[],rfl,by simp⟩
 | e :: es, h => by
   simp only [FitsE,FitsL,Fits] at h
   obtain ⟨⟨y,ys,rfl,⟨n,rfl,hn⟩,rfl⟩,h⟩:=h
   obtain ⟨l,rfl,hl⟩:=fitsE_u8 h
   refine ⟨n :: l,rfl,fun x hx=>?_⟩
   rcases List.mem_cons.1 hx with rfl | hx
   · exact wf_u8 hn
   · exact hl x hx
theorem fitsE_u16 : ∀ {es : List (List RV)},FitsE [.int .u16] es → ∃ l : List Int,es = l.map (fun x=>[.it .u16 x]) ∧ ∀ x ∈ l,0 ≤ x ∧ x ≤ 65535
 | [],_=>⟨[],rfl,by simp⟩
 | e :: es, h => by
   simp only [FitsE,FitsL,Fits] at h
   obtain ⟨⟨y,ys,rfl,⟨n,rfl,hn⟩,rfl⟩,h⟩:=h
   obtain ⟨l,rfl,hl⟩:=fitsE_u16 h
   refine ⟨n :: l,rfl,fun x hx=>?_⟩
   rcases List.mem_cons.1 hx with rfl | hx
   · exact wf_u16 hn
   · exact hl x hx
end Go.Oc

namespace Go.Proofs.Ytlbfkhikmigpbaa
open Go Go.Oc
theorem law8' {x0 x1 x2 : RV} (h0 : FitsT Try.prog 9 66 x0) (h1 : FitsT Try.prog 9 82 x1) (h2 : FitsT Try.prog 9 83 x2) : ACalls Try.prog 8 [x0,x1,x2] (.bo true):=by
 obtain ⟨m,rfl,hw⟩:=fits66 h0
 obtain ⟨a,b,rfl,ha,hb⟩:=fits82 h1
 obtain ⟨c,rfl,hc⟩:=fits83 h2
 exact proves_law m hw a b c ha hb hc
end Go.Proofs.Ytlbfkhikmigpbaa


namespace Go.Proofs.Ytlbfkhikmigpbaa
open Go Go.Oc Go.ChangeShapes Go.WideShapes Go.RowKit
set_option linter.unusedVariables false
theorem own : ownKnob Try.prog.godebug = none := by kernel_rfl
theorem laidOut : laidOutB Try.prog = true := by kernel_rfl
set_option maxRecDepth 100000 in
theorem lifted (os : Os) (started : os.Started) (H : Type) (enc : TypeId × Value → H) :
    ReturnsInHanded {} Try.checked os 8 .any (Rows.duelProvesSpec.pre6 enc Try.prog Try.f8 Rows.duelProvesRow.domain false) (Rows.duelProvesSpec.post enc Try.prog Try.f8 false true false false) := by
  refine returnsInHanded_of_change (C := Try.checked) own started (by kernel_rfl) Try.func8
    (ChangeSpec.witness6 (enc := enc) (C := Try.checked) false ⟨#[], #[.agg #[.int .u8 0, .slice none 0 0, .int .u8 0, .int .u8 0, .slice none 0 0], .agg #[.int .u8 0, .int .u8 0], .int .u16 0], []⟩ 8 (by kernel_rfl) (by kernel_rfl) (by kernel_rfl) (by kernel_rfl)) ?_
  intro W base args ds gs before hval0 hW hcnd _
  have hval : ∀ (j : Nat) t v, Try.f8.params[j]? = some t → args[j]? = some v → Value.okWide Try.prog W .any base t v := hval0
  have hW' := hW
  obtain ⟨p, q, hA0, hV, rfl, hfz, hnd⟩ := hW
  have hA : DataW.TrodAll enc Try.prog W 0 (fun _ => true) true Try.f8.params.toList args.toList ds p := hA0
  rw [Try.params8] at hA hval
  obtain ⟨v0, vs0, d0, ds0, p0, q0, hargs, rfl, rfl, h0, r0⟩ := trodAll_cons hA
  obtain ⟨v1, vs1, d1, ds1, p1, q1, rfl, rfl, rfl, h1, r1⟩ := trodAll_cons r0
  obtain ⟨v2, vs2, d2, ds2, p2, q2, rfl, rfl, rfl, h2, r2⟩ := trodAll_cons r1
  obtain ⟨rfl, rfl, rfl⟩ := trodAll_nil r2
  obtain rfl : args = #[v0, v1, v2] := by cases args; simp_all
  obtain ⟨rfl, rfl⟩ := trodVars_none hV
  have lt0 : ∀ x ∈ p0, x.block < W.heap.size := by obtain ⟨m, hm⟩ := h0; exact DataW.trod_lt m _ _ _ hm
  have lt1 : ∀ x ∈ p1, x.block < W.heap.size := by obtain ⟨m, hm⟩ := h1; exact DataW.trod_lt m _ _ _ hm
  have lt2 : ∀ x ∈ p2, x.block < W.heap.size := by obtain ⟨m, hm⟩ := h2; exact DataW.trod_lt m _ _ _ hm
  obtain ⟨x0, g0, e0⟩ := arg_fits (n := 9) (by kernel_rfl) (hval 0 66 v0 rfl rfl) h0
  obtain ⟨x1, g1, e1⟩ := arg_fits (n := 9) (by kernel_rfl) (hval 1 82 v1 rfl rfl) h1
  obtain ⟨x2, g2, e2⟩ := arg_fits (n := 9) (by kernel_rfl) (hval 2 83 v2 rfl rfl) h2
  clear hA0 hval0
  refine ((law8' g0 g1 g2).2 W (old W) #[v0, v1, v2] (fun _ h => h) (by simp only [RV.relV]; exact ⟨_, _, rfl, e0, _, _, rfl, e1, _, _, rfl, e2, rfl⟩)).mono fun e W' he => ?_
  obtain ⟨v, R', rfl, bel, _, _, _, hr⟩ := he
  simp only [RV.rel] at hr
  subst hr
  exact ⟨_, rfl, _, _, _, [], _, [], hW', trodAll_mk1 (shut_bool Try.underlying4 _), (trodAll_cons_mk (Below.trod laidOut (by kernel_rfl) (of_decide_eq_true (by kernel_rfl)) h0 bel lt0) (trodAll_cons_mk (Below.trod laidOut (by kernel_rfl) (of_decide_eq_true (by kernel_rfl)) h1 bel lt1) (trodAll_cons_mk (Below.trod laidOut (by kernel_rfl) (of_decide_eq_true (by kernel_rfl)) h2 bel lt2) trodAll_mk0))), rfl, bel.frame _, fun h => by cases h⟩
theorem over : Rows.duelProvesRow.holds Try.pinned (OpenSpec.ofChange Rows.duelProvesSpec) :=
  OpenClaim.holds_of_wide 8 Try.f8 rfl rfl rfl rfl rfl rfl rfl ⟨rfl, rfl, rfl, rfl, rfl⟩ rfl rfl rfl rfl rfl (by kernel_rfl) Try.func8 (by kernel_rfl)
    (of_decide_eq_true (by kernel_rfl)) (by unfold Func.isWrapper; first | (rw [if_pos (by decide +kernel)]; kernel_rfl) | (rw [if_neg (by decide +kernel)]; exact ⟨rfl, rfl⟩))
    (fun os started H enc _ => lifted os started H enc)
theorem duelProves_holds : Rows.DuelProvesSaid := over
#print axioms duelProves_holds
end Go.Proofs.Ytlbfkhikmigpbaa
