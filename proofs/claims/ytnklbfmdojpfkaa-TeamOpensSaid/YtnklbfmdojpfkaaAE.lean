/- What a seal is opened as, by the document: all codes are tried. -/
import Derived.Test.YtnklbfmdojpfkaaAD
namespace Go.Proofs.Ytnklbfmdojpfkaa
open Go Go.Oc
set_option linter.unusedSimpArgs false
set_option linter.unusedVariables false
set_option maxRecDepth 8000
def foundL (r : Rules) (g : Game) (c : Int) : List Int := if playB r (playersL c g.pl) g = true then playersL c g.pl else []
/-- What is found ahead of the pair a, v. -/
def seekL (r : Rules) (g : Game) (x : List Int) (a v : Int) : List Int := if playB r x g = true ∧ (x.headD 0 < a ∨ (x.headD 0 = a ∧ x.getD 1 0 < v)) then x else []
theorem play_facts {r : Rules} {g : Game} {x : List Int} (g1 : 1 ≤ g.pl) (g2 : g.pl ≤ 2) (h : playB r x g = true) :
    (x.length : Int) = g.pl ∧ 0 ≤ x.headD 0 ∧ x.headD 0 < r.squad ∧ (g.pl = 1 → x = [x.headD 0]) ∧ (g.pl = 2 → x = [x.headD 0, x.getD 1 0] ∧ x.headD 0 < x.getD 1 0 ∧ x.getD 1 0 < r.squad) := by
  simp only [playB, Bool.and_eq_true, decide_eq_true_eq] at h
  obtain ⟨⟨h1, h2⟩, h3⟩ := h
  have hm := withinL_mem h2
  match x, h1, hm, h3 with
  | [], h1, _, _ => simp at h1; omega
  | [u], h1, hm, _ =>
    have := hm u (by simp)
    simp at h1
    refine ⟨by simpa using h1, by simpa using this.1, by simp; omega, fun _ => rfl, fun h => by omega⟩
  | [u, v], h1, hm, h3 =>
    have a := hm u (by simp)
    have b := hm v (by simp)
    simp [ascB] at h3
    simp at h1
    refine ⟨by simpa using h1, by simpa using a.1, by simp; omega, fun h => by omega, fun _ => ⟨rfl, by simpa using h3, by simp; omega⟩⟩
  | u :: v :: w :: y, h1, _, _ => simp at h1; omega
theorem seek_start {r : Rules} {g : Game} {x : List Int} (g1 : 1 ≤ g.pl) (g2 : g.pl ≤ 2) : seekL r g x 0 0 = [] := by
  unfold seekL
  rw [if_neg]
  rintro ⟨h, h'⟩
  obtain ⟨f1, f2, f3, f4, f5⟩ := play_facts g1 g2 h
  rcases h' with h' | ⟨h', h''⟩
  · omega
  · rcases (show g.pl = 1 ∨ g.pl = 2 by omega) with e | e
    · have := f4 e
      rw [this] at h''
      simp at h''
    · have := (f5 e).2.1; omega
theorem seek_next {r : Rules} {g : Game} {x : List Int} (g1 : 1 ≤ g.pl) (g2 : g.pl ≤ 2) (hs : 1 ≤ r.squad) (a : Int) : seekL r g x a r.squad = seekL r g x (a + 1) 0 := by
  unfold seekL
  congr 1
  refine propext (and_congr_right fun h => ?_)
  obtain ⟨f1, f2, f3, f4, f5⟩ := play_facts g1 g2 h
  rcases (show g.pl = 1 ∨ g.pl = 2 by omega) with e | e
  · have h0 : x.getD 1 0 = 0 := by rw [f4 e]; rfl
    rw [h0]; omega
  · have := (f5 e).2; omega
theorem seek_end {r : Rules} {g : Game} {c : Int} (g1 : 1 ≤ g.pl) (g2 : g.pl ≤ 2) : seekL r g (playersL c g.pl) r.squad 0 = foundL r g c := by
  unfold seekL foundL
  congr 1
  refine propext ⟨fun h => h.1, fun h => ⟨h, ?_⟩⟩
  obtain ⟨f1, f2, f3, f4, f5⟩ := play_facts g1 g2 h
  exact .inl f3
theorem seek_same {r : Rules} {g : Game} {c a v : Int} (hg : g.pl = 1) (ha : 0 ≤ a) (hav : a < v) : seekL r g (playersL c g.pl) a (v + 1) = seekL r g (playersL c g.pl) a v := by
  have hx : playersL c g.pl = [c - 1] := by simp [playersL, hg]
  rw [hx]
  unfold seekL
  congr 1
  refine propext (and_congr_right fun _ => ?_)
  have h0 : ([c - 1] : List Int).getD 1 0 = 0 := rfl
  rw [h0]
  omega
/-- A single player. -/
theorem seek_one {r : Rules} {g : Game} {c a : Int} (hg : g.pl = 1) (ha : 0 ≤ a) (ha' : a < r.squad) : (if playersL c g.pl = [a] then [a] else seekL r g (playersL c g.pl) a 0) = seekL r g (playersL c g.pl) a (a + 1) := by
  have hx : playersL c g.pl = [c - 1] := by simp [playersL, hg]
  rw [hx]
  by_cases h : c - 1 = a
  · have hp : playB r [c - 1] g = true := by
      simp [playB, hg, withinL, ascB]; omega
    simp only [seekL, h, if_true]
    rw [h] at hp
    rw [if_pos ⟨hp, .inr ⟨rfl, by simp; omega⟩⟩]
  · have h1 : ¬ [c - 1] = [a] := by simpa using h
    rw [if_neg h1]
    unfold seekL
    congr 1
    simp only [List.headD_cons, h, false_and, or_false]
theorem seek_none {r : Rules} {g : Game} {x : List Int} {a : Int} (g2 : g.pl = 2) : seekL r g x a 0 = seekL r g x a (a + 1) := by
  unfold seekL
  congr 1
  refine propext (and_congr_right fun h => ?_)
  obtain ⟨f1, f2, f3, f4, f5⟩ := play_facts (by omega) (by omega) h
  have := (f5 g2).2
  omega
theorem seek_two {r : Rules} {g : Game} {x : List Int} {a v : Int} (g2 : g.pl = 2) (ha : 0 ≤ a) (hav : a < v) (hv : v < r.squad) : (if x = [a, v] then [a, v] else seekL r g x a v) = seekL r g x a (v + 1) := by
  by_cases h : x = [a, v]
  · subst h
    have hp : playB r [a, v] g = true := by
      simp [playB, g2, withinL, ascB]; omega
    rw [if_pos rfl]
    unfold seekL
    rw [if_pos ⟨hp, .inr ⟨rfl, by simp; omega⟩⟩]
  · rw [if_neg h]
    unfold seekL
    congr 1
    refine propext (and_congr_right fun hp => ?_)
    obtain ⟨f1, f2, f3, f4, f5⟩ := play_facts (by omega) (by omega) hp
    obtain ⟨e, e2, e3⟩ := f5 g2
    have : ¬ (x.headD 0 = a ∧ x.getD 1 0 = v) := fun ⟨h1, h2⟩ => h (by rw [e, h1, h2])
    omega
theorem match_one {c a b : Int} {n : Nat} (hc : c = tover b (tpow 48271 n)) (hb : 0 ≤ b) (hb' : b < 2147483647) (ha : 0 ≤ a) (ha' : a ≤ 15) : (tmul (codeL [a]) (tpow 48271 n) = b) ↔ playersL c 1 = [a] := by
  have hcd : codeL [a] = a + 1 := by simp [codeL]; omega
  rw [over_iff _ _ _ (by omega) (by omega) hb hb', hcd, ← hc]
  simp [playersL]
  omega
theorem match_two {c a v b : Int} {n : Nat} (hc : c = tover b (tpow 48271 n)) (hb : 0 ≤ b) (hb' : b < 2147483647) (ha : 0 ≤ a) (ha' : a ≤ 15) (hv : 0 ≤ v) (hv' : v ≤ 15) : (tmul (codeL [a, v]) (tpow 48271 n) = b) ↔ playersL c 2 = [a, v] := by
  have hcd : codeL [a, v] = 1 + a + 16 * v := by simp [codeL]
  have hc0 : 0 ≤ c := by rw [hc]; exact tmul_lo _ _
  rw [over_iff _ _ _ (by omega) (by omega) hb hb', hcd, ← hc]
  have hx : playersL c 2 = [(c - 1).tmod 16, (c - 1).tdiv 16] := by simp [playersL]
  rw [hx]
  by_cases h0 : c = 0
  · subst h0
    have e1 : ((0 : Int) - 1).tmod 16 = -1 := by decide
    rw [e1]
    simp
    omega
  · rw [Int.tmod_eq_emod_of_nonneg (by omega), Int.tdiv_eq_ediv_of_nonneg (by omega)]
    simp
    omega
end Go.Proofs.Ytnklbfmdojpfkaa
