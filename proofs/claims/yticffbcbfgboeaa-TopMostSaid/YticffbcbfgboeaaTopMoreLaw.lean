/- One joins, and leaves again. No program in sight. -/
import Derived.Test.YticffbcbfgboeaaTopLaw
import Derived.Test.YticffbcbfgboeaaCrewF
namespace Go.Proofs.Yticffbcbfgboeaa
open Go.RowKit Go.Shelf

section
variable {pl : List (Int × Int) → List Nat → List Int} {nw ns : Nat} {ws : List (Int × Int)} {ss : List Nat}
theorem step_tick (s : CS) : stepS pl ws ss s (4, 0, 0) = tickF pl ws ss s := by
  rw [step_on stepC_tick]; rfl
theorem tick_twice (s : CS) : tickF pl ws ss (tickF pl ws ss s) = tickF pl ws ss s := tick_same rfl rfl
theorem runS_ok (hw : ws.length = nw) (hs : ss.length = ns) : ∀ (l : List Chg) (s : CS), OkS nw ns s → OkS nw ns (runS pl ws ss l s)
  | [], _, h => h
  | x :: l, _, h => runS_ok hw hs l _ (h.step hw hs x)
theorem struck {x i : Nat} (hx : x < 2 ^ 32) (hi : i < 32) (hb : x.testBit i = false) : (x ||| 2 ^ i) &&& (4294967295 - 2 ^ i) = x := by
  have hp : 2 ^ i < 2 ^ 32 := Nat.pow_lt_pow_right (by omega) hi
  refine Nat.eq_of_testBit_eq fun m => ?_
  rw [show 4294967295 - 2 ^ i = 2 ^ 32 - (2 ^ i + 1) by omega, Nat.testBit_and, Nat.testBit_or, Nat.testBit_two_pow_sub_succ hp, Nat.testBit_two_pow]
  by_cases hm : m < 32
  · by_cases e : i = m
    · subst e; simp [hb]
    · simp [hm, e]
  · rw [Nat.testBit_lt_two_pow (Nat.lt_of_lt_of_le hx (Nat.pow_le_pow_right (by omega) (by omega : 32 ≤ m)))]
    simp [hm]
theorem top_more (hpl : ∀ (ws : List (Int × Int)) (ts : List Nat) (n : Nat) (room : Nat → Int) (t : Int) (l : List Int), n = ts.length → Gr (PDm ws ts (rms ws)) n room t l → l = pl ws ts)
    (hw : ws.length = nw) (hn6 : nw ≤ 6) (hrm : ∀ j, j < ws.length → 0 ≤ (wat ws j).1 ∧ (wat ws j).1 ≤ 12) {s0 s1 s2 s3 : CS} (h0 : OkS nw ns s0) (j : Int)
    (h1 : s1 = tickF pl ws ss s0) (h2 : s2 = tickF pl ws ss (stepS pl ws ss s1 (1, j, 0))) (h3 : s3 = tickF pl ws ss (stepS pl ws ss s2 (2, j, 0))) :
    (stepC ws ss s1 (1, j, 0) ≠ 0 → s2 = s1) ∧ (stepC ws ss s1 (1, j, 0) = 0 → plc ns s1 ≤ plc ns s2 ∧ s3 = s1) := by
  have h11 : tickF pl ws ss s1 = s1 := by rw [h1]; exact tick_twice s0
  have hO1 : OkS nw ns s1 := by rw [h1]; exact h0.tick
  refine ⟨fun hc => ?_, fun hc => ?_⟩
  · rw [h2, step_off rfl hc, h11]
  · have har : ¬ (j < 0 ∨ (ws.length : Int) ≤ j) := fun h => by
      rw [stepC_arg (.inl rfl) h] at hc; cases hc
    obtain ⟨i, rfl⟩ := Int.eq_ofNat_of_zero_le (show 0 ≤ j by omega)
    have hi : i < nw := by omega
    have hci := stepC_in (ss := ss) (s := s1) (n := 0) (ws := ws) (.inl rfl : (1 : Int) = 1 ∨ (1 : Int) = 2) (show i < ws.length by omega)
    rw [hc] at hci
    have hbit : s1.inn.testBit i = false := by
      cases hb : s1.inn.testBit i
      · rfl
      · rw [hb, if_pos (by decide)] at hci; cases hci
    have hj : stepS pl ws ss s1 (1, (i : Int), 0) = ⟨s1.inn ||| 2 ^ i, s1.wants, s1.tasks⟩ := by
      rw [step_on hc]; unfold doneF
      rw [if_neg (by dsimp only; omega), if_neg (by dsimp only; omega), if_pos rfl, Int.toNat_natCast]
    have hOj : OkS nw ns (⟨s1.inn ||| 2 ^ i, s1.wants, s1.tasks⟩ : CS) := hO1.join hi
    rw [hj] at h2
    have hin2 : s2.inn = s1.inn ||| 2 ^ i := by rw [h2]; rfl
    have hwa2 : s2.wants = s1.wants := by rw [h2]; rfl
    have hc2 := stepC_in (ss := ss) (s := s2) (n := 0) (ws := ws) (.inr rfl : (2 : Int) = 1 ∨ (2 : Int) = 2) (show i < ws.length by omega)
    have hb2 : s2.inn.testBit i = true := by rw [hin2, Nat.testBit_or, Nat.testBit_two_pow]; simp
    rw [hb2, if_neg (by decide)] at hc2
    have hl : stepS pl ws ss s2 (2, (i : Int), 0) = leaveF s2 i := by
      rw [step_on hc2]; unfold doneF
      rw [if_neg (by dsimp only; omega), if_neg (by dsimp only; omega), if_neg (by dsimp only; omega), Int.toNat_natCast]
    rw [hl] at h3
    have h32 : s1.inn < 2 ^ 32 := Nat.lt_of_lt_of_le hO1.inn (Nat.pow_le_pow_right (by omega) (by omega))
    refine ⟨?_, ?_⟩
    · rw [← h11, h2]
      exact tick_more hpl hO1 hOj hrm rfl (fun m hm => by rw [Nat.testBit_or, hm]; rfl)
    · rw [h3, ← h11]
      refine tick_same ?_ ?_
      · show s2.inn &&& (4294967295 - 2 ^ i) = (tickF pl ws ss s1).inn
        rw [hin2, struck h32 (by omega) hbit]
        rfl
      · show s2.wants = (tickF pl ws ss s1).wants
        rw [hwa2]; rfl
end
end Go.Proofs.Yticffbcbfgboeaa
