/- HALL, ORE: some set of tasks lacks just as much room as are left over. No program in sight. -/
import Derived.Test.YtgbkpjiefaejiaaDoorMaxCut
import Derived.Test.YtgbkpjiefaejiaaDoorPlaceAnyLaw
namespace Go.Proofs.YtgbkpjiefaejiaaDoor
open Go.RowKit Go.Shelf

def setOf : Nat → (Nat → Bool) → Nat
  | 0, _ => 0
  | n + 1, p => setOf n p ||| if p n then 2 ^ n else 0
theorem setOf_lt (p : Nat → Bool) : ∀ n, setOf n p < 2 ^ n
  | 0 => by simp [setOf]
  | n + 1 => by
    have h1 := setOf_lt p n
    have h2 : 2 ^ (n + 1) = 2 ^ n + 2 ^ n := by rw [Nat.pow_succ]; omega
    rw [setOf]
    refine Nat.or_lt_two_pow (by omega) ?_
    split <;> omega
theorem setOf_bit (p : Nat → Bool) : ∀ n i, (setOf n p).testBit i = (decide (i < n) && p i)
  | 0, i => by simp [setOf]
  | n + 1, i => by
    rw [setOf, Nat.testBit_or, setOf_bit p n i]
    by_cases h : i = n
    · subst h
      cases hp : p i <;> simp
    · by_cases h2 : i < n
      · rw [decide_eq_true h2, decide_eq_true (show i < n + 1 by omega)]
        cases hp : p n <;> simp [Ne.symm h]
      · rw [decide_eq_false h2, decide_eq_false (show ¬ i < n + 1 by omega)]
        cases hp : p n <;> simp [Ne.symm h]
theorem MaxPl.cut {d : PD} {K : Int} (hr : ∀ j, j < d.nw → 0 ≤ d.room j ∧ d.room j ≤ 1048576) (hK : MaxPl d K) : ∃ S : Nat → Bool, S (d.nw + d.nt) = true ∧ S (d.nw + d.nt + 1) = false ∧ capS d.net S = K := by
  obtain ⟨f, v, S, hf, h1, h2, h3⟩ := maxcut (s := d.nw + d.nt) (t := d.nw + d.nt + 1) (d.ok hr) (by omega) (by omega)
  obtain ⟨⟨P, hP, hc⟩, hM⟩ := fill_place hr hf h1 h2 h3
  obtain ⟨⟨P', hP', hc'⟩, hM'⟩ := hK
  have e1 := hM _ hP'
  have e2 := hM' _ hP
  exact ⟨S, h1, h2, by omega⟩
theorem anyT_ex {ws : List (Int × Int)} {ts : List Nat} {s j : Nat} : ∀ {m : Nat}, anyT ws ts s j m = true → ∃ i, i < m ∧ s.testBit i = true ∧ mayI (wat ws j).2 (ts.getD i 0 : Nat) = true
  | 0, h => by cases h
  | m + 1, h => by
    rw [anyT, Bool.or_eq_true, Bool.and_eq_true] at h
    rcases h with h | ⟨h1, h2⟩
    · obtain ⟨i, hi, h1, h2⟩ := anyT_ex h
      exact ⟨i, by omega, h1, h2⟩
    · exact ⟨m, by omega, h1, h2⟩
theorem hall_set {ws : List (Int × Int)} {ts : List Nat} {K : Int} (hr : ∀ j, j < ws.length → 0 ≤ rms ws j ∧ rms ws j ≤ 12) (ht : ts.length ≤ 12) (hK : MaxPl (PDm ws ts (rms ws)) K) : ∃ s, s < 2 ^ ts.length ∧ (ts.length : Int) - K ≤ lackI ws ts s ws.length := by
  obtain ⟨d, hd⟩ : ∃ d, PDm ws ts (rms ws) = d := ⟨_, rfl⟩
  have hnw : d.nw = ws.length := by rw [← hd]; rfl
  have hnt : d.nt = ts.length := by rw [← hd]; rfl
  have hrm : d.room = rms ws := by rw [← hd]; rfl
  have hmy : ∀ i j, d.may i j = mayI (wat ws j).2 (ts.getD i 0 : Nat) := fun i j => by rw [← hd]; rfl
  rw [hd] at hK
  obtain ⟨S, h1, h2, h3⟩ := hK.cut (fun j hj => by have := hr j (by omega); rw [hrm]; omega)
  rw [capS_sl, d.sum] at h3
  simp only [Int.toNat_natCast, h1, h2, Bool.true_and, Bool.not_false, Bool.and_true] at h3
  -- those on the near side all of whose workers are there, too
  obtain ⟨p, hp⟩ : ∃ p : Nat → Bool, p = fun i => S (d.nw + i) && decide (∀ j, j < d.nw → d.may i j = true → S j = true) := ⟨_, rfl⟩
  refine ⟨setOf ts.length p, setOf_lt p _, ?_⟩
  rw [lackI_sm, show (32 : Nat) = ts.length + (32 - ts.length) by omega, popc_up (setOf_lt p _), popc_sm]
  have e1 : (sm ts.length fun i => if (setOf ts.length p).testBit i then (1 : Int) else 0) = sm ts.length fun i => if p i then 1 else 0 := sm_congr fun i hi => by rw [setOf_bit, decide_eq_true hi, Bool.true_and]
  have e2 : (sm ws.length fun j => if anyT ws ts (setOf ts.length p) j ts.length then rms ws j else 0) ≤ sm ws.length fun j => if S j then d.room j else 0 := by
    refine sm_le fun j hj => ?_
    have hj0 := (hr j hj).1
    by_cases ha : anyT ws ts (setOf ts.length p) j ts.length = true
    · obtain ⟨i, hi, hb, hm⟩ := anyT_ex ha
      rw [setOf_bit, decide_eq_true hi, Bool.true_and, hp] at hb
      simp only [Bool.and_eq_true, decide_eq_true_eq] at hb
      rw [if_pos ha, if_pos (hb.2 j (by omega) (by rw [hmy]; exact hm)), hrm]
      exact Int.le_refl _
    · rw [if_neg ha, hrm]
      split <;> omega
  have e3 : (sm d.nw fun j => sm d.nt fun i => if d.may i j then (if S (d.nw + i) && !S j then (1 : Int) else 0) else 0) ≥ sm d.nt fun i => if S (d.nw + i) && !p i then (1 : Int) else 0 := by
    rw [sm_swap (fun j i => if d.may i j then (if S (d.nw + i) && !S j then (1 : Int) else 0) else 0)]
    refine sm_le fun i hi => ?_
    have h0 : ∀ j, j < d.nw → 0 ≤ (if d.may i j then (if S (d.nw + i) && !S j then (1 : Int) else 0) else 0) := fun j _ => by split <;> (try split) <;> omega
    by_cases hq : (S (d.nw + i) && !p i) = true
    · rw [if_pos hq]
      rw [Bool.and_eq_true, hp] at hq
      obtain ⟨q1, q2⟩ := hq
      simp only [q1, Bool.true_and, Bool.not_eq_true', decide_eq_false_iff_not] at q2
      have : ∃ j, j < d.nw ∧ d.may i j = true ∧ S j = false := Classical.byContradiction fun hn => q2 fun j hj hm => by
        cases hs : S j
        · exact absurd ⟨j, hj, hm, hs⟩ hn
        · rfl
      obtain ⟨j, hj, hm, hs⟩ := this
      have := sm_term h0 j hj
      rw [hm, q1, hs] at this
      simpa [q1] using this
    · rw [if_neg hq]; exact sm_nonneg h0
  rw [sm_add] at h3
  have e4 : (sm d.nt fun i => if S (d.nw + i) && !p i then (1 : Int) else 0) + (sm d.nt fun i => if !S (d.nw + i) then (1 : Int) else 0) + (sm d.nt fun i => if p i then (1 : Int) else 0) = d.nt := by
    rw [← sm_add, ← sm_add, ← Int.mul_one (d.nt : Int), ← sm_const d.nt 1]
    refine sm_congr fun i hi => ?_
    have : p i = true → S (d.nw + i) = true := fun h => by rw [hp] at h; simp only [Bool.and_eq_true] at h; exact h.1
    cases h4 : p i
    · cases S (d.nw + i) <;> simp
    · rw [this h4]; simp
  rw [e1]
  rw [hnt] at e3 e4 h3
  rw [hnw] at e3 h3
  rw [hnw] at e4
  omega
end Go.Proofs.YtgbkpjiefaejiaaDoor
