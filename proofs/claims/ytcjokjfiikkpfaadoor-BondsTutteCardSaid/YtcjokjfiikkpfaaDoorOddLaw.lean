/- TUTTE, BERGE: plain: behind no wall more odd parts, less the wall, than a bond leaves over. -/
import Derived.Test.YtcjokjfiikkpfaaDoorBondLaw
namespace Go.Proofs.YtcjokjfiikkpfaaDoor

theorem one_off {f g : Nat → Bool} (v : Nat) (h : ∀ i, i ≠ v → f i = g i) : ∀ N, (List.range N).countP f ≤ (List.range N).countP g + if v < N then 1 else 0
  | 0 => by simp
  | N + 1 => by
    have ih := one_off v h N
    simp only [List.range_succ, List.countP_append, List.countP_cons, List.countP_nil, Nat.zero_add]
    by_cases e : N = v
    · subst e
      rw [if_neg (show ¬ N < N by omega)] at ih
      rw [if_pos (show N < N + 1 by omega)]
      split <;> split <;> omega
    · rw [h N e]
      by_cases e2 : v < N
      · rw [if_pos e2] at ih; rw [if_pos (show v < N + 1 by omega)]; omega
      · rw [if_neg e2] at ih; rw [if_neg (show ¬ v < N + 1 by omega)]; omega
theorem one_off' {f g : Nat → Bool} (v : Nat) (h : ∀ i, i ≠ v → f i = g i) (N : Nat) : (List.range N).countP f ≤ (List.range N).countP g + 1 := by
  have := one_off v h N
  split at this <;> omega
/-- of one class, how many of a list; an odd number? -/
def clsL (p : Nat → Nat) (Q : VS) (i : Nat) (L : List Nat) : Nat := L.countP fun j => decide (p j = i) && Q j
def oddL (N : Nat) (p : Nat → Nat) (Q : VS) (L : List Nat) : Nat := (List.range N).countP fun i => clsL p Q i L % 2 == 1
theorem odd_base (N : Nat) (p : Nat → Nat) (Q : VS) : ∀ L : List Nat, oddL N p Q L ≤ L.countP Q
  | [] => by simp [oddL, clsL]
  | j :: L => by
    have ih := odd_base N p Q L
    rw [List.countP_cons]
    have hc : ∀ i, clsL p Q i (j :: L) = clsL p Q i L + if (decide (p j = i) && Q j) = true then 1 else 0 := fun i => by unfold clsL; rw [List.countP_cons]
    cases hq : Q j
    · have : oddL N p Q (j :: L) = oddL N p Q L := by
        unfold oddL
        refine List.countP_congr fun i _ => ?_
        rw [hc, hq]; simp
      rw [this]; simp; omega
    · have := one_off' (f := fun i => clsL p Q i (j :: L) % 2 == 1) (g := fun i => clsL p Q i L % 2 == 1) (p j) (fun i hi => by
        rw [hc, decide_eq_false (fun e => hi e.symm)]; simp) N
      unfold oddL at ih ⊢
      simp only [if_true]
      omega
theorem cnt_rmv {R : VS} {a N : Nat} (ha : a < N) (hR : R a = true) : (List.range N).countP R = (List.range N).countP (rmv R a) + 1 := by
  have : ∀ N, (List.range N).countP R = (List.range N).countP (rmv R a) + if a < N then 1 else 0 := fun N => by
    induction N with
    | zero => simp
    | succ N ih =>
      simp only [List.range_succ, List.countP_append, List.countP_cons, List.countP_nil, Nat.zero_add, ih]
      by_cases e : N = a
      · subst e
        have h1 : rmv R N N = false := by simp [rmv]
        rw [hR, h1, if_neg (show ¬ N < N by omega), if_pos (show N < N + 1 by omega)]; simp
      · have h1 : rmv R a N = R N := by simp [rmv, e]
        rw [h1]
        by_cases e2 : a < N
        · rw [if_pos e2, if_pos (show a < N + 1 by omega)]; omega
        · rw [if_neg e2, if_neg (show ¬ a < N + 1 by omega)]; omega
  rw [this N, if_pos ha]
theorem rmv_no {R : VS} {a : Nat} (h : R a = false) : rmv R a = R := by
  funext k
  by_cases e : k = a
  · subst e; simp [rmv, h]
  · simp [rmv, e]
theorem cnt_rmv' {R : VS} {a N : Nat} (ha : a < N) : (List.range N).countP R = (List.range N).countP (rmv R a) + if R a = true then 1 else 0 := by
  cases h : R a
  · rw [rmv_no h]; simp
  · rw [cnt_rmv ha h]; simp
/-- how many classes have an odd number of members outside the wall -/
def oddc (N : Nat) (p : Nat → Nat) (W P : VS) : Nat := oddL N p (fun j => P j && !W j) (List.range N)
theorem odd_bound {N : Nat} {p : Nat → Nat} {W : VS} {es : List (Int × Int × Int)} (hes : ∀ e ∈ es, eA e < N ∧ eB e < N) (hp : ∀ e ∈ es, W (eA e) = false → W (eB e) = false → p (eA e) = p (eB e)) {P : VS} {c : Nat} (h : Bd es P c) :
    oddc N p W P + 2 * c ≤ (List.range N).countP P + (List.range N).countP (fun j => P j && W j) := by
  induction h with
  | @nil P =>
    have h1 := odd_base N p (fun j => P j && !W j) (List.range N)
    have h2 : (List.range N).countP (fun j => P j && !W j) ≤ (List.range N).countP P := List.countP_mono_left fun j _ hj => by
      simp only [Bool.and_eq_true] at hj; exact hj.1
    unfold oddc
    omega
  | skip _ ih => exact ih (fun e he => hes e (List.mem_cons_of_mem _ he)) (fun e he => hp e (List.mem_cons_of_mem _ he))
  | @take e es P c h1 h2 h3 _ ih =>
    have ih := ih (fun e he => hes e (List.mem_cons_of_mem _ he)) (fun e he => hp e (List.mem_cons_of_mem _ he))
    obtain ⟨ha, hb⟩ := hes e (by simp)
    have hpe := hp e (by simp)
    generalize eA e = a at *
    generalize eB e = b at *
    -- what goes of a count
    have hgo : ∀ T : VS, (List.range N).countP (fun j => P j && T j) = (List.range N).countP (fun j => rmv (rmv P a) b j && T j) + (if T a = true then 1 else 0) + (if T b = true then 1 else 0) := fun T => by
      rw [cnt_rmv' (R := fun j => P j && T j) ha, cnt_rmv' (R := rmv (fun j => P j && T j) a) hb]
      have e1 : rmv (rmv (fun j => P j && T j) a) b = fun j => rmv (rmv P a) b j && T j := by
        funext k
        simp only [rmv]
        cases P k <;> cases T k <;> simp
      have e2 : rmv (fun j => P j && T j) a b = T b := by simp [rmv, h2, h3.symm]
      rw [e1, e2]
      simp only [h1, Bool.true_and]
      omega
    have hP := hgo fun _ => true
    have hW := hgo W
    have hP1 : (fun j => P j && (fun _ => true) j) = P := by funext j; simp
    have hP2 : (fun j => rmv (rmv P a) b j && (fun _ => true) j) = rmv (rmv P a) b := by funext j; simp
    rw [hP1, hP2] at hP
    simp only [if_true] at hP
    have hcls : ∀ i, clsL p (fun j => P j && !W j) i (List.range N) = clsL p (fun j => rmv (rmv P a) b j && !W j) i (List.range N) + (if (decide (p a = i) && !W a) = true then 1 else 0) + (if (decide (p b = i) && !W b) = true then 1 else 0) := fun i => by
      have := hgo fun j => decide (p j = i) && !W j
      unfold clsL
      have e1 : (fun j => decide (p j = i) && (P j && !W j)) = fun j => P j && (decide (p j = i) && !W j) := by
        funext j; cases P j <;> simp
      have e2 : (fun j => decide (p j = i) && (rmv (rmv P a) b j && !W j)) = fun j => rmv (rmv P a) b j && (decide (p j = i) && !W j) := by
        funext j; cases rmv (rmv P a) b j <;> simp
      rw [e1, e2, this]
    have hodd : oddc N p W P ≤ oddc N p W (rmv (rmv P a) b) + (if W a = true then 1 else 0) + (if W b = true then 1 else 0) := by
      unfold oddc oddL
      cases hwa : W a <;> cases hwb : W b
      · have hpp := hpe hwa hwb
        rw [hwa, hwb] at hcls
        simp only [Bool.false_eq_true, if_false, Nat.add_zero]
        refine Nat.le_of_eq (List.countP_congr fun i _ => ?_)
        rw [hcls i, hpp]
        cases decide (p b = i) <;> simp
        omega
      · rw [hwa, hwb] at hcls
        have := one_off' (f := fun i => clsL p (fun j => P j && !W j) i (List.range N) % 2 == 1) (g := fun i => clsL p (fun j => rmv (rmv P a) b j && !W j) i (List.range N) % 2 == 1) (p a) (fun i hi => by
          rw [hcls i, decide_eq_false (fun e => hi e.symm)]; simp) N
        simp only [Bool.false_eq_true, if_false, if_true, Nat.add_zero]
        exact this
      · rw [hwa, hwb] at hcls
        have := one_off' (f := fun i => clsL p (fun j => P j && !W j) i (List.range N) % 2 == 1) (g := fun i => clsL p (fun j => rmv (rmv P a) b j && !W j) i (List.range N) % 2 == 1) (p b) (fun i hi => by
          rw [hcls i, decide_eq_false (fun e => hi e.symm) (p := p b = i)]; simp) N
        simp only [Bool.false_eq_true, if_false, if_true, Nat.add_zero]
        exact this
      · rw [hwa, hwb] at hcls
        simp only [if_true]
        have : ((List.range N).countP fun i => clsL p (fun j => P j && !W j) i (List.range N) % 2 == 1) = (List.range N).countP fun i => clsL p (fun j => rmv (rmv P a) b j && !W j) i (List.range N) % 2 == 1 := List.countP_congr fun i _ => by
          rw [hcls i]; simp
        omega
    omega
end Go.Proofs.YtcjokjfiikkpfaaDoor
