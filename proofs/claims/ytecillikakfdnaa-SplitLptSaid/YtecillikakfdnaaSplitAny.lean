/- SplitAny: the plain law and the walk. -/
import Derived.Test.YtecillikakfdnaaSplitBest
namespace Go.Proofs.Ytecillikakfdnaa
open Go.RowKit

set_option maxHeartbeats 400000 in
theorem best_bad (A : Option Addr) (len cap : Nat) (ts : List Int) (h : Int) (w : World) (hr : Rd w A len 1 (ints .i64 ts)) (hl : len ≤ 9223372036854775807) (hok : schk ts h ≠ 0) :
    Calls Try.prog 6 #[.slice A len cap, .int .i64 h] w fun e w' => e = .returned (.tuple #[.int .i64 0, .int .i64 (schk ts h)]) ∧ Below w.heap.size w w' := by
  have HW := Lib.hid (wrong_any A len cap ts h w hr hl)
  have hb : (schk ts h != 0) = true := by simpa using hok
  clear hr hok
  go_enter Try.func6, Try.ntmps6
  go_wp2_with fail
  refine HW.out.mono ?_
  rintro e w1 ⟨rfl, hb1⟩
  go_wp2
  go_ret2
  exact ⟨rfl, hb1⟩
/-- every list that gives the things to hands ends no earlier -/
theorem endTo_ge (ts l : List Int) : ∀ (n b : Nat), b < n → load ts l b ≤ endTo ts l n
  | 0, b, h => absurd h (by omega)
  | n + 1, b, h => by
    unfold endTo
    by_cases hb : b = n
    · subst hb; split <;> omega
    · have := endTo_ge ts l n b (by omega)
      split <;> omega
theorem bit_full (n i : Nat) (h : i < n) : (2 ^ n - 1).testBit i = true := by
  rw [Nat.testBit_two_pow_sub_one]; simp [h]
theorem any_le {ts l : List Int} {h : Nat} {x : Int} (ho : Opt ts h (2 ^ ts.length - 1) x) (hl : l.length = ts.length) (hin : insideB h l = true) (h1 : 1 ≤ h) : x ≤ endTo ts l h := by
  have hr : ∀ i, i < ts.length → 0 ≤ l.getD i 0 ∧ l.getD i 0 < h := by
    intro i hi
    have := List.all_eq_true.1 hin (l[i]'(by omega)) (List.getElem_mem _)
    simp [inB] at this
    simp [List.getD, show i < l.length by omega]
    omega
  refine ho.2 (fun i => if i < ts.length then (l.getD i 0).toNat else 0) (fun i => ?_) _ fun b hb => ?_
  · show (if i < ts.length then (l.getD i 0).toNat else 0) < h
    split
    · rename_i hi; have := hr i hi; omega
    · omega
  · have : has ts (2 ^ ts.length - 1) (fun i => if i < ts.length then (l.getD i 0).toNat else 0) b = load ts l b := by
      unfold has load
      rw [hl]
      refine sum_congr fun i hi => ?_
      have := hr i hi
      simp only [inW, bit_full _ i hi, hi, if_true, Bool.true_and, beq_iff_eq]
      by_cases he : l.getD i 0 = (b : Int)
      · rw [if_pos (by omega), if_pos he]
      · rw [if_neg (by omega), if_neg he]
    rw [this]
    exact endTo_ge ts l h b hb
theorem sum_add {n : Nat} (F G : Nat → Int) : ((List.range n).map fun i => F i + G i).sum = ((List.range n).map F).sum + ((List.range n).map G).sum := by
  induction n with
  | zero => rfl
  | succ n ih => simp only [List.range_succ, List.map_append, List.sum_append, ih]; simp; omega
theorem sum_one (h a : Nat) (t : Int) (ha : a < h) : ((List.range h).map fun b => if a == b then t else 0).sum = t := by
  have key : ∀ n, ((List.range n).map fun b => if a == b then t else 0).sum = if a < n then t else 0 := by
    intro n
    induction n with
    | zero => rfl
    | succ n ih =>
      rw [List.range_succ, List.map_append, List.sum_append, ih]
      by_cases h1 : a = n
      · subst h1; simp
      · by_cases h2 : a < n
        · simp [h1, h2, show a < n + 1 by omega]
        · simp [h1, h2, show ¬ a < n + 1 by omega]
  rw [key, if_pos ha]
theorem sum_hands (t : Nat → Int) (c : Nat → Bool) (f : Nat → Nat) (h : Nat) (hf : ∀ i, f i < h) : ∀ n : Nat,
    ((List.range h).map fun b => ((List.range n).map fun i => if c i && f i == b then t i else 0).sum).sum = ((List.range n).map fun i => if c i then t i else 0).sum
  | 0 => by
    have : ∀ n, ((List.range n).map fun _ => (0 : Int)).sum = 0 := by
      intro n; induction n with
      | zero => rfl
      | succ n ih => rw [List.range_succ, List.map_append, List.sum_append, ih]; simp
    simpa using this h
  | n + 1 => by
    have ih := sum_hands t c f h hf n
    have hs : ∀ b, ((List.range (n + 1)).map fun i => if c i && f i == b then t i else 0).sum = ((List.range n).map fun i => if c i && f i == b then t i else 0).sum + (if c n && f n == b then t n else 0) := by
      intro b; rw [List.range_succ, List.map_append, List.sum_append]; simp
    rw [sum_congr (fun b _ => hs b), sum_add, ih, List.range_succ, List.map_append, List.sum_append]
    congr 1
    cases hc : c n
    · have : ∀ n, ((List.range n).map fun _ => (0 : Int)).sum = 0 := by
        intro n; induction n with
        | zero => rfl
        | succ n ih => rw [List.range_succ, List.map_append, List.sum_append, ih]; simp
      simpa [hc] using this h
    · simpa [hc] using sum_one h (f n) (t n) (hf n)
theorem sum_le_mul {h : Nat} {F : Nat → Int} {x : Int} (hF : ∀ b, b < h → F b ≤ x) : ((List.range h).map F).sum ≤ h * x := by
  induction h with
  | zero => simp
  | succ h ih =>
    have := ih fun b hb => hF b (by omega)
    have hh := hF h (by omega)
    rw [List.range_succ, List.map_append, List.sum_append, Int.natCast_add, Int.add_mul]
    simp
    omega
theorem opt_sum {ts : List Int} {h : Nat} {x : Int} (ho : Opt ts h (2 ^ ts.length - 1) x) : sumW ts (2 ^ ts.length - 1) ≤ h * x := by
  obtain ⟨⟨f, hf, hb⟩, _⟩ := ho
  have := sum_hands (fun i => ts.getD i 0) (inW (2 ^ ts.length - 1)) f h hf ts.length
  unfold sumW
  rw [← this]
  exact sum_le_mul hb
theorem sum_ge_term {n : Nat} {F : Nat → Int} (hF : ∀ i, i < n → 0 ≤ F i) {k : Nat} (hk : k < n) : F k ≤ ((List.range n).map F).sum := by
  induction n with
  | zero => omega
  | succ n ih =>
    have h0 := sum_nonneg (n := n) (F := F) fun i hi => hF i (by omega)
    rw [List.range_succ, List.map_append, List.sum_append]
    simp
    by_cases h : k = n
    · subst h; omega
    · have := ih (fun i hi => hF i (by omega)) (by omega)
      have := hF n (by omega)
      omega
theorem opt_each {ts : List Int} (ht : ∀ i, 0 ≤ ts.getD i 0) {h : Nat} {x : Int} (ho : Opt ts h (2 ^ ts.length - 1) x) (k : Nat) (hk : k < ts.length) : ts.getD k 0 ≤ x := by
  obtain ⟨⟨f, hf, hb⟩, _⟩ := ho
  refine Int.le_trans ?_ (hb (f k) (hf k))
  have := sum_ge_term (n := ts.length) (F := fun i => if inW (2 ^ ts.length - 1) i && f i == f k then ts.getD i 0 else 0) (fun i _ => by split; exact ht i; exact Int.le_refl _) hk
  simp only [inW, bit_full _ k hk, beq_self_eq_true, Bool.and_self, if_true] at this
  exact this
def psum (ts : List Int) (k : Nat) : Int := ((List.range k).map fun i => ts.getD i 0).sum
theorem psum_succ (ts : List Int) (k : Nat) : psum ts (k + 1) = psum ts k + ts.getD k 0 := by simp [psum, List.range_succ, List.sum_append]
theorem psum_full (ts : List Int) : psum ts ts.length = sumW ts (2 ^ ts.length - 1) := sum_congr fun i hi => by simp [inW, bit_full _ i hi]
theorem psum_bound {ts : List Int} (h : ∀ i, 0 ≤ ts.getD i 0 ∧ ts.getD i 0 ≤ 1048576) : ∀ k : Nat, 0 ≤ psum ts k ∧ psum ts k ≤ k * 1048576
  | 0 => by simp [psum]
  | k + 1 => by
    have ih := psum_bound h k
    have hk := h k
    rw [psum_succ]
    omega
theorem opt_le_sum {ts : List Int} (ht : ∀ i, 0 ≤ ts.getD i 0) {h w : Nat} {x : Int} (h1 : 1 ≤ h) (ho : Opt ts h w x) : x ≤ sumW ts w := by
  refine ho.2 (fun _ => 0) (fun _ => h1) _ fun b hb => ?_
  by_cases h0 : b = 0
  · subst h0
    have : has ts w (fun _ => 0) 0 = sumW ts w := sum_congr fun i _ => by simp
    rw [this]; exact Int.le_refl _
  · have : has ts w (fun _ => 0) b ≤ sumW ts w := by
      have h2 : has ts w (fun _ => 0) b = ((List.range ts.length).map fun _ => (0 : Int)).sum := sum_congr fun i _ => by
        have : ¬ 0 = b := fun h => h0 h.symm
        simp [this]
      rw [h2]
      have h3 : ∀ n, ((List.range n).map fun _ => (0 : Int)).sum = 0 := by
        intro n; induction n with
        | zero => rfl
        | succ n ih => rw [List.range_succ, List.map_append, List.sum_append, ih]; simp
      rw [h3]
      exact sum_nonneg fun i _ => by split; exact ht i; exact Int.le_refl _
    exact this
end Go.Proofs.Ytecillikakfdnaa
