/- beats.Make: the words of players with these scores: plain. -/
import Derived.Test.YtnlgmjigadgneaaLandauLaw
import Derived.Test.YtnlgmjigadgneaaTour
import Derived.Test.YtnlgmjigadgneaaCaro
namespace Go.Proofs.Ytnlgmjigadgneaa
open Go.RowKit

/-- the first i words of players with these scores -/
structure TS (n : Nat) (sc : List Int) (i : Nat) (T : List Nat) : Prop where
  lt : ∀ a, a < i → T.getD a 0 < 2 ^ n
  self : ∀ a, a < i → (T.getD a 0).testBit a = false
  sum : ∀ a, a < i → ((popc 10 (T.getD a 0) : Nat) : Int) = sc.getD a 0
  one : ∀ a b, a < b → b < i → (T.getD b 0).testBit a = !(T.getD a 0).testBit b
/-- what those ahead have settled of a word -/
def nowW (T : List Nat) (i : Nat) : Nat → Nat
  | 0 => 0
  | k + 1 => nowW T i k ||| if (T.getD k 0).testBit i then 0 else 2 ^ k
theorem nowW_bit (T : List Nat) (i : Nat) : ∀ k m, (nowW T i k).testBit m = (decide (m < k) && !(T.getD m 0).testBit i)
  | 0, m => by simp [nowW]
  | k + 1, m => by
    rw [nowW, Nat.testBit_or, nowW_bit T i k m]
    by_cases h : m = k
    · subst h
      cases hb : (T.getD m 0).testBit i <;> simp
    · have h1 : (if (T.getD k 0).testBit i then 0 else 2 ^ k : Nat).testBit m = false := by
        split
        · simp
        · rw [Nat.testBit_two_pow]; simp; omega
      rw [h1, Bool.or_false]
      congr 1
      exact decide_eq_decide.2 (by omega)
theorem nowW_lt (T : List Nat) (i k : Nat) : nowW T i k < 2 ^ k := Nat.lt_pow_two_of_testBit _ fun m hm => by
  rw [nowW_bit]; simp; omega
theorem nowW_congr {T X : List Nat} (i : Nat) : ∀ k, (∀ a, a < k → X.getD a 0 = T.getD a 0) → nowW X i k = nowW T i k
  | 0, _ => rfl
  | k + 1, h => by rw [nowW, nowW, nowW_congr i k (fun a ha => h a (by omega)), h k (by omega)]
theorem and_low (w i : Nat) : w &&& (2 ^ i - 1) = w % 2 ^ i := Nat.and_two_pow_sub_one_eq_mod w i
/-- a word goes on -/
theorem ts_step {n i : Nat} {sc : List Int} {T : List Nat} {w : Nat} (hT : T.length = n) (hi : i < n) (h : TS n sc i T) (hw : w < 2 ^ n) (h1 : w &&& (2 ^ i - 1) = nowW T i i) (h2 : w.testBit i = false) (h3 : ((popc 10 w : Nat) : Int) = sc.getD i 0) : TS n sc (i + 1) (T.set i w) := by
  have hset : ∀ a, (T.set i w).getD a 0 = if a = i then w else T.getD a 0 := fun a => by
    simp only [List.getD, List.getElem?_set]
    by_cases ha : i = a
    · subst ha; simp [hT, hi]
    · rw [if_neg ha, if_neg (fun e => ha e.symm)]
  refine ⟨fun a ha => ?_, fun a ha => ?_, fun a ha => ?_, fun a b hab hb => ?_⟩
  · rw [hset]; split
    · exact hw
    · exact h.lt a (by omega)
  · rw [hset]; split
    · rename_i e; subst e; exact h2
    · exact h.self a (by omega)
  · rw [hset]; split
    · rename_i e; subst e; exact h3
    · exact h.sum a (by omega)
  · rw [hset, hset, if_neg (show a ≠ i by omega)]
    split
    · rename_i e
      subst e
      have := congrArg (fun z => z.testBit a) h1
      simp only [Nat.testBit_and, Nat.testBit_two_pow_sub_one, nowW_bit, hab, decide_true, Bool.and_true, Bool.true_and] at this
      exact this
    · exact h.one a b hab (by omega)
/-- whoever goes on so has such a word -/
theorem ts_word {n i : Nat} {sc : List Int} {T X : List Nat} (hi : i < n) (hX : TS n sc n X) (hXT : ∀ a, a < i → X.getD a 0 = T.getD a 0) :
    X.getD i 0 < 2 ^ n ∧ X.getD i 0 &&& (2 ^ i - 1) = nowW T i i ∧ (X.getD i 0).testBit i = false ∧ ((popc 10 (X.getD i 0) : Nat) : Int) = sc.getD i 0 := by
  refine ⟨hX.lt i hi, ?_, hX.self i hi, hX.sum i hi⟩
  refine Nat.eq_of_testBit_eq fun m => ?_
  rw [Nat.testBit_and, Nat.testBit_two_pow_sub_one, nowW_bit]
  by_cases hm : m < i
  · rw [hX.one m i hm hi, hXT m hm]; simp [hm]
  · simp [hm]
theorem now_le {i : Nat} {T : List Nat} {w : Nat} (h1 : w &&& (2 ^ i - 1) = nowW T i i) : nowW T i i ≤ w := by rw [← h1]; exact Nat.and_le_left
theorem ts_tour {n : Nat} {sc : List Int} {T : List Nat} (hT : T.length = n) (h6 : n ≤ 6) (h : TS n sc n T) : Tour T := by
  refine ⟨by omega, fun i hi => by rw [hT] at hi ⊢; exact h.lt i hi, fun i hi => h.self i (by omega), fun i j hi hj hij => ?_⟩
  rw [hT] at hi hj
  rcases Nat.lt_or_gt_of_ne hij with hlt | hlt
  · rw [h.one i j hlt hj, Bool.not_not]
  · exact h.one j i hlt hi
/-- the sum of the scores that are meant, of those that may be -/
def inr (n : Nat) (x : Int) : Bool := !decide (x < 0) && !decide ((n : Int) < x)
def sumR (n : Nat) (sc : List Int) (s : Nat) : Nat → Int
  | 0 => 0
  | k + 1 => sumR n sc s k + if inr n (sc.getD k 0) && s.testBit k then sc.getD k 0 else 0
def allR (n : Nat) (sc : List Int) : Bool := (List.range n).all fun k => inr n (sc.getD k 0)
def goodS (n : Nat) (sc : List Int) (s : Nat) : Bool :=
  decide (((popc 10 s : Nat) : Int) * (((popc 10 s : Nat) : Int) - 1) / 2 ≤ sumR n sc s n) && (decide (popc 10 s < n) || (sumR n sc s n == ((popc 10 s : Nat) : Int) * (((popc 10 s : Nat) : Int) - 1) / 2))
def mayK (n : Nat) (sc : List Int) : Nat → Bool
  | 0 => true
  | s + 1 => (mayK n sc s && allR n sc) && goodS n sc s
theorem mayK_iff (n : Nat) (sc : List Int) : ∀ m, 0 < m → (mayK n sc m = true ↔ allR n sc = true ∧ ∀ s, s < m → goodS n sc s = true)
  | 0, h => by omega
  | m + 1, _ => by
    rw [mayK, Bool.and_eq_true, Bool.and_eq_true]
    rcases Nat.eq_zero_or_pos m with h0 | h0
    · subst h0
      constructor
      · rintro ⟨⟨_, h1⟩, h2⟩
        exact ⟨h1, fun s hs => by obtain rfl : s = 0 := by omega
                                  exact h2⟩
      · rintro ⟨h1, h2⟩
        exact ⟨⟨rfl, h1⟩, h2 0 (by omega)⟩
    · rw [mayK_iff n sc m h0]
      constructor
      · rintro ⟨⟨⟨_, h1⟩, h2⟩, h3⟩
        refine ⟨h2, fun s hs => ?_⟩
        by_cases h : s = m
        · subst h; exact h3
        · exact h1 s (by omega)
      · rintro ⟨h1, h2⟩
        exact ⟨⟨⟨h1, fun s hs => h2 s (by omega)⟩, h1⟩, h2 m (by omega)⟩
theorem popc_size {n : Nat} (hn : n ≤ 10) {s : Nat} (hs : s < 2 ^ n) : popc 10 s = sizeS s.testBit n := by
  unfold popc sizeS
  rw [← List.countP_eq_length_filter]
  have : List.range 10 = List.range n ++ (List.range (10 - n)).map (n + ·) := by
    rw [← List.range_add]; congr 1; omega
  rw [this, List.countP_append, List.countP_map]
  have h0 : (List.range (10 - n)).countP ((fun i => s.testBit i) ∘ fun x => n + x) = 0 := by
    rw [List.countP_eq_zero]
    intro a _
    simp only [Function.comp]
    rw [Nat.testBit_lt_two_pow (Nat.lt_of_lt_of_le hs (Nat.pow_le_pow_right (by omega) (by omega)))]
    simp
  rw [h0]
  rfl
theorem sumR_sum {n : Nat} {sc : List Int} (h : allR n sc = true) (s : Nat) : ∀ k, k ≤ n → sumR n sc s k = ((sumS s.testBit (fun x => (sc.getD x 0).toNat) k : Nat) : Int)
  | 0, _ => rfl
  | k + 1, hk => by
    have ih := sumR_sum h s k (by omega)
    have hi := List.all_eq_true.1 h k (List.mem_range.2 (by omega))
    have hi0 : 0 ≤ sc.getD k 0 := by unfold inr at hi; simp at hi; exact hi.1
    unfold sumS at *
    rw [sumR, sumN, ih, hi, Bool.true_and]
    dsimp only
    split <;> omega
theorem half_le (k x : Nat) : (k : Int) * ((k : Int) - 1) / 2 ≤ (x : Int) ↔ k * k ≤ 2 * x + k := by
  have e : (k : Int) * ((k : Int) - 1) = ((k * k : Nat) : Int) - k := by rw [Int.mul_sub, Int.mul_one, Int.natCast_mul]
  have hp : (k * k) % 2 = k % 2 := by
    rw [Nat.mul_mod]
    rcases Nat.mod_two_eq_zero_or_one k with h | h <;> rw [h]
  rw [e]
  omega
theorem half_eq (k x : Nat) : ((x : Int) == (k : Int) * ((k : Int) - 1) / 2) = decide (k * k = 2 * x + k) := by
  have e : (k : Int) * ((k : Int) - 1) = ((k * k : Nat) : Int) - k := by rw [Int.mul_sub, Int.mul_one, Int.natCast_mul]
  have hp : (k * k) % 2 = k % 2 := by
    rw [Nat.mul_mod]
    rcases Nat.mod_two_eq_zero_or_one k with h | h <;> rw [h]
  rw [e]
  by_cases h : k * k = 2 * x + k
  · rw [decide_eq_true h, beq_iff_eq]; omega
  · rw [decide_eq_false h, beq_eq_false_iff_ne]; omega
theorem good_iff {n : Nat} (hn : n ≤ 10) {sc : List Int} (h : allR n sc = true) {s : Nat} (hs : s < 2 ^ n) :
    goodS n sc s = true ↔ sizeS s.testBit n * sizeS s.testBit n ≤ 2 * sumS s.testBit (fun x => (sc.getD x 0).toNat) n + sizeS s.testBit n ∧
      (sizeS s.testBit n < n ∨ sizeS s.testBit n * sizeS s.testBit n = 2 * sumS s.testBit (fun x => (sc.getD x 0).toNat) n + sizeS s.testBit n) := by
  unfold goodS
  rw [sumR_sum h s n (Nat.le_refl _), popc_size hn hs, half_eq, Bool.and_eq_true, Bool.or_eq_true, decide_eq_true_eq, decide_eq_true_eq, decide_eq_true_eq, half_le]
theorem sumS_congr {S S' : Nat → Bool} {f : Nat → Nat} {n : Nat} (h : ∀ i, i < n → S i = S' i) : sumS S f n = sumS S' f n := sumN_congr n fun i hi => by rw [h i hi]
theorem sizeS_congr {S S' : Nat → Bool} {n : Nat} (h : ∀ i, i < n → S i = S' i) : sizeS S n = sizeS S' n := by
  unfold sizeS
  exact List.countP_congr fun x hx => by rw [h x (List.mem_range.1 hx)]
/-- LANDAU, in words -/
theorem landau_ts {n : Nat} (h6 : n ≤ 6) {sc : List Int} : (∃ T : List Nat, TS n sc n T) ↔ mayK n sc (2 ^ n) = true := by
  rw [mayK_iff n sc _ (Nat.two_pow_pos n)]
  have h64 : 2 ^ n ≤ 2 ^ 10 := Nat.pow_le_pow_right (by omega) (by omega)
  constructor
  · rintro ⟨T, hT⟩
    obtain ⟨B, hB⟩ : ∃ B : Nat → Nat → Bool, B = fun a b => if a < n ∧ b < n then (T.getD a 0).testBit b else decide (a < b) := ⟨_, rfl⟩
    have hin : ∀ a b, a < n → b < n → B a b = (T.getD a 0).testBit b := fun a b ha hb => by rw [hB]; exact if_pos ⟨ha, hb⟩
    have hTr : Trn B := by
      refine ⟨fun a => ?_, fun a b hab => ?_⟩
      · by_cases ha : a < n
        · rw [hin a a ha ha]; exact hT.self a ha
        · rw [hB]; simp [ha]
      · by_cases h : a < n ∧ b < n
        · rw [hin a b h.1 h.2, hin b a h.2 h.1]
          rcases Nat.lt_or_gt_of_ne hab with hlt | hlt
          · rw [hT.one a b hlt h.2, Bool.not_not]
          · exact hT.one b a hlt h.1
        · rw [hB]
          simp only
          rw [if_neg h, if_neg (fun h' => h ⟨h'.2, h'.1⟩)]
          by_cases hlt : a < b
          · rw [decide_eq_true hlt, decide_eq_false (by omega)]; rfl
          · rw [decide_eq_false hlt, decide_eq_true (by omega)]; rfl
    have hsc : ∀ a, a < n → ((scr n B a : Nat) : Int) = sc.getD a 0 := fun a ha => by
      rw [← hT.sum a ha, popc_size (by omega) (hT.lt a ha)]
      congr 1
      unfold scr sizeS
      exact List.countP_congr fun x hx => by rw [hin a x ha (List.mem_range.1 hx)]
    have hall : allR n sc = true := List.all_eq_true.2 fun a ha => by
      have := hsc a (List.mem_range.1 ha)
      have h2 : scr n B a ≤ n := by
        unfold scr
        have := List.countP_le_length (p := B a) (l := List.range n)
        simpa using this
      unfold inr
      rw [decide_eq_false (by omega), decide_eq_false (by omega)]; rfl
    refine ⟨hall, fun s hs => (good_iff (by omega) hall hs).2 ?_⟩
    have e : ∀ S : Nat → Bool, sumS S (fun x => (sc.getD x 0).toNat) n = sumS S (scr n B) n := fun S => sumN_congr n fun i hi => by
      have := hsc i hi
      dsimp only
      split
      · omega
      · rfl
    rw [e]
    refine ⟨landau_must _ hTr n, ?_⟩
    by_cases hk : sizeS s.testBit n < n
    · exact .inl hk
    · right
      have hle : sizeS s.testBit n ≤ n := by
        have := List.countP_le_length (p := s.testBit) (l := List.range n)
        simpa [sizeS] using this
      have hal : ∀ i, i < n → s.testBit i = true := by
        have : (List.range n).countP s.testBit = (List.range n).length := by simp; unfold sizeS at hk hle; omega
        exact fun i hi => List.countP_eq_length.1 this i (List.mem_range.2 hi)
      have h1 := landau_all hTr n
      rw [sizeS_congr (S' := fun _ => true) hal, sumS_congr (S' := fun _ => true) hal, sumS_all]
      have e2 : sizeS (fun _ => true) n = n := by unfold sizeS; rw [List.countP_true]; simp
      rw [e2]; exact h1
  · rintro ⟨hall, hgood⟩
    have hfull : 2 ^ n - 1 < 2 ^ n := by have := Nat.two_pow_pos n; omega
    have hfb : ∀ i, i < n → (2 ^ n - 1).testBit i = true := fun i hi => by rw [Nat.testBit_two_pow_sub_one]; simpa using hi
    have e2 : sizeS (fun _ => true) n = n := by unfold sizeS; rw [List.countP_true]; simp
    obtain ⟨B, hTr, hB⟩ := landau (n := n) (s := fun x => (sc.getD x 0).toNat) (by
      have := (good_iff (by omega) hall hfull).1 (hgood _ hfull)
      rw [sizeS_congr (S' := fun _ => true) hfb, sumS_congr (S' := fun _ => true) hfb, sumS_all, e2] at this
      omega) (fun S => by
      have hw := wordOf_lt S n
      have hb : ∀ i, i < n → (wordOf n S).testBit i = S i := fun i hi => by rw [wordOf_bit]; simp [hi]
      have := ((good_iff (by omega) hall hw).1 (hgood _ hw)).1
      rw [sizeS_congr (S' := S) hb, sumS_congr (S' := S) hb] at this
      exact this)
    have hget : ∀ a, a < n → ((List.range n).map fun a => wordOf n (B a)).getD a 0 = wordOf n (B a) := fun a ha => by simp [List.getD, ha]
    refine ⟨(List.range n).map fun a => wordOf n (B a), fun a ha => ?_, fun a ha => ?_, fun a ha => ?_, fun a b hab hb => ?_⟩
    · rw [hget a ha]; exact wordOf_lt _ n
    · rw [hget a ha, wordOf_bit, hTr.irr]; simp
    · rw [hget a ha, popc_size (by omega) (wordOf_lt _ n)]
      have h1 := hB a ha
      have h2 : sizeS (wordOf n (B a)).testBit n = scr n B a := by
        unfold scr sizeS
        exact List.countP_congr fun x hx => by rw [wordOf_bit]; simp [List.mem_range.1 hx]
      have hi := List.all_eq_true.1 hall a (List.mem_range.2 ha)
      have hi0 : 0 ≤ sc.getD a 0 := by unfold inr at hi; simp at hi; exact hi.1
      rw [h2, h1]
      omega
    · rw [hget a (by omega), hget b hb, wordOf_bit, wordOf_bit, hTr.one b a (by omega)]
      simp [hb, show a < n by omega]
end Go.Proofs.Ytnlgmjigadgneaa
