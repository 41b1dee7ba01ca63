/- Sums of words, in plain Lean: what comes of some words by sums; how many of them are free. -/
import Derived.Test.YtglbabcefanooaaBase
namespace Go.Proofs.Ytglbabcefanooaa

/-- is x a sum of some of the words? -/
def Sp : List Nat → Nat → Bool
  | [], x => x == 0
  | w :: ws, x => Sp ws x || Sp ws (x ^^^ w)
/-- how many are free, from the last one on -/
def rkL : List Nat → Nat
  | [] => 0
  | w :: ws => if Sp ws w then rkL ws else rkL ws + 1
theorem rkL_cons (w : Nat) (ws : List Nat) : rkL (w :: ws) = if Sp ws w then rkL ws else rkL ws + 1 := rfl
theorem xor_xor (x w : Nat) : x ^^^ w ^^^ w = x := by rw [Nat.xor_assoc, Nat.xor_self, Nat.xor_zero]
theorem Sp_zero : ∀ ws, Sp ws 0 = true
  | [] => rfl
  | w :: ws => by simp [Sp, Sp_zero ws]
theorem Sp_xor : ∀ (ws : List Nat) {x y : Nat}, Sp ws x = true → Sp ws y = true → Sp ws (x ^^^ y) = true
  | [], x, y, hx, hy => by
    simp only [Sp, beq_iff_eq] at *
    subst hx hy
    rfl
  | w :: ws, x, y, hx, hy => by
    simp only [Sp, Bool.or_eq_true] at *
    rcases hx with hx | hx <;> rcases hy with hy | hy
    · exact .inl (Sp_xor ws hx hy)
    · right
      have := Sp_xor ws hx hy
      rwa [← Nat.xor_assoc] at this
    · right
      have := Sp_xor ws hx hy
      rwa [Nat.xor_assoc, Nat.xor_comm w y, ← Nat.xor_assoc] at this
    · left
      have := Sp_xor ws hx hy
      rwa [Nat.xor_assoc, Nat.xor_comm w (y ^^^ w), xor_xor] at this
theorem Sp_self (w : Nat) (ws : List Nat) : Sp (w :: ws) w = true := by simp [Sp, Sp_zero]
theorem Sp_more {ws : List Nat} {w x : Nat} (h : Sp ws x = true) : Sp (w :: ws) x = true := by simp [Sp, h]
theorem Sp_same {ws : List Nat} {w : Nat} (h : Sp ws w = true) (x : Nat) : Sp (w :: ws) x = Sp ws x := by
  show (Sp ws x || Sp ws (x ^^^ w)) = Sp ws x
  cases h1 : Sp ws x with
  | true => rfl
  | false =>
    cases h2 : Sp ws (x ^^^ w) with
    | false => rfl
    | true =>
      have := Sp_xor ws h2 h
      rw [xor_xor, h1] at this
      cases this
theorem Sp_mem {ws : List Nat} : ∀ {w : Nat}, w ∈ ws → Sp ws w = true := by
  induction ws with
  | nil => intro w h; cases h
  | cons a ws ih =>
    intro w h
    rcases List.mem_cons.1 h with rfl | h
    · exact Sp_self _ _
    · exact Sp_more (ih h)
/-- what comes of words that come of others comes of these -/
theorem Sp_of {vs : List Nat} : ∀ {ws : List Nat}, (∀ w ∈ ws, Sp vs w = true) → ∀ {x : Nat}, Sp ws x = true → Sp vs x = true
  | [], _, x, hx => by
    simp only [Sp, beq_iff_eq] at hx
    rw [hx]
    exact Sp_zero vs
  | w :: ws, h, x, hx => by
    have ih : ∀ {y}, Sp ws y = true → Sp vs y = true := Sp_of fun w' hw' => h w' (List.mem_cons_of_mem _ hw')
    simp only [Sp, Bool.or_eq_true] at hx
    rcases hx with hx | hx
    · exact ih hx
    · have := Sp_xor vs (ih hx) (h w (List.mem_cons_self ..))
      rwa [xor_xor] at this
theorem Sp_mono {vs ws : List Nat} (h : ∀ w ∈ ws, w ∈ vs) {x : Nat} (hx : Sp ws x = true) : Sp vs x = true := Sp_of (fun w hw => Sp_mem (h w hw)) hx
/-- how many come of words, of those below 1024 -/
def card (p : Nat → Bool) : Nat := ((List.range 1024).filter p).length
theorem xor_lt {x w : Nat} (hx : x < 1024) (hw : w < 1024) : x ^^^ w < 1024 := Nat.xor_lt_two_pow (n := 10) hx hw
theorem card_le {p q : Nat → Bool} (h : ∀ x, x < 1024 → p x = true → q x = true) : card p ≤ card q := by
  unfold card
  have hnd : ((List.range 1024).filter p).Nodup := List.nodup_range.sublist List.filter_sublist
  refine hnd.length_le_of_subset fun x hx => ?_
  rw [List.mem_filter] at hx ⊢
  exact ⟨hx.1, h x (by simpa using hx.1) hx.2⟩
theorem card_inj {p q : Nat → Bool} (f : Nat → Nat) (h : ∀ x, x < 1024 → p x = true → f x < 1024 ∧ q (f x) = true) (hi : ∀ x y, x < 1024 → y < 1024 → f x = f y → x = y) : card p ≤ card q := by
  unfold card
  have hnd : (((List.range 1024).filter p).map f).Nodup := by
    have h0 : ((List.range 1024).filter p).Nodup := List.nodup_range.sublist List.filter_sublist
    have hm : ∀ a ∈ (List.range 1024).filter p, a < 1024 := fun a ha => by rw [List.mem_filter] at ha; simpa using ha.1
    generalize (List.range 1024).filter p = l at *
    induction l with
    | nil => simp
    | cons a l ih =>
      rw [List.nodup_cons] at h0
      rw [List.map_cons, List.nodup_cons]
      refine ⟨fun hm' => ?_, ih h0.2 fun b hb => hm b (List.mem_cons_of_mem _ hb)⟩
      obtain ⟨b, hb, e⟩ := List.mem_map.1 hm'
      have := hi b a (hm b (List.mem_cons_of_mem _ hb)) (hm a (List.mem_cons_self ..)) e
      subst this
      exact h0.1 hb
  have := hnd.length_le_of_subset (l₂ := (List.range 1024).filter q) fun x hx => by
    obtain ⟨y, hy, rfl⟩ := List.mem_map.1 hx
    rw [List.mem_filter] at hy ⊢
    have := h y (by simpa using hy.1) hy.2
    exact ⟨by simpa using this.1, this.2⟩
  simpa using this
theorem card_xor {p : Nat → Bool} {w : Nat} (hw : w < 1024) : card (fun x => p (x ^^^ w)) = card p := by
  apply Nat.le_antisymm
  · exact card_inj (fun x => x ^^^ w) (fun x hx h => ⟨xor_lt hx hw, h⟩) fun x y _ _ e => by have := congrArg (· ^^^ w) e; simpa [xor_xor] using this
  · exact card_inj (fun x => x ^^^ w) (fun x hx h => ⟨xor_lt hx hw, by simpa [xor_xor] using h⟩) fun x y _ _ e => by have := congrArg (· ^^^ w) e; simpa [xor_xor] using this
theorem filter_or {p q : Nat → Bool} (h : ∀ x, ¬ (p x = true ∧ q x = true)) (l : List Nat) : (l.filter fun x => p x || q x).length = (l.filter p).length + (l.filter q).length := by
  induction l with
  | nil => rfl
  | cons a l ih =>
    have := h a
    cases hp : p a <;> cases hq : q a <;> simp [hp, hq, ih] <;> first | omega | (rw [hp, hq] at this; simp at this)
theorem card_rk : ∀ (ws : List Nat), (∀ w ∈ ws, w < 1024) → card (Sp ws) = 2 ^ rkL ws
  | [], _ => by
    have h : card (Sp []) = 1 := by decide +kernel
    simpa [rkL] using h
  | w :: ws, h => by
    have ih := card_rk ws fun v hv => h v (List.mem_cons_of_mem _ hv)
    have hw := h w (List.mem_cons_self ..)
    unfold rkL
    by_cases hs : Sp ws w = true
    · rw [if_pos hs, ← ih]
      have : Sp (w :: ws) = Sp ws := funext fun x => Sp_same hs x
      rw [this]
    · rw [if_neg hs, Nat.pow_succ, ← ih]
      have : card (Sp (w :: ws)) = card (Sp ws) + card (fun x => Sp ws (x ^^^ w)) := filter_or (p := Sp ws) (q := fun x => Sp ws (x ^^^ w)) (fun x ⟨h1, h2⟩ => by
        have := Sp_xor ws h1 h2
        rw [← Nat.xor_assoc, Nat.xor_self, Nat.zero_xor] at this
        exact hs this) _
      rw [this, card_xor hw]
      omega
theorem rk_le_of {vs ws : List Nat} (hv : ∀ w ∈ vs, w < 1024) (hw : ∀ w ∈ ws, w < 1024) (h : ∀ w ∈ ws, Sp vs w = true) : rkL ws ≤ rkL vs := by
  have := card_le (p := Sp ws) (q := Sp vs) fun x _ hx => Sp_of h hx
  rw [card_rk ws hw, card_rk vs hv] at this
  rcases Nat.lt_or_ge (rkL vs) (rkL ws) with h1 | h1
  · have := Nat.pow_lt_pow_right (a := 2) (by omega) h1
    omega
  · exact h1
theorem rk_eq_of {vs ws : List Nat} (hv : ∀ w ∈ vs, w < 1024) (hw : ∀ w ∈ ws, w < 1024) (h : ∀ w ∈ ws, w ∈ vs) (h' : ∀ w ∈ vs, w ∈ ws) : rkL ws = rkL vs :=
  Nat.le_antisymm (rk_le_of hv hw fun w hw' => Sp_mem (h w hw')) (rk_le_of hw hv fun w hw' => Sp_mem (h' w hw'))
theorem rk_len : ∀ ws, rkL ws ≤ ws.length
  | [] => Nat.le_refl _
  | w :: ws => by
    have := rk_len ws
    unfold rkL
    split <;> simp <;> omega

/-- the words of a set, the last one first -/
def pick (ws : List Nat) (set : Nat) : Nat → List Nat
  | 0 => []
  | k + 1 => if set.testBit k then ws.getD k 0 :: pick ws set k else pick ws set k
theorem mem_pick {ws : List Nat} {set : Nat} {x : Nat} : ∀ k, x ∈ pick ws set k ↔ ∃ i, i < k ∧ set.testBit i = true ∧ ws.getD i 0 = x
  | 0 => by simp [pick]
  | k + 1 => by
    have ih := mem_pick (ws := ws) (set := set) (x := x) k
    unfold pick
    cases hb : set.testBit k with
    | true =>
      simp only [if_true, List.mem_cons, ih]
      constructor
      · rintro (rfl | ⟨i, h1, h2⟩)
        · exact ⟨k, by omega, hb, rfl⟩
        · exact ⟨i, by omega, h2⟩
      · rintro ⟨i, h1, h2, h3⟩
        by_cases hik : i = k
        · subst hik; exact .inl h3.symm
        · exact .inr ⟨i, by omega, h2, h3⟩
    | false =>
      simp only [Bool.false_eq_true, if_false, ih]
      constructor
      · rintro ⟨i, h1, h2⟩
        exact ⟨i, by omega, h2⟩
      · rintro ⟨i, h1, h2, h3⟩
        have : i ≠ k := fun e => by subst e; rw [hb] at h2; cases h2
        exact ⟨i, by omega, h2, h3⟩
/-- how many of a set are free -/
def rkS (ws : List Nat) (n set : Nat) : Nat := rkL (pick ws set n)
section
variable {ws : List Nat} {n a b : Nat}
theorem pick_lt (h : ∀ i, ws.getD i 0 < 1024) : ∀ w ∈ pick ws a n, w < 1024 := fun w hw => by
  obtain ⟨i, _, _, rfl⟩ := (mem_pick n).1 hw
  exact h i
theorem rkS_mono (h : ∀ i, ws.getD i 0 < 1024) (hab : ∀ i, i < n → a.testBit i = true → b.testBit i = true) : rkS ws n a ≤ rkS ws n b :=
  rk_le_of (pick_lt h) (pick_lt h) fun w hw => by
    obtain ⟨i, h1, h2, h3⟩ := (mem_pick n).1 hw
    exact Sp_mem ((mem_pick n).2 ⟨i, h1, hab i h1 h2, h3⟩)
theorem rkS_size : ∀ n, rkS ws n a ≤ ((List.range n).filter fun i => a.testBit i).length
  | 0 => Nat.le_refl _
  | n + 1 => by
    have ih : rkL (pick ws a n) ≤ ((List.range n).filter fun i => a.testBit i).length := rkS_size n
    show rkL (if a.testBit n then ws.getD n 0 :: pick ws a n else pick ws a n) ≤ _
    rw [List.range_succ, List.filter_append, List.length_append]
    cases hb : a.testBit n with
    | true =>
      simp only [if_true, List.filter_cons, hb, List.filter_nil, List.length_singleton]
      rw [rkL_cons]
      split <;> omega
    | false =>
      simp only [Bool.false_eq_true, if_false]
      omega
/-- with one thing more: one more, or as many -/
theorem rkS_add (h : ∀ i, ws.getD i 0 < 1024) {i : Nat} (hi : i < n) : rkS ws n (a ||| 2 ^ i) = if Sp (pick ws a n) (ws.getD i 0) then rkS ws n a else rkS ws n a + 1 := by
  have hmem : ∀ w, w ∈ pick ws (a ||| 2 ^ i) n ↔ w ∈ ws.getD i 0 :: pick ws a n := fun w => by
    rw [mem_pick, List.mem_cons, mem_pick]
    constructor
    · rintro ⟨j, h1, h2, h3⟩
      rw [Nat.testBit_or, Nat.testBit_two_pow, Bool.or_eq_true, decide_eq_true_iff] at h2
      rcases h2 with h2 | rfl
      · exact .inr ⟨j, h1, h2, h3⟩
      · exact .inl h3.symm
    · rintro (rfl | ⟨j, h1, h2, h3⟩)
      · exact ⟨i, hi, by rw [Nat.testBit_or, Nat.testBit_two_pow]; simp, rfl⟩
      · exact ⟨j, h1, by rw [Nat.testBit_or, h2]; rfl, h3⟩
  unfold rkS
  rw [rk_eq_of (vs := ws.getD i 0 :: pick ws a n) (fun w hw => by
    rcases List.mem_cons.1 hw with rfl | hw
    · exact h i
    · exact pick_lt h w hw) (pick_lt h) (fun w hw => (hmem w).1 hw) fun w hw => (hmem w).2 hw]
  rfl
/-- STEINITZ: of more that are free some thing is not a sum of the fewer -/
theorem swap (h : ∀ i, ws.getD i 0 < 1024) (hlt : rkS ws n a < rkS ws n b) : ∃ i, i < n ∧ b.testBit i = true ∧ a.testBit i = false ∧ rkS ws n (a ||| 2 ^ i) = rkS ws n a + 1 := by
  refine Classical.byContradiction fun hno => ?_
  have hall : ∀ w ∈ pick ws b n, Sp (pick ws a n) w = true := fun w hw => by
    obtain ⟨i, h1, h2, rfl⟩ := (mem_pick n).1 hw
    cases ha : a.testBit i with
    | true => exact Sp_mem ((mem_pick n).2 ⟨i, h1, ha, rfl⟩)
    | false =>
      cases hs : Sp (pick ws a n) (ws.getD i 0) with
      | true => rfl
      | false => exact absurd ⟨i, h1, h2, ha, by rw [rkS_add h h1, hs]; rfl⟩ hno
  have := rk_le_of (pick_lt h) (pick_lt h) hall
  unfold rkS at hlt
  omega
/-- those of b below k -/
def cutW (b k : Nat) : Nat := b &&& (2 ^ k - 1)
theorem cutW_bit (b k i : Nat) : (cutW b k).testBit i = (b.testBit i && decide (i < k)) := by
  unfold cutW
  rw [Nat.testBit_and, Nat.testBit_two_pow_sub_one]
theorem sub_step (h : ∀ i, ws.getD i 0 < 1024) : ∀ k, k ≤ n → rkS ws n (a ||| cutW b k) + rkS ws n (a &&& b) ≤ rkS ws n a + rkS ws n ((a &&& b) ||| cutW b k)
  | 0, _ => by
    have e1 : a ||| cutW b 0 = a := Nat.eq_of_testBit_eq fun i => by rw [Nat.testBit_or, cutW_bit]; simp
    have e2 : (a &&& b) ||| cutW b 0 = a &&& b := Nat.eq_of_testBit_eq fun i => by rw [Nat.testBit_or, cutW_bit]; simp
    rw [e1, e2]
    exact Nat.le_refl _
  | k + 1, hk => by
    have ih := sub_step h k (by omega)
    cases hb : b.testBit k with
    | false =>
      have e : cutW b (k + 1) = cutW b k := Nat.eq_of_testBit_eq fun i => by
        rw [cutW_bit, cutW_bit]
        by_cases hik : i = k
        · subst hik; rw [hb]; rfl
        · congr 1
          rw [decide_eq_decide]
          omega
      rw [e]
      exact ih
    | true =>
      have e : ∀ x, x ||| cutW b (k + 1) = (x ||| cutW b k) ||| 2 ^ k := fun x => Nat.eq_of_testBit_eq fun i => by
        rw [Nat.testBit_or, Nat.testBit_or, Nat.testBit_or, cutW_bit, cutW_bit, Nat.testBit_two_pow, Bool.or_assoc]
        congr 1
        by_cases hik : k = i
        · subst hik; rw [hb]; simp
        · rw [show decide (k = i) = false by simp [hik], Bool.or_false]
          congr 1
          rw [decide_eq_decide]
          omega
      rw [e, e, rkS_add h (by omega), rkS_add h (by omega)]
      have hsub : Sp (pick ws ((a &&& b) ||| cutW b k) n) (ws.getD k 0) = true → Sp (pick ws (a ||| cutW b k) n) (ws.getD k 0) = true := fun hs => Sp_mono (fun w hw => by
        obtain ⟨i, h1, h2, h3⟩ := (mem_pick n).1 hw
        refine (mem_pick n).2 ⟨i, h1, ?_, h3⟩
        rw [Nat.testBit_or] at h2 ⊢
        rw [Nat.testBit_and] at h2
        cases ha : a.testBit i
        · rw [ha] at h2; simpa using h2
        · rfl) hs
      cases h1 : Sp (pick ws ((a &&& b) ||| cutW b k) n) (ws.getD k 0) with
      | true =>
        rw [hsub h1]
        simp only [if_true]
        exact ih
      | false =>
        simp only [Bool.false_eq_true, if_false]
        split <;> omega
/-- WHITNEY -/
theorem submod (h : ∀ i, ws.getD i 0 < 1024) : rkS ws n (a ||| b) + rkS ws n (a &&& b) ≤ rkS ws n a + rkS ws n b := by
  have := sub_step h (a := a) (b := b) n (Nat.le_refl _)
  have q1 : rkS ws n (a ||| b) ≤ rkS ws n (a ||| cutW b n) := rkS_mono h fun i hi hb => by
    rw [Nat.testBit_or] at hb ⊢
    rw [cutW_bit]
    simpa [hi] using hb
  have q2 : rkS ws n ((a &&& b) ||| cutW b n) ≤ rkS ws n b := rkS_mono h fun i hi hb => by
    rw [Nat.testBit_or, Nat.testBit_and, cutW_bit] at hb
    cases hbb : b.testBit i
    · rw [hbb] at hb; simp at hb
    · rfl
  omega
theorem rk_zero : ∀ (l : List Nat), rkL l = 0 ↔ ∀ w ∈ l, w = 0
  | [] => by simp [rkL]
  | w :: l => by
    have ih := rk_zero l
    unfold rkL
    constructor
    · intro h0
      split at h0
      · rename_i hs
        have hl := ih.1 h0
        intro v hv
        rcases List.mem_cons.1 hv with rfl | hv
        · have : Sp [] v = true := Sp_of (vs := []) (ws := l) (fun u hu => by rw [hl u hu]; rfl) hs
          simpa [Sp] using this
        · exact hl v hv
      · omega
    · intro hall
      have hl := ih.2 fun v hv => hall v (List.mem_cons_of_mem _ hv)
      rw [hall w (List.mem_cons_self ..), if_pos (Sp_zero l), hl]
theorem rkS_zero : rkS ws n a = 0 ↔ ∀ i, i < n → a.testBit i = true → ws.getD i 0 = 0 := by
  unfold rkS
  rw [rk_zero]
  constructor
  · intro h i hi ha
    exact h _ ((mem_pick n).2 ⟨i, hi, ha, rfl⟩)
  · intro h w hw
    obtain ⟨i, h1, h2, rfl⟩ := (mem_pick n).1 hw
    exact h i h1 h2
end

/-- how long a word is -/
def lenW (w : Nat) : Nat := if w = 0 then 0 else Nat.log2 w + 1
theorem lenW_pos {w : Nat} (h : w ≠ 0) : 2 ^ (lenW w - 1) ≤ w ∧ w < 2 ^ lenW w ∧ 0 < lenW w := by
  unfold lenW
  rw [if_neg h]
  exact ⟨by simpa using Nat.log2_self_le h, Nat.lt_log2_self, by omega⟩
theorem lenW_of {w t : Nat} (h1 : 2 ^ t ≤ w) (h2 : w < 2 ^ (t + 1)) : lenW w = t + 1 := by
  have h0 : w ≠ 0 := by have := Nat.two_pow_pos t; omega
  obtain ⟨h3, h4, h5⟩ := lenW_pos h0
  rcases Nat.lt_trichotomy (lenW w) (t + 1) with h | h | h
  · have := Nat.pow_le_pow_right (n := 2) (by omega) (show lenW w ≤ t by omega)
    omega
  · exact h
  · have := Nat.pow_le_pow_right (n := 2) (by omega) (show t + 1 ≤ lenW w - 1 by omega)
    omega
theorem lenW_top {w : Nat} (h : w ≠ 0) : w.testBit (lenW w - 1) = true := by
  obtain ⟨h1, h2, h3⟩ := lenW_pos h
  exact Nat.testBit_of_two_pow_le_and_two_pow_add_one_gt h1 (by rwa [show lenW w - 1 + 1 = lenW w by omega])
/-- the sum of two as long is shorter -/
theorem lenW_xor {w v : Nat} (hw : w ≠ 0) (hv : v ≠ 0) (h : lenW w = lenW v) : w ^^^ v < 2 ^ (lenW w - 1) := by
  obtain ⟨_, h2, h3⟩ := lenW_pos hw
  obtain ⟨_, h2', _⟩ := lenW_pos hv
  have hx : w ^^^ v < 2 ^ lenW w := Nat.xor_lt_two_pow h2 (by rw [h]; exact h2')
  refine Nat.lt_pow_two_of_testBit _ fun i hi => ?_
  rw [Nat.testBit_xor]
  by_cases hik : i = lenW w - 1
  · subst hik
    rw [lenW_top hw, h, lenW_top hv]
    rfl
  · rw [Nat.testBit_lt_two_pow (Nat.lt_of_lt_of_le h2 (Nat.pow_le_pow_right (by omega) (show lenW w ≤ i by omega))), Nat.testBit_lt_two_pow (Nat.lt_of_lt_of_le h2' (Nat.pow_le_pow_right (by omega) (show lenW v ≤ i by omega)))]
    rfl
/-- what a base keeps: f: by how long they are; ws: what was put to it -/
structure Bs (f : Int → Option Int) (s : Nat) (ws : List Nat) : Prop where
  sz : s = rkL ws
  at' : ∀ t c, f t = some c → ∃ v : Nat, c = v ∧ v ≠ 0 ∧ v < 1024 ∧ t = (lenW v : Nat) ∧ Sp ws v = true
  all : ∀ x, Sp ws x = true → x ≠ 0 → (f (lenW x : Nat)).isSome = true
theorem Bs.start : Bs (fun _ => none) 0 [] where
  sz := rfl
  at' := fun t c h => by cases h
  all := fun x h h0 => by simp [Sp] at h; exact absurd h h0
/-- a word that is a sum of those that are there -/
theorem Bs.dep {f : Int → Option Int} {s : Nat} {ws : List Nat} (h : Bs f s ws) {w : Nat} (hs : Sp ws w = true) : Bs f s (w :: ws) where
  sz := by rw [h.sz, rkL_cons, if_pos hs]
  at' := fun t c hc => by
    obtain ⟨v, h1, h2, h3, h4, h5⟩ := h.at' t c hc
    exact ⟨v, h1, h2, h3, h4, Sp_more h5⟩
  all := fun x hx => h.all x (by rwa [Sp_same hs] at hx)
/-- one that is not: what is left of it has a length that none has -/
theorem Bs.put {f : Int → Option Int} {s : Nat} {ws : List Nat} (h : Bs f s ws) {w v : Nat} (hv0 : v ≠ 0) (hv : v < 1024) (hwv : Sp ws (w ^^^ v) = true) (hn : f (lenW v : Nat) = none) : Bs (fun t => if t = (lenW v : Nat) then some (v : Int) else f t) (s + 1) (w :: ws) where
  sz := by
    have hns : ¬ Sp ws w = true := fun hs => by
      have := Sp_xor ws hs hwv
      rw [← Nat.xor_assoc, Nat.xor_self, Nat.zero_xor] at this
      have := h.all v this hv0
      rw [hn] at this
      cases this
    rw [h.sz, rkL_cons, if_neg hns]
  at' := fun t c hc => by
    split at hc
    · rename_i ht
      injection hc with hc
      exact ⟨v, hc.symm, hv0, hv, ht, by unfold Sp; rw [Nat.xor_comm, hwv, Bool.or_true]⟩
    · obtain ⟨v', h1, h2, h3, h4, h5⟩ := h.at' t c hc
      exact ⟨v', h1, h2, h3, h4, Sp_more h5⟩
  all := fun x hx h0 => by
    split
    · rfl
    · rename_i hne
      simp only [Sp, Bool.or_eq_true] at hx
      rcases hx with hx | hx
      · exact h.all x hx h0
      · -- x = v + y, y of the old ones
        have hy := Sp_xor ws hx hwv
        rw [Nat.xor_assoc, ← Nat.xor_assoc w w v, Nat.xor_self, Nat.zero_xor] at hy
        by_cases hy0 : x ^^^ v = 0
        · exfalso
          have : x = v := by have := congrArg (· ^^^ v) hy0; simpa [xor_xor] using this
          subst this
          exact hne rfl
        · have hsome := h.all _ hy hy0
          -- the lengths of v and y differ: x is as long as the longer one
          have hxl : lenW x = lenW (x ^^^ v) := by
            obtain ⟨a1, a2, a3⟩ := lenW_pos h0
            obtain ⟨b1, b2, b3⟩ := lenW_pos hv0
            obtain ⟨c1, c2, c3⟩ := lenW_pos hy0
            have hne2 : lenW v ≠ lenW (x ^^^ v) := fun e => by rw [← e, hn] at hsome; cases hsome
            have hne3 : lenW x ≠ lenW v := fun e => hne (by rw [e])
            rcases Nat.lt_trichotomy (lenW x) (lenW v) with hl | hl | hl
            · -- then y is as long as v
              exfalso
              apply hne2
              have h1 : (x ^^^ v).testBit (lenW v - 1) = true := by
                rw [Nat.testBit_xor, lenW_top hv0, Nat.testBit_lt_two_pow (Nat.lt_of_lt_of_le a2 (Nat.pow_le_pow_right (by omega) (show lenW x ≤ lenW v - 1 by omega)))]
                rfl
              have h2 : x ^^^ v < 2 ^ lenW v := Nat.xor_lt_two_pow (Nat.lt_of_lt_of_le a2 (Nat.pow_le_pow_right (by omega) (by omega))) b2
              have h3 := lenW_of (w := x ^^^ v) (t := lenW v - 1) (Nat.ge_two_pow_of_testBit h1) (by rwa [show lenW v - 1 + 1 = lenW v by omega])
              omega
            · exact absurd hl hne3
            · have h1 : (x ^^^ v).testBit (lenW x - 1) = true := by
                rw [Nat.testBit_xor, lenW_top h0, Nat.testBit_lt_two_pow (Nat.lt_of_lt_of_le b2 (Nat.pow_le_pow_right (by omega) (show lenW v ≤ lenW x - 1 by omega)))]
                rfl
              have h2 : x ^^^ v < 2 ^ lenW x := Nat.xor_lt_two_pow a2 (Nat.lt_of_lt_of_le b2 (Nat.pow_le_pow_right (by omega) (by omega)))
              have h3 := lenW_of (w := x ^^^ v) (t := lenW x - 1) (Nat.ge_two_pow_of_testBit h1) (by rwa [show lenW x - 1 + 1 = lenW x by omega])
              omega
          rw [hxl]
          exact hsome
end Go.Proofs.Ytglbabcefanooaa
