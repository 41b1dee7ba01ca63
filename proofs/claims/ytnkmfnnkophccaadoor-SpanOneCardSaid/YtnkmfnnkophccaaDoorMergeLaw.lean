/- Merging in place (symMerge): what its steps do to a row, in plain Lean. -/
import Derived.Test.YtnkmfnnkophccaaDoorRow
namespace Go.Proofs.YtnkmfnnkophccaaDoor

/-- things between a and b stand in another order -/
def Sh (a b : Nat) (F G : Nat → Nat) : Prop := ∃ s t : Nat → Nat, (∀ p, G p = F (s p)) ∧ (∀ p, t (s p) = p) ∧ (∀ p, s (t p) = p) ∧ (∀ p, a ≤ p → p < b → a ≤ s p ∧ s p < b) ∧ ∀ p, ¬ (a ≤ p ∧ p < b) → s p = p
theorem Sh.refl (a b : Nat) (F : Nat → Nat) : Sh a b F F := ⟨id, id, fun _ => rfl, fun _ => rfl, fun _ => rfl, fun _ h1 h2 => ⟨h1, h2⟩, fun _ _ => rfl⟩
theorem Sh.trans {a b : Nat} {F G H : Nat → Nat} (h1 : Sh a b F G) (h2 : Sh a b G H) : Sh a b F H := by
  obtain ⟨s, t, e1, e2, e3, e4, e5⟩ := h1
  obtain ⟨u, v, f1, f2, f3, f4, f5⟩ := h2
  refine ⟨fun p => s (u p), fun p => v (t p), fun p => by rw [f1, e1], fun p => by show v (t (s (u p))) = p; rw [e2, f2], fun p => by show s (u (v (t p))) = p; rw [f3, e3], fun p ha hb => e4 _ (f4 p ha hb).1 (f4 p ha hb).2, fun p hp => by show s (u p) = p; rw [f5 p hp, e5 p hp]⟩
theorem Sh.mono {a b a' b' : Nat} {F G : Nat → Nat} (h : Sh a b F G) (ha : a' ≤ a) (hb : b ≤ b') : Sh a' b' F G := by
  obtain ⟨s, t, e1, e2, e3, e4, e5⟩ := h
  refine ⟨s, t, e1, e2, e3, fun p h1 h2 => ?_, fun p hp => e5 p fun h => hp (by omega)⟩
  by_cases hp : a ≤ p ∧ p < b
  · have := e4 p hp.1 hp.2; omega
  · rw [e5 p hp]; exact ⟨h1, h2⟩
theorem Sh.off {a b : Nat} {F G : Nat → Nat} (h : Sh a b F G) {p : Nat} (hp : ¬ (a ≤ p ∧ p < b)) : G p = F p := by
  obtain ⟨s, t, e1, e2, e3, e4, e5⟩ := h
  rw [e1, e5 p hp]
theorem Sh.mem {a b : Nat} {F G : Nat → Nat} (h : Sh a b F G) {p : Nat} (h1 : a ≤ p) (h2 : p < b) : ∃ q, a ≤ q ∧ q < b ∧ G p = F q := by
  obtain ⟨s, t, e1, e2, e3, e4, e5⟩ := h
  exact ⟨s p, (e4 p h1 h2).1, (e4 p h1 h2).2, e1 p⟩
/-- a row of n different things below n stays one -/
def Fu (n : Nat) (F : Nat → Nat) : Prop := (∀ p, p < n → F p < n) ∧ ∀ p q, p < n → q < n → F p = F q → p = q
theorem Sh.fu {a b n : Nat} {F G : Nat → Nat} (h : Sh a b F G) (hb : b ≤ n) (hF : Fu n F) : Fu n G := by
  obtain ⟨s, t, e1, e2, e3, e4, e5⟩ := h
  have hs : ∀ p, p < n → s p < n := fun p hp => by
    by_cases h : a ≤ p ∧ p < b
    · have := e4 p h.1 h.2; omega
    · rw [e5 p h]; exact hp
  refine ⟨fun p hp => by rw [e1]; exact hF.1 _ (hs p hp), fun p q hp hq he => ?_⟩
  rw [e1, e1] at he
  have := hF.2 _ _ (hs p hp) (hs q hq) he
  rw [← e2 p, this, e2]
/-- two runs of k change places -/
def swR (a b k p : Nat) : Nat := if a ≤ p ∧ p < a + k then p - a + b else if b ≤ p ∧ p < b + k then p - b + a else p
theorem swR_zero (a b p : Nat) : swR a b 0 p = p := by unfold swR; rw [if_neg (by omega), if_neg (by omega)]
theorem Sh.sw {a b k lo hi : Nat} (hab : a + k ≤ b) (hlo : lo ≤ a) (hhi : b + k ≤ hi) (F : Nat → Nat) : Sh lo hi F fun p => F (swR a b k p) := by
  have hinv : ∀ p, swR a b k (swR a b k p) = p := fun p => by unfold swR; split <;> split <;> (try split) <;> omega
  refine ⟨swR a b k, swR a b k, fun _ => rfl, hinv, hinv, fun p h1 h2 => ?_, fun p hp => ?_⟩
  · unfold swR; split
    · omega
    · split <;> omega
  · unfold swR; rw [if_neg (by omega), if_neg (by omega)]
theorem swR_succ {a b k : Nat} (hab : a + (k + 1) ≤ b) (F : Nat → Nat) : (fun p => if p = b + k then F (swR a b k (a + k)) else if p = a + k then F (swR a b k (b + k)) else F (swR a b k p)) = fun p => F (swR a b (k + 1) p) := by
  funext p
  have e1 : swR a b k (a + k) = a + k := by unfold swR; rw [if_neg (by omega), if_neg (by omega)]
  have e2 : swR a b k (b + k) = b + k := by unfold swR; rw [if_neg (by omega), if_neg (by omega)]
  rw [e1, e2]
  by_cases h1 : p = b + k
  · rw [if_pos h1]; congr 1; unfold swR; rw [if_neg (by omega), if_pos (by omega)]; omega
  · rw [if_neg h1]
    by_cases h2 : p = a + k
    · rw [if_pos h2]; congr 1; unfold swR; rw [if_pos (by omega)]; omega
    · rw [if_neg h2]; congr 1; unfold swR
      by_cases h3 : a ≤ p ∧ p < a + k
      · rw [if_pos h3, if_pos (by omega)]
      · rw [if_neg h3, if_neg (show ¬ (a ≤ p ∧ p < a + (k + 1)) by omega)]
        by_cases h4 : b ≤ p ∧ p < b + k
        · rw [if_pos h4, if_pos (by omega)]
        · rw [if_neg h4, if_neg (by omega)]
/-- the run from m to e comes ahead of that from s to m -/
def rotR (s m e p : Nat) : Nat := if s ≤ p ∧ p < s + (e - m) then p - s + m else if s + (e - m) ≤ p ∧ p < e then p - (s + (e - m)) + s else p
/-- in the midst of a rotation: T is what shall come, i before m and j behind it are left -/
structure RotI (m : Nat) (T : Nat → Nat) (i j : Nat) (G : Nat → Nat) : Prop where
  le : i ≤ m
  off : ∀ p, ¬ (m - i ≤ p ∧ p < m + j) → T p = G p
  lo : ∀ p, p < j → T (m - i + p) = G (m + p)
  hi : ∀ p, p < i → T (m - i + j + p) = G (m - i + p)
theorem RotI.start {s m e : Nat} (h1 : s ≤ m) (h2 : m ≤ e) (F : Nat → Nat) : RotI m (fun p => F (rotR s m e p)) (m - s) (e - m) F := by
  refine ⟨by omega, fun p hp => ?_, fun p hp => ?_, fun p hp => ?_⟩
  · show F (rotR s m e p) = F p
    congr 1; unfold rotR; rw [if_neg (by omega), if_neg (by omega)]
  · show F (rotR s m e _) = F _
    congr 1; unfold rotR; rw [if_pos (by omega)]; omega
  · show F (rotR s m e _) = F _
    congr 1; unfold rotR; rw [if_neg (by omega), if_pos (by omega)]; omega
theorem RotI.left {m i j : Nat} {T G : Nat → Nat} (h : RotI m T i j G) (hlt : j < i) : RotI m T (i - j) j fun p => G (swR (m - i) m j p) := by
  obtain ⟨h0, h1, h2, h3⟩ := h
  refine ⟨by omega, fun p hp => ?_, fun p hp => ?_, fun p hp => ?_⟩
  · show T p = G (swR (m - i) m j p)
    by_cases ha : m - i ≤ p ∧ p < m - i + j
    · have := h2 (p - (m - i)) (by omega)
      rw [show m - i + (p - (m - i)) = p by omega] at this
      rw [this]; congr 1; unfold swR; rw [if_pos ha]; omega
    · rw [h1 p (by omega)]; congr 1; unfold swR; rw [if_neg ha, if_neg (by omega)]
  · show T _ = G (swR (m - i) m j (m + p))
    rw [show m - (i - j) + p = m - i + j + p by omega, h3 p (by omega)]
    congr 1; unfold swR; rw [if_neg (by omega), if_pos (by omega)]; omega
  · show T _ = G (swR (m - i) m j (m - (i - j) + p))
    rw [show m - (i - j) + j + p = m - i + j + (j + p) by omega, h3 (j + p) (by omega)]
    congr 1; unfold swR; rw [if_neg (by omega), if_neg (by omega)]; omega
theorem RotI.right {m i j : Nat} {T G : Nat → Nat} (h : RotI m T i j G) (hlt : i < j) : RotI m T i (j - i) fun p => G (swR (m - i) (m + j - i) i p) := by
  obtain ⟨h0, h1, h2, h3⟩ := h
  refine ⟨by omega, fun p hp => ?_, fun p hp => ?_, fun p hp => ?_⟩
  · show T p = G (swR (m - i) (m + j - i) i p)
    by_cases ha : m + j - i ≤ p ∧ p < m + j
    · have := h3 (p - (m + j - i)) (by omega)
      rw [show m - i + j + (p - (m + j - i)) = p by omega] at this
      rw [this]; congr 1; unfold swR; rw [if_neg (by omega), if_pos (by omega)]; omega
    · rw [h1 p (by omega)]; congr 1; unfold swR; rw [if_neg (by omega), if_neg (by omega)]
  · show T _ = G (swR (m - i) (m + j - i) i (m + p))
    rw [h2 p (by omega)]
    congr 1; unfold swR; rw [if_neg (by omega), if_neg (by omega)]
  · show T _ = G (swR (m - i) (m + j - i) i (m - i + p))
    rw [show m - i + (j - i) + p = m - i + (j - i + p) by omega, h2 (j - i + p) (by omega)]
    congr 1; unfold swR; rw [if_pos (by omega)]; omega
theorem RotI.done {m i : Nat} {T G : Nat → Nat} (h : RotI m T i i G) : (fun p => G (swR (m - i) m i p)) = T := by
  obtain ⟨h0, h1, h2, h3⟩ := h
  funext p
  by_cases ha : m - i ≤ p ∧ p < m - i + i
  · have := h2 (p - (m - i)) (by omega)
    rw [show m - i + (p - (m - i)) = p by omega] at this
    rw [this]; congr 1; unfold swR; rw [if_pos ha]; omega
  · by_cases hb : m ≤ p ∧ p < m + i
    · have := h3 (p - m) (by omega)
      rw [show m - i + i + (p - m) = p by omega] at this
      rw [this]; congr 1; unfold swR; rw [if_neg ha, if_pos hb]; omega
    · rw [h1 p (by omega)]; congr 1; unfold swR; rw [if_neg ha, if_neg hb]
/-- from a to b the lesser first -/
def Sr (K : Nat → Int) (a b : Nat) (F : Nat → Nat) : Prop := ∀ p q, a ≤ p → p < q → q < b → K (F p) ≤ K (F q)
section
variable {K : Nat → Int} {a m b i : Nat} {F G : Nat → Nat}
theorem Sr.part {a' b' : Nat} (h : Sr K a b F) (ha : a ≤ a') (hb : b' ≤ b) : Sr K a' b' F := fun p q h1 h2 h3 => h p q (by omega) h2 (by omega)
theorem Sr.congr (h : Sr K a b F) (he : ∀ p, a ≤ p → p < b → G p = F p) : Sr K a b G := fun p q h1 h2 h3 => by
  rw [he p h1 (by omega), he q (by omega) h3]; exact h p q h1 h2 h3
theorem Sr.sh_off {c d : Nat} (h : Sr K a b F) (hs : Sh c d F G) (hd : d ≤ a ∨ b ≤ c) : Sr K a b G := h.congr fun p h1 h2 => hs.off (by omega)
/-- the first goes behind those that are less -/
def upF (a k : Nat) (F : Nat → Nat) (p : Nat) : Nat := if a ≤ p ∧ p < k then F (p + 1) else if p = k then F a else F p
theorem upF_start : upF a a F = F := by
  funext p; unfold upF; rw [if_neg (by omega)]; split
  · rename_i h; rw [h]
  · rfl
theorem upF_succ {k : Nat} (hk : a ≤ k) : (fun p => upF a k F (swR k (k + 1) 1 p)) = upF a (k + 1) F := by
  funext p
  show upF a k F (swR k (k + 1) 1 p) = _
  unfold swR
  by_cases h1 : p = k
  · subst h1
    rw [if_pos (by omega), show p - p + (p + 1) = p + 1 by omega]
    unfold upF
    rw [if_neg (by omega), if_neg (by omega), if_pos (by omega)]
  · rw [if_neg (by omega)]
    by_cases h2 : p = k + 1
    · subst h2
      rw [if_pos (by omega), show k + 1 - (k + 1) + k = k by omega]
      unfold upF
      rw [if_neg (by omega), if_pos rfl, if_neg (by omega), if_pos rfl]
    · rw [if_neg (by omega)]
      unfold upF
      by_cases h3 : a ≤ p ∧ p < k
      · rw [if_pos h3, if_pos (by omega)]
      · rw [if_neg h3, if_neg h1, if_neg (by omega), if_neg h2]
theorem Sr.up (h : Sr K (a + 1) b F) (h1 : a + 1 ≤ i) (h2 : i ≤ b) (hlo : ∀ c, a + 1 ≤ c → c < i → K (F c) ≤ K (F a)) (hhi : ∀ c, i ≤ c → c < b → K (F a) ≤ K (F c)) : Sr K a b (upF a (i - 1) F) := fun p q hp hpq hq => by
  unfold upF
  by_cases e1 : a ≤ p ∧ p < i - 1
  · rw [if_pos e1]
    by_cases e2 : a ≤ q ∧ q < i - 1
    · rw [if_pos e2]; exact h _ _ (by omega) (by omega) (by omega)
    · rw [if_neg e2]
      by_cases e3 : q = i - 1
      · rw [if_pos e3]; exact hlo _ (by omega) (by omega)
      · rw [if_neg e3]; exact h _ _ (by omega) (by omega) (by omega)
  · rw [if_neg e1, if_neg (show ¬ (a ≤ q ∧ q < i - 1) by omega), if_neg (show ¬ q = i - 1 by omega)]
    by_cases e3 : p = i - 1
    · rw [if_pos e3]; exact hhi _ (by omega) (by omega)
    · rw [if_neg e3]; exact h _ _ (by omega) (by omega) (by omega)
/-- the last goes ahead of those that are more -/
def dnF (m k : Nat) (F : Nat → Nat) (p : Nat) : Nat := if p = k then F m else if k < p ∧ p ≤ m then F (p - 1) else F p
theorem dnF_start : dnF m m F = F := by
  funext p; unfold dnF; split
  · rename_i h; rw [h]
  · rw [if_neg (by omega)]
theorem dnF_pred {k : Nat} (hk : k + 1 ≤ m) : (fun p => dnF m (k + 1) F (swR k (k + 1) 1 p)) = dnF m k F := by
  funext p
  show dnF m (k + 1) F (swR k (k + 1) 1 p) = _
  unfold swR
  by_cases h1 : p = k
  · subst h1
    rw [if_pos (by omega), show p - p + (p + 1) = p + 1 by omega]
    unfold dnF
    rw [if_pos rfl, if_pos rfl]
  · rw [if_neg (by omega)]
    by_cases h2 : p = k + 1
    · subst h2
      rw [if_pos (by omega), show k + 1 - (k + 1) + k = k by omega]
      unfold dnF
      rw [if_neg (by omega), if_neg (by omega), if_neg (by omega), if_pos (by omega)]; rfl
    · rw [if_neg (by omega)]
      unfold dnF
      rw [if_neg h2, if_neg h1]
      by_cases h3 : k + 1 < p ∧ p ≤ m
      · rw [if_pos h3, if_pos (by omega)]
      · rw [if_neg h3, if_neg (by omega)]
theorem Sr.dn (h : Sr K a m F) (h1 : a ≤ i) (h2 : i ≤ m) (hlo : ∀ c, a ≤ c → c < i → K (F c) ≤ K (F m)) (hhi : ∀ c, i ≤ c → c < m → K (F m) ≤ K (F c)) : Sr K a (m + 1) (dnF m i F) := fun p q hp hpq hq => by
  unfold dnF
  by_cases e1 : p = i
  · rw [if_pos e1, if_neg (by omega), if_pos (by omega)]; exact hhi _ (by omega) (by omega)
  · rw [if_neg e1]
    by_cases e2 : i < p ∧ p ≤ m
    · rw [if_pos e2, if_neg (by omega), if_pos (by omega)]; exact h _ _ (by omega) (by omega) (by omega)
    · rw [if_neg e2]
      by_cases e3 : q = i
      · rw [if_pos e3]; exact hlo _ hp (by omega)
      · rw [if_neg e3]
        by_cases e4 : i < q ∧ q ≤ m
        · rw [if_pos e4]
          by_cases e5 : p = q - 1
          · omega
          · exact h _ _ (by omega) (by omega) (by omega)
        · rw [if_neg e4]; exact h _ _ (by omega) (by omega) (by omega)
/-- behind the step: two runs before mid, two behind it, and none before it is more than one behind it -/
structure Half (K : Nat → Int) (a s d e b : Nat) (G : Nat → Nat) : Prop where
  l1 : Sr K a s G
  l2 : Sr K s d G
  r1 : Sr K d e G
  r2 : Sr K e b G
  le : ∀ p q, a ≤ p → p < d → d ≤ q → q < b → K (G p) ≤ K (G q)
theorem half_of {s d e : Nat} (h1 : Sr K a m F) (h2 : Sr K m b F) (has : a ≤ s) (hsm : s ≤ m) (hme : m ≤ e) (heb : e ≤ b) (hde : s + e = d + m)
    (hlo : ∀ c, a ≤ c → c < s → d + m - 1 - c < b → K (F c) ≤ K (F (d + m - 1 - c)))
    (hhi : ∀ c, s ≤ c → c < m → m ≤ d + m - 1 - c → K (F (d + m - 1 - c)) ≤ K (F c)) : Half K a s d e b fun p => F (rotR s m e p) := by
  have v1 : ∀ p, p < s → rotR s m e p = p := fun p hp => by unfold rotR; rw [if_neg (by omega), if_neg (by omega)]
  have v2 : ∀ p, s ≤ p → p < d → rotR s m e p = p - s + m := fun p h1 h2 => by unfold rotR; rw [if_pos (by omega)]
  have v3 : ∀ p, d ≤ p → p < e → rotR s m e p = p - d + s := fun p h1 h2 => by unfold rotR; rw [if_neg (by omega), if_pos (by omega)]; omega
  have v4 : ∀ p, e ≤ p → rotR s m e p = p := fun p hp => by unfold rotR; rw [if_neg (by omega), if_neg (by omega)]
  have hLR : ∀ x y, a ≤ x → x < s → e ≤ y → y < b → K (F x) ≤ K (F y) := fun x y q1 q2 q3 q4 => by
    have k1 := hlo (s - 1) (by omega) (by omega) (by omega)
    have k2 : K (F x) ≤ K (F (s - 1)) := by
      by_cases hx : x = s - 1
      · rw [hx]; exact Int.le_refl _
      · exact h1 _ _ q1 (by omega) (by omega)
    have k3 : K (F (d + m - 1 - (s - 1))) ≤ K (F y) := by
      by_cases hy : d + m - 1 - (s - 1) = y
      · rw [hy]; exact Int.le_refl _
      · exact h2 _ _ (by omega) (by omega) q4
    omega
  have hRL : ∀ x y, m ≤ x → x < e → s ≤ y → y < m → K (F x) ≤ K (F y) := fun x y q1 q2 q3 q4 => by
    have k1 := hhi s (by omega) (by omega) (by omega)
    have k2 : K (F x) ≤ K (F (d + m - 1 - s)) := by
      by_cases hx : x = d + m - 1 - s
      · rw [hx]; exact Int.le_refl _
      · exact h2 _ _ q1 (by omega) (by omega)
    have k3 : K (F s) ≤ K (F y) := by
      by_cases hy : s = y
      · rw [hy]; exact Int.le_refl _
      · exact h1 _ _ (by omega) (by omega) q4
    omega
  refine ⟨fun p q q1 q2 q3 => ?_, fun p q q1 q2 q3 => ?_, fun p q q1 q2 q3 => ?_, fun p q q1 q2 q3 => ?_, fun p q q1 q2 q3 q4 => ?_⟩
  · show K (F (rotR s m e p)) ≤ K (F (rotR s m e q))
    rw [v1 p (by omega), v1 q q3]; exact h1 p q q1 q2 (by omega)
  · show K (F (rotR s m e p)) ≤ K (F (rotR s m e q))
    rw [v2 p q1 (by omega), v2 q (by omega) q3]; exact h2 _ _ (by omega) (by omega) (by omega)
  · show K (F (rotR s m e p)) ≤ K (F (rotR s m e q))
    rw [v3 p q1 (by omega), v3 q (by omega) q3]; exact h1 _ _ (by omega) (by omega) (by omega)
  · show K (F (rotR s m e p)) ≤ K (F (rotR s m e q))
    rw [v4 p q1, v4 q (by omega)]; exact h2 _ _ (by omega) q2 q3
  · show K (F (rotR s m e p)) ≤ K (F (rotR s m e q))
    by_cases hp : p < s
    · rw [v1 p hp]
      by_cases hq : q < e
      · rw [v3 q q3 hq]; exact h1 _ _ q1 (by omega) (by omega)
      · rw [v4 q (by omega)]; exact hLR _ _ q1 hp (by omega) q4
    · rw [v2 p (by omega) q2]
      by_cases hq : q < e
      · rw [v3 q q3 hq]; exact hRL _ _ (by omega) (by omega) (by omega) (by omega)
      · rw [v4 q (by omega)]; exact h2 _ _ (by omega) (by omega) q4
/-- the two halves are sorted each for itself -/
theorem Half.join {s d e : Nat} {H J : Nat → Nat} (h : Half K a s d e b G) (h1 : Sh a d G H) (k1 : Sr K a d H) (h2 : Sh d b H J) (k2 : Sr K d b J) : Sr K a b J := fun p q q1 q2 q3 => by
  by_cases hq : q < d
  · rw [h2.off (p := p) (by omega), h2.off (p := q) (by omega)]; exact k1 p q q1 q2 hq
  · by_cases hp : d ≤ p
    · exact k2 p q hp q2 q3
    · rw [h2.off (p := p) (by omega)]
      obtain ⟨x, x1, x2, hx⟩ := h1.mem (p := p) q1 (by omega)
      obtain ⟨y, y1, y2, hy⟩ := h2.mem (p := q) (by omega) q3
      rw [hx, hy, h1.off (p := y) (by omega)]
      exact h.le x y x1 x2 y1 y2
end
end Go.Proofs.YtnkmfnnkophccaaDoor
