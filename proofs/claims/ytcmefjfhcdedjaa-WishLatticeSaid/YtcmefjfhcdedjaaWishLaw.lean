/- Wishes, in plain Lean: those on the left ask in turn; what comes of it holds, and is the best of all that hold for the left. -/
import Derived.Test.YtcmefjfhcdedjaaBase
namespace Go.Proofs.Ytcmefjfhcdedjaa

/-- how far ahead one stands; behind all: not at all -/
def pos (l : List Int) (x : Int) : Nat := l.findIdx fun y => y == x
def rkI (l : List Int) (x : Int) : Nat := if pos l x < l.length then pos l x else 8
theorem pos_le (l : List Int) (x : Int) : pos l x ≤ l.length := List.findIdx_le_length
theorem pos_at {l : List Int} {x : Int} (h : pos l x < l.length) : l.getD (pos l x) 0 = x := by
  have := List.findIdx_getElem (p := fun y => y == x) (xs := l) (w := h)
  simp only [beq_iff_eq] at this
  simp [List.getD, h]
  exact this
theorem pos_not {l : List Int} {x : Int} {q : Nat} (h : q < pos l x) : l.getD q 0 ≠ x := by
  have h2 := pos_le l x
  have := List.not_of_lt_findIdx (p := fun y => y == x) (xs := l) h
  simp only [beq_eq_false_iff_ne, ne_eq] at this
  simp [List.getD, show q < l.length by omega]
  simpa using this
theorem pos_of {l : List Int} {x : Int} {p : Nat} (hp : p < l.length) (h : l.getD p 0 = x) (hn : ∀ q, q < p → l.getD q 0 ≠ x) : pos l x = p := by
  rcases Nat.lt_trichotomy (pos l x) p with h1 | h1 | h1
  · exact absurd (pos_at (by omega)) (hn _ h1)
  · exact h1
  · exact absurd h (pos_not h1)
/-- each number once -/
def Once (l : List Int) : Prop := ∀ p q, p < q → q < l.length → l.getD p 0 ≠ l.getD q 0
theorem pos_once {l : List Int} (ho : Once l) {p : Nat} (hp : p < l.length) : pos l (l.getD p 0) = p := pos_of hp rfl fun q hq => ho q p hq hp
theorem pos_lt {l : List Int} {x : Int} {p : Nat} (h : l.getD p 0 = x) : pos l x ≤ p := by
  rcases Nat.lt_or_ge p (pos l x) with h1 | h1
  · exact absurd h (pos_not h1)
  · exact h1
theorem rkI_lt {l : List Int} {x : Int} (hl : l.length ≤ 8) : rkI l x < 8 ↔ pos l x < l.length := by
  unfold rkI
  split <;> omega
theorem rkI_le {l : List Int} {x : Int} (hl : l.length ≤ 8) : rkI l x ≤ 8 := by
  unfold rkI
  split <;> omega
theorem rkI_inj {l : List Int} {x y : Int} (hl : l.length ≤ 8) (h : rkI l x = rkI l y) (h8 : rkI l x < 8) : x = y := by
  have h1 := (rkI_lt hl).1 h8
  have h2 := (rkI_lt hl).1 (h ▸ h8)
  unfold rkI at h
  rw [if_pos h1, if_pos h2] at h
  rw [← pos_at h1, ← pos_at h2, h]

/-- lists that may be -/
structure OkL (n : Nat) (F : Nat → List Int) : Prop where
  once : ∀ i, i < n → Once (F i)
  inn : ∀ i, i < n → ∀ p, p < (F i).length → 0 ≤ (F i).getD p 0 ∧ (F i).getD p 0 < n
  len : ∀ i, i < n → (F i).length ≤ 8

section
variable {n : Nat} {L R : Nat → List Int}
def OkM (n : Nat) (M : Nat → Int) : Prop := (∀ i, i < n → -1 ≤ M i ∧ M i < n) ∧ ∀ i i', i < n → i' < n → M i = M i' → 0 ≤ M i → i = i'
def Acc (n : Nat) (L R : Nat → List Int) (M : Nat → Int) : Prop := ∀ i, i < n → ∀ j : Nat, M i = j → rkI (L i) j < 8 ∧ rkI (R j) i < 8
def NoBlock (n : Nat) (L R : Nat → List Int) (M : Nat → Int) : Prop := ∀ i, i < n → ∀ p, p < (L i).length → (∀ q, q ≤ p → (L i).getD q 0 ≠ M i) → ∀ j : Nat, (L i).getD p 0 = j → rkI (R j) i < 8 → ∃ i', i' < n ∧ M i' = j ∧ rkI (R j) i' ≤ rkI (R j) i
structure Stab (n : Nat) (L R : Nat → List Int) (M : Nat → Int) : Prop where
  ok : OkM n M
  acc : Acc n L R M
  nob : NoBlock n L R M

/-- H: whom each on the right has; N: how many each on the left has asked; act: who asks; s: how many have begun -/
structure GI (n : Nat) (L R : Nat → List Int) (H : Nat → Int) (N : Nat → Nat) (act : Int) (s : Nat) : Prop where
  h1 : ∀ j, j < n → H j = -1 ∨ ∃ a p : Nat, a < n ∧ H j = a ∧ N a = p + 1 ∧ p < (L a).length ∧ (L a).getD p 0 = j ∧ rkI (R j) a < 8
  nle : ∀ a, a < n → N a ≤ (L a).length
  h2 : ∀ a, a < n → ∀ p, p < N a → ∀ j : Nat, (L a).getD p 0 = j → H j ≠ a → rkI (R j) a = 8 ∨ ∃ b : Nat, H j = b ∧ rkI (R j) b < rkI (R j) a
  h3 : ∀ a, a < s → (a : Int) ≠ act → (∃ j, j < n ∧ H j = a) ∨ N a = (L a).length
  h5 : ∀ a, s ≤ a → N a = 0
  free : ∀ j, j < n → 0 ≤ act → H j ≠ act
  alt : act = -1 ∨ ∃ a : Nat, act = a ∧ a < s ∧ a < n
  h4 : ∀ M, Stab n L R M → ∀ a, a < n → ∀ p, p < N a → ∀ j : Nat, (L a).getD p 0 = j → H j ≠ a → M a ≠ j
theorem GI.start : GI n L R (fun _ => -1) (fun _ => 0) (-1) 0 where
  h1 := fun _ _ => .inl rfl
  nle := fun _ _ => Nat.zero_le _
  h2 := fun _ _ p hp => absurd hp (by omega)
  h3 := fun _ h => absurd h (by omega)
  h5 := fun _ _ => rfl
  free := fun _ _ h => absurd h (by decide)
  alt := .inl rfl
  h4 := fun _ _ _ _ p hp => absurd hp (by omega)
section
variable {H : Nat → Int} {N : Nat → Nat} {act : Int} {s : Nat}
theorem GI.begin (g : GI n L R H N (-1) s) (hs : s < n) : GI n L R H N (s : Int) (s + 1) where
  h1 := g.h1
  nle := g.nle
  h2 := g.h2
  h3 := fun a ha hne => g.h3 a (by omega) (by omega)
  h5 := fun a ha => g.h5 a (by omega)
  free := fun j hj _ e => by
    rcases g.h1 j hj with h | ⟨a, p, _, h2, h3, _⟩
    · omega
    · have := g.h5 s (Nat.le_refl _)
      have : a = s := by omega
      subst this
      omega
  alt := .inr ⟨s, rfl, by omega, hs⟩
  h4 := g.h4
theorem GI.stop {a : Nat} (g : GI n L R H N (a : Int) s) (hN : ¬ N a < (L a).length) : GI n L R H N (-1) s where
  h1 := g.h1
  nle := g.nle
  h2 := g.h2
  h3 := fun b hb _ => by
    by_cases h : b = a
    · subst h
      right
      rcases g.alt with h | ⟨a', h, _, hn⟩
      · omega
      · have := g.nle b (by omega)
        omega
    · exact g.h3 b hb (by omega)
  h5 := g.h5
  free := fun _ _ h => absurd h (by decide)
  alt := .inl rfl
  h4 := g.h4
def updN (N : Nat → Nat) (a : Nat) : Nat → Nat := fun i => if i = a then N i + 1 else N i
def updH (H : Nat → Int) (j : Nat) (v : Int) : Nat → Int := fun i => if i = j then v else H i
/-- b stands with j as the last one that it asked: it has been turned away by all ahead: so, where all that were turned away could not have been, no stable pairing has b and another one of those -/
theorem ahead_not (hL : OkL n L) {M : Nat → Int} (h4 : ∀ a, a < n → ∀ p, p < N a → ∀ j : Nat, (L a).getD p 0 = j → H j ≠ a → M a ≠ j) {b p : Nat} (hb : b < n) (hp : p < (L b).length) (hN : p ≤ N b) (hH : ∀ q, q < p → ∀ j' : Nat, (L b).getD q 0 = j' → H j' ≠ b) (hM : M b ≠ (L b).getD p 0) : ∀ q, q ≤ p → (L b).getD q 0 ≠ M b := by
  intro q hq e
  by_cases hqp : q = p
  · subst hqp
    exact hM e.symm
  · have hi := hL.inn b hb q (by omega)
    obtain ⟨j', hj'⟩ := Int.eq_ofNat_of_zero_le hi.1
    exact h4 b hb q (by omega) j' hj' (hH q (by omega) j' hj') (by rw [← e]; exact hj')
theorem block {M : Nat → Int} (hM : Stab n L R M) {a b j : Nat} (ha : a < n) (hb : b < n) (hMa : M a = j) {p : Nat} (hp : p < (L b).length) (hj : (L b).getD p 0 = j) (hno : ∀ q, q ≤ p → (L b).getD q 0 ≠ M b) (h8 : rkI (R j) b < 8) (hlt : rkI (R j) b < rkI (R j) a) : False := by
  obtain ⟨i', h1, h2, h3⟩ := hM.nob b hb p hp hno j hj h8
  have := hM.ok.2 a i' ha h1 (by rw [hMa, h2]) (by omega)
  subst this
  omega
theorem GI.no (hL : OkL n L) (hR : OkL n R) {a j : Nat} (g : GI n L R H N (a : Int) s) (hN : N a < (L a).length) (hj : (L a).getD (N a) 0 = j) (hno : (H j = -1 ∧ rkI (R j) a = 8) ∨ ∃ b : Nat, H j = b ∧ rkI (R j) b ≤ rkI (R j) a) : GI n L R H (updN N a) (a : Int) s := by
  have han : a < n := by rcases g.alt with h | ⟨a', h, _, hn⟩ <;> omega
  have hjn : j < n := by have := (hL.inn a han (N a) hN).2; omega
  have hfr := g.free j hjn (by omega)
  have hno' : rkI (R j) a = 8 ∨ ∃ b : Nat, H j = b ∧ rkI (R j) b < rkI (R j) a := by
    rcases hno with ⟨_, h⟩ | ⟨b, h1, h2⟩
    · exact .inl h
    · right
      refine ⟨b, h1, ?_⟩
      rcases Nat.lt_or_ge (rkI (R j) b) (rkI (R j) a) with h3 | h3
      · exact h3
      · rcases g.h1 j hjn with h | ⟨b', p, _, h4, _, _, _, h8⟩
        · omega
        · have : b' = b := by omega
          subst this
          have := rkI_inj (hR.len j hjn) (show rkI (R j) b' = rkI (R j) a by omega) h8
          omega
  have h2' : ∀ c, c < n → ∀ p, p < updN N a c → ∀ k : Nat, (L c).getD p 0 = k → H k ≠ c → (c < n ∧ p < N c) ∨ (c = a ∧ k = j) := fun c hc p hp k hk hne => by
    unfold updN at hp
    by_cases hca : c = a
    · subst hca
      rw [if_pos rfl] at hp
      by_cases hpn : p = N c
      · subst hpn
        exact .inr ⟨rfl, by omega⟩
      · exact .inl ⟨hc, by omega⟩
    · rw [if_neg hca] at hp
      exact .inl ⟨hc, hp⟩
  refine ⟨fun k hk => ?_, fun c hc => ?_, fun c hc p hp k hk hne => ?_, fun c hc hne => ?_, fun c hc => ?_, g.free, g.alt, fun M hM c hc p hp k hk hne => ?_⟩
  · rcases g.h1 k hk with h | ⟨c, p, h1, h2, h3⟩
    · exact .inl h
    · right
      refine ⟨c, p, h1, h2, ?_⟩
      have : c ≠ a := fun e => g.free k hk (by omega) (by rw [h2, e])
      unfold updN
      rw [if_neg this]
      exact h3
  · unfold updN
    split
    · rename_i h; subst h; omega
    · exact g.nle c hc
  · rcases h2' c hc p hp k hk hne with ⟨_, h⟩ | ⟨rfl, rfl⟩
    · exact g.h2 c hc p h k hk hne
    · exact hno'
  · rcases g.h3 c hc hne with h | h
    · exact .inl h
    · right
      unfold updN
      rw [if_neg (by omega)]
      exact h
  · have h0 := g.h5 c hc
    unfold updN
    rw [if_neg (fun e => by rcases g.alt with h | ⟨a', h, hs, _⟩ <;> omega)]
    exact h0
  · rcases h2' c hc p hp k hk hne with ⟨_, h⟩ | ⟨rfl, rfl⟩
    · exact g.h4 M hM c hc p h k hk hne
    · intro hMc
      rcases hno' with h8 | ⟨b, hb1, hb2⟩
      · have := (hM.acc c hc k hMc).2
        omega
      · rcases g.h1 k hjn with h | ⟨b', p', hb'n, h4, h5, h6, h7, h8⟩
        · omega
        · have : b' = b := by omega
          subst this
          have hcb : c ≠ b' := fun e => by rw [e] at hb2; omega
          refine block hM hc hb'n hMc h6 h7 (ahead_not (N := N) (H := H) hL (g.h4 M hM) hb'n h6 (by omega) (fun q hq j' hj' e => ?_) ?_) h8 hb2
          · have hon := hL.once b' hb'n q p' hq h6
            rcases g.h1 j' (by have := (hL.inn b' hb'n q (by omega)).2; omega) with h | ⟨b3, p3, _, e3, e4, _, e6, _⟩
            · omega
            · have : b3 = b' := by omega
              subst this
              have : p3 = p' := by omega
              subst this
              omega
          · rw [h7]
            intro e
            exact hcb (hM.ok.2 c b' hc hb'n (by rw [hMc, e]) (by omega))
theorem GI.yes (hL : OkL n L) (hR : OkL n R) {a j : Nat} (g : GI n L R H N (a : Int) s) (hN : N a < (L a).length) (hj : (L a).getD (N a) 0 = j) (hyes : (H j = -1 ∧ rkI (R j) a < 8) ∨ ∃ b : Nat, H j = b ∧ rkI (R j) a < rkI (R j) b) : GI n L R (updH H j a) (updN N a) (H j) s := by
  have han : a < n := by rcases g.alt with h | ⟨a', h, _, hn⟩ <;> omega
  have hjn : j < n := by have := (hL.inn a han (N a) hN).2; omega
  have hfr := g.free j hjn (by omega)
  have hra : rkI (R j) a < 8 := by
    rcases hyes with h | ⟨b, _, h⟩
    · exact h.2
    · have := rkI_le (l := R j) (x := (b : Int)) (hR.len j hjn)
      omega
  have hlt : ∀ b : Nat, H j = b → rkI (R j) a < rkI (R j) b := fun b hb => by
    rcases hyes with h | ⟨b', h1, h2⟩
    · omega
    · have : b' = b := by omega
      subst this
      exact h2
  have hat : ∀ q, q < N a → ∀ j' : Nat, (L a).getD q 0 = j' → H j' ≠ a := fun q hq j' hj' =>
    g.free j' (by have := (hL.inn a han q (by omega)).2; omega) (by omega)
  refine ⟨fun k hk => ?_, fun c hc => ?_, fun c hc p hp k hk hne => ?_, fun c hc hne => ?_, fun c hc => ?_, fun k hk h0 => ?_, ?_, fun M hM c hc p hp k hk hne => ?_⟩
  · unfold updH
    by_cases hkj : k = j
    · subst hkj
      rw [if_pos rfl]
      exact .inr ⟨a, N a, han, rfl, by simp [updN], hN, hj, hra⟩
    · rw [if_neg hkj]
      rcases g.h1 k hk with h | ⟨c, p, h1, h2, h3⟩
      · exact .inl h
      · right
        refine ⟨c, p, h1, h2, ?_⟩
        have : c ≠ a := fun e => g.free k hk (by omega) (by rw [h2, e])
        unfold updN
        rw [if_neg this]
        exact h3
  · unfold updN
    split
    · rename_i h; subst h; omega
    · exact g.nle c hc
  · by_cases hkj : k = j
    · subst hkj
      unfold updH at hne ⊢
      rw [if_pos rfl] at hne ⊢
      have hca : c ≠ a := fun e => hne (by rw [e])
      right
      refine ⟨a, rfl, ?_⟩
      unfold updN at hp
      rw [if_neg hca] at hp
      by_cases hHc : H k = c
      · exact hlt c hHc
      · rcases g.h2 c hc p hp k hk hHc with h | ⟨b, h1, h2⟩
        · omega
        · have := hlt b h1
          omega
    · unfold updH at hne ⊢
      rw [if_neg hkj] at hne ⊢
      unfold updN at hp
      by_cases hca : c = a
      · subst hca
        rw [if_pos rfl] at hp
        have : p ≠ N c := fun e => hkj (by rw [e] at hk; omega)
        exact g.h2 c hc p (by omega) k hk hne
      · rw [if_neg hca] at hp
        exact g.h2 c hc p hp k hk hne
  · by_cases hca : c = a
    · subst hca
      exact .inl ⟨j, hjn, by simp [updH]⟩
    · rcases g.h3 c hc (by omega) with ⟨k, hk, h⟩ | h
      · left
        have hkj : k ≠ j := fun e => by rw [e] at h; omega
        exact ⟨k, hk, by unfold updH; rw [if_neg hkj]; exact h⟩
      · right
        unfold updN
        rw [if_neg hca]
        exact h
  · have h0 := g.h5 c hc
    unfold updN
    rw [if_neg (fun e => by rcases g.alt with h | ⟨a', h, hs, _⟩ <;> omega)]
    exact h0
  · unfold updH
    by_cases hkj : k = j
    · rw [if_pos hkj]
      exact fun e => hfr e.symm
    · rw [if_neg hkj]
      intro e
      rcases g.h1 j hjn with h | ⟨b, p, _, h2, h3, h4, h5, _⟩
      · omega
      · rcases g.h1 k hk with h | ⟨b', p', _, h2', h3', h4', h5', _⟩
        · omega
        · have : b' = b := by omega
          subst this
          have : p' = p := by omega
          subst this
          omega
  · rcases g.h1 j hjn with h | ⟨b, p, hbn, h2, h3, _⟩
    · exact .inl h
    · right
      refine ⟨b, h2, ?_, hbn⟩
      rcases Nat.lt_or_ge b s with h | h
      · exact h
      · have := g.h5 b h
        omega
  · intro hMc
    have hgo : k = j → H j = c → False := fun hkj hHc => by
      subst hkj
      have hca : c ≠ a := fun e => hfr (by rw [hHc, e])
      refine block hM hc han hMc hN hj (ahead_not (N := N) (H := H) hL (g.h4 M hM) han hN (Nat.le_refl _) hat ?_) hra (hlt c hHc)
      rw [hj]
      intro e
      exact hca (hM.ok.2 c a hc han (by rw [hMc, e]) (by omega))
    by_cases hkj : k = j
    · subst hkj
      by_cases hHc : H k = c
      · exact hgo rfl hHc
      · unfold updH at hne
        rw [if_pos rfl] at hne
        have hca : c ≠ a := fun e => hne (by rw [e])
        unfold updN at hp
        rw [if_neg hca] at hp
        exact g.h4 M hM c hc p hp k hk hHc hMc
    · unfold updH at hne
      rw [if_neg hkj] at hne
      unfold updN at hp
      by_cases hca : c = a
      · subst hca
        rw [if_pos rfl] at hp
        have : p ≠ N c := fun e => hkj (by rw [e] at hk; omega)
        exact g.h4 M hM c hc p (by omega) k hk hne hMc
      · rw [if_neg hca] at hp
        exact g.h4 M hM c hc p hp k hk hne hMc
end
/-- what is told: l and H are each other's -/
def Tells (n : Nat) (H l : Nat → Int) : Prop := (∀ i, i < n → l i = -1 ∨ ∃ j : Nat, j < n ∧ l i = j ∧ H j = i) ∧ ∀ j, j < n → ∀ i : Nat, H j = i → i < n → l i = j
section
variable {H l : Nat → Int} {N : Nat → Nat}
theorem asked (g : GI n L R H N (-1) n) (t : Tells n H l) {i p : Nat} (hi : i < n) (hp : p < (L i).length) (hq : ∀ q, q ≤ p → (L i).getD q 0 ≠ l i) : p < N i := by
  rcases g.h3 i hi (by omega) with ⟨j, hj, h⟩ | h
  · rcases g.h1 j hj with h' | ⟨a, p', _, h2, h3, _, h5, _⟩
    · omega
    · have : a = i := by omega
      subst this
      have hl := t.2 j hj a h hi
      rcases Nat.lt_or_ge p (N a) with h6 | h6
      · exact h6
      · exact absurd (h5.trans hl.symm) (hq p' (by omega))
  · omega
theorem told_stab (hL : OkL n L) (g : GI n L R H N (-1) n) (t : Tells n H l) : Stab n L R l where
  ok := by
    refine ⟨fun i hi => ?_, fun i i' hi hi' e h0 => ?_⟩
    · rcases t.1 i hi with h | ⟨j, hj, h, _⟩ <;> omega
    · rcases t.1 i hi with h | ⟨j, hj, h, h'⟩
      · omega
      · rcases t.1 i' hi' with h2 | ⟨j2, hj2, h2, h2'⟩
        · omega
        · have : j = j2 := by omega
          subst this
          omega
  acc := fun i hi j hj => by
    rcases t.1 i hi with h | ⟨j', hj', h, h'⟩
    · omega
    · have : j' = j := by omega
      subst this
      rcases g.h1 j' hj' with h3 | ⟨a, p, ha, h3, h4, h5, h6, h7⟩
      · omega
      · have : a = i := by omega
        subst this
        refine ⟨?_, h7⟩
        rw [rkI_lt (hL.len a hi)]
        have := pos_lt h6
        omega
  nob := fun i hi p hp hq j hj h8 => by
    have hjn : j < n := by have := (hL.inn i hi p hp).2; omega
    have hN := asked g t hi hp hq
    have hne : H j ≠ i := fun e => hq p (Nat.le_refl _) (by rw [hj, t.2 j hjn i e hi])
    rcases g.h2 i hi p hN j hj hne with h | ⟨b, h1, h2⟩
    · omega
    · rcases g.h1 j hjn with h | ⟨b', _, hb', h3, _⟩
      · omega
      · exact ⟨b, by omega, t.2 j hjn b h1 (by omega), by omega⟩
/-- each on the left has the best of all that hold -/
theorem told_left (hL : OkL n L) (g : GI n L R H N (-1) n) (t : Tells n H l) {M : Nat → Int} (hM : Stab n L R M) {i : Nat} (hi : i < n) : pos (L i) (l i) ≤ pos (L i) (M i) := by
  rcases Nat.lt_or_ge (pos (L i) (M i)) (pos (L i) (l i)) with h | h
  · exfalso
    have hlen : pos (L i) (M i) < (L i).length := by have := pos_le (L i) (l i); omega
    have hat := pos_at hlen
    have hq : ∀ q, q ≤ pos (L i) (M i) → (L i).getD q 0 ≠ l i := fun q hq => pos_not (by omega)
    have hN := asked g t hi hlen hq
    have hin := hL.inn i hi _ hlen
    obtain ⟨j, hj⟩ := Int.eq_ofNat_of_zero_le hin.1
    have hjn : j < n := by omega
    have hne : H j ≠ i := fun e => hq _ (Nat.le_refl _) (by rw [hj]; exact (t.2 j hjn i e hi).symm)
    exact g.h4 M hM i hi _ hN j hj hne (by rw [← hat]; exact hj)
  · exact h
end
/-- who on the left has j: the first -/
def OwnerIs (n : Nat) (M : Nat → Int) (j : Nat) (o : Int) : Prop := (o = -1 ∧ ∀ i, i < n → M i ≠ j) ∨ ∃ i : Nat, i < n ∧ o = i ∧ M i = j
theorem pos_neg (hF : OkL n R) {j : Nat} (hj : j < n) : pos (R j) (-1) = (R j).length := by
  rcases Nat.lt_or_ge (pos (R j) (-1)) (R j).length with h | h
  · have := pos_at h
    have := (hF.inn j hj _ h).1
    omega
  · have := pos_le (R j) (-1)
    omega
/-- and nobody on the right one that it wishes more for than in any that holds -/
theorem best_right (hL : OkL n L) (hR : OkL n R) {l M : Nat → Int} (hl : Stab n L R l) (hM : Stab n L R M) (hleft : ∀ i, i < n → pos (L i) (l i) ≤ pos (L i) (M i)) {j : Nat} (hj : j < n) {o o' : Int} (ho : OwnerIs n l j o) (ho' : OwnerIs n M j o') : pos (R j) o' ≤ pos (R j) o := by
  rcases ho with ⟨rfl, _⟩ | ⟨i, hi, rfl, hli⟩
  · rw [pos_neg hR hj]
    exact pos_le _ _
  · by_cases hMi : M i = j
    · rcases ho' with ⟨_, h⟩ | ⟨i', hi', rfl, h⟩
      · exact absurd hMi (h i hi)
      · have := hM.ok.2 i i' hi hi' (by rw [hMi, h]) (by omega)
        subst this
        exact Nat.le_refl _
    · obtain ⟨ha1, ha2⟩ := hl.acc i hi j hli
      have hp := (rkI_lt (hL.len i hi)).1 ha1
      have hle := hleft i hi
      rw [hli] at hle
      obtain ⟨i', h1, h2, h3⟩ := hM.nob i hi _ hp (fun q hq e => by
        by_cases hq' : q = pos (L i) j
        · subst hq'
          rw [pos_at hp] at e
          exact hMi e.symm
        · exact pos_not (show q < pos (L i) (M i) by omega) e) j (pos_at hp) ha2
      have hp2 := (rkI_lt (hR.len j hj)).1 ha2
      have h8 : rkI (R j) i' < 8 := by omega
      have hp3 := (rkI_lt (hR.len j hj)).1 h8
      rcases ho' with ⟨_, h⟩ | ⟨i2, hi2, rfl, h⟩
      · exact absurd h2 (h i' h1)
      · have := hM.ok.2 i' i2 h1 hi2 (by rw [h2, h]) (by omega)
        subst this
        unfold rkI at h3
        rw [if_pos hp2, if_pos hp3] at h3
        exact h3
end
end Go.Proofs.Ytcmefjfhcdedjaa
