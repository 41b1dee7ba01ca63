/- How many colourings go on from the first nodes; by how many colours are in use. No program in sight. -/
import Derived.Test.YtnpgnohnpbdblaaDoorPaintD
namespace Go.Proofs.YtnpgnohnpbdblaaDoor
open Go.RowKit

def Cnt (ns : List Nat) (k : Nat) : Nat → Nat → (Nat → Int) → Nat
  | 0, _, _ => 1
  | d + 1, i, L => ((bitsL (mayW ns L i k)).map fun (c : Nat) => Cnt ns k d (i + 1) (updN L i (c : Int))).sum
/-- may a node have a colour, as far as its neighbours go? -/
def okc (ns : List Nat) (L : Nat → Int) (i c : Nat) : Bool := (bitsL (ns.getD i 0)).all fun j => L j != (c : Int)
theorem filter_lt (m : Nat) (p : Nat → Bool) : ∀ d, (List.range (m + d)).filter (fun c => decide (c < m) && p c) = (List.range m).filter p
  | 0 => List.filter_congr fun c hc => by simp at hc; simp [hc]
  | d + 1 => by
    rw [← Nat.add_assoc, List.range_succ, List.filter_append, filter_lt m p d]
    simp
    intro h; omega
theorem bits_may {ns : List Nat} {L : Nat → Int} (hL : ∀ j, L j < 32) (i : Nat) {m : Nat} (hm : m ≤ 32) : bitsL (mayW ns L i m) = (List.range m).filter (okc ns L i) := by
  have h := filter_lt m (okc ns L i) (32 - m)
  rw [show m + (32 - m) = 32 by omega] at h
  rw [← h]
  unfold bitsL
  exact List.filter_congr fun c hc => by rw [mayW_bit hL (by simpa using hc)]; rfl
theorem okc_iff {ns : List Nat} {n : Nat} (g : Gr n ns) {L : Nat → Int} {i c : Nat} : okc ns L i c = true ↔ ∀ j, nb ns i j = true → L j ≠ (c : Int) := by
  unfold okc
  simp only [List.all_eq_true, bne_iff_ne]
  have hn := g.n10
  exact ⟨fun h j hj => h j (mem_bitsL.2 ⟨by have := (g.ok i j hj).2.1; omega, hj⟩), fun h j hj => h j (mem_bitsL.1 hj).2⟩
/-- two colours change places -/
def swp (a b : Nat) (x : Int) : Int := if x = a then b else if x = b then a else x
def swn (a b c : Nat) : Nat := if c = a then b else if c = b then a else c
theorem swp_cast (a b c : Nat) : swp a b (c : Int) = (swn a b c : Nat) := by
  unfold swp swn
  repeat' split
  all_goals omega
theorem swp_inv (a b : Nat) (x : Int) : swp a b (swp a b x) = x := by
  unfold swp
  repeat' split
  all_goals omega
theorem swn_inv (a b c : Nat) : swn a b (swn a b c) = c := by
  unfold swn
  repeat' split
  all_goals omega
theorem swn_lt {a b c k : Nat} (ha : a < k) (hb : b < k) (hc : c < k) : swn a b c < k := by unfold swn; split <;> (try split) <;> omega
theorem perm_of_sub' : ∀ {l₁ l₂ : List Nat}, l₁.Nodup → l₁ ⊆ l₂ → l₂.length ≤ l₁.length → l₁.Perm l₂
  | [], l₂, _, _, h => by
    obtain rfl : l₂ = [] := List.eq_nil_of_length_eq_zero (by simpa using h)
    exact List.Perm.refl _
  | a :: l₁, l₂, hn, hs, hl => by
    obtain ⟨s, t, rfl⟩ := List.append_of_mem (hs List.mem_cons_self)
    rw [List.nodup_cons] at hn
    refine (List.Perm.cons a (perm_of_sub' hn.2 (fun x hx => ?_) (by simp at hl ⊢; omega))).trans List.perm_middle.symm
    have h1 := hs (List.mem_cons_of_mem a hx)
    simp only [List.mem_append, List.mem_cons] at h1 ⊢
    rcases h1 with h | rfl | h
    · exact .inl h
    · exact absurd hx hn.1
    · exact .inr h
theorem swn_perm {a b k : Nat} (ha : a < k) (hb : b < k) : ((List.range k).map (swn a b)).Perm (List.range k) := by
  refine perm_of_sub' ?_ ?_ (by simp)
  · rw [List.Nodup, List.pairwise_map]
    refine List.nodup_range.imp fun h e => h ?_
    have := congrArg (swn a b) e
    rwa [swn_inv, swn_inv] at this
  · intro x hx
    obtain ⟨c, hc, rfl⟩ := List.mem_map.1 hx
    exact List.mem_range.2 (swn_lt ha hb (List.mem_range.1 hc))
theorem map_sum_congr {l : List Nat} {f g : Nat → Nat} (h : ∀ a ∈ l, f a = g a) : (l.map f).sum = (l.map g).sum := by rw [List.map_congr_left h]
theorem filter_sum (l : List Nat) (p : Nat → Bool) (f : Nat → Nat) : ((l.filter p).map f).sum = (l.map fun a => if p a then f a else 0).sum := by
  induction l with
  | nil => rfl
  | cons a l ih =>
    rw [List.filter_cons]
    by_cases h : p a = true
    · simp [h, ih]
    · simp [h, ih]
theorem Cnt_succ {ns : List Nat} {L : Nat → Int} (hL : ∀ j, L j < 32) {k : Nat} (hk : k ≤ 32) (d i : Nat) : Cnt ns k (d + 1) i L = ((List.range k).map fun (c : Nat) => if okc ns L i c then Cnt ns k d (i + 1) (updN L i (c : Int)) else 0).sum := by
  rw [Cnt, bits_may hL i hk, filter_sum]
theorem swp_bd {a b k : Nat} (ha : a < k) (hb : b < k) {x : Int} (h : -1 ≤ x ∧ x < k) : -1 ≤ swp a b x ∧ swp a b x < k := by unfold swp; split <;> (try split) <;> omega
theorem okc_swp (ns : List Nat) (L : Nat → Int) (i a b c : Nat) : okc ns (fun j => swp a b (L j)) i (swn a b c) = okc ns L i c := by
  unfold okc
  congr 1
  funext j
  rw [← swp_cast]
  have : swp a b (L j) = swp a b (c : Int) ↔ L j = (c : Int) := ⟨fun h => by have := congrArg (swp a b) h; rwa [swp_inv, swp_inv] at this, fun h => by rw [h]⟩
  rw [Bool.eq_iff_iff, bne_iff_ne, bne_iff_ne]
  exact not_congr this
/-- as many when two colours change places -/
theorem Cnt_swap {ns : List Nat} {k : Nat} (hk : k ≤ 32) {a b : Nat} (ha : a < k) (hb : b < k) : ∀ (d i : Nat) (L : Nat → Int), (∀ j, -1 ≤ L j ∧ L j < k) → Cnt ns k d i (fun j => swp a b (L j)) = Cnt ns k d i L
  | 0, _, _, _ => rfl
  | d + 1, i, L, hL => by
    have hL1 : ∀ j, L j < 32 := fun j => by have := hL j; omega
    have hL2 : ∀ j, swp a b (L j) < 32 := fun j => by have := swp_bd ha hb (hL j); omega
    rw [Cnt_succ hL1 hk, Cnt_succ hL2 hk]
    have h1 := ((swn_perm ha hb).map fun (c : Nat) => if okc ns (fun j => swp a b (L j)) i c then Cnt ns k d (i + 1) (updN (fun j => swp a b (L j)) i (c : Int)) else 0).sum_nat
    rw [← h1, List.map_map]
    refine map_sum_congr fun c hc => ?_
    have hc := List.mem_range.1 hc
    simp only [Function.comp]
    rw [okc_swp]
    have h2 : updN (fun j => swp a b (L j)) i ((swn a b c : Nat) : Int) = fun j => swp a b (updN L i (c : Int) j) := by
      funext j
      unfold updN
      split
      · rw [swp_cast]
      · rfl
    rw [h2, Cnt_swap hk ha hb d (i + 1) (updN L i (c : Int)) (fun j => by
      unfold updN; split
      · omega
      · exact hL j)]
/-- who is in use: all colours of the first i are below u -/
structure CPre (k u i : Nat) (L : Nat → Int) : Prop where
  uk : u ≤ k
  lo : ∀ j, j < i → 0 ≤ L j ∧ L j < u
  hi : ∀ j, i ≤ j → L j = -1
theorem CPre.bd {k u i : Nat} {L : Nat → Int} (h : CPre k u i L) (j : Nat) : -1 ≤ L j ∧ L j < k ∧ L j < u ∨ L j = -1 := by
  rcases Nat.lt_or_ge j i with hj | hj
  · have := h.lo j hj; have := h.uk; omega
  · exact .inr (h.hi j hj)
theorem CPre.pre {k u i : Nat} {L : Nat → Int} (h : CPre k u i L) : PPre k i L := ⟨fun j hj => by have := h.lo j hj; have := h.uk; omega, h.hi⟩
theorem CPre.step {k u i c : Nat} {L : Nat → Int} (h : CPre k u i L) (hc : c < k) (hcu : c ≤ u) : CPre k (if c = u then u + 1 else u) (i + 1) (updN L i (c : Int)) where
  uk := by have := h.uk; split <;> omega
  lo := fun j hj => by
    unfold updN
    split
    · split <;> omega
    · have := h.lo j (by omega); split <;> omega
  hi := fun j hj => by unfold updN; rw [if_neg (by omega)]; exact h.hi j (by omega)
/-- what is added for a colour -/
def gC (ns : List Nat) (k u d i : Nat) (L : Nat → Int) (c : Nat) : Nat := if c = u then (k - u) * Cnt ns k d (i + 1) (updN L i (c : Int)) else Cnt ns k d (i + 1) (updN L i (c : Int))
theorem sum_const (l : List Nat) (x : Nat) : (l.map fun _ => x).sum = l.length * x := by
  induction l with
  | nil => simp
  | cons a l ih => simp [ih, Nat.succ_mul, Nat.add_comm]
theorem count_sum {ns : List Nat} {n : Nat} (g : Gr n ns) {k u d i : Nat} (hk : k ≤ 12) {L : Nat → Int} (h : CPre k u i L) :
    ((bitsL (mayW ns L i (min (u + 1) k))).map (gC ns k u d i L)).sum = Cnt ns k (d + 1) i L := by
  have hu := h.uk
  have hL : ∀ j, L j < 32 := fun j => by rcases h.bd j with h | h <;> omega
  have hLk : ∀ j, -1 ≤ L j ∧ L j < k ∨ L j = -1 := fun j => by rcases h.bd j with h | h <;> omega
  rw [bits_may hL i (by omega), Cnt_succ hL (by omega), filter_sum]
  have hok : ∀ c, u ≤ c → okc ns L i c = true := fun c hc => (okc_iff g).2 fun j _ => by rcases h.bd j with h | h <;> omega
  rcases Nat.lt_or_ge u k with huk | huk
  · rw [show min (u + 1) k = u + 1 by omega, List.range_succ, List.map_append, List.sum_append]
    obtain ⟨e, rfl⟩ : ∃ e, k = u + e := ⟨k - u, by omega⟩
    have hsplit : ∀ (e : Nat) (F : Nat → Nat), ((List.range (u + e)).map F).sum = ((List.range u).map F).sum + ((List.range e).map fun c => F (u + c)).sum := by
      intro e F
      induction e with
      | zero => simp
      | succ e ih => rw [← Nat.add_assoc, List.range_succ, List.map_append, List.sum_append, ih, List.range_succ, List.map_append, List.sum_append]; simp; omega
    rw [hsplit e]
    congr 1
    · refine map_sum_congr fun c hc => ?_
      have hc := List.mem_range.1 hc
      have : gC ns (u + e) u d i L c = Cnt ns (u + e) d (i + 1) (updN L i (c : Int)) := by unfold gC; rw [if_neg (by omega)]
      rw [this]
    · have hsame : ∀ c, c < e → Cnt ns (u + e) d (i + 1) (updN L i ((u + c : Nat) : Int)) = Cnt ns (u + e) d (i + 1) (updN L i ((u : Nat) : Int)) := by
        intro c hc
        have h1 := Cnt_swap (ns := ns) (k := u + e) (by omega) (a := u) (b := u + c) (by omega) (by omega) d (i + 1) (updN L i ((u : Nat) : Int)) (fun j => by
          unfold updN; split
          · omega
          · rcases hLk j with h | h <;> omega)
        rw [← h1]
        congr 1
        funext j
        unfold updN
        split
        · rw [swp_cast]; unfold swn; rw [if_pos rfl]
        · unfold swp
          rcases h.bd j with h | h
          · rw [if_neg (by omega), if_neg (by omega)]
          · rw [if_neg (by omega), if_neg (by omega)]
      have : ((List.range e).map fun (c : Nat) => if okc ns L i (u + c) then Cnt ns (u + e) d (i + 1) (updN L i ((u + c : Nat) : Int)) else 0).sum = e * Cnt ns (u + e) d (i + 1) (updN L i ((u : Nat) : Int)) := by
        rw [map_sum_congr (g := fun _ => Cnt ns (u + e) d (i + 1) (updN L i ((u : Nat) : Int))) (fun c hc => by
          rw [if_pos (hok (u + c) (by omega)), hsame c (List.mem_range.1 hc)]), sum_const]
        simp
      rw [this]
      simp [gC, hok u (Nat.le_refl _)]
  · obtain rfl : k = u := by omega
    rw [show min (k + 1) k = k by omega]
    refine map_sum_congr fun c hc => ?_
    have hc := List.mem_range.1 hc
    have : gC ns k k d i L c = Cnt ns k d (i + 1) (updN L i (c : Int)) := by unfold gC; rw [if_neg (by omega)]
    rw [this]
theorem bits_len {k x : Nat} (hx : x < 2 ^ k) : (bitsL x).length ≤ k := by
  have := List.Nodup.length_le_of_subset (l₂ := List.range k) (bitsL_nodup x) fun c hc => List.mem_range.2 (by
    have h1 := (mem_bitsL.1 hc).2
    refine Nat.lt_of_not_le fun hle => ?_
    have := Nat.testBit_lt_two_pow (Nat.lt_of_lt_of_le hx (Nat.pow_le_pow_right (by omega) hle))
    rw [h1] at this; cases this)
  simpa using this
theorem sum_bd {l : List Nat} {f : Nat → Nat} {m : Nat} (h : ∀ a ∈ l, f a ≤ m) : (l.map f).sum ≤ l.length * m := by
  induction l with
  | nil => simp
  | cons a l ih =>
    have h1 := h a (by simp)
    have h2 := ih fun b hb => h b (by simp [hb])
    simp only [List.map_cons, List.sum_cons, List.length_cons, Nat.succ_mul]
    omega
theorem Cnt_le {ns : List Nat} {k : Nat} (hk : k ≤ 12) : ∀ (d i : Nat) (L : Nat → Int), Cnt ns k d i L ≤ 12 ^ d
  | 0, _, _ => by simp [Cnt]
  | d + 1, i, L => by
    rw [Cnt]
    refine Nat.le_trans (sum_bd (m := 12 ^ d) fun c _ => Cnt_le hk d (i + 1) _) ?_
    rw [Nat.pow_succ, Nat.mul_comm (12 ^ d)]
    exact Nat.mul_le_mul_right _ (Nat.le_trans (bits_len (mayW_lt ns L i k)) hk)
/-- there is one just if it is counted -/
theorem Cnt_pos {ns : List Nat} {n k : Nat} (g : Gr n ns) (hk : k ≤ 12) : ∀ (d i : Nat) (L : Nat → Int), i + d = n → PPre k i L → (0 < Cnt ns k d i L ↔ ∃ M, Ext ns n k i L M)
  | 0, i, L, hid, _ => ⟨fun _ => ⟨L, fun _ _ => rfl, fun j h1 h2 => absurd h2 (by omega)⟩, fun _ => by simp [Cnt]⟩
  | d + 1, i, L, hid, hp => by
    have hin : i < n := by omega
    rw [Cnt]
    have hs : ∀ l : List Nat, ∀ f : Nat → Nat, 0 < (l.map f).sum ↔ ∃ a, a ∈ l ∧ 0 < f a := fun l f => by
      induction l with
      | nil => simp
      | cons a l ih =>
        simp only [List.map_cons, List.sum_cons, List.mem_cons]
        constructor
        · intro h
          rcases Nat.eq_zero_or_pos (f a) with h0 | h0
          · obtain ⟨b, hb, h1⟩ := ih.1 (by omega)
            exact ⟨b, .inr hb, h1⟩
          · exact ⟨a, .inl rfl, h0⟩
        · rintro ⟨b, rfl | hb, h1⟩
          · omega
          · have := ih.2 ⟨b, hb, h1⟩; omega
    rw [hs]
    constructor
    · rintro ⟨c, hc, h1⟩
      have hb := (mem_bitsL.1 hc).2
      have hck := ((mayW_iff g (fun j => by have := hp.bd hk j; omega) (show k ≤ 32 by omega)).1 hb).1
      obtain ⟨M, hM⟩ := (Cnt_pos g hk d (i + 1) _ (by omega) (hp.step hck)).1 h1
      exact ⟨M, Ext.of_step g hp hin hk hb hM⟩
    · rintro ⟨M, hM⟩
      obtain ⟨c, hb, hM2⟩ := Ext.to_step g hp hin hk hM
      have hck := ((mayW_iff g (fun j => by have := hp.bd hk j; omega) (show k ≤ 32 by omega)).1 hb).1
      exact ⟨c, mem_bitsL.2 ⟨by omega, hb⟩, (Cnt_pos g hk d (i + 1) _ (by omega) (hp.step hck)).2 ⟨M, hM2⟩⟩
/-- with one colour more no fewer -/
theorem Cnt_more {ns : List Nat} {k : Nat} (hk : k < 12) : ∀ (d i : Nat) (L : Nat → Int), (∀ j, -1 ≤ L j ∧ L j < k) → Cnt ns k d i L ≤ Cnt ns (k + 1) d i L
  | 0, _, _, _ => by simp [Cnt]
  | d + 1, i, L, hL => by
    have hL1 : ∀ j, L j < 32 := fun j => by have := hL j; omega
    rw [Cnt_succ hL1 (by omega), Cnt_succ hL1 (by omega), List.range_succ, List.map_append, List.sum_append]
    refine Nat.le_trans ?_ (Nat.le_add_right _ _)
    have : ∀ l : List Nat, (∀ c ∈ l, c < k) → (l.map fun (c : Nat) => if okc ns L i c then Cnt ns k d (i + 1) (updN L i (c : Int)) else 0).sum ≤ (l.map fun (c : Nat) => if okc ns L i c then Cnt ns (k + 1) d (i + 1) (updN L i (c : Int)) else 0).sum := by
      intro l
      induction l with
      | nil => intro _; exact Nat.le_refl _
      | cons a l ih =>
        intro hl
        have h1 := ih fun c hc => hl c (List.mem_cons_of_mem _ hc)
        have ha := hl a List.mem_cons_self
        have h2 := Cnt_more (ns := ns) hk d (i + 1) (updN L i (a : Int)) (fun j => by
          unfold updN; split
          · omega
          · exact hL j)
        simp only [List.map_cons, List.sum_cons]
        split <;> omega
    exact this _ fun c hc => List.mem_range.1 hc
end Go.Proofs.YtnpgnohnpbdblaaDoor
