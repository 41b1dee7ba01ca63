/- bonds.Most, plain: edge by edge, the first that lets as many be had as can be. -/
import Derived.Test.YtcjokjfiikkpfaaDoorBondMk
namespace Go.Proofs.YtcjokjfiikkpfaaDoor
open Go.RowKit

def bw (x y : Nat) : Nat := 2 ^ x ||| 2 ^ y
def outW (l x y : Nat) : Nat := l &&& (4294967295 - bw x y)
theorem bw_bit (x y c : Nat) : (bw x y).testBit c = (decide (x = c) || decide (y = c)) := by
  unfold bw; rw [Nat.testBit_or, Nat.testBit_two_pow, Nat.testBit_two_pow]
theorem bw_lt {x y : Nat} (hx : x < 32) (hy : y < 32) : bw x y < 2 ^ 32 := Nat.or_lt_two_pow (Nat.pow_lt_pow_right (by omega) hx) (Nat.pow_lt_pow_right (by omega) hy)
theorem outW_bit {l x y : Nat} (hl : l < 2 ^ 32) (hx : x < 32) (hy : y < 32) (c : Nat) : (outW l x y).testBit c = (l.testBit c && !(decide (x = c) || decide (y = c))) := by
  unfold outW
  have hb := bw_lt hx hy
  rw [Nat.testBit_and, show 4294967295 - bw x y = 2 ^ 32 - (bw x y + 1) by omega, Nat.testBit_two_pow_sub_succ hb, bw_bit]
  by_cases hm : c < 32
  · simp [hm]
  · have : l.testBit c = false := Nat.testBit_lt_two_pow (Nat.lt_of_lt_of_le hl (Nat.pow_le_pow_right (by omega) (by omega)))
    simp [this]
theorem wS_out {l x y : Nat} (hl : l < 2 ^ 32) (hx : x < 32) (hy : y < 32) : rmv (rmv (wS l) x) y = wS (outW l x y) := by
  funext k
  unfold rmv wS
  rw [outW_bit hl hx hy]
  by_cases e : k = x
  · subst e; simp
  · by_cases e2 : k = y
    · subst e2; simp
    · simp [e, e2, Ne.symm e, Ne.symm e2]
theorem both_iff {l x y : Nat} : (l &&& bw x y = bw x y) ↔ l.testBit x = true ∧ l.testBit y = true := by
  constructor
  · intro h
    have h1 := congrArg (fun z => z.testBit x) h
    have h2 := congrArg (fun z => z.testBit y) h
    simp only [Nat.testBit_and, bw_bit] at h1 h2
    simp at h1 h2
    exact ⟨h1, h2⟩
  · rintro ⟨h1, h2⟩
    refine Nat.eq_of_testBit_eq fun c => ?_
    rw [Nat.testBit_and, bw_bit]
    by_cases e : x = c
    · subst e; simp [h1]
    · by_cases e2 : y = c
      · subst e2; simp [h2]
      · simp [e, e2]
/-- the nodes of the edges named -/
def metL (es : List E) (L : List Nat) : List Nat := L.flatMap fun i => [eA (es.getD i e0), eB (es.getD i e0)]
theorem metL_snoc (es : List E) (L : List Nat) (k : Nat) : metL es (L ++ [k]) = metL es L ++ [eA (es.getD k e0), eB (es.getD k e0)] := by simp [metL]
structure MsI (N : Nat) (es : List E) (tot k left need : Nat) (L : List Nat) : Prop where
  mm : IsMM (es.drop k) (wS left) need
  lt : left < 2 ^ N
  cnt : L.length + need = tot
  inc : L.Pairwise (· < ·)
  bd : ∀ i ∈ L, i < k
  once : (metL es L).Nodup
  off : ∀ v ∈ metL es L, left.testBit v = false
  kl : k ≤ es.length
section
variable {N : Nat} {es : List E} {tot k left need : Nat} {L : List Nat}
theorem MsI.start (h : IsMM es (wS left) need) (hl : left < 2 ^ N) : MsI N es need 0 left need [] :=
  ⟨h, hl, by simp, List.Pairwise.nil, nofun, List.Pairwise.nil, nofun, Nat.zero_le _⟩
theorem inc_len {k : Nat} : ∀ (L : List Nat) (a : Nat), (a :: L).Pairwise (· < ·) → (∀ i ∈ a :: L, i < k) → a + L.length < k
  | [], a, _, h => by simpa using h a (by simp)
  | b :: L, a, h1, h2 => by
    rw [List.pairwise_cons] at h1
    have h3 := inc_len L b h1.2 (fun i hi => h2 i (List.mem_cons_of_mem _ hi))
    have h4 := h1.1 b (by simp)
    simp; omega
theorem MsI.tl (h : MsI N es tot k left need L) : L.length ≤ k := by
  cases L with
  | nil => simp
  | cons a L => have := inc_len L a h.inc h.bd; simp; omega
theorem MsI.take (h : MsI N es tot k left need L) (hk : k < es.length) (hN : N ≤ 10) (hok : ∀ e ∈ es, okE N e) {m : Nat}
    (h1 : left.testBit (eA (es.getD k e0)) = true) (h2 : left.testBit (eB (es.getD k e0)) = true) (hm : IsMM (es.drop (k + 1)) (wS (outW left (eA (es.getD k e0)) (eB (es.getD k e0)))) m) (hn : 1 + m = need) :
    MsI N es tot (k + 1) (outW left (eA (es.getD k e0)) (eB (es.getD k e0))) m (L ++ [k]) := by
  obtain ⟨x, y, hx, hy, hxN, hyN, hne⟩ := hok (es.getD k e0) (by simp [List.getD, hk])
  have ex : eA (es.getD k e0) = x := by unfold eA; rw [hx]; simp
  have ey : eB (es.getD k e0) = y := by unfold eB; rw [hy]; simp
  rw [ex] at h1; rw [ey] at h2
  rw [ex, ey] at hm ⊢
  have h32 : left < 2 ^ 32 := Nat.lt_of_lt_of_le h.lt (Nat.pow_le_pow_right (by omega) (by omega))
  refine ⟨hm, Nat.lt_of_le_of_lt Nat.and_le_left h.lt, by have := h.cnt; simp; omega, ?_, fun i hi => ?_, ?_, fun v hv => ?_, hk⟩
  · rw [List.pairwise_append]
    exact ⟨h.inc, by simp, fun a ha b hb => by simp at hb; subst hb; exact h.bd a ha⟩
  · rcases List.mem_append.1 hi with hi | hi
    · have := h.bd i hi; omega
    · simp at hi; omega
  · rw [metL_snoc, ex, ey, List.nodup_append]
    refine ⟨h.once, by simp [hne], fun a ha b hb e => ?_⟩
    subst e
    have := h.off a ha
    simp at hb
    rcases hb with rfl | rfl
    · rw [h1] at this; cases this
    · rw [h2] at this; cases this
  · rw [outW_bit h32 (by omega) (by omega)]
    rw [metL_snoc, ex, ey] at hv
    rcases List.mem_append.1 hv with hv | hv
    · rw [h.off v hv]; rfl
    · simp at hv
      rcases hv with rfl | rfl <;> simp
theorem MsI.skip (h : MsI N es tot k left need L) (hk : k < es.length) (hN : N ≤ 10) (hok : ∀ e ∈ es, okE N e)
    (hno : ∀ m, left.testBit (eA (es.getD k e0)) = true → left.testBit (eB (es.getD k e0)) = true → IsMM (es.drop (k + 1)) (wS (outW left (eA (es.getD k e0)) (eB (es.getD k e0)))) m → 1 + m ≠ need) :
    MsI N es tot (k + 1) left need L := by
  obtain ⟨x, y, hx, hy, hxN, hyN, hne⟩ := hok (es.getD k e0) (by simp [List.getD, hk])
  have ex : eA (es.getD k e0) = x := by unfold eA; rw [hx]; simp
  have ey : eB (es.getD k e0) = y := by unfold eB; rw [hy]; simp
  rw [ex, ey] at hno
  have h32 : left < 2 ^ 32 := Nat.lt_of_lt_of_le h.lt (Nat.pow_le_pow_right (by omega) (by omega))
  have hm := h.mm
  rw [List.drop_eq_getElem_cons hk, show es[k] = es.getD k e0 by simp [List.getD, hk]] at hm
  have hm' : IsMM (es.drop (k + 1)) (wS left) need := by
    rcases hm.cons with ⟨c', rfl, h1, h2, _, h3⟩ | h3
    · rw [ex] at h1; rw [ey] at h2
      rw [ex, ey, wS_out h32 (by omega) (by omega)] at h3
      exact absurd (Nat.add_comm 1 c') (hno c' h1 h2 h3)
    · exact h3
  exact ⟨hm', h.lt, h.cnt, h.inc, fun i hi => by have := h.bd i hi; omega, h.once, h.off, hk⟩
theorem MsI.done (h : MsI N es tot es.length left need L) : L.length = tot := by
  have hm := h.mm.has
  rw [List.drop_length] at hm
  have := h.cnt
  cases hm
  omega
end
end Go.Proofs.YtcjokjfiikkpfaaDoor
