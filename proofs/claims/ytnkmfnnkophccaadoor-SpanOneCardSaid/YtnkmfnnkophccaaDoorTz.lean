/- math/bits.TrailingZeros32; graph.Each: the bits of a word, the least first. -/
import Derived.Shelf.Spec.TrailingZeros
import Derived.Test.YtnkmfnnkophccaaDoorRows
import Derived.Test.YtnkmfnnkophccaaDoorBox
namespace Go.Proofs.YtnkmfnnkophccaaDoor
open Go.RowKit Go.Shelf
attribute [local go_sem] Oper.semAt_some

/-- the table of the library, as its text lays it -/
def Tb (w : World) : Prop := TabAt 0 Lib.deBruijn32tab w
theorem Tb.below {B : Nat} {w w' : World} (h : Tb w) (hB : 0 < B) (hb : Below B w w') : Tb w' := fun j hj => (hb.cell (p := ⟨0, j, none⟩) hB).trans (h j hj)
theorem tz_core (x k idx : Nat) (w : World) (hxz : ((x : Int) == 0) = false) (key : bits BinOp.and IntKind.u32 (x : Int) (-(x : Int) % 4294967296) * 125613361 % 4294967296 / 134217728 = (idx : Int))
    (hi : idx < 32) (hk : k < 32) (hcell : w.cell? ⟨0, idx, none⟩ = some (.int .u8 k)) :
    Calls Tryd.prog 23 #[.int .u32 x] w fun e w' => e = .returned (.int .i64 k) ∧ w = w' := by
  go_enter Tryd.func23, Tryd.ntmps23
  go_wp2_with (simp only [key])
  go_ret
  exact ⟨rfl, rfl⟩
theorem tab_len : Lib.deBruijn32tab.length = 32 := rfl
theorem tz_any (x : Nat) (hx : x < 4294967296) (hx0 : x ≠ 0) (w : World) (hT : Tb w) :
    Calls Tryd.prog 23 #[.int .u32 x] w fun e w' => e = .returned (.int .i64 (Lib.ctz 32 x : Nat)) ∧ w = w' := by
  obtain ⟨hlow, hk⟩ := Lib.lowest_bit 32 x hx0 hx
  obtain ⟨hi, htab⟩ := Lib.deBruijn32_at _ hk
  have hcell := hT _ (by rw [tab_len]; exact hi)
  rw [htab] at hcell
  exact tz_core x _ _ w (by simp; omega) (tz32_key x _ hx hx0 hlow) hi hk hcell

/-- the bits of a word -/
def bitsL (x : Nat) : List Nat := (List.range 32).filter x.testBit
theorem mem_bitsL {x j : Nat} : j ∈ bitsL x ↔ j < 32 ∧ x.testBit j = true := by simp [bitsL]
theorem filter_first {p q : Nat → Bool} {t : Nat} (hp : p t = true) (hl : ∀ i, i < t → p i = false) (hq : ∀ i, q i = (p i && !(i == t))) : ∀ n : Nat, t < n → (List.range n).filter p = t :: (List.range n).filter q := by
  intro n
  induction n with
  | zero => omega
  | succ n ih =>
    intro h
    rw [List.range_succ, List.filter_append, List.filter_append]
    by_cases htn : t = n
    · subst htn
      have e1 : (List.range t).filter p = [] := by rw [List.filter_eq_nil_iff]; intro a ha; rw [hl a (by simpa using ha)]; decide
      have e2 : (List.range t).filter q = [] := by rw [List.filter_eq_nil_iff]; intro a ha; rw [hq, hl a (by simpa using ha)]; simp
      have e3 : q t = false := by rw [hq]; simp
      rw [e1, e2]
      simp [hp, e3]
    · rw [ih (by omega)]
      have e3 : q n = p n := by rw [hq, show (n == t) = false by simp; omega]; simp
      have e4 : [n].filter p = [n].filter q := by simp only [List.filter_cons, List.filter_nil, e3]
      rw [e4]; rfl
theorem low_bits (x : Nat) (h0 : x ≠ 0) (h : x < 4294967296) : x.testBit (Lib.ctz 32 x) = true ∧ (∀ i, i < Lib.ctz 32 x → x.testBit i = false) ∧ ∀ i, (x &&& (x - 1)).testBit i = (x.testBit i && !(i == Lib.ctz 32 x)) := by
  obtain ⟨m, hm, hk⟩ := Lib.ctzFrom_spec 32 x (by omega) h
  have e : Lib.ctz 32 x = Lib.ctzFrom 32 x := by simp [Lib.ctz, h0]
  rw [e]
  generalize Lib.ctzFrom 32 x = t at *
  have hb : ∀ i, x.testBit i = (decide (t ≤ i) && (2 * m + 1).testBit (i - t)) := fun i => by
    rw [hm, Nat.mul_comm, Nat.testBit_mul_two_pow]
  have hx1 : x - 1 = 2 ^ t * (2 * m) + (2 ^ t - 1) := by
    have : 1 ≤ 2 ^ t := Nat.one_le_two_pow
    rw [hm, Nat.mul_add, Nat.mul_one]; omega
  have hb1 : ∀ i, (x - 1).testBit i = if i < t then true else (2 * m).testBit (i - t) := fun i => by
    rw [hx1, Nat.testBit_two_pow_mul_add _ (by have : 1 ≤ 2 ^ t := Nat.one_le_two_pow; omega)]
    split
    · rename_i hi; simp [Nat.testBit_two_pow_sub_one, hi]
    · rfl
  refine ⟨by rw [hb]; simp, fun i hi => by rw [hb]; simp; omega, fun i => ?_⟩
  rw [Nat.testBit_and, hb1, hb]
  by_cases hi : i < t
  · simp [hi, show ¬ t ≤ i by omega]
  · have hti : t ≤ i := by omega
    by_cases he : i = t
    · subst he; simp
    · obtain ⟨d, rfl⟩ : ∃ d, i = t + (d + 1) := ⟨i - t - 1, by omega⟩
      have e3 : t + (d + 1) - t = d + 1 := by omega
      have d1 : (2 * m + 1) / 2 = m := by omega
      have d2 : (2 * m) / 2 = m := by omega
      rw [e3, Nat.testBit_succ, Nat.testBit_succ, d1, d2]
      simp [show ¬ (t + (d + 1) < t) by omega]
theorem bitsL_step (x : Nat) (h0 : x ≠ 0) (h : x < 4294967296) : bitsL x = Lib.ctz 32 x :: bitsL (x &&& (x - 1)) := by
  obtain ⟨h1, h2, h3⟩ := low_bits x h0 h
  exact filter_first h1 h2 h3 32 (Lib.lowest_bit 32 x h0 h).2
theorem bitsL_zero : bitsL 0 = [] := by simp [bitsL]
theorem bitsL_nodup (x : Nat) : (bitsL x).Nodup := List.nodup_range.filter _
end Go.Proofs.YtnkmfnnkophccaaDoor
