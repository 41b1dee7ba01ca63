/- GraphHands: the walk. -/
import Derived.Test.YtbdgefkpmgkecaaHandsLaw
namespace Go.Proofs.Ytbdgefkpmgkecaa
open Go.RowKit

theorem degs_range (n : Nat) (es : List E) (k : Nat) : 0 ≤ (degs n es).getD k 0 ∧ (degs n es).getD k 0 ≤ 10 := by
  unfold degs
  by_cases h : k < (nearW n es).length
  · have := popc_le 10 ((nearW n es)[k])
    simp [List.getD, h]
    omega
  · simp [List.getD, h]
theorem degs_length (n : Nat) (es : List E) : (degs n es).length = n := by simp [degs, nearW_length]
theorem sum_take_succ (l : List Int) (k : Nat) (h : k < l.length) : (l.take (k + 1)).sum = (l.take k).sum + l.getD k 0 := by
  rw [take_succ_getD' l 0 k h, List.sum_append]; simp
theorem odd_take_succ (l : List Int) (k : Nat) (h : k < l.length) : ((l.take (k + 1)).map (· % 2)).sum = ((l.take k).map (· % 2)).sum + l.getD k 0 % 2 := by
  rw [take_succ_getD' l 0 k h, List.map_append, List.sum_append]; simp
theorem sum_bound (n : Nat) (es : List E) : ∀ k, k ≤ n → 0 ≤ ((degs n es).take k).sum ∧ ((degs n es).take k).sum ≤ 10 * (k : Int) ∧ (0 : Int) ≤ (((degs n es).take k).map (· % 2)).sum ∧ (((degs n es).take k).map (· % 2)).sum ≤ (k : Int)
  | 0, _ => by simp
  | k + 1, hk => by
    have ih := sum_bound n es k (by omega)
    have h := degs_range n es k
    rw [sum_take_succ _ _ (by rw [degs_length]; omega), odd_take_succ _ _ (by rw [degs_length]; omega)]
    omega

set_option maxHeartbeats 1600000 in
set_option maxRecDepth 100000 in
theorem hands_any (N : Int) (A : Option Addr) (len cap : Nat) (es : List E) (w : World) (hr : Rd w A len 3 (ps3 .i64 .i64 .i64 es)) (hlen : len ≤ 9223372036854775807) (hcap : len ≤ cap) :
    Calls Try.prog 3 #[.agg #[.int .i64 N, .slice A len cap]] w fun e w' => e = .returned (.bool true) ∧ Below w.heap.size w w' := by
  have hel := Lib.hid (ps3_len hr)
  have hrH := Lib.hid hr; clear hr
  go_enter Try.func3, Try.ntmps3
  go_wp2_with fail
  refine (degrees_any N A len cap es _ (hrH.out.alloc _) hlen).mono ?_
  rintro e w1 ⟨v, rfl, hd, hb⟩
  have hbw : Below w.heap.size w w1 := ((Below.refl _ _).alloc (Nat.le_refl _) _).trans (hb.mono (by simp))
  have g0 : w1.cell? ⟨w.heap.size, 0, none⟩ = some (.int .i64 N) := below_cell hb (by simp) (by go_simp)
  have g1 : w1.cell? ⟨w.heap.size, 1, none⟩ = some (.slice A len cap) := below_cell hb (by simp) (by go_simp)
  have hS : w.heap.size < w1.heap.size := by have := hb.size; simp at this; omega
  clear hb
  have hgood := Lib.hid (good_any N A len cap es w1 (hrH.out.later hbw) hlen hcap)
  go_wp2_with fail
  refine hgood.out.mono ?_
  rintro e w2 ⟨rfl, hb2⟩
  have hbw2 := hbw.trans (hb2.mono hbw.size)
  have k0 := below_cell hb2 hS g0
  have k1 := below_cell hb2 hS g1
  clear g0 g1
  by_cases hc0 : gchk N es = 0
  · have hc0e : (gchk N es == 0) = true := by rw [hc0]; rfl
    rw [DRes, if_pos hc0] at hd
    obtain ⟨A2, c2, rfl⟩ := own_slice hd
    have hrd := Lib.hid ((Rd.of_own hd).later hb2)
    have hsum := degs_sum hc0
    have hl45 := (gchk_ok hc0).2.2.1
    rw [hel.out] at hsum hl45
    obtain ⟨hN0, hN10, _⟩ := gchk_ok hc0
    obtain ⟨n, rfl⟩ := Int.eq_ofNat_of_zero_le hN0
    rw [Int.toNat_natCast] at *
    have hc0H := Lib.hid hc0; have hsumH := Lib.hid hsum
    clear hc0 hsum hd hb2 hbw
    have hn10 : n ≤ 10 := by omega
    go_wp2
    go_loop [5, 6, 21] (fun s o i => ∃ k : Nat, k ≤ n ∧ i = .int .i64 k ∧ s = .int .i64 ((degs n es).take k).sum ∧ o = .int .i64 (((degs n es).take k).map (· % 2)).sum) (fun _ _ i => n - (intOf i).toNat)
    case atStart => exact ⟨0, Nat.zero_le _, rfl, rfl, rfl⟩
    case round =>
      obtain ⟨k, hk, rfl, rfl, rfl⟩ := hrel
      have hsb := sum_bound n es k hk
      by_cases hlt : k < n
      · obtain ⟨b, o, rfl, _, hc1⟩ := hrd.out.int hlt
        have hdr := degs_range n es k
        have h1 := Lib.hid (sum_take_succ (degs n es) k (by rw [degs_length]; exact hlt))
        have h2 := Lib.hid (odd_take_succ (degs n es) k (by rw [degs_length]; exact hlt))
        generalize (degs n es).getD k 0 = d at *
        generalize ((degs n es).take k).sum = s at *
        generalize (((degs n es).take k).map (· % 2)).sum = o at *
        obtain ⟨hs0, hs1, ho0, ho1⟩ := hsb
        obtain ⟨hd0, hd1⟩ := hdr
        go_wp2
        go_round
        case rel => exact ⟨k + 1, by omega, by go_num, by rw [h1.out], by rw [h2.out]⟩
        case measure => simp [intOf]; omega
      · obtain rfl : k = n := by omega
        have ho := odd_sum (degs k es)
        rw [List.take_of_length_le (by rw [degs_length]; exact Nat.le_refl _)] at *
        rw [hsumH.out] at *
        generalize ((degs k es).map (· % 2)).sum = od at *
        have hod : od % 2 = 0 := by omega
        obtain ⟨_, _, ho0, ho1⟩ := hsb
        have hl2 : (0 : Int) ≤ 2 * (len : Int) := by omega
        clear ho
        go_wp2
        go_ret
        exact ⟨rfl, hbw2⟩
  · have hc0e : (gchk N es == 0) = false := by simpa using hc0
    have hc0b : (gchk N es != 0) = true := by simpa using hc0
    have hc0H := Lib.hid hc0; clear hc0
    go_wp2
    go_ret
    exact ⟨rfl, hbw2⟩
end Go.Proofs.Ytbdgefkpmgkecaa
