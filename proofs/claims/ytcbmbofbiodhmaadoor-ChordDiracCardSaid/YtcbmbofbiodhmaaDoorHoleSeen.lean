/- chord: seen: all by now, as a word. -/
import Derived.Test.YtcbmbofbiodhmaaDoorSeekerH
import Derived.Test.YtcbmbofbiodhmaaDoorRow
namespace Go.Proofs.YtcbmbofbiodhmaaDoor
open Go.RowKit Go.Shelf

theorem take_snocG {l : List Nat} {k : Nat} (h : k < l.length) : l.take (k + 1) = l.take k ++ [l.getD k 0] := by
  rw [List.take_add_one, show l[k]? = some (l.getD k 0) by simp [List.getD, h]]; rfl
theorem seenW_snoc (L : List Nat) (c : Nat) : seenW (L ++ [c]) = seenW L ||| 2 ^ c := by simp [seenW]
theorem seenW_lt {L : List Nat} {n : Nat} (h : ∀ c ∈ L, c < n) : seenW L < 2 ^ n := by
  refine Nat.lt_pow_two_of_testBit _ fun i hi => ?_
  rw [seen_bit, decide_eq_false_iff_not]
  exact fun hm => by have := h i hm; omega
theorem SS.cellL {ns : List Nat} {n p size cn b0 : Nat} {A : Option Addr} {W : World} {g m c : Nat} {L : List Nat} (h : SS ns n p size cn b0 A W (.slice (some ⟨g, 0, none⟩) m c) L) {k : Nat} (hk : k < L.length) : W.cell? ⟨g, k, none⟩ = some (.int .i64 ((L.getD k 0 : Nat) : Int)) := by
  obtain ⟨g', c', e, _, _, _, hc⟩ := h.at hk
  injection e with e _ _; injection e with e; injection e with e _ _
  subst e; exact hc
set_option maxHeartbeats 1600000 in
theorem seen_any (ns : List Nat) (n p size cn b0 : Nat) (A : Option Addr) (v : Value) (L : List Nat) (w : World) (hS : SS ns n p size cn b0 A w v L) (hL : ∀ c ∈ L, c < n) (hn : n ≤ 10) (hl : L.length ≤ 32) (h0 : L ≠ []) :
    Calls Tryd.prog 25 #[.pointer (some ⟨p, 0, none⟩)] w fun e w' => e = .returned (.int .u32 (seenW L : Int)) ∧ w' = w := by
  have hl0 : 0 < L.length := List.length_pos_iff.2 h0
  obtain ⟨gl, cl, hv, hcl, hgl, hgb, _⟩ := hS.at hl0
  subst hv
  have hSH := Lib.hid hS
  have k1 := hS.bk.cell (j := 1) (v := .slice (some ⟨gl, 0, none⟩) L.length cl) rfl
  obtain ⟨m, hm⟩ : ∃ m, L.length = m := ⟨_, rfl⟩
  rw [hm] at k1 hl hcl hl0
  have hmH := Lib.hid hm
  have hLH := Lib.hid hL
  clear hS hm hL h0
  go_enter Tryd.func25, Tryd.ntmps25
  go_wp2
  go_loopw [3, 11] (fun sv iv wr => ∃ k : Nat, k ≤ m ∧ iv = .int .i64 k ∧ sv = .int .u32 (seenW (L.take k) : Int) ∧ wr = w) (fun _ iv _ => m - (intOf iv).toNat)
  case atStart => exact ⟨0, by omega, rfl, rfl, rfl⟩
  case round =>
    obtain ⟨k, hk, rfl, rfl, rfl⟩ := hrel
    by_cases hkm : k < m
    · have hkm' : (k : Int) < m := by omega
      have hk0 : (0 : Int) ≤ k := by omega
      have hkL : k < L.length := by rw [hmH.out]; exact hkm
      have cx := hSH.out.cellL hkL
      have hcn : L.getD k 0 < n := hLH.out _ (by
        simp [List.getD, hkL])
      have hsn := Lib.hid (show seenW (L.take (k + 1)) = seenW (L.take k) ||| 2 ^ L.getD k 0 by rw [take_snocG hkL, seenW_snoc])
      have hlt := seenW_lt (n := n) (L := L.take k) (fun c hc => hLH.out c (List.mem_of_mem_take hc))
      have hp10 : 2 ^ n ≤ 2 ^ 10 := Nat.pow_le_pow_right (by omega) hn
      generalize L.getD k 0 = c at *
      generalize seenW (L.take k) = s at *
      have hc0 : (0 : Int) ≤ c := by omega
      have hc32 : (c : Int) < 32 := by omega
      have hpc : 2 ^ c < 2 ^ n := Nat.pow_lt_pow_right (by omega) hcn
      have hpw : (2 : Int) ^ c % 4294967296 = ((2 ^ c : Nat) : Int) := two_pow_u32 c (by omega)
      have hor := u32_or_nat s (2 ^ c) (by omega) (by omega)
      have horF := Lib.hid (show bits .or .u32 (s : Int) ((2 : Int) ^ c % 4294967296) = ((s ||| 2 ^ c : Nat) : Int) by rw [hpw]; exact hor)
      clear hlt hp10 hpc hpw hor hkL hcn
      go_wp2
      go_roundw
      case rel => exact ⟨k + 1, by omega, by go_num, by rw [hsn.out, horF.out], trivial⟩
      case measure => simp [intOf]; omega
    · obtain rfl : k = m := by omega
      have hfin := Lib.hid (show L.take k = L by rw [← hmH.out]; exact List.take_length)
      go_wp2
      go_ret
      exact ⟨by rw [hfin.out]; rfl, rfl⟩
end Go.Proofs.YtcbmbofbiodhmaaDoor
