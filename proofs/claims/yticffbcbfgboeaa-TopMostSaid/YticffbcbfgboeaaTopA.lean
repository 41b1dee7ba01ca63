/- What the laws at the top ask: may, whole, placed. -/
import Derived.Test.YticffbcbfgboeaaCrewJ
namespace Go.Proofs.Yticffbcbfgboeaa
open Go.RowKit Go.Shelf

set_option maxHeartbeats 3200000 in
theorem prefcheck_any (A B : Option Addr) (nw nt cA cB : Nat) (ws : List (Int × Int)) (w : World) (hw : Rd w A nw 2 (ps2 .i64 .u32 ws)) (hnw : nw ≤ 9223372036854775807) (hnt : nt ≤ 9223372036854775807) :
    Calls Try.prog 17 #[.slice A nw cA, .slice B nt cB] w fun e w' => e = .returned (.int .i64 (pchk ws nt)) ∧ Below w.heap.size w w' := by
  have hwl : ws.length = nw := by have := hw.1; rw [ps2_length] at this; omega
  have hwlH := Lib.hid hwl
  by_cases h1 : 6 < nw
  · have e1 := Lib.hid (show pchk ws nt = 1 from if_pos (.inl (by rw [hwl]; exact h1)))
    clear hwl
    go_enter Try.func17, Try.ntmps17
    go_wp2
    go_ret
    exact ⟨by rw [e1.out]; rfl, Below.refl _ _⟩
  by_cases h2 : 12 < nt
  · have e1 := Lib.hid (show pchk ws nt = 1 from if_pos (.inr h2))
    clear hwl
    go_enter Try.func17, Try.ntmps17
    go_wp2
    go_ret
    exact ⟨by rw [e1.out]; rfl, Below.refl _ _⟩
  have e1 := Lib.hid (show pchk ws nt = if ws.any oddW = true then 4 else 0 from if_neg (by rw [hwl]; omega))
  have hwH := Lib.hid hw
  clear hw hwl
  go_enter Try.func17, Try.ntmps17
  go_wp2
  go_loopw [6, 17] (fun _ i wr => ∃ k : Nat, k ≤ nw ∧ i = .int .i64 k ∧ (ws.take k).any oddW = false ∧ Below w.heap.size w wr) (fun _ i _ => nw - (intOf i).toNat)
  case atStart => exact ⟨0, Nat.zero_le _, rfl, rfl, Below.refl _ _⟩
  case round =>
    obtain ⟨k, hk, rfl, hn, hb⟩ := hrel
    by_cases hlt : k < nw
    · obtain ⟨ba, oa, rfl, hba, a0, a1⟩ := (hwH.out.later hb).pair hlt
      have hat := Lib.hid (wany_at (p := oddW) (l := ws) (k := k) (by rw [hwlH.out]; exact hlt))
      have hnx := Lib.hid (wany_take (p := oddW) (l := ws) (k := k) (by rw [hwlH.out]; exact hlt) hn)
      unfold wat at hat hnx
      generalize ws.getD k (0, 0) = c at *
      obtain ⟨cr, ch⟩ := c
      dsimp only at a0 a1
      have hq := Blk.new wr 39 #[.int .i64 cr, .int .u32 ch]
      have q0 := hq.cell (j := 0) rfl
      have lq := hq.lt
      have hbH := Lib.hid (hb.alloc hb.size (.cells #[.int .i64 cr, .int .u32 ch] 39))
      clear hq hb hn
      by_cases ho : 0 ≤ cr ∧ cr ≤ 12
      · have hy := Lib.hid (hnx.out (by simp [oddW]; omega))
        obtain ⟨o1, o2⟩ := ho
        have d1 : decide (cr < 0) = false := decide_eq_false (by omega)
        have d2 : decide (12 < cr) = false := decide_eq_false (by omega)
        go_wp2
        go_roundw
        case rel => exact ⟨k + 1, by omega, by go_num, hy.out, hbH.out⟩
        case measure => simp [intOf]; omega
      · have hy := Lib.hid (show pchk ws nt = 4 by rw [e1.out, if_pos (hat.out (by simp [oddW]; omega))])
        rcases Int.lt_or_le cr 0 with h | h
        · clear ho
          have d1 : decide (cr < 0) = true := decide_eq_true h
          go_wp2
          go_ret
          exact ⟨by rw [hy.out]; rfl, hbH.out⟩
        · have h3 : 12 < cr := by omega
          clear ho
          have d1 : decide (cr < 0) = false := decide_eq_false (by omega)
          have d2 : decide (12 < cr) = true := decide_eq_true h3
          go_wp2
          go_ret
          exact ⟨by rw [hy.out]; rfl, hbH.out⟩
    · have hy := Lib.hid (show pchk ws nt = 0 by
        rw [List.take_of_length_le (by rw [hwlH.out]; omega)] at hn
        rw [e1.out, hn]; rfl)
      have hbH := Lib.hid hb
      clear hb hn
      go_wp2
      go_ret
      exact ⟨by rw [hy.out]; rfl, hbH.out⟩
set_option maxHeartbeats 800000 in
theorem tmay_any (A B C : Option Addr) (nw ns nc cA cB cC : Nat) (ws : List (Int × Int)) (w : World) (hA : Rd w A nw 2 (ps2 .i64 .u32 ws)) (hnw : nw ≤ 9223372036854775807) (hns : ns ≤ 9223372036854775807) (hnc : nc ≤ 9223372036854775807) :
    Calls Try.prog 8 #[.slice A nw cA, .slice B ns cB, .slice C nc cC] w fun e w' => e = .returned (.bool (decide (pchk ws ns = 0) && decide (nc ≤ 64))) ∧ Below w.heap.size w w' := by
  have HW := Lib.hid (prefcheck_any A B nw ns cA cB ws w hA hnw hns)
  clear hA
  obtain ⟨bb, hbb⟩ : ∃ bb, (decide (pchk ws ns = 0) && decide (nc ≤ 64)) = bb := ⟨_, rfl⟩
  rw [hbb]
  generalize pchk ws ns = c at *
  by_cases hc : c = 0
  · subst hc
    have hn : decide ((nc : Int) ≤ 64) = bb := by rw [← hbb]; simp; omega
    clear hbb
    go_enter Try.func8, Try.ntmps8
    go_wp2_with fail
    refine HW.out.mono ?_
    rintro e w1 ⟨rfl, hb1⟩
    go_wp2
    go_ret
    exact ⟨rfl, hb1⟩
  · have hq : (c == 0) = false := beq_false_of_ne hc
    obtain rfl : false = bb := by rw [← hbb, decide_eq_false hc]; rfl
    clear hbb
    go_enter Try.func8, Try.ntmps8
    go_wp2_with fail
    refine HW.out.mono ?_
    rintro e w1 ⟨rfl, hb1⟩
    go_wp2
    go_ret
    exact ⟨rfl, hb1⟩
set_option maxHeartbeats 800000 in
theorem whole_ok (A1 A2 A3 B C : Option Addr) (ns nc c1 c2 c3 cB cC : Nat) (inn : Int) (w : World) :
    Calls Try.prog 9 #[.agg #[.slice A1 nc c1, .int .u32 inn, .slice A2 ns c2, .slice A3 ns c3], .slice B ns cB, .slice C nc cC] w fun e w' => e = .returned (.bool true) ∧ Below w.heap.size w w' := by
  have hb := Lib.hid ((Below.refl _ w).alloc (Nat.le_refl _) (.cells #[.slice A1 nc c1, .int .u32 inn, .slice A2 ns c2, .slice A3 ns c3] 32))
  go_enter Try.func9, Try.ntmps9
  go_wp2
  go_ret
  exact ⟨rfl, hb.out⟩
def lenS (ls : List (List Int)) (n : Nat) : Int := sumTo (fun k => ((ls.getD k []).length : Int)) n
set_option maxHeartbeats 800000 in
theorem placed_any (A1 A2 A3 : Option Addr) (n1 n2 ns c1 c2 c3 : Nat) (inn : Int) (ls : List (List Int)) (w : World) (h3 : RL w A3 ns ls) (h12 : ∀ k, k < ns → (ls.getD k []).length ≤ 12) (hns : ns ≤ 12) :
    Calls Try.prog 12 #[.agg #[.slice A1 n1 c1, .int .u32 inn, .slice A2 n2 c2, .slice A3 ns c3]] w fun e w' => e = .returned (.int .i64 (lenS ls ns)) ∧ Below w.heap.size w w' := by
  have hb0 := Lib.hid ((Below.refl _ w).alloc (Nat.le_refl _) (.cells #[.slice A1 n1 c1, .int .u32 inn, .slice A2 n2 c2, .slice A3 ns c3] 32))
  have h3H := Lib.hid (h3.later hb0.out); have h12H := Lib.hid h12
  have hbd := Lib.hid (fun m (hm : m ≤ ns) => show 0 ≤ lenS ls m ∧ lenS ls m ≤ 12 * m by
    induction m with
    | zero => exact ⟨Int.le_refl _, by simp [lenS, sumTo]⟩
    | succ m ih =>
      have h1 := ih (by omega)
      have h2 := h12 m (by omega)
      have h3 : lenS ls (m + 1) = lenS ls m + ((ls.getD m []).length : Int) := rfl
      omega)
  clear h3 h12
  go_enter Try.func12, Try.ntmps12
  go_wp2
  generalize w.alloc (.cells #[.slice A1 n1 c1, .int .u32 inn, .slice A2 n2 c2, .slice A3 ns c3] 32) = w1 at *
  go_loopw [3, 5, 9, 11, 12, 13, 14, 15, 16] (fun a _ i _ _ _ _ _ _ wr => ∃ k : Nat, k ≤ ns ∧ i = .int .i64 k ∧ a = .int .i64 (lenS ls k) ∧ wr = w1) (fun _ _ i _ _ _ _ _ _ _ => ns - (intOf i).toNat)
  case atStart => exact ⟨0, Nat.zero_le _, rfl, rfl, rfl⟩
  case round =>
    obtain ⟨k, hk, rfl, rfl, rfl⟩ := hrel
    by_cases hlt : k < ns
    · obtain ⟨b, o, A', c', rfl, hbl, hc, _⟩ := h3H.out.at hlt
      have hst := Lib.hid (show lenS ls (k + 1) = lenS ls k + ((ls.getD k []).length : Int) from rfl)
      have h1 := hbd.out k hk
      have h2 := h12H.out k hlt
      generalize (ls.getD k []).length = l at *
      generalize lenS ls k = a at *
      have hk0 : (0 : Int) ≤ (k : Int) := by omega
      have hkl : (k : Int) < ns := by omega
      have hwr : IntKind.i64.wrap (a + l) = a + l := IntWalk.i64_in _ (by omega)
      go_wp2
      go_roundw
      case rel => exact ⟨k + 1, by omega, by go_num, by rw [hst.out], by trivial⟩
      case measure => simp [intOf]; omega
    · obtain rfl : k = ns := by omega
      go_wp2
      go_ret
      exact ⟨rfl, hb0.out⟩
end Go.Proofs.Yticffbcbfgboeaa
