/- teamsterref.Tree, for a graph with nothing wrong. -/
import Derived.Test.YtdmbbddkbfknlaaDoorPruferD
import Derived.Test.YtdmbbddkbfknlaaDoorRefDist
namespace Go.Proofs.YtdmbbddkbfknlaaDoor
open Go.RowKit
attribute [local go_sem] Oper.semAt_some

theorem tree_few (n : Nat) (A : Option Addr) (len cap : Nat) (w : World) (hn : n ≤ 10) (h : ¬ (2 ≤ n ∧ len + 1 = n)) :
    Calls Tryd.prog 8 #[.agg #[.int .i64 (n : Int), .slice A len cap]] w fun e w' => e = .returned (.bool false) ∧ Below w.heap.size w w' := by
  have gbH := Lib.hid ((Below.refl _ w).alloc (Nat.le_refl _) (.cells #[.int .i64 (n : Int), .slice A len cap] 25))
  have bG := Blk.new w 25 #[.int .i64 (n : Int), .slice A len cap]
  have g0 := bG.cell (j := 0) (v := .int .i64 (n : Int)) rfl; have g1 := bG.cell (j := 1) (v := .slice A len cap) rfl
  clear bG
  by_cases h2 : n < 2
  · have hd : decide ((n : Int) < 2) = true := decide_eq_true (by omega)
    go_enter Tryd.func8, Tryd.ntmps8
    go_wp2
    go_ret
    exact ⟨rfl, gbH.out⟩
  · have hd : decide ((n : Int) < 2) = false := decide_eq_false (by omega)
    have hl2 : ((len : Int) != (n : Int) - 1) = true := bne_iff_ne.2 (by omega)
    go_enter Tryd.func8, Tryd.ntmps8
    go_wp2
    go_ret
    exact ⟨rfl, gbH.out⟩
set_option maxHeartbeats 1600000 in
theorem tree_any (n : Nat) (A : Option Addr) (len cap : Nat) (es : List E) (w : World) (hr : Rd w A len 3 (ps3 .i64 .i64 .i64 es)) (h : gchk n es = 0) (t : Bool) (ht : t = true ↔ Tcond n es) :
    Calls Tryd.prog 8 #[.agg #[.int .i64 (n : Int), .slice A len cap]] w fun e w' => e = .returned (.bool t) ∧ Below w.heap.size w w' := by
  obtain ⟨_, h10, hl45, hokE, _⟩ := gchk_ok h
  rw [Int.toNat_natCast] at hokE
  have h10 : n ≤ 10 := by omega
  have hel := ps3_len hr
  rw [hel] at hl45
  by_cases h2 : 2 ≤ n ∧ len + 1 = n
  · have hall := Lib.hid (fun v => dist_all h v)
    have htH := Lib.hid (show t = true ↔ ∀ v, v < n → 0 ≤ dW es n 0 v from ht.trans ⟨fun hc v hv => (dist_all h v).2 (hc.2.2 v hv), fun hc => ⟨h2.1, by rw [hel]; exact h2.2, fun v hv => (dist_all h v).1 (hc v hv)⟩⟩)
    have gb := (Below.refl _ w).alloc (Nat.le_refl _) (.cells #[.int .i64 (n : Int), .slice A len cap] 25)
    have bG := Blk.new w 25 #[.int .i64 (n : Int), .slice A len cap]
    have HD := Lib.hid (refDist_any n A len cap es _ (hr.later gb) h10 hl45 hokE)
    have hsz : (w.alloc (.cells #[.int .i64 (n : Int), .slice A len cap] 25)).heap.size = w.heap.size + 1 := by simp
    have g0 := bG.cell (j := 0) (v := .int .i64 (n : Int)) rfl; have g1 := bG.cell (j := 1) (v := .slice A len cap) rfl
    have gbH := Lib.hid gb
    have hd : decide ((n : Int) < 2) = false := decide_eq_false (by omega)
    have hl2 : ((len : Int) != (n : Int) - 1) = false := by simp; omega
    clear hr hokE gb bG h ht hel hall
    have h2n := h2.1
    clear h2
    go_enter Tryd.func8, Tryd.ntmps8
    go_wp2_with fail
    refine HD.out.mono ?_
    rintro _ w1 ⟨v, r, c, rfl, hsq, hb⟩
    clear HD g0 g1
    have hb1 := Lib.hid (gbH.out.trans (hb.mono gbH.out.size))
    obtain ⟨g, cv, rfl, _, hgl, c1⟩ := hsq.out (show 0 < n by omega)
    have hsqH := Lib.hid hsq
    have hn0 : (0 : Int) < n := by omega
    clear hsq hb
    go_wp2
    go_loop [22] (fun iv => ∃ i : Nat, i ≤ n ∧ iv = .int .i64 i ∧ ∀ a, a < i → 0 ≤ dW es n 0 a) (fun iv => n - (intOf iv).toNat)
    case atStart => exact ⟨0, by omega, rfl, fun a ha => absurd ha (by omega)⟩
    case round =>
      obtain ⟨i, hi, rfl, hno⟩ := hrel
      have hnoH := Lib.hid hno
      clear hno
      by_cases hin : i < n
      · have cc := hsqH.out.cell (show 0 < n by omega) hin
        have hin' : (i : Int) < n := by omega
        have hi0 : (0 : Int) ≤ i := by omega
        obtain ⟨x, hx⟩ : ∃ x, dW es n 0 i = x := ⟨_, rfl⟩
        have hxH := Lib.hid hx
        rw [hx] at cc
        clear hx
        by_cases hneg : x < 0
        · have hd1 : decide (x < 0) = true := decide_eq_true hneg
          have htf := Lib.hid (show t = false from by
            cases t
            · rfl
            · have := htH.out.1 rfl i hin
              rw [hxH.out] at this
              omega)
          go_wp2
          go_ret
          exact ⟨by rw [htf.out]; rfl, hb1.out⟩
        · have hd1 : decide (x < 0) = false := decide_eq_false hneg
          have hnn := Lib.hid (show ∀ a, a < i + 1 → 0 ≤ dW es n 0 a from fun a ha => by
            by_cases e : a = i
            · subst e; rw [hxH.out]; omega
            · exact hnoH.out a (by omega))
          go_wp2
          go_round
          case rel => exact ⟨i + 1, by omega, by go_num, hnn.out⟩
          case measure => simp [intOf]; omega
      · obtain rfl : i = n := by omega
        have htf := Lib.hid (htH.out.2 hnoH.out)
        go_wp2
        go_ret
        exact ⟨by rw [htf.out]; rfl, hb1.out⟩
  · have htf : t = false := by
      cases t
      · rfl
      · have := ht.1 rfl
        exact absurd ⟨this.1, by have := this.2.1; rw [hel] at this; exact this⟩ h2
    subst htf
    exact tree_few n A len cap w h10 h2
end Go.Proofs.YtdmbbddkbfknlaaDoor
