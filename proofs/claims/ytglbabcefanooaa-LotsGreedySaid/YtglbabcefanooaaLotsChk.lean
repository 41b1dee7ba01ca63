/- The checks of package lots and its reference; lot. -/
import Derived.Test.YtglbabcefanooaaLotsLaw
import Derived.Test.YtglbabcefanooaaContainsU32
import Derived.Test.YtglbabcefanooaaRefBit
namespace Go.Proofs.Ytglbabcefanooaa
open Go.RowKit

def wideW (x : Nat) : Bool := decide (1024 ≤ x)
def lchk (ns : List Nat) : Int := if 10 < ns.length then 1 else if ns.any wideW then 4 else 0
def LOk (ns : List Nat) : Prop := ns.length ≤ 10 ∧ ∀ x ∈ ns, x < 1024
theorem lchk_ok {ns : List Nat} : lchk ns = 0 ↔ LOk ns := by
  unfold lchk LOk
  by_cases h : 10 < ns.length
  · rw [if_pos h]; constructor
    · intro h; cases h
    · intro h2; omega
  · rw [if_neg h]
    cases hb : ns.any wideW
    · simp only [Bool.false_eq_true, if_false, true_iff]
      refine ⟨by omega, fun x hx => ?_⟩
      have := List.any_eq_false.1 hb x hx
      simpa [wideW] using this
    · simp only [if_true]
      constructor
      · intro h; cases h
      · rintro ⟨_, h2⟩
        obtain ⟨x, hx, hw⟩ := List.any_eq_true.1 hb
        have := h2 x hx
        simp [wideW] at hw; omega
theorem LOk.at {ns : List Nat} (h : LOk ns) (i : Nat) : ns.getD i 0 < 1024 := by
  rcases Nat.lt_or_ge i ns.length with hi | hi
  · exact h.2 _ (by simp [List.getD, hi])
  · simp [List.getD, hi]
theorem wideW_any (x : Nat) (w : World) : Calls Try.prog 21 #[.int .u32 (x : Nat)] w fun e w' => e = .returned (.bool (wideW x)) ∧ w = w' := by
  have hd : ((x : Int) / 1024 != 0) = wideW x := by
    unfold wideW
    by_cases h : 1024 ≤ x
    · rw [decide_eq_true h]; exact bne_iff_ne.2 (by omega)
    · rw [decide_eq_false h]; simp; omega
  have hdH := Lib.hid hd
  clear hd
  go_enter Try.func21, Try.ntmps21
  go_wp2
  go_ret
  exact ⟨by rw [← hdH.out]; rfl, rfl⟩
theorem entC1 (args : Array Value) (w : World) : (callFunc 21 args).run Try.prog w = .ok (.enter 21 args) w := by go_simp
theorem contains_wide (A : Option Addr) (len cap : Nat) (ns : List Nat) (w : World) (hr : Rd w A len 1 (wds ns)) (hl : len ≤ 9223372036854775807) :
    Calls Try.prog 20 #[.slice A len cap, .func (.func 21) #[] #[]] w fun e w' => e = .returned (.bool (ns.any wideW)) ∧ Below w.heap.size w w' := by
  refine containsFuncU A len cap ns 21 #[] wideW w hr hl entC1 ?_
  intro a w' _ _
  rw [show #[Value.int IntKind.u32 (a : Nat)] ++ #[] = #[Value.int IntKind.u32 (a : Nat)] from rfl]
  exact (wideW_any a w').mono fun e w'' ⟨h1, h2⟩ => ⟨h1, h2 ▸ Below.refl _ _⟩
theorem check_any (A : Option Addr) (len cap : Nat) (ns : List Nat) (w : World) (hr : Rd w A len 1 (wds ns)) (hl : len ≤ 9223372036854775807) :
    Calls Try.prog 10 #[.slice A len cap] w fun e w' => e = .returned (.int .i64 (lchk ns)) ∧ Below w.heap.size w w' := by
  have hel : ns.length = len := by simpa [wds] using hr.1
  by_cases h8 : 10 < len
  · have hv := Lib.hid (show lchk ns = 1 by rw [lchk, if_pos (by omega)])
    clear hr
    go_enter Try.func10, Try.ntmps10
    go_wp2
    go_ret
    exact ⟨by rw [hv.out]; rfl, Below.refl _ _⟩
  · have hv : lchk ns = if ns.any wideW then 4 else 0 := by rw [lchk, if_neg (by omega)]
    have H := Lib.hid (contains_wide A len cap ns w hr hl)
    clear hr
    cases hb : ns.any wideW
    all_goals
      rw [hb] at H hv
      have hvH := Lib.hid hv; clear hv hb
      go_enter Try.func10, Try.ntmps10
      go_wp2_with fail
      refine H.out.mono ?_
      rintro e w' ⟨rfl, hbw⟩
      go_wp2
      go_ret
      exact ⟨by rw [hvH.out]; rfl, hbw⟩
set_option maxHeartbeats 400000 in
set_option maxRecDepth 100000 in
theorem lotsCheck_any (A : Option Addr) (len cap : Nat) (ns : List Nat) (w : World) (hr : Rd w A len 1 (wds ns)) (hl : len ≤ 9223372036854775807) :
    Calls Try.prog 17 #[.slice A len cap] w fun e w' => e = .returned (.int .i64 (lchk ns)) ∧ w = w' := by
  have hel : ns.length = len := by simpa [wds] using hr.1
  by_cases h8 : 10 < len
  · have hv := Lib.hid (show lchk ns = 1 by rw [lchk, if_pos (by omega)])
    clear hr
    go_enter Try.func17, Try.ntmps17
    go_wp2
    go_ret
    exact ⟨by rw [hv.out]; rfl, rfl⟩
  · have hv := Lib.hid (show lchk ns = if ns.any wideW then 4 else 0 by rw [lchk, if_neg (by omega)])
    have helH := Lib.hid hel; have hrH := Lib.hid hr
    clear hel hr
    go_enter Try.func17, Try.ntmps17
    go_wp2
    go_loop [4, 10] (fun _ i => ∃ k : Nat, k ≤ len ∧ i = .int .i64 k ∧ (∀ m, m < k → ns.getD m 0 < 1024)) (fun _ i => len - (intOf i).toNat)
    case atStart => exact ⟨0, Nat.zero_le _, rfl, fun m hm => absurd hm (by omega)⟩
    case round =>
      obtain ⟨k, hk, rfl, hall⟩ := hrel
      have hallH := Lib.hid hall
      clear hall
      by_cases hlt : k < len
      · obtain ⟨b, o, rfl, hab, hc⟩ := hrH.out.wd hlt
        have hmem := Lib.hid (show ns.getD k 0 ∈ ns by simp [List.getD, show k < ns.length by rw [helH.out]; exact hlt])
        have hnx := Lib.hid (fun (h : ns.getD k 0 < 1024) m (hm : m < k + 1) => show ns.getD m 0 < 1024 by
          by_cases he : m = k
          · subst he; exact h
          · exact hallH.out m (by omega))
        generalize ns.getD k 0 = x at *
        by_cases hx : 1024 ≤ x
        · have hz := Lib.hid (show lchk ns = 4 by rw [hv.out, if_pos (List.any_eq_true.2 ⟨x, hmem.out, by simp [wideW, hx]⟩)])
          have hxi : (1024 : Int) ≤ x := by omega
          go_wp2
          go_ret
          exact ⟨by rw [hz.out]; rfl, rfl⟩
        · have hxi : (x : Int) < 1024 := by omega
          go_wp2
          go_round
          case rel => exact ⟨k + 1, by omega, by go_num, hnx.out (by omega)⟩
          case measure => simp [intOf]; omega
      · have hz := Lib.hid (show lchk ns = 0 by
          rw [hv.out, if_neg]
          intro h
          obtain ⟨x, hx, hw⟩ := List.any_eq_true.1 h
          obtain ⟨j, hj, rfl⟩ := List.mem_iff_getElem.1 hx
          have := hallH.out j (by have := helH.out; omega)
          simp [List.getD, hj] at this
          simp [wideW] at hw; omega)
        go_wp2
        go_ret
        exact ⟨by rw [hz.out]; rfl, rfl⟩
open Classical in
set_option maxHeartbeats 400000 in
theorem lot_any (A : Option Addr) (len cap : Nat) (ns : List Nat) (x : Nat) (w : World) (hr : Rd w A len 1 (wds ns)) (hl : len ≤ 9223372036854775807) :
    Calls Try.prog 5 #[.slice A len cap, .int .u32 x] w fun e w' => e = .returned (.bool (decide (LOk ns ∧ x < 2 ^ len))) ∧ w = w' := by
  have hel : ns.length = len := by simpa [wds] using hr.1
  have hC := lotsCheck_any A len cap ns w hr hl
  by_cases hok : LOk ns
  · have hlen : len ≤ 10 := by rw [← hel]; exact hok.1
    rw [lchk_ok.2 hok] at hC
    have hCH := Lib.hid hC
    have hone := two_pow_u32 len (by omega)
    have hp : ((2 ^ len : Nat) : Int) = (2 : Int) ^ len := by simp
    by_cases hx : x < 2 ^ len
    · have hv := Lib.hid (decide_eq_true (show LOk ns ∧ x < 2 ^ len from ⟨hok, hx⟩))
      have hxi := Lib.hid (show decide ((x : Int) < (2 : Int) ^ len) = true by rw [← hp]; exact decide_eq_true (by omega))
      rw [hv.out]
      clear hr hok hC hp hx
      go_enter Try.func5, Try.ntmps5
      go_wp2_with fail
      refine hCH.out.mono ?_
      rintro e w1 ⟨rfl, rfl⟩
      go_wp2
      go_ret
      exact ⟨by rw [← hxi.out]; rfl, rfl⟩
    · have hv := Lib.hid (decide_eq_false (show ¬ (LOk ns ∧ x < 2 ^ len) from fun h => hx h.2))
      have hxi := Lib.hid (show decide ((x : Int) < (2 : Int) ^ len) = false by rw [← hp]; exact decide_eq_false (by omega))
      rw [hv.out]
      clear hr hok hC hp hx
      go_enter Try.func5, Try.ntmps5
      go_wp2_with fail
      refine hCH.out.mono ?_
      rintro e w1 ⟨rfl, rfl⟩
      go_wp2
      go_ret
      exact ⟨by rw [← hxi.out]; rfl, rfl⟩
  · have hc : (lchk ns == 0) = false := by
      cases h : (lchk ns == 0)
      · rfl
      · exact absurd (lchk_ok.1 (by simpa using h)) hok
    have hv := Lib.hid (decide_eq_false (show ¬ (LOk ns ∧ x < 2 ^ len) from fun h => hok h.1))
    have hCH := Lib.hid hC
    rw [hv.out]
    clear hr hok hC
    generalize lchk ns = c at *
    go_enter Try.func5, Try.ntmps5
    go_wp2_with fail
    refine hCH.out.mono ?_
    rintro e w1 ⟨rfl, rfl⟩
    go_wp2
    go_ret
    exact ⟨rfl, rfl⟩
end Go.Proofs.Ytglbabcefanooaa
