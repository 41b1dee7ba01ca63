/- crowd.covers, Cover. -/
import Derived.Test.YtiopngegkpbfhaaMost
import Derived.Test.YtiopngegkpbfhaaCrowdLaw
namespace Go.Proofs.Ytiopngegkpbfhaa
open Go.RowKit

/-- does one that is not in w have one that is not, either? -/
def badC (L : List Nat) (x i : Nat) : Bool := !x.testBit i && (andN (L.getD i 0) x != 0)
def coversB (L : List Nat) (N x : Nat) : Bool := !(List.range N).any (badC L x)
theorem bit_u32z (v k : Nat) (hv : v < 1024) : (bits .and .u32 ((v : Int) / 2 ^ k) 1 == 0) = !v.testBit k := by
  have h1 : ((v : Int) / 2 ^ k) = ((v / 2 ^ k : Nat) : Int) := by simp
  have h2 : v / 2 ^ k ≤ v := Nat.div_le_self ..
  have h := u32_and_nat (v / 2 ^ k) 1 (by omega) (by omega)
  rw [h1, show (1 : Int) = ((1 : Nat) : Int) from rfl, h, Nat.and_one_is_mod, Nat.testBit_eq_decide_div_mod_eq]
  rcases Nat.mod_two_eq_zero_or_one (v / 2 ^ k) with h | h <;> simp [h]
theorem natne0 (a : Nat) : (((a : Nat) : Int) != 0) = (a != 0) := by
  cases a with
  | zero => rfl
  | succ n => rfl
theorem anyr_succ {p : Nat → Bool} {k : Nat} (h : (List.range k).any p = false) (h' : p k = false) : (List.range (k + 1)).any p = false := by
  rw [List.range_succ, List.any_append, h, List.any_cons, h']; rfl
set_option maxHeartbeats 800000 in
theorem covers_any (A : Option Addr) (N cap : Nat) (L : List Nat) (x : Nat) (w : World) (hN : N ≤ 10) (hL : ∀ y ∈ L, y < 1024) (hx : x < 1024) (hr : Rd w A N 1 (wds L)) :
    Calls Try.prog 23 #[.slice A N cap, .int .u32 (x : Int)] w fun e w' => e = .returned (.bool (coversB L N x)) ∧ w = w' := by
  have hrH := Lib.hid hr
  clear hr
  go_enter Try.func23, Try.ntmps23
  go_wp2
  go_loop [5, 6, 9] (fun _ _ i => ∃ k : Nat, k ≤ N ∧ i = .int .i64 k ∧ (List.range k).any (badC L x) = false) (fun _ _ i => N - (intOf i).toNat)
  case atStart => exact ⟨0, Nat.zero_le _, rfl, rfl⟩
  case round =>
    obtain ⟨k, hk, rfl, hp⟩ := hrel
    have hpH := Lib.hid hp; clear hp
    by_cases hlt : k < N
    · obtain ⟨b, o, rfl, hab, hc⟩ := hrH.out.wd hlt
      have hy := getD_lt1024' hL k
      generalize hyd : L.getD k 0 = y at *
      have hki : (k : Int) < 10 := by omega
      have hb1 := bit_u32z x k hx
      have hb2 : (bits .andNot .u32 (y : Int) (x : Int) != 0) = (andN y x != 0) := by rw [u32_andNot_nat y x (by omega) (by omega)]; exact natne0 _
      have hbd := Lib.hid (show badC L x k = (!x.testBit k && (andN y x != 0)) from hyd ▸ rfl)
      have hsucc := Lib.hid (fun h => anyr_succ (p := badC L x) hpH.out h)
      have hstop := Lib.hid (fun h : badC L x k = true => show coversB L N x = false by unfold coversB; rw [List.any_eq_true.2 ⟨k, by simpa using hlt, h⟩]; rfl)
      clear hyd
      cases h1 : x.testBit k
      · rw [h1] at hb1
        cases h2 : (andN y x != 0)
        · rw [h2] at hb2
          have hz := Lib.hid (hsucc.out (by rw [hbd.out, h1, h2]; rfl))
          clear h1 h2
          go_wp2
          go_round
          case rel => exact ⟨k + 1, by omega, by go_num, hz.out⟩
          case measure => simp [intOf]; omega
        · rw [h2] at hb2
          have hz := Lib.hid (hstop.out (by rw [hbd.out, h1, h2]; rfl))
          clear h1 h2
          go_wp2
          go_ret
          exact ⟨by rw [hz.out]; rfl, rfl⟩
      · rw [h1] at hb1
        have hz := Lib.hid (hsucc.out (by rw [hbd.out, h1]; rfl))
        clear h1 hb2
        go_wp2
        go_round
        case rel => exact ⟨k + 1, by omega, by go_num, hz.out⟩
        case measure => simp [intOf]; omega
    · obtain rfl : N = k := by omega
      have hz := Lib.hid (show coversB L N x = true by unfold coversB; rw [hpH.out]; rfl)
      go_wp2
      go_ret
      exact ⟨by rw [hz.out]; rfl, rfl⟩
/-- a smallest set that covers -/
def MinCov (L : List Nat) (N b : Nat) : Prop := coversB L N b = true ∧ b < 2 ^ N ∧ ∀ s, s < 2 ^ N → coversB L N s = true → popc 10 b ≤ popc 10 s
def CovTo (L : List Nat) (N k b : Nat) : Prop := coversB L N b = true ∧ b < 2 ^ N ∧ (∀ s, s < k → coversB L N s = true → popc 10 b ≤ popc 10 s) ∧ popc 10 b ≤ popc 10 (2 ^ N - 1)
theorem CovTo.stay {L : List Nat} {N k b : Nat} (h : CovTo L N k b) (h' : ¬ (popc 10 k < popc 10 b ∧ coversB L N k = true)) : CovTo L N (k + 1) b :=
  ⟨h.1, h.2.1, fun s hs hc => by
    rcases Nat.lt_or_ge s k with h1 | h1
    · exact h.2.2.1 s h1 hc
    · obtain rfl : s = k := by omega
      refine Classical.byContradiction fun hh => h' ⟨by omega, hc⟩, h.2.2.2⟩
theorem CovTo.take {L : List Nat} {N k b : Nat} (h : CovTo L N k b) (hk : k < 2 ^ N) (h1 : popc 10 k < popc 10 b) (h2 : coversB L N k = true) : CovTo L N (k + 1) k :=
  ⟨h2, hk, fun s hs hc => by
    rcases Nat.lt_or_ge s k with h3 | h3
    · have := h.2.2.1 s h3 hc; omega
    · obtain rfl : s = k := by omega
      exact Nat.le_refl _, by have := h.2.2.2; omega⟩
theorem CovTo.full {L : List Nat} {N b : Nat} (h : CovTo L N (2 ^ N) b) : MinCov L N b := ⟨h.1, h.2.1, h.2.2.1⟩
theorem covers_all (L : List Nat) (N : Nat) : coversB L N (2 ^ N - 1) = true := by
  unfold coversB
  rw [List.any_eq_false.2 fun i hi => ?_]
  · rfl
  · unfold badC
    rw [Nat.testBit_two_pow_sub_one]
    simp [List.mem_range.1 hi]
theorem CovTo.start (L : List Nat) (N : Nat) : CovTo L N 0 (2 ^ N - 1) := ⟨covers_all L N, by have := Nat.two_pow_pos N; omega, fun s hs => by omega, Nat.le_refl _⟩
end Go.Proofs.Ytiopngegkpbfhaa
