/- lots.Best: the most worth first; teamsterref.Worth. -/
import Derived.Test.YtglbabcefanooaaGreedyLots
import Derived.Test.YtglbabcefanooaaSort
import Derived.Test.YtglbabcefanooaaCmp
import Derived.Test.YtglbabcefanooaaAdd
import Derived.Test.YtglbabcefanooaaContainsInt64
namespace Go.Proofs.Ytglbabcefanooaa
open Go.RowKit Go.Maps

def wideX (x : Int) : Bool := decide (x < -1048576) || decide (1048576 < x)
theorem wideX_any (x : Int) (w : World) : Calls Try.prog 12 #[.int .i64 x] w fun e w' => e = .returned (.bool (wideX x)) ∧ w = w' := by
  by_cases h : x < -1048576
  · go_enter Try.func12, Try.ntmps12
    go_wp2
    go_ret
    exact ⟨by simp [wideX, h], rfl⟩
  · go_enter Try.func12, Try.ntmps12
    go_wp2
    go_ret
    exact ⟨by simp [wideX]; omega, rfl⟩
theorem entB1 (args : Array Value) (w : World) : (callFunc 12 args).run Try.prog w = .ok (.enter 12 args) w := by go_simp
theorem entB2 (args : Array Value) (w : World) : (callFunc 14 args).run Try.prog w = .ok (.enter 14 args) w := by go_simp
theorem contains_wideX (A : Option Addr) (len cap : Nat) (ts : List Int) (w : World) (hr : Rd w A len 1 (ints .i64 ts)) (hl : len ≤ 9223372036854775807) :
    Calls Try.prog 11 #[.slice A len cap, .func (.func 12) #[] #[]] w fun e w' => e = .returned (.bool (ts.any wideX)) ∧ Below w.heap.size w w' := by
  refine containsFuncL A len cap ts 12 #[] wideX w hr hl entB1 ?_
  intro a w' _ _
  rw [show #[Value.int IntKind.i64 a] ++ #[] = #[Value.int IntKind.i64 a] from rfl]
  exact (wideX_any a w').mono fun e w'' ⟨h1, h2⟩ => ⟨h1, h2 ▸ Below.refl _ _⟩
theorem cmpB_any (bx : Nat) (A : Option Addr) (len cap : Nat) (zs : List Int) (i j : Nat) (w : World) (hb : w.cell? ⟨bx, 0, none⟩ = some (.slice A len cap)) (hr : Rd w A len 1 (ints .i64 zs)) (hi : i < len) (hj : j < len) :
    Calls Try.prog 14 #[.int .i64 (i : Int), .int .i64 (j : Int), .pointer (some ⟨bx, 0, none⟩)] w fun e w' => e = .returned (.int .i64 (cmpI (zs.getD j 0) (zs.getD i 0))) ∧ ∃ m, w' = w.drewN m := by
  obtain ⟨b, o, rfl, hab, hci⟩ := hr.int hi
  obtain ⟨_, _, hA, _, hcj⟩ := hr.int hj
  cases hA
  clear hr
  have HC := Lib.hid (fun W => cmp64_any (zs.getD j 0) (zs.getD i 0) W)
  generalize cmpI (zs.getD j 0) (zs.getD i 0) = c at *
  generalize zs.getD j 0 = x at *
  generalize zs.getD i 0 = y at *
  go_enter Try.func14, Try.ntmps14
  go_wp2
  go_quiet ((go_at_call 15; first | (with_reducible exact quiet_add_left (HC.out _)) | (with_reducible exact quiet_left (HC.out _))))
  go_wp2
  go_ret
  exact ⟨rfl, _, rfl⟩
set_option maxHeartbeats 400000 in
theorem worth_any (A : Option Addr) (len cap : Nat) (zs : List Int) (x : Nat) (w : World) (hr : Rd w A len 1 (ints .i64 zs)) (hlen : len ≤ 10) (hz : ∀ i, -1048576 ≤ zs.getD i 0 ∧ zs.getD i 0 ≤ 1048576) (hx : x < 1024) :
    Calls Try.prog 9 #[.slice A len cap, .int .u32 (x : Nat)] w fun e w' => e = .returned (.int .i64 (wortW (fun i => zs.getD i 0) x len)) ∧ w = w' := by
  have hrH := Lib.hid hr; have hzH := Lib.hid hz
  have hB := Lib.hid fun i (hi : i < 32) => bit_any x i w (by omega) hi
  clear hr hz
  go_enter Try.func9, Try.ntmps9
  go_wp2
  go_loop [5, 6, 7, 10] (fun s _ _ i => ∃ k : Nat, k ≤ len ∧ i = .int .i64 k ∧ s = .int .i64 (wortW (fun i => zs.getD i 0) x k) ∧ -1048576 * (k : Int) ≤ wortW (fun i => zs.getD i 0) x k ∧ wortW (fun i => zs.getD i 0) x k ≤ 1048576 * (k : Int)) (fun _ _ _ i => len - (intOf i).toNat)
  case atStart => exact ⟨0, Nat.zero_le _, rfl, rfl, by simp [wortW], by simp [wortW]⟩
  case round =>
    obtain ⟨k, hk, rfl, rfl, hlo, hhi⟩ := hrel
    by_cases hlt : k < len
    · obtain ⟨b, o, rfl, hab, hc⟩ := hrH.out.int hlt
      have hb := Lib.hid (hB.out k (by omega))
      have hn := Lib.hid (show wortW (fun i => zs.getD i 0) x (k + 1) = if x.testBit k then wortW (fun i => zs.getD i 0) x k + zs.getD k 0 else wortW (fun i => zs.getD i 0) x k from rfl)
      have h2 := hzH.out k
      generalize zs.getD k 0 = z at *
      generalize wortW (fun i => zs.getD i 0) x k = s at *
      have hws : IntKind.i64.wrap (s + z) = s + z := IntWalk.i64_in _ (by omega)
      have hlt' : (k : Int) < len := by omega
      go_wp2_with fail
      refine hb.out.mono ?_
      rintro e w' ⟨rfl, rfl⟩
      cases hq : x.testBit k
      · rw [hq] at hn
        clear hq
        go_wp2
        go_round
        case rel => exact ⟨k + 1, by omega, by go_num, by rw [hn.out]; rfl, by rw [hn.out]; simp; omega, by rw [hn.out]; simp; omega⟩
        case measure => simp [intOf]; omega
      · rw [hq] at hn
        clear hq
        go_wp2
        go_round
        case rel => exact ⟨k + 1, by omega, by go_num, by rw [hn.out]; rfl, by rw [hn.out]; simp; omega, by rw [hn.out]; simp; omega⟩
        case measure => simp [intOf]; omega
    · obtain rfl : k = len := by omega
      go_wp2
      go_ret
      exact ⟨rfl, rfl⟩
end Go.Proofs.Ytglbabcefanooaa
