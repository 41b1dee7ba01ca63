/- PlaceCheck, crewed, Size, Lack, paired. -/
import Derived.Test.YtgbkpjiefaejiaaDoorPlaceE
import Derived.Test.YtgbkpjiefaejiaaDoorPopc
namespace Go.Proofs.YtgbkpjiefaejiaaDoor
open Go.RowKit Go.Shelf

def PlG (ws : List (Int × Int)) (ts : List Nat) (l : List Int) : Prop := l.length = ts.length ∧ Pl (PDm ws ts (rms ws)) (fun m => l.getD m 0)

set_option maxHeartbeats 3200000 in
theorem prefcheck_any (A B : Option Addr) (nw nt cA cB : Nat) (ws : List (Int × Int)) (w : World) (hw : Rd w A nw 2 (ps2 .i64 .u32 ws)) (hnw : nw ≤ 9223372036854775807) (hnt : nt ≤ 9223372036854775807) :
    Calls Tryd.prog 15 #[.slice A nw cA, .slice B nt cB] w fun e w' => e = .returned (.int .i64 (pchk ws nt)) ∧ Below w.heap.size w w' := by
  have hwl : ws.length = nw := by have := hw.1; rw [ps2_length] at this; omega
  have hwlH := Lib.hid hwl
  by_cases h1 : 6 < nw
  · have e1 := Lib.hid (show pchk ws nt = 1 from if_pos (.inl (by rw [hwl]; exact h1)))
    clear hwl
    go_enter Tryd.func15, Tryd.ntmps15
    go_wp2
    go_ret
    exact ⟨by rw [e1.out]; rfl, Below.refl _ _⟩
  by_cases h2 : 12 < nt
  · have e1 := Lib.hid (show pchk ws nt = 1 from if_pos (.inr h2))
    clear hwl
    go_enter Tryd.func15, Tryd.ntmps15
    go_wp2
    go_ret
    exact ⟨by rw [e1.out]; rfl, Below.refl _ _⟩
  have e1 := Lib.hid (show pchk ws nt = if ws.any oddW = true then 4 else 0 from if_neg (by rw [hwl]; omega))
  have hwH := Lib.hid hw
  clear hw hwl
  go_enter Tryd.func15, Tryd.ntmps15
  go_wp2
  go_loopw [6, 17] (fun _ i wr => ∃ k : Nat, k ≤ nw ∧ i = .int .i64 k ∧ (ws.take k).any oddW = false ∧ Below w.heap.size w wr) (fun _ i _ => nw - (intOf i).toNat)
  case atStart => exact ⟨0, Nat.zero_le _, rfl, rfl, Below.refl _ _⟩
  case round =>
    obtain ⟨k, hk, rfl, hn, hb⟩ := hrel
    by_cases hlt : k < nw
    · obtain ⟨ba, oa, rfl, hba, a0, a1⟩ := (hwH.out.later hb).pair hlt
      have hat := Lib.hid (wany_at (p := oddW) (l := ws) (k := k) (by rw [hwlH.out]; exact hlt))
      have hnx := Lib.hid (wany_take (p := oddW) (l := ws) (k := k) (by rw [hwlH.out]; exact hlt) hn)
      unfold wat at hat hnx
      generalize ws.getD k (0, 0) = c at *
      obtain ⟨cr, ch⟩ := c
      dsimp only at a0 a1
      have hq := Blk.new wr 37 #[.int .i64 cr, .int .u32 ch]
      have q0 := hq.cell (j := 0) rfl
      have lq := hq.lt
      have hbH := Lib.hid (hb.alloc hb.size (.cells #[.int .i64 cr, .int .u32 ch] 37))
      clear hq hb hn
      by_cases ho : 0 ≤ cr ∧ cr ≤ 12
      · have hy := Lib.hid (hnx.out (by simp [oddW]; omega))
        obtain ⟨o1, o2⟩ := ho
        have d1 : decide (cr < 0) = false := decide_eq_false (by omega)
        have d2 : decide (12 < cr) = false := decide_eq_false (by omega)
        go_wp2
        go_roundw
        case rel => exact ⟨k + 1, by omega, by go_num, hy.out, hbH.out⟩
        case measure => simp [intOf]; omega
      · have hy := Lib.hid (show pchk ws nt = 4 by rw [e1.out, if_pos (hat.out (by simp [oddW]; omega))])
        rcases Int.lt_or_le cr 0 with h | h
        · clear ho
          have d1 : decide (cr < 0) = true := decide_eq_true h
          go_wp2
          go_ret
          exact ⟨by rw [hy.out]; rfl, hbH.out⟩
        · have h3 : 12 < cr := by omega
          clear ho
          have d1 : decide (cr < 0) = false := decide_eq_false (by omega)
          have d2 : decide (12 < cr) = true := decide_eq_true h3
          go_wp2
          go_ret
          exact ⟨by rw [hy.out]; rfl, hbH.out⟩
    · have hy := Lib.hid (show pchk ws nt = 0 by
        rw [List.take_of_length_le (by rw [hwlH.out]; omega)] at hn
        rw [e1.out, hn]; rfl)
      have hbH := Lib.hid hb
      clear hb hn
      go_wp2
      go_ret
      exact ⟨by rw [hy.out]; rfl, hbH.out⟩
theorem crewed_any (A B : Option Addr) (nw nt cA cB : Nat) (ws : List (Int × Int)) (w : World) (hw : Rd w A nw 2 (ps2 .i64 .u32 ws)) (hnw : nw ≤ 9223372036854775807) (hnt : nt ≤ 9223372036854775807) :
    Calls Tryd.prog 6 #[.slice A nw cA, .slice B nt cB] w fun e w' => e = .returned (.bool (pchk ws nt == 0)) ∧ Below w.heap.size w w' := by
  have H := Lib.hid (prefcheck_any A B nw nt cA cB ws w hw hnw hnt)
  clear hw
  generalize pchk ws nt = c at *
  go_enter Tryd.func6, Tryd.ntmps6
  go_wp2_with fail
  refine H.out.mono ?_
  rintro e w' ⟨rfl, hb⟩
  go_wp2
  go_ret
  exact ⟨by simp, hb⟩
theorem bitP_any (x i : Nat) (w : World) (hx : x < 4294967296) (hi : i < 32) :
    Calls Tryd.prog 19 #[.int .u32 (x : Int), .int .i64 (i : Int)] w fun e w' => e = .returned (.bool (x.testBit i)) ∧ w = w' := by
  have hbc := bit_core x i hx hi
  have h0 : (0 : Int) ≤ i := by omega
  have h1 : (i : Int) < 32 := by omega
  go_enter Tryd.func19, Tryd.ntmps19
  go_wp2
  go_ret
  exact ⟨rfl, rfl⟩
theorem popc_nx (k x : Nat) : popc (k + 1) x = popc k x + if x.testBit k then 1 else 0 := by
  unfold popc
  rw [List.range_succ, List.filter_append, List.length_append]
  cases h : x.testBit k <;> simp [h]
set_option maxHeartbeats 400000 in
theorem sizeP_any (x : Nat) (w : World) (hx : x < 4294967296) :
    Calls Tryd.prog 18 #[.int .u32 (x : Int)] w fun e w' => e = .returned (.int .i64 (popc 32 x : Nat)) ∧ w = w' := by
  have HB := fun i (hi : i < 32) => Lib.hid (bitP_any x i w hx hi)
  go_enter Tryd.func18, Tryd.ntmps18
  go_wp2
  go_loop [3, 4] (fun n i => ∃ k : Nat, k ≤ 32 ∧ i = .int .i64 k ∧ n = .int .i64 (popc k x : Nat)) (fun _ i => 32 - (intOf i).toNat)
  case atStart => exact ⟨0, Nat.zero_le _, rfl, rfl⟩
  case round =>
    obtain ⟨k, hk, rfl, rfl⟩ := hrel
    by_cases hlt : k < 32
    · have hn := Lib.hid (popc_nx k x)
      have hle := popc_le k x
      have hb := HB k hlt
      generalize popc k x = p at *
      have hlt' : (k : Int) < 32 := by omega
      go_wp2_with fail
      refine hb.out.mono ?_
      rintro e w' ⟨rfl, rfl⟩
      cases hq : x.testBit k
      · have hn' := Lib.hid (show popc (k + 1) x = p by rw [hn.out, hq]; rfl)
        clear hq
        go_wp2
        go_round
        case rel => exact ⟨k + 1, by omega, by go_num, by rw [hn'.out]⟩
        case measure => simp [intOf]; omega
      · have hn' := Lib.hid (show popc (k + 1) x = p + 1 by rw [hn.out, hq]; rfl)
        clear hq
        go_wp2
        go_round
        case rel => exact ⟨k + 1, by omega, by go_num, by rw [hn'.out]; go_num⟩
        case measure => simp [intOf]; omega
    · obtain rfl : k = 32 := by omega
      go_wp2
      go_ret
      exact ⟨rfl, rfl⟩
def prd (ls : List Int) : Nat → Nat
  | 0 => 0
  | k + 1 => if 0 ≤ ls.getD k 0 then prd ls k + 1 else prd ls k
theorem prd_le (ls : List Int) : ∀ k, prd ls k ≤ k
  | 0 => Nat.le_refl _
  | k + 1 => by have := prd_le ls k; rw [prd]; split <;> omega
theorem prd_cnt (ls : List Int) : ∀ k, (prd ls k : Int) = cntL ls k
  | 0 => rfl
  | k + 1 => by
    have h := prd_cnt ls k
    have e : cntL ls (k + 1) = cntL ls k + if 0 ≤ ls.getD k 0 then 1 else 0 := rfl
    rw [e, prd]
    split <;> omega
theorem paired_any (B : Option Addr) (lm cm : Nat) (ls : List Int) (w : World) (hrl : Rd w B lm 1 (ints .i64 ls)) (hlm : lm ≤ 9223372036854775807) :
    Calls Tryd.prog 8 #[.slice B lm cm] w fun e w' => e = .returned (.int .i64 (prd ls lm : Nat)) ∧ w = w' := by
  have hrlH := Lib.hid hrl
  clear hrl
  go_enter Tryd.func8, Tryd.ntmps8
  go_wp2
  go_loop [3, 5, 8] (fun s _ i => ∃ k : Nat, k ≤ lm ∧ i = .int .i64 k ∧ s = .int .i64 (prd ls k : Nat)) (fun _ _ i => lm - (intOf i).toNat)
  case atStart => exact ⟨0, Nat.zero_le _, rfl, rfl⟩
  case round =>
    obtain ⟨k, hk, rfl, rfl⟩ := hrel
    by_cases hlt : k < lm
    · obtain ⟨b2, o2, rfl, hab2, hc2⟩ := hrlH.out.int hlt
      have hst := Lib.hid (show prd ls (k + 1) = if 0 ≤ ls.getD k 0 then prd ls k + 1 else prd ls k from rfl)
      have hle := prd_le ls k
      generalize ls.getD k 0 = v at *
      generalize prd ls k = q at *
      have hw : IntKind.i64.wrap ((q : Int) + 1) = (q : Int) + 1 := IntWalk.i64_in _ (by omega)
      by_cases hv : 0 ≤ v
      · have hst2 := Lib.hid (show prd ls (k + 1) = q + 1 by rw [hst.out, if_pos hv])
        go_wp2
        go_round
        case rel => exact ⟨k + 1, by omega, by go_num, by rw [hst2.out]; go_num⟩
        case measure => simp [intOf]; omega
      · have hst2 := Lib.hid (show prd ls (k + 1) = q by rw [hst.out, if_neg hv])
        have hv2 : v < 0 := by omega
        clear hv
        go_wp2
        go_round
        case rel => exact ⟨k + 1, by omega, by go_num, by rw [hst2.out]⟩
        case measure => simp [intOf]; omega
    · obtain rfl : k = lm := by omega
      go_wp2
      go_ret
      exact ⟨rfl, rfl⟩
end Go.Proofs.YtgbkpjiefaejiaaDoor
