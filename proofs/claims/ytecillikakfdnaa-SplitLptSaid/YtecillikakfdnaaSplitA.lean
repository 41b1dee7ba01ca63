/- The checks of package split and its reference; how much a hand has; when all is done. -/
import Derived.Test.YtecillikakfdnaaContainsInt64
import Derived.Test.YtecillikakfdnaaInside
namespace Go.Proofs.Ytecillikakfdnaa
open Go.RowKit

def badT (x : Int) : Bool := decide (x < 0) || decide (1048576 < x)
def schk (ts : List Int) (hands : Int) : Int := if 8 < ts.length then 1 else if hands < 1 ∨ 4 < hands then 4 else if ts.any badT then 4 else 0
theorem badT_any (x : Int) (w : World) : Calls Try.prog 22 #[.int .i64 x] w fun e w' => e = .returned (.bool (badT x)) ∧ w = w' := by
  by_cases h : x < 0
  · go_enter Try.func22, Try.ntmps22
    go_wp2
    go_ret
    exact ⟨by simp [badT, h], rfl⟩
  · go_enter Try.func22, Try.ntmps22
    go_wp2
    go_ret
    exact ⟨by simp [badT]; omega, rfl⟩
theorem entW1 (args : Array Value) (w : World) : (callFunc 22 args).run Try.prog w = .ok (.enter 22 args) w := by go_simp

theorem contains_bad (A : Option Addr) (len cap : Nat) (ts : List Int) (w : World) (hr : Rd w A len 1 (ints .i64 ts)) (hl : len ≤ 9223372036854775807) :
    Calls Try.prog 21 #[.slice A len cap, .func (.func 22) #[] #[]] w fun e w' => e = .returned (.bool (ts.any badT)) ∧ Below w.heap.size w w' := by
  refine containsFuncL A len cap ts 22 #[] badT w hr hl entW1 ?_
  intro a w' _ _
  rw [show #[Value.int IntKind.i64 a] ++ #[] = #[Value.int IntKind.i64 a] from rfl]
  exact (badT_any a w').mono fun e w'' ⟨h1, h2⟩ => ⟨h1, h2 ▸ Below.refl _ _⟩
theorem wrong_any (A : Option Addr) (len cap : Nat) (ts : List Int) (hands : Int) (w : World) (hr : Rd w A len 1 (ints .i64 ts)) (hl : len ≤ 9223372036854775807) :
    Calls Try.prog 11 #[.slice A len cap, .int .i64 hands] w fun e w' => e = .returned (.int .i64 (schk ts hands)) ∧ Below w.heap.size w w' := by
  have hel : ts.length = len := by simpa [ints] using hr.1
  by_cases h8 : 8 < len
  · have hv := Lib.hid (show schk ts hands = 1 by rw [schk, if_pos (by omega)])
    clear hr
    go_enter Try.func11, Try.ntmps11
    go_wp2
    go_ret
    exact ⟨by rw [hv.out]; rfl, Below.refl _ _⟩
  · by_cases hh : hands < 1 ∨ 4 < hands
    · have hv := Lib.hid (show schk ts hands = 4 by rw [schk, if_neg (by omega), if_pos hh])
      clear hr
      rcases hh with h | h
      · go_enter Try.func11, Try.ntmps11
        go_wp2
        go_ret
        exact ⟨by rw [hv.out]; rfl, Below.refl _ _⟩
      · have h' : ¬ hands < 1 := by omega
        go_enter Try.func11, Try.ntmps11
        go_wp2
        go_ret
        exact ⟨by rw [hv.out]; rfl, Below.refl _ _⟩
    · have hv : schk ts hands = if ts.any badT then 4 else 0 := by rw [schk, if_neg (by omega), if_neg hh]
      have H := Lib.hid (contains_bad A len cap ts w hr hl)
      have h1 : 1 ≤ hands := by omega
      have h4 : hands ≤ 4 := by omega
      clear hr hh
      cases hb : ts.any badT
      · rw [hb] at H hv
        have hvH := Lib.hid hv; clear hv hb
        go_enter Try.func11, Try.ntmps11
        go_wp2_with fail
        refine H.out.mono ?_
        rintro e w' ⟨rfl, hbw⟩
        go_wp2
        go_ret
        exact ⟨by rw [hvH.out]; rfl, hbw⟩
      · rw [hb] at H hv
        have hvH := Lib.hid hv; clear hv hb
        go_enter Try.func11, Try.ntmps11
        go_wp2_with fail
        refine H.out.mono ?_
        rintro e w' ⟨rfl, hbw⟩
        go_wp2
        go_ret
        exact ⟨by rw [hvH.out]; rfl, hbw⟩
set_option maxHeartbeats 400000 in
theorem splitCheck_any (A : Option Addr) (len cap : Nat) (ts : List Int) (hands : Int) (w : World) (hr : Rd w A len 1 (ints .i64 ts)) (hl : len ≤ 9223372036854775807) :
    Calls Try.prog 13 #[.slice A len cap, .int .i64 hands] w fun e w' => e = .returned (.int .i64 (schk ts hands)) ∧ w = w' := by
  have hel : ts.length = len := by simpa [ints] using hr.1
  by_cases h8 : 8 < len
  · have hv := Lib.hid (show schk ts hands = 1 by rw [schk, if_pos (by omega)])
    clear hr
    go_enter Try.func13, Try.ntmps13
    go_wp2
    go_ret
    exact ⟨by rw [hv.out]; rfl, rfl⟩
  · by_cases hh : hands < 1 ∨ 4 < hands
    · have hv := Lib.hid (show schk ts hands = 4 by rw [schk, if_neg (by omega), if_pos hh])
      clear hr
      rcases hh with h | h
      · go_enter Try.func13, Try.ntmps13
        go_wp2
        go_ret
        exact ⟨by rw [hv.out]; rfl, rfl⟩
      · have h' : ¬ hands < 1 := by omega
        go_enter Try.func13, Try.ntmps13
        go_wp2
        go_ret
        exact ⟨by rw [hv.out]; rfl, rfl⟩
    · have hv : schk ts hands = if ts.any badT then 4 else 0 := by rw [schk, if_neg (by omega), if_neg hh]
      have h1 : 1 ≤ hands := by omega
      have h4 : hands ≤ 4 := by omega
      have hvH := Lib.hid hv
      have hrH := Lib.hid hr
      have helH := Lib.hid hel
      clear hr hh hv hel
      go_enter Try.func13, Try.ntmps13
      go_wp2
      go_loop [18] (fun i => ∃ k : Nat, k ≤ len ∧ i = .int .i64 k ∧ (ts.take k).any badT = false) (fun i => len - (intOf i).toNat)
      case atStart => exact ⟨0, Nat.zero_le _, rfl, rfl⟩
      case round =>
        obtain ⟨k, hk, rfl, hp⟩ := hrel
        have hpH := Lib.hid hp; clear hp
        by_cases hlt : k < len
        · obtain ⟨b, o, rfl, hab, hc⟩ := hrH.out.int hlt
          have hy := Lib.hid (any_take_succ' badT 0 ts k (by rw [helH.out]; exact hlt) hpH.out)
          have hno := Lib.hid (any_of_getD' badT 0 ts k (by rw [helH.out]; exact hlt))
          generalize ts.getD k 0 = a at *
          by_cases h0 : 0 ≤ a ∧ a ≤ 1048576
          · have hq := Lib.hid (show badT a = false by simp [badT]; omega)
            obtain ⟨h1, h2⟩ := h0
            go_wp2
            go_round
            case rel => exact ⟨k + 1, by omega, by go_num, hy.out hq.out⟩
            case measure => simp [intOf]; omega
          · have hq := Lib.hid (show badT a = true by simp [badT]; omega)
            have hr := Lib.hid (show schk ts hands = 4 by rw [hvH.out, if_pos (hno.out hq.out)])
            go_wp2
            all_goals first
              | (exfalso; omega)
              | (go_ret; exact ⟨by rw [hr.out]; rfl, rfl⟩)
        · have hr := Lib.hid (show schk ts hands = 0 by
            have := hpH.out
            rw [List.take_of_length_le (by rw [helH.out]; omega)] at this
            rw [hvH.out, if_neg (by simp [this])])
          go_wp2
          go_ret
          exact ⟨by rw [hr.out]; rfl, rfl⟩

/-- how much of the things one box has -/
def load (ts l : List Int) (b : Int) : Int := ((List.range l.length).map fun i => if l.getD i 0 = b then ts.getD i 0 else 0).sum
def loadTo (ts l : List Int) (b : Int) (k : Nat) : Int := ((List.range k).map fun i => if l.getD i 0 = b then ts.getD i 0 else 0).sum
theorem loadTo_succ (ts l : List Int) (b : Int) (k : Nat) : loadTo ts l b (k + 1) = loadTo ts l b k + if l.getD k 0 = b then ts.getD k 0 else 0 := by
  simp [loadTo, List.range_succ, List.sum_append]
theorem loadTo_bound (ts l : List Int) (b : Int) (M : Int) (hM : 0 ≤ M) (h : ∀ i, 0 ≤ ts.getD i 0 ∧ ts.getD i 0 ≤ M) : ∀ k : Nat, 0 ≤ loadTo ts l b k ∧ loadTo ts l b k ≤ k * M
  | 0 => by simp [loadTo]
  | k + 1 => by
    have ih := loadTo_bound ts l b M hM h k
    have hk := h k
    rw [loadTo_succ]
    have : ((k + 1 : Nat) : Int) * M = k * M + M := by rw [Int.natCast_add, Int.add_mul]; simp
    rw [this]
    split <;> omega
set_option maxHeartbeats 400000 in
theorem inBox_any (A A2 : Option Addr) (len cap len2 cap2 : Nat) (ts l : List Int) (b : Int) (w : World) (hr : Rd w A len 1 (ints .i64 ts)) (hr2 : Rd w A2 len2 1 (ints .i64 l)) (hle : len2 ≤ len) (hl : len ≤ 100)
    (hb : ∀ i, 0 ≤ ts.getD i 0 ∧ ts.getD i 0 ≤ 1048576) :
    Calls Try.prog 23 #[.slice A len cap, .slice A2 len2 cap2, .int .i64 b] w fun e w' => e = .returned (.int .i64 (load ts l b)) ∧ w = w' := by
  have hel2 : l.length = len2 := by simpa [ints] using hr2.1
  have hfin := Lib.hid (show load ts l b = loadTo ts l b len2 by rw [load, hel2]; rfl)
  have hrH := Lib.hid hr; have hr2H := Lib.hid hr2; have hbH := Lib.hid hb
  clear hr hr2 hb hel2
  go_enter Try.func23, Try.ntmps23
  go_wp2
  go_loop [7, 12] (fun x i => ∃ k : Nat, k ≤ len2 ∧ i = .int .i64 k ∧ x = .int .i64 (loadTo ts l b k)) (fun _ i => len2 - (intOf i).toNat)
  case atStart => exact ⟨0, Nat.zero_le _, rfl, rfl⟩
  case round =>
    obtain ⟨k, hk, rfl, rfl⟩ := hrel
    have hbd := loadTo_bound ts l b 1048576 (by omega) hbH.out k
    by_cases hlt : k < len2
    · obtain ⟨o1, o2, rfl, _, hc1⟩ := hr2H.out.int hlt
      obtain ⟨p1, p2, rfl, _, hc2⟩ := hrH.out.int (show k < len by omega)
      have hs := loadTo_succ ts l b k
      have hlt2 : k < len := by omega
      have hbk := hbH.out k
      generalize l.getD k 0 = c at *
      generalize ts.getD k 0 = t at *
      generalize loadTo ts l b k = x at *
      obtain ⟨hbk0, hbk1⟩ := hbk
      obtain ⟨hx0, hx1⟩ := hbd
      cases hq : (c == b)
      · have hs' := Lib.hid (show loadTo ts l b (k + 1) = x by rw [hs, if_neg (by simpa using hq), Int.add_zero])
        clear hs
        go_wp2
        go_round
        case rel => exact ⟨k + 1, by omega, by go_num, by rw [hs'.out]⟩
        case measure => simp [intOf]; omega
      · have hs' := Lib.hid (show loadTo ts l b (k + 1) = x + t by rw [hs, if_pos (by simpa using hq)])
        clear hs
        go_wp2
        go_round
        case rel => exact ⟨k + 1, by omega, by go_num, by rw [hs'.out]⟩
        case measure => simp [intOf]; omega
    · obtain rfl : k = len2 := by omega
      go_wp2
      go_ret
      exact ⟨by rw [hfin.out]; rfl, rfl⟩

/-- when all is done: of the first h hands -/
def endTo (ts l : List Int) : Nat → Int
  | 0 => 0
  | h + 1 => if endTo ts l h < load ts l h then load ts l h else endTo ts l h
theorem load_bound (ts l : List Int) (b : Int) (hb : ∀ i, 0 ≤ ts.getD i 0 ∧ ts.getD i 0 ≤ 1048576) (hl : l.length ≤ 100) : 0 ≤ load ts l b ∧ load ts l b ≤ 104857600 := by
  have := loadTo_bound ts l b 1048576 (by omega) hb l.length
  rw [show load ts l b = loadTo ts l b l.length from rfl]
  omega
set_option maxHeartbeats 400000 in
theorem end_any (A A2 : Option Addr) (len cap len2 cap2 : Nat) (ts l : List Int) (hands : Nat) (w : World) (hr : Rd w A len 1 (ints .i64 ts)) (hr2 : Rd w A2 len2 1 (ints .i64 l)) (hle : len2 ≤ len) (hl : len ≤ 100)
    (hb : ∀ i, 0 ≤ ts.getD i 0 ∧ ts.getD i 0 ≤ 1048576) (hh : hands ≤ 100) :
    Calls Try.prog 15 #[.slice A len cap, .int .i64 hands, .slice A2 len2 cap2] w fun e w' => e = .returned (.int .i64 (endTo ts l hands)) ∧ w = w' := by
  have C := fun b => Lib.hid (inBox_any A A2 len cap len2 cap2 ts l b w hr hr2 hle hl hb)
  have CH := Lib.hid C
  clear hr hr2 hb C
  go_enter Try.func15, Try.ntmps15
  go_wp2
  go_loop [7, 8] (fun x i => ∃ k : Nat, k ≤ hands ∧ i = .int .i64 k ∧ x = .int .i64 (endTo ts l k)) (fun _ i => hands - (intOf i).toNat)
  case atStart => exact ⟨0, Nat.zero_le _, rfl, rfl⟩
  case round =>
    obtain ⟨k, hk, rfl, rfl⟩ := hrel
    by_cases hlt : k < hands
    · have hs : endTo ts l (k + 1) = if endTo ts l k < load ts l k then load ts l k else endTo ts l k := rfl
      have Ck := CH.out (k : Int)
      generalize load ts l k = y at *
      generalize endTo ts l k = x at *
      by_cases hq : x < y
      · have hs' := Lib.hid (show endTo ts l (k + 1) = y by rw [hs, if_pos hq])
        clear hs
        go_wp2_with fail
        refine Ck.out.mono ?_
        rintro e w' ⟨rfl, rfl⟩
        go_wp2_with fail
        refine Ck.out.mono ?_
        rintro e w' ⟨rfl, rfl⟩
        go_wp2
        go_round
        case rel => exact ⟨k + 1, by omega, by go_num, by rw [hs'.out]⟩
        case measure => simp [intOf]; omega
      · have hs' := Lib.hid (show endTo ts l (k + 1) = x by rw [hs, if_neg hq])
        clear hs
        go_wp2_with fail
        refine Ck.out.mono ?_
        rintro e w' ⟨rfl, rfl⟩
        go_wp2
        go_round
        case rel => exact ⟨k + 1, by omega, by go_num, by rw [hs'.out]⟩
        case measure => simp [intOf]; omega
    · obtain rfl : k = hands := by omega
      go_wp2
      go_ret
      exact ⟨rfl, rfl⟩
end Go.Proofs.Ytecillikakfdnaa
