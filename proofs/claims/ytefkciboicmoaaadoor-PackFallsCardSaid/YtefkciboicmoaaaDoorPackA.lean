/- The checks of package pack and its reference; the places. -/
import Derived.Test.YtefkciboicmoaaaDoorContainsInt64
import Derived.Test.YtefkciboicmoaaaDoorNatI
import Derived.Test.YtefkciboicmoaaaDoorRow
import Derived.RangeFuncBox
namespace Go.Proofs.YtefkciboicmoaaaDoor
open Go.RowKit

def badP (room x : Int) : Bool := decide (x < 0) || decide (room < x)
def pchk (zs : List Int) (room : Int) : Int := if 8 < zs.length then 1 else if room < 1 ∨ 1048576 < room then 4 else if zs.any (badP room) then 4 else 0
theorem pchk_ok {zs : List Int} {room : Int} (h : pchk zs room = 0) : zs.length ≤ 8 ∧ 1 ≤ room ∧ room ≤ 1048576 ∧ ∀ i, 0 ≤ zs.getD i 0 ∧ zs.getD i 0 ≤ room := by
  unfold pchk at h
  split at h
  · omega
  · split at h
    · omega
    · rename_i h1 h2
      cases hb : zs.any (badP room)
      · refine ⟨by omega, by omega, by omega, fun i => ?_⟩
        rcases Nat.lt_or_ge i zs.length with hi | hi
        · have := List.any_eq_false.1 hb zs[i] (List.getElem_mem _)
          simp [badP] at this
          simp [List.getD, hi]
          omega
        · rw [List.getD, List.getElem?_eq_none hi]; simp; omega
      · rw [hb] at h; simp at h
theorem badP_any (bx : Nat) (room x : Int) (w : World) (hc : w.cell? ⟨bx, 0, none⟩ = some (.int .i64 room)) : Calls Tryd.prog 22 #[.int .i64 x, .pointer (some ⟨bx, 0, none⟩)] w fun e w' => e = .returned (.bool (badP room x)) ∧ w = w' := by
  by_cases h : x < 0
  · go_enter Tryd.func22, Tryd.ntmps22
    go_wp2
    go_ret
    exact ⟨by simp [badP, h], rfl⟩
  · go_enter Tryd.func22, Tryd.ntmps22
    go_wp2
    go_ret
    exact ⟨by simp [badP]; omega, rfl⟩
theorem entP1 (args : Array Value) (w : World) : (callFunc 22 args).run Tryd.prog w = .ok (.enter 22 args) w := by go_simp
theorem contains_badP (A : Option Addr) (len cap : Nat) (zs : List Int) (room : Int) (bx : Nat) (w : World) (hr : Rd w A len 1 (ints .i64 zs)) (hl : len ≤ 9223372036854775807) (hbx : Boxed w bx 2 (.int .i64 room)) :
    Calls Tryd.prog 21 #[.slice A len cap, .func (.func 22) #[] #[.pointer (some ⟨bx, 0, none⟩)]] w fun e w' => e = .returned (.bool (zs.any (badP room))) ∧ Below w.heap.size w w' := by
  refine containsFuncL A len cap zs 22 #[.pointer (some ⟨bx, 0, none⟩)] (badP room) w hr hl entP1 ?_
  intro a w' _ hb
  exact (badP_any bx room a w' ((hb.cell (p := ⟨bx, 0, none⟩) hbx.lt).trans hbx.cell)).mono fun e w'' ⟨h1, h2⟩ => ⟨h1, h2 ▸ Below.refl _ _⟩
theorem wrong_any (A : Option Addr) (len cap : Nat) (zs : List Int) (room : Int) (w : World) (hr : Rd w A len 1 (ints .i64 zs)) (hl : len ≤ 9223372036854775807) :
    Calls Tryd.prog 11 #[.slice A len cap, .int .i64 room] w fun e w' => e = .returned (.int .i64 (pchk zs room)) ∧ Below w.heap.size w w' := by
  have hel : zs.length = len := by simpa [ints] using hr.1
  have gb := (Below.refl _ w).alloc (Nat.le_refl _) (.cells #[.int .i64 room] 2)
  have bx := Boxed.new w 2 (.int .i64 room)
  have hs : (w.alloc (.cells #[.int .i64 room] 2)).heap.size = w.heap.size + 1 := by simp
  have cx := bx.cell
  by_cases h8 : 8 < len
  · have hv := Lib.hid (show pchk zs room = 1 by rw [pchk, if_pos (by omega)])
    have gbH := Lib.hid gb
    clear hr gb bx
    go_enter Tryd.func11, Tryd.ntmps11
    go_wp2
    go_ret
    exact ⟨by rw [hv.out]; rfl, gbH.out⟩
  · by_cases hh : room < 1 ∨ 1048576 < room
    · have hv := Lib.hid (show pchk zs room = 4 by rw [pchk, if_neg (by omega), if_pos hh])
      have gbH := Lib.hid gb
      clear hr gb bx
      rcases hh with h | h
      · go_enter Tryd.func11, Tryd.ntmps11
        go_wp2
        go_ret
        exact ⟨by rw [hv.out]; rfl, gbH.out⟩
      · have h' : 1 ≤ room := by omega
        go_enter Tryd.func11, Tryd.ntmps11
        go_wp2
        go_ret
        exact ⟨by rw [hv.out]; rfl, gbH.out⟩
    · have hv : pchk zs room = if zs.any (badP room) then 4 else 0 := by rw [pchk, if_neg (by omega), if_neg hh]
      have H := Lib.hid (contains_badP A len cap zs room w.heap.size _ (hr.later gb) hl bx)
      have h1 : 1 ≤ room := by omega
      have h4 : room ≤ 1048576 := by omega
      clear hr hh bx
      cases hb : zs.any (badP room)
      · rw [hb] at H hv
        have hvH := Lib.hid hv; clear hv
        clear hb
        go_enter Tryd.func11, Tryd.ntmps11
        go_wp2_with fail
        generalize w.alloc (.cells #[.int .i64 room] 2) = wg at *
        refine H.out.mono ?_
        rintro _ w1 ⟨rfl, hb1⟩
        have hbw := gb.trans (hb1.mono (by omega))
        go_wp2
        go_ret
        exact ⟨by rw [hvH.out]; rfl, hbw⟩
      · rw [hb] at H hv
        have hvH := Lib.hid hv; clear hv
        clear hb
        go_enter Tryd.func11, Tryd.ntmps11
        go_wp2_with fail
        generalize w.alloc (.cells #[.int .i64 room] 2) = wg at *
        refine H.out.mono ?_
        rintro _ w1 ⟨rfl, hb1⟩
        have hbw := gb.trans (hb1.mono (by omega))
        go_wp2
        go_ret
        exact ⟨by rw [hvH.out]; rfl, hbw⟩
set_option maxHeartbeats 400000 in
theorem packCheck_any (A : Option Addr) (len cap : Nat) (zs : List Int) (room : Int) (w : World) (hr : Rd w A len 1 (ints .i64 zs)) (hl : len ≤ 9223372036854775807) :
    Calls Tryd.prog 18 #[.slice A len cap, .int .i64 room] w fun e w' => e = .returned (.int .i64 (pchk zs room)) ∧ w = w' := by
  have hel : zs.length = len := by simpa [ints] using hr.1
  have hrH := Lib.hid hr; have helH := Lib.hid hel
  clear hr hel
  by_cases h8 : 8 < len
  · have hv := Lib.hid (show pchk zs room = 1 by rw [pchk, if_pos (by rw [helH.out]; exact h8)])
    go_enter Tryd.func18, Tryd.ntmps18
    go_wp2
    go_ret
    exact ⟨by rw [hv.out]; rfl, rfl⟩
  · by_cases hh : room < 1 ∨ 1048576 < room
    · have hv := Lib.hid (show pchk zs room = 4 by rw [pchk, if_neg (by rw [helH.out]; exact h8), if_pos hh])
      rcases hh with h | h
      · go_enter Tryd.func18, Tryd.ntmps18
        go_wp2
        go_ret
        exact ⟨by rw [hv.out]; rfl, rfl⟩
      · have h' : 1 ≤ room := by omega
        go_enter Tryd.func18, Tryd.ntmps18
        go_wp2
        go_ret
        exact ⟨by rw [hv.out]; rfl, rfl⟩
    · have hv := Lib.hid (show pchk zs room = if zs.any (badP room) then 4 else 0 by rw [pchk, if_neg (by rw [helH.out]; exact h8), if_neg hh])
      have h1 : 1 ≤ room := by omega
      have h4 : room ≤ 1048576 := by omega
      clear hh
      go_enter Tryd.func18, Tryd.ntmps18
      go_wp2
      go_loop [6, 18] (fun _ i => ∃ k : Nat, k ≤ len ∧ i = .int .i64 k ∧ (zs.take k).any (badP room) = false) (fun _ i => len - (intOf i).toNat)
      case atStart => exact ⟨0, Nat.zero_le _, rfl, rfl⟩
      case round =>
        obtain ⟨k, hk, rfl, hp⟩ := hrel
        have hpH := Lib.hid hp; clear hp
        by_cases hlt : k < len
        · obtain ⟨b, o, rfl, hab, hc⟩ := hrH.out.int hlt
          have hke : k < zs.length := by rw [helH.out]; exact hlt
          have hyy := Lib.hid (any_take_succ' (badP room) 0 zs k hke hpH.out)
          have hno := Lib.hid (any_of_getD' (badP room) 0 zs k hke)
          have hd := Lib.hid (show badP room (zs.getD k 0) = (decide (zs.getD k 0 < 0) || decide (room < zs.getD k 0)) from rfl)
          generalize zs.getD k 0 = z at *
          by_cases hz : z < 0
          · have hf := Lib.hid (hno.out (by rw [hd.out]; simp [hz]))
            go_wp2
            go_ret
            exact ⟨by rw [hv.out, hf.out]; rfl, rfl⟩
          · by_cases hz2 : room < z
            · have hz1 : 0 ≤ z := by omega
              have hf := Lib.hid (hno.out (by rw [hd.out]; simp [hz2]))
              clear hz
              go_wp2
              go_ret
              exact ⟨by rw [hv.out, hf.out]; rfl, rfl⟩
            · have hz1 : 0 ≤ z := by omega
              have hz3 : z ≤ room := by omega
              have hf := Lib.hid (hyy.out (by rw [hd.out]; simp; omega))
              clear hz hz2
              go_wp2
              go_round
              case rel => exact ⟨k + 1, by omega, by go_num, hf.out⟩
              case measure => simp [intOf]; omega
        · have hv2 := Lib.hid (show zs.any (badP room) = false by
            have := hpH.out
            rwa [List.take_of_length_le (by rw [helH.out]; omega)] at this)
          go_wp2
          go_ret
          exact ⟨by rw [hv.out, hv2.out]; rfl, rfl⟩
theorem things_any (A : Option Addr) (len cap : Nat) (zs : List Int) (room : Int) (w : World) (hr : Rd w A len 1 (ints .i64 zs)) (hl : len ≤ 9223372036854775807) :
    Calls Tryd.prog 8 #[.slice A len cap, .int .i64 room] w fun e w' => e = .returned (.bool (pchk zs room == 0)) ∧ w = w' := by
  have H := Lib.hid (packCheck_any A len cap zs room w hr hl)
  clear hr
  generalize pchk zs room = c at *
  go_enter Tryd.func8, Tryd.ntmps8
  go_wp2_with fail
  refine H.out.mono ?_
  rintro _ w1 ⟨rfl, rfl⟩
  go_wp2
  go_ret
  exact ⟨by simp, rfl⟩
theorem tiO : TI Tryd.prog 23 3 (.int .i64 0) 1 8 := TI.mk' Tryd.underlying23 (by kernel_rfl) rfl (by decide)
theorem natI_snocP (y : List Nat) (i : Nat) : natI (y ++ [i]) = natI y ++ [(i : Int)] := by simp [natI]
theorem places_any (A : Option Addr) (len cap : Nat) (w : World) (hl : len ≤ 100) :
    Calls Tryd.prog 13 #[.slice A len cap] w fun e w' => (∃ v, e = .returned v ∧ w'.ownsRow w.heap.size 3 1 v len (ints .i64 (natI (List.range len)))) ∧ Below w.heap.size w w' := by
  go_enter Tryd.func13, Tryd.ntmps13
  go_wp2
  go_loopw [3, 4, 7] (fun v _ i wr => ∃ k : Nat, k ≤ len ∧ i = .int .i64 k ∧ wr.ownsRow w.heap.size 3 1 v k (ints .i64 (natI (List.range k))) ∧ Below w.heap.size w wr) (fun _ _ i _ => len - (intOf i).toNat)
  case atStart => exact ⟨0, Nat.zero_le _, rfl, ⟨rfl, .inl ⟨rfl, rfl⟩⟩, Below.refl _ _⟩
  case round =>
    obtain ⟨k, hk, rfl, hown, hb⟩ := hrel
    by_cases hlt : k < len
    · have hownH := Lib.hid hown; have hbH := Lib.hid hb
      clear hown hb
      go_wp2_with (at_builtin; refine wpList_app (s := .tmp 10) (x := .tmp 12) _ tiO (hownH.out.alloc _) (rd_new1 _ (.int .i64 k) 3) (ints_one (l := [(k : Int)])) (by omega) (by omega) (hbH.out.alloc hbH.out.size _).size rfl rfl rfl rfl ?_)
      intro v' w5 hown5 hg5 _
      have hb5 := (hbH.out.alloc hbH.out.size _).grown hg5 (hbH.out.alloc hbH.out.size _).size (fun g e => (hownH.out.lt g e).1)
      have h1 := Lib.hid hown5; have h2 := Lib.hid hb5
      clear hown5 hb5 hg5
      go_wp2
      go_roundw
      case rel => exact ⟨k + 1, by omega, by go_num, by rw [List.range_succ, natI_snocP]; simpa [ints] using h1.out, h2.out⟩
      case measure => simp [intOf]; omega
    · obtain rfl : k = len := by omega
      have hownH := Lib.hid hown; have hbH := Lib.hid hb
      clear hown hb
      go_wp2
      go_ret
      exact ⟨⟨_, rfl, hownH.out⟩, hbH.out⟩
end Go.Proofs.YtefkciboicmoaaaDoor
