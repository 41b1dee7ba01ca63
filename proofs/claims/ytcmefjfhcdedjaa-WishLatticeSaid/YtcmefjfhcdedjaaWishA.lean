/- Where a number stands in a list: slices.Index, has, ahead, rank. -/
import Derived.Test.YtcmefjfhcdedjaaWishLaw
import Derived.Test.YtcmefjfhcdedjaaRows
namespace Go.Proofs.Ytcmefjfhcdedjaa
open Go.RowKit

def idxOf (l : List Int) (x : Int) : Int := if pos l x < l.length then (pos l x : Nat) else -1
theorem pos_more {l : List Int} {x : Int} {k : Nat} (hk : k < l.length) (h : k ≤ pos l x) (hne : l.getD k 0 ≠ x) : k + 1 ≤ pos l x := by
  rcases Nat.lt_or_ge k (pos l x) with h1 | h1
  · exact h1
  · have : pos l x = k := by omega
    exact absurd (by rw [← this]; exact pos_at (by omega)) hne
theorem pos_hit {l : List Int} {x : Int} {k : Nat} (h : k ≤ pos l x) (he : l.getD k 0 = x) : pos l x = k := by
  have := pos_lt he
  omega
theorem idxOf_hit {l : List Int} {x : Int} {k : Nat} (hk : k < l.length) (h : pos l x = k) : idxOf l x = (k : Int) := by
  unfold idxOf
  rw [if_pos (by omega), h]
theorem idxOf_none {l : List Int} {x : Int} (h : l.length ≤ pos l x) : idxOf l x = -1 := by
  unfold idxOf
  rw [if_neg (by omega)]
theorem idxOf_rk {l : List Int} {x : Int} : (rkI l x : Int) = if 0 ≤ idxOf l x then idxOf l x else 8 := by
  unfold rkI idxOf
  split <;> simp
theorem idxOf_lt (l : List Int) (x : Int) : idxOf l x < l.length := by
  unfold idxOf
  split <;> omega
set_option maxHeartbeats 400000 in
theorem index_any (A : Option Addr) (len cap : Nat) (zs : List Int) (x : Int) (w : World) (hz : Rd w A len 1 (ints .i64 zs)) (hl : len ≤ 9223372036854775807) :
    Calls Try.prog 23 #[.slice A len cap, .int .i64 x] w fun e w' => e = .returned (.int .i64 (idxOf zs x)) ∧ w = w' := by
  have hzl : zs.length = len := by simpa [ints] using hz.1
  have hzl := Lib.hid hzl
  have hzH := Lib.hid hz; clear hz
  go_enter Try.func23, Try.ntmps23
  go_wp2
  go_loop [8] (fun i => ∃ k : Nat, k ≤ len ∧ i = .int .i64 k ∧ k ≤ pos zs x) (fun i => len - (intOf i).toNat)
  case atStart => exact ⟨0, Nat.zero_le _, rfl, Nat.zero_le _⟩
  case round =>
    obtain ⟨k, hk, rfl, hp⟩ := hrel
    have hpH := Lib.hid hp; clear hp
    by_cases hlt : k < len
    · obtain ⟨b, o, rfl, hab, hc⟩ := hzH.out.int hlt
      have hk0 : (0 : Int) ≤ (k : Int) := by omega
      have hkl : (k : Int) < len := by omega
      by_cases hax : zs.getD k 0 = x
      · have hres := Lib.hid (idxOf_hit (l := zs) (x := x) (k := k) (by rw [hzl.out]; exact hlt) (pos_hit hpH.out hax))
        rw [hax] at hc
        have hb : (x == x) = true := by simp
        clear hax
        go_wp2
        go_ret
        exact ⟨by rw [hres.out]; rfl, rfl⟩
      · have hs := Lib.hid (pos_more (by rw [hzl.out]; exact hlt) hpH.out hax)
        generalize zs.getD k 0 = a at *
        have hb : (x == a) = false := by rw [beq_eq_false_iff_ne]; exact fun e => hax e.symm
        have hb2 : (a == x) = false := by rw [beq_eq_false_iff_ne]; exact hax
        clear hax
        go_wp2
        go_round
        case rel => exact ⟨k + 1, by omega, by go_num, hs.out⟩
        case measure => simp [intOf]; omega
    · have hres := Lib.hid (idxOf_none (l := zs) (x := x) (by rw [hzl.out]; have := hpH.out; omega))
      go_wp2
      go_ret
      exact ⟨by rw [hres.out]; rfl, rfl⟩
set_option maxHeartbeats 400000 in
theorem has_of (A : Option Addr) (len cap : Nat) (zs : List Int) (x : Int) (w : World) (hz : Rd w A len 1 (ints .i64 zs)) (hl : len ≤ 9223372036854775807) :
    Calls Try.prog 9 #[.slice A len cap, .int .i64 x] w fun e w' => e = .returned (.int .i64 (idxOf zs x)) ∧ w = w' := by
  have hzl : zs.length = len := by simpa [ints] using hz.1
  have hzl := Lib.hid hzl
  have hzH := Lib.hid hz; clear hz
  go_enter Try.func9, Try.ntmps9
  go_wp2
  go_loop [9] (fun i => ∃ k : Nat, k ≤ len ∧ i = .int .i64 k ∧ k ≤ pos zs x) (fun i => len - (intOf i).toNat)
  case atStart => exact ⟨0, Nat.zero_le _, rfl, Nat.zero_le _⟩
  case round =>
    obtain ⟨k, hk, rfl, hp⟩ := hrel
    have hpH := Lib.hid hp; clear hp
    by_cases hlt : k < len
    · obtain ⟨b, o, rfl, hab, hc⟩ := hzH.out.int hlt
      have hk0 : (0 : Int) ≤ (k : Int) := by omega
      have hkl : (k : Int) < len := by omega
      by_cases hax : zs.getD k 0 = x
      · have hres := Lib.hid (idxOf_hit (l := zs) (x := x) (k := k) (by rw [hzl.out]; exact hlt) (pos_hit hpH.out hax))
        rw [hax] at hc
        have hb : (x == x) = true := by simp
        clear hax
        go_wp2
        go_ret
        exact ⟨by rw [hres.out]; rfl, rfl⟩
      · have hs := Lib.hid (pos_more (by rw [hzl.out]; exact hlt) hpH.out hax)
        generalize zs.getD k 0 = a at *
        have hb : (x == a) = false := by rw [beq_eq_false_iff_ne]; exact fun e => hax e.symm
        have hb2 : (a == x) = false := by rw [beq_eq_false_iff_ne]; exact hax
        clear hax
        go_wp2
        go_round
        case rel => exact ⟨k + 1, by omega, by go_num, hs.out⟩
        case measure => simp [intOf]; omega
    · have hres := Lib.hid (idxOf_none (l := zs) (x := x) (by rw [hzl.out]; have := hpH.out; omega))
      go_wp2
      go_ret
      exact ⟨by rw [hres.out]; rfl, rfl⟩
set_option maxHeartbeats 400000 in
theorem ahead_any (A : Option Addr) (len cap : Nat) (zs : List Int) (x : Int) (w : World) (hz : Rd w A len 1 (ints .i64 zs)) (hl : len ≤ 9223372036854775807) :
    Calls Try.prog 12 #[.slice A len cap, .int .i64 x] w fun e w' => e = .returned (.int .i64 (((pos zs x : Nat) : Int))) ∧ w = w' := by
  have hzl : zs.length = len := by simpa [ints] using hz.1
  have hzl := Lib.hid hzl
  have hzH := Lib.hid hz; clear hz
  go_enter Try.func12, Try.ntmps12
  go_wp2
  go_loop [9] (fun i => ∃ k : Nat, k ≤ len ∧ i = .int .i64 k ∧ k ≤ pos zs x) (fun i => len - (intOf i).toNat)
  case atStart => exact ⟨0, Nat.zero_le _, rfl, Nat.zero_le _⟩
  case round =>
    obtain ⟨k, hk, rfl, hp⟩ := hrel
    have hpH := Lib.hid hp; clear hp
    by_cases hlt : k < len
    · obtain ⟨b, o, rfl, hab, hc⟩ := hzH.out.int hlt
      have hk0 : (0 : Int) ≤ (k : Int) := by omega
      have hkl : (k : Int) < len := by omega
      by_cases hax : zs.getD k 0 = x
      · have hres := Lib.hid (show ((pos zs x : Nat) : Int) = (k : Int) by rw [pos_hit hpH.out hax])
        rw [hax] at hc
        have hb : (x == x) = true := by simp
        clear hax
        go_wp2
        go_ret
        exact ⟨by rw [hres.out]; rfl, rfl⟩
      · have hs := Lib.hid (pos_more (by rw [hzl.out]; exact hlt) hpH.out hax)
        generalize zs.getD k 0 = a at *
        have hb : (x == a) = false := by rw [beq_eq_false_iff_ne]; exact fun e => hax e.symm
        have hb2 : (a == x) = false := by rw [beq_eq_false_iff_ne]; exact hax
        clear hax
        go_wp2
        go_round
        case rel => exact ⟨k + 1, by omega, by go_num, hs.out⟩
        case measure => simp [intOf]; omega
    · have hres := Lib.hid (show ((pos zs x : Nat) : Int) = (len : Int) by have h1 := pos_le zs x; have h2 := hzl.out; have h3 := hpH.out; omega)
      go_wp2
      go_ret
      exact ⟨by rw [hres.out]; rfl, rfl⟩
theorem rank_any (A : Option Addr) (len cap : Nat) (zs : List Int) (x : Int) (w : World) (hz : Rd w A len 1 (ints .i64 zs)) (hl : len ≤ 9223372036854775807) :
    Calls Try.prog 20 #[.slice A len cap, .int .i64 x] w fun e w' => e = .returned (.int .i64 ((rkI zs x : Nat) : Int)) ∧ w = w' := by
  have H := Lib.hid (index_any A len cap zs x w hz hl)
  have hr := Lib.hid (idxOf_rk (l := zs) (x := x))
  clear hz
  generalize idxOf zs x = y at *
  by_cases h : 0 ≤ y
  · have hr2 := Lib.hid (show (rkI zs x : Int) = y by rw [hr.out, if_pos h])
    go_enter Try.func20, Try.ntmps20
    go_wp2_with fail
    refine H.out.mono ?_
    rintro e w' ⟨rfl, rfl⟩
    go_wp2
    go_ret
    exact ⟨by rw [hr2.out]; rfl, rfl⟩
  · have hr2 := Lib.hid (show (rkI zs x : Int) = 8 by rw [hr.out, if_neg h])
    go_enter Try.func20, Try.ntmps20
    go_wp2_with fail
    refine H.out.mono ?_
    rintro e w' ⟨rfl, rfl⟩
    go_wp2
    go_ret
    exact ⟨by rw [hr2.out]; rfl, rfl⟩
end Go.Proofs.Ytcmefjfhcdedjaa
