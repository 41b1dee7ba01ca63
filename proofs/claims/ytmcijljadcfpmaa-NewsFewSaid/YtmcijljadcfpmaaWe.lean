/- Contracts of CallsCheck, Bit, inside. -/
import Derived.Test.YtmcijljadcfpmaaWd
namespace Go.Proofs.Ytmcijljadcfpmaa
open Go.RowKit

theorem callsCheck_large (n : Int) (A : Option Addr) (len cap : Nat) (w : World) (hlen : len ≤ 9223372036854775807) (h : large n len = true) :
    Calls Try.prog 7 #[.int .i64 n, .slice A len cap] w fun e w' => e = .returned (.int .i64 1) ∧ Below w.heap.size w w' := by
  by_cases h1 : n < 1
  · go_enter Try.func7, Try.ntmps7
    go_wp2
    go_ret
    exact ⟨rfl, Below.refl _ _⟩
  · by_cases h2 : 8 < n
    · go_enter Try.func7, Try.ntmps7
      go_wp2
      go_ret
      exact ⟨rfl, Below.refl _ _⟩
    · have h3 : 64 < len := by simp [large] at h; omega
      clear h
      go_enter Try.func7, Try.ntmps7
      go_wp2
      go_ret
      exact ⟨rfl, Below.refl _ _⟩

theorem any_take_succ (p : Int × Int → Bool) (cs : List (Int × Int)) (k : Nat) (hk : k < cs.length) (h : (cs.take k).any p = false) (h' : p (cs.getD k (0, 0)) = false) : (cs.take (k + 1)).any p = false := by
  rw [take_succ_getD cs k hk, List.any_append, h]; simpa using h'
theorem any_of_getD (p : Int × Int → Bool) (cs : List (Int × Int)) (k : Nat) (hk : k < cs.length) (h' : p (cs.getD k (0, 0)) = true) : cs.any p = true := by
  refine List.any_eq_true.2 ⟨cs[k], List.getElem_mem _, ?_⟩
  simpa [List.getD, hk] using h'

set_option maxHeartbeats 800000 in
theorem callsCheck_small (n : Nat) (A : Option Addr) (len cap : Nat) (cs : List (Int × Int)) (w : World) (hp : Pairs w A len cs) (hn1 : 1 ≤ n) (hn8 : n ≤ 8) (hl : len ≤ 64) :
    Calls Try.prog 7 #[.int .i64 n, .slice A len cap] w fun e w' => e = .returned (.int .i64 (chk n cs)) ∧ Below w.heap.size w w' := by
  have hlarge : large n cs.length = false := by simp [large, hp.1]; omega
  have hpH := Lib.hid hp; clear hp
  have hlargeH := Lib.hid hlarge; clear hlarge
  go_enter Try.func7, Try.ntmps7
  go_wp2
  go_loopw [22] (fun i wr => ∃ j : Nat, j ≤ len ∧ i = .int .i64 j ∧ (cs.take j).any (outB n) = false ∧ Below w.heap.size w wr) (fun i _ => len - (intOf i).toNat)
  case atStart => exact ⟨0, Nat.zero_le _, rfl, rfl, Below.refl _ _⟩
  case round =>
    obtain ⟨j, hj, rfl, hany, hb⟩ := hrel
    have hanyH := Lib.hid hany; clear hany
    by_cases hlt : j < len
    · obtain ⟨bb, oo, rfl, hab, hc1, hc2⟩ := (hpH.out.below (Nat.le_refl _) hb).2 j hlt
      have hnext := any_take_succ (outB n) cs j (by rw [hpH.out.1]; exact hlt) hanyH.out
      have hyes := any_of_getD (outB n) cs j (by rw [hpH.out.1]; exact hlt)
      generalize cs.getD j (0, 0) = c at *
      obtain ⟨a, b⟩ := c
      dsimp only at hc1 hc2
      have hnextH := Lib.hid hnext; have hyesH := Lib.hid hyes; clear hnext hyes
      have hout : outB n (a, b) = true → chk n cs = 2 := fun h => by simp [chk, hlargeH.out, hyesH.out h]
      have houtH := Lib.hid hout; clear hout
      by_cases hin : (0 ≤ a ∧ a < n) ∧ 0 ≤ b ∧ b < n
      · have hq : outB n (a, b) = false := by simp [outB, isB]; omega
        have hqH := Lib.hid hq; clear hq
        obtain ⟨⟨h1, h2⟩, h3, h4⟩ := hin
        go_wp2
        go_roundw
        case rel => exact ⟨j + 1, by omega, by go_num, hnextH.out hqH.out, hb.alloc hb.size _⟩
        case measure => simp [intOf]; omega
      · have hq : outB n (a, b) = true := by simp [outB, isB]; omega
        have hqH := Lib.hid hq; clear hq
        go_wp2
        all_goals first
          | (exfalso; omega)
          | (go_ret
             exact ⟨by rw [houtH.out hqH.out]; rfl, hb.alloc hb.size _⟩)
    · obtain rfl : j = len := by omega
      have hany0 : cs.any (outB n) = false := by
        have := hanyH.out
        rwa [List.take_of_length_le (by rw [hpH.out.1]; exact Nat.le_refl _)] at this
      have hany0H := Lib.hid hany0; clear hany0 hlt
      go_wp2
      go_loopw [49] (fun i wr => ∃ k : Nat, k ≤ j ∧ i = .int .i64 k ∧ (cs.take k).any eqB = false ∧ Below w.heap.size w wr) (fun i _ => j - (intOf i).toNat)
      case atStart => exact ⟨0, Nat.zero_le _, rfl, rfl, hb⟩
      case round =>
        clear hb
        obtain ⟨k, hk, rfl, hany, hb⟩ := hrel
        have hanyH := Lib.hid hany; clear hany
        by_cases hlt : k < j
        · obtain ⟨bb, oo, rfl, hab, hc1, hc2⟩ := (hpH.out.below (Nat.le_refl _) hb).2 k hlt
          have hnext := any_take_succ eqB cs k (by rw [hpH.out.1]; exact hlt) hanyH.out
          have hyes := any_of_getD eqB cs k (by rw [hpH.out.1]; exact hlt)
          generalize cs.getD k (0, 0) = c at *
          obtain ⟨a, b⟩ := c
          dsimp only at hc1 hc2
          have hnextH := Lib.hid hnext; have hyesH := Lib.hid hyes; clear hnext hyes
          cases hab : (a == b)
          · have hqH := Lib.hid (show eqB (a, b) = false from hab)
            go_wp2
            go_roundw
            case rel => exact ⟨k + 1, by omega, by go_num, hnextH.out hqH.out, hb.alloc hb.size _⟩
            case measure => simp [intOf]; omega
          · have hqH := Lib.hid (show eqB (a, b) = true from hab)
            have hres : chk n cs = 3 := by simp [chk, hlargeH.out, hany0H.out, hyesH.out hqH.out]
            have hresH := Lib.hid hres; clear hres
            go_wp2
            go_ret
            exact ⟨by rw [hresH.out]; rfl, hb.alloc hb.size _⟩
        · have hres : chk n cs = 0 := by
            have := hanyH.out
            rw [List.take_of_length_le (by rw [hpH.out.1]; omega)] at this
            simp [chk, hlargeH.out, hany0H.out, this]
          have hresH := Lib.hid hres; clear hres
          go_wp2
          go_ret
          exact ⟨by rw [hresH.out]; rfl, hb⟩

set_option maxHeartbeats 400000 in
theorem bit_any (x : Nat) (i : Int) (w : World) (hx : x < 4294967296) :
    Calls Try.prog 8 #[.int .u32 x, .int .i64 i] w fun e w' => e = .returned (.bool (decide (0 ≤ i) && decide (i < 32) && x.testBit i.toNat)) ∧ w = w' := by
  by_cases h0 : 0 ≤ i
  · obtain ⟨k, rfl⟩ := Int.eq_ofNat_of_zero_le h0
    clear h0
    by_cases hk : k < 32
    · have hc := Lib.hid (bit_core x k hx hk)
      have hk' : (k : Int) < 32 := by omega
      go_enter Try.func8, Try.ntmps8
      go_wp2
      go_ret
      exact ⟨by simp [hk']; exact hc.out, rfl⟩
    · go_enter Try.func8, Try.ntmps8
      go_wp2
      go_ret
      exact ⟨by simp; omega, rfl⟩
  · go_enter Try.func8, Try.ntmps8
    go_wp2
    go_ret
    exact ⟨by simp; omega, rfl⟩

def insideB (n : Int) (zs : List Int) : Bool := zs.all (isB n)
theorem all_take_succ (p : Int → Bool) (cs : List Int) (k : Nat) (hk : k < cs.length) (h : (cs.take k).all p = true) (h' : p (cs.getD k 0) = true) : (cs.take (k + 1)).all p = true := by
  rw [List.take_succ_eq_append_getElem hk, List.all_append, h]; simpa [List.getD, hk] using h'
theorem all_of_getD (p : Int → Bool) (cs : List Int) (k : Nat) (hk : k < cs.length) (h' : p (cs.getD k 0) = false) : cs.all p = false := by
  refine List.all_eq_false.2 ⟨cs[k], List.getElem_mem _, ?_⟩
  simpa [List.getD, hk] using h'
set_option maxHeartbeats 400000 in
theorem inside_any (n : Int) (A : Option Addr) (len cap : Nat) (zs : List Int) (w : World) (hz : Rd w A len 1 (ints .i64 zs)) (hl : len ≤ 9223372036854775807) :
    Calls Try.prog 9 #[.int .i64 n, .slice A len cap] w fun e w' => e = .returned (.bool (insideB n zs)) ∧ w = w' := by
  have hzl : zs.length = len := by simpa [ints] using hz.1
  have hzl := Lib.hid hzl
  have hzH := Lib.hid hz; clear hz
  go_enter Try.func9, Try.ntmps9
  go_wp2
  go_loop [9] (fun i => ∃ k : Nat, k ≤ len ∧ i = .int .i64 k ∧ (zs.take k).all (isB n) = true) (fun i => len - (intOf i).toNat)
  case atStart => exact ⟨0, Nat.zero_le _, rfl, rfl⟩
  case round =>
    obtain ⟨k, hk, rfl, hp⟩ := hrel
    have hpH := Lib.hid hp; clear hp
    by_cases hlt : k < len
    · obtain ⟨b, o, rfl, hab, hc⟩ := hzH.out.int hlt
      have hy := Lib.hid (all_take_succ (isB n) zs k (by rw [hzl.out]; exact hlt) hpH.out)
      have hno := Lib.hid (all_of_getD (isB n) zs k (by rw [hzl.out]; exact hlt))
      generalize zs.getD k 0 = a at *
      by_cases h0 : 0 ≤ a ∧ a < n
      · have hq := Lib.hid (show isB n a = true by simp [isB]; omega)
        obtain ⟨h1, h2⟩ := h0
        go_wp2
        go_round
        case rel => exact ⟨k + 1, by omega, by go_num, hy.out hq.out⟩
        case measure => simp [intOf]; omega
      · have hq := Lib.hid (show isB n a = false by simp [isB]; omega)
        have hr := Lib.hid (show insideB n zs = false from hno.out hq.out)
        go_wp2
        all_goals first
          | (exfalso; omega)
          | (go_ret; exact ⟨by rw [hr.out]; rfl, rfl⟩)
    · have hr := Lib.hid (show insideB n zs = true by
        have := hpH.out
        rwa [List.take_of_length_le (by rw [hzl.out]; omega)] at this)
      go_wp2
      go_ret
      exact ⟨by rw [hr.out]; rfl, rfl⟩
end Go.Proofs.Ytmcijljadcfpmaa
