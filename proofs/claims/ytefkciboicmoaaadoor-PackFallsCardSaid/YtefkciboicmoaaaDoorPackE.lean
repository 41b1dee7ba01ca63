/- keep's boxes: how many boxes a list of boxes takes, or that it is none that fits. -/
import Derived.Test.YtefkciboicmoaaaDoorPackA
namespace Go.Proofs.YtefkciboicmoaaaDoor
open Go.RowKit

def lodL (zs ls : List Int) (c : Int) : Nat → Int
  | 0 => 0
  | k + 1 => if ls.getD k 0 == c then lodL zs ls c k + zs.getD k 0 else lodL zs ls c k
theorem lodL_bd {zs : List Int} (hz : ∀ i, 0 ≤ zs.getD i 0 ∧ zs.getD i 0 ≤ 1048576) (ls : List Int) (c : Int) : ∀ k : Nat, 0 ≤ lodL zs ls c k ∧ lodL zs ls c k ≤ k * 1048576
  | 0 => by simp [lodL]
  | k + 1 => by
    have := lodL_bd hz ls c k
    have := hz k
    rw [lodL]; split <;> omega
/-- it fits, and takes r boxes -/
structure Fit (zs ls : List Int) (room r : Int) : Prop where
  len : ls.length = zs.length
  bd : ∀ i, i < zs.length → 0 ≤ ls.getD i 0 ∧ ls.getD i 0 < zs.length
  top : ∀ i, i < zs.length → ls.getD i 0 < r
  hit : r = 0 ∨ ∃ i, i < zs.length ∧ ls.getD i 0 + 1 = r
  ld : ∀ c : Nat, (c : Int) < r → lodL zs ls c zs.length ≤ room
def BV (zs ls : List Int) (room r : Int) : Prop := (r = -1 ∧ ∀ q, ¬ Fit zs ls room q) ∨ (0 ≤ r ∧ Fit zs ls room r)
/-- the first k of the boxes looked at -/
structure TopI (ls : List Int) (n k : Nat) (m : Int) : Prop where
  bd : ∀ i, i < k → 0 ≤ ls.getD i 0 ∧ ls.getD i 0 < n
  top : ∀ i, i < k → ls.getD i 0 < m
  hit : m = 0 ∨ ∃ i, i < k ∧ ls.getD i 0 + 1 = m
  m0 : 0 ≤ m ∧ m ≤ n
theorem TopI.next {ls : List Int} {n k : Nat} {m : Int} (h : TopI ls n k m) (h0 : 0 ≤ ls.getD k 0) (h1 : ls.getD k 0 < n) : TopI ls n (k + 1) (if m ≤ ls.getD k 0 then ls.getD k 0 + 1 else m) := by
  have hm := h.m0
  refine ⟨fun i hi => ?_, fun i hi => ?_, ?_, ?_⟩
  · rcases Nat.lt_or_ge i k with hk | hk
    · exact h.bd i hk
    · obtain rfl : i = k := by omega
      exact ⟨h0, h1⟩
  · rcases Nat.lt_or_ge i k with hk | hk
    · have := h.top i hk
      split <;> omega
    · obtain rfl : i = k := by omega
      split <;> omega
  · split
    · exact .inr ⟨k, by omega, rfl⟩
    · rcases h.hit with e | ⟨i, hi, e⟩
      · exact .inl e
      · exact .inr ⟨i, by omega, e⟩
  · split <;> omega
theorem boxes_any (A B : Option Addr) (n cap m capm : Nat) (zs ls : List Int) (room : Int) (w : World) (hr : Rd w A n 1 (ints .i64 zs)) (hrl : Rd w B m 1 (ints .i64 ls)) (hok : pchk zs room = 0) (hm : m ≤ 9223372036854775807) :
    Calls Tryd.prog 9 #[.slice A n cap, .int .i64 room, .slice B m capm] w fun e w' => (∃ r : Int, e = .returned (.int .i64 r) ∧ BV zs ls room r) ∧ w = w' := by
  have hel : zs.length = n := by simpa [ints] using hr.1
  have hell : ls.length = m := by simpa [ints] using hrl.1
  obtain ⟨h8, hr1, hr2, hz⟩ := pchk_ok hok
  rw [hel] at h8
  have hbd := fun ls c k => lodL_bd (zs := zs) (fun i => ⟨(hz i).1, by have := hz i; omega⟩) ls c k
  have hrH := Lib.hid hr; have hrlH := Lib.hid hrl; have helH := Lib.hid hel; have hellH := Lib.hid hell; have hzH := Lib.hid hz; have hbdH := Lib.hid hbd
  clear hr hrl hok hel hell hz hbd
  have bad : (∀ q, ¬ Fit zs ls room q) → BV zs ls room (-1) := fun h => .inl ⟨rfl, h⟩
  have badH := Lib.hid bad
  clear bad
  by_cases hne : m = n
  case neg =>
    have hv := Lib.hid (badH.out fun q h => hne (by rw [← hellH.out, ← helH.out]; exact h.len))
    have hq : ((m : Int) != (n : Int)) = true := bne_iff_ne.2 (by omega)
    clear hne
    go_enter Tryd.func9, Tryd.ntmps9
    go_wp2
    go_ret
    exact ⟨⟨_, rfl, hv.out⟩, rfl⟩
  subst hne
  go_enter Tryd.func9, Tryd.ntmps9
  go_wp2
  go_loop [7, 9, 21] (fun t _ i => ∃ (k : Nat) (q : Int), k ≤ m ∧ i = .int .i64 k ∧ t = .int .i64 q ∧ TopI ls m k q) (fun _ _ i => m - (intOf i).toNat)
  case atStart => exact ⟨0, 0, Nat.zero_le _, rfl, rfl, ⟨fun _ h => absurd h (by omega), fun _ h => absurd h (by omega), .inl rfl, by omega⟩⟩
  case round =>
    obtain ⟨k, q, hk, rfl, rfl, hT⟩ := hrel
    by_cases hlt : k < m
    · obtain ⟨b, o, rfl, hab, hc⟩ := hrlH.out.int hlt
      have hm0 := hT.m0
      have hnx := Lib.hid hT.next
      clear hT
      obtain ⟨x, hx⟩ : ∃ x, ls.getD k 0 = x := ⟨_, rfl⟩
      rw [hx] at hc hnx
      have hxH := Lib.hid hx
      clear hx
      by_cases hx0 : x < 0
      · have hv := Lib.hid (badH.out fun q h => by have := (h.bd k (by rw [helH.out]; exact hlt)).1; rw [hxH.out] at this; omega)
        go_wp2
        go_ret
        exact ⟨⟨_, rfl, hv.out⟩, rfl⟩
      · have hx0' : 0 ≤ x := by omega
        clear hx0
        by_cases hx1 : (m : Int) ≤ x
        · have hv := Lib.hid (badH.out fun q h => by have := (h.bd k (by rw [helH.out]; exact hlt)).2; rw [hxH.out, helH.out] at this; omega)
          go_wp2
          go_ret
          exact ⟨⟨_, rfl, hv.out⟩, rfl⟩
        · have hx1' : x < m := by omega
          clear hx1
          have hw : IntKind.i64.wrap (x + 1) = x + 1 := IntWalk.i64_in _ (by omega)
          by_cases hg : q ≤ x
          · go_wp2
            go_round
            case rel => exact ⟨k + 1, x + 1, by omega, by go_num, by go_num, by have := hnx.out hx0' hx1'; rwa [if_pos hg] at this⟩
            case measure => simp [intOf]; omega
          · have hg' : x < q := by omega
            have h := Lib.hid (hnx.out hx0' hx1')
            have hgH := Lib.hid hg
            clear hg
            go_wp2
            go_round
            case rel => exact ⟨k + 1, q, by omega, by go_num, rfl, by have := h.out; rwa [if_neg hgH.out] at this⟩
            case measure => simp [intOf]; omega
    · obtain rfl : k = m := by omega
      have hm0 := hT.m0
      have hTH := Lib.hid hT
      clear hT
      go_wp2
      go_loop [10, 11, 12, 13] (fun b _ _ _ => ∃ c : Nat, (c : Int) ≤ q ∧ b = .int .i64 c ∧ ∀ u : Nat, u < c → lodL zs ls u k ≤ room) (fun b _ _ _ => q.toNat - (intOf b).toNat)
      case atStart => exact ⟨0, by omega, rfl, fun u hu => absurd hu (by omega)⟩
      case round =>
        obtain ⟨c, hcq, rfl, hld⟩ := hrel
        by_cases hlc : (c : Int) < q
        · have hldH := Lib.hid hld
          clear hld
          go_wp2
          go_loop [11, 12, 13, 46] (fun s _ _ i => ∃ j : Nat, j ≤ k ∧ i = .int .i64 j ∧ s = .int .i64 (lodL zs ls c j)) (fun _ _ _ i => k - (intOf i).toNat)
          case atStart => exact ⟨0, by omega, rfl, rfl⟩
          case round =>
            obtain ⟨j, hj, rfl, rfl⟩ := hrel
            by_cases hlj : j < k
            · obtain ⟨b, o, rfl, hab, hc⟩ := hrlH.out.int hlj
              obtain ⟨b2, o2, rfl, hab2, hc2⟩ := hrH.out.int hlj
              have hb := hbdH.out ls c j
              have hzj := hzH.out j
              have hst := Lib.hid (show lodL zs ls c (j + 1) = if ls.getD j 0 == (c : Int) then lodL zs ls c j + zs.getD j 0 else lodL zs ls c j from rfl)
              generalize lodL zs ls c j = y at *
              generalize zs.getD j 0 = z at *
              have hw : IntKind.i64.wrap (y + z) = y + z := IntWalk.i64_in _ (by omega)
              by_cases he : ls.getD j 0 = (c : Int)
              · rw [he] at hc
                have hst2 := Lib.hid (show lodL zs ls c (j + 1) = y + z by rw [hst.out, he]; simp)
                clear he
                go_wp2
                go_round
                case rel => exact ⟨j + 1, by omega, by go_num, by rw [hst2.out]⟩
                case measure => simp [intOf]; omega
              · have hst2 := Lib.hid (show lodL zs ls c (j + 1) = y by rw [hst.out, show (ls.getD j 0 == (c : Int)) = false from beq_eq_false_iff_ne.2 he]; rfl)
                have he2 : (ls.getD j 0 == (c : Int)) = false := beq_eq_false_iff_ne.2 he
                clear he
                generalize ls.getD j 0 = x at *
                go_wp2
                go_round
                case rel => exact ⟨j + 1, by omega, by go_num, by rw [hst2.out]⟩
                case measure => simp [intOf]; omega
            · obtain rfl : j = k := by omega
              by_cases hgt : room < lodL zs ls c j
              · have hv := Lib.hid (badH.out fun q' h => by
                  have h1 := hTH.out.hit
                  rcases h1 with e | ⟨i, hi, e⟩
                  · omega
                  · have h2 := h.top i (by rw [helH.out]; exact hi)
                    have h3 := h.ld c (by omega)
                    rw [helH.out] at h3
                    omega)
                go_wp2
                go_ret
                exact ⟨⟨_, rfl, hv.out⟩, rfl⟩
              · have hgt' : lodL zs ls c j ≤ room := by omega
                clear hgt
                generalize hy : lodL zs ls c j = y at *
                have hyH := Lib.hid hy
                clear hy
                go_wp2
                go_round
                case rel =>
                  refine ⟨c + 1, by omega, by go_num, fun u hu => ?_⟩
                  by_cases hu2 : u = c
                  · subst hu2; rw [hyH.out]; exact hgt'
                  · exact hldH.out u (by omega)
                case measure => simp [intOf]; omega
        · obtain rfl : q = (c : Int) := by omega
          have hv := Lib.hid (show BV zs ls room (c : Int) from .inr ⟨by omega, ⟨by rw [hellH.out, helH.out], by rw [helH.out]; exact hTH.out.bd, by rw [helH.out]; exact hTH.out.top, by rw [helH.out]; exact hTH.out.hit, fun u hu => by rw [helH.out]; exact hld u (by omega)⟩⟩)
          clear hld
          go_wp2
          go_ret
          exact ⟨⟨_, rfl, hv.out⟩, rfl⟩
end Go.Proofs.YtefkciboicmoaaaDoor
