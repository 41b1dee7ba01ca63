/- teamsterref.Unlike: how many numbers are in a list. -/
import Derived.Test.YtnkmfnnkophccaaDoorLabB
import Derived.Test.YtnkmfnnkophccaaDoorHas
namespace Go.Proofs.YtnkmfnnkophccaaDoor
open Go.RowKit

def unlK (zs : List Int) (k : Nat) : Nat := cntB k fun j => !(zs.take j).contains (zs.getD j 0)
set_option maxHeartbeats 400000 in
theorem unlike_any (A : Option Addr) (len cap : Nat) (zs : List Int) (w : World) (hz : Rd w A len 1 (ints .i64 zs)) (hl : len ≤ 9223372036854775807) (hcap : len ≤ cap) :
    Calls Tryd.prog 8 #[.slice A len cap] w fun e w' => e = .returned (.int .i64 ((unl zs : Nat) : Int)) ∧ w = w' := by
  have hzl : zs.length = len := by simpa [ints] using hz.1
  have hu := Lib.hid (show unl zs = unlK zs len by rw [← hzl]; rfl)
  have hzl := Lib.hid hzl
  have hzH := Lib.hid hz; clear hz
  go_enter Tryd.func8, Tryd.ntmps8
  go_wp2
  go_loop [3, 8] (fun c i => ∃ k : Nat, k ≤ len ∧ i = .int .i64 k ∧ c = .int .i64 ((unlK zs k : Nat) : Int)) (fun _ i => len - (intOf i).toNat)
  case atStart => exact ⟨0, Nat.zero_le _, rfl, rfl⟩
  case round =>
    obtain ⟨k, hk, rfl, rfl⟩ := hrel
    have hle : unlK zs k ≤ k := by unfold unlK cntB; exact Nat.le_trans (List.length_filter_le _ _) (by simp)
    by_cases hlt : k < len
    · have hHas := Lib.hid (fun W (h : w = W) => has_any (zs.getD k 0) A k cap (zs.take k) W (h ▸ hzH.out.part hk) (by omega))
      have hbs := Lib.hid (show hasB (zs.take k) (zs.getD k 0) = (zs.take k).contains (zs.getD k 0) by unfold hasB; rw [List.contains_eq_any_beq])
      have hsu := Lib.hid (show unlK zs (k + 1) = unlK zs k + if !(zs.take k).contains (zs.getD k 0) then 1 else 0 from cntB_succ k _)
      obtain ⟨b, o, rfl, hab, hc⟩ := hzH.out.int hlt
      rw [hbs.out] at hHas
      generalize (zs.take k).contains (zs.getD k 0) = bo at *
      generalize zs.getD k 0 = a at *
      generalize unlK zs k = u at *
      have hk0 : (0 : Int) ≤ (k : Int) := by omega
      have hkc : (k : Int) ≤ cap := by omega
      have hw1 : IntKind.i64.wrap ((u : Int) + 1) = (u : Int) + 1 := IntWalk.i64_in _ (by omega)
      cases bo
      · go_wp2_with fail
        refine (hHas.out _ rfl).mono ?_
        rintro e w3 ⟨rfl, rfl⟩
        go_wp2
        go_round
        case rel => exact ⟨k + 1, by omega, by go_num, by rw [hsu.out]; go_num⟩
        case measure => simp [intOf]; omega
      · go_wp2_with fail
        refine (hHas.out _ rfl).mono ?_
        rintro e w3 ⟨rfl, rfl⟩
        go_wp2
        go_round
        case rel => exact ⟨k + 1, by omega, by go_num, by rw [hsu.out]; go_num⟩
        case measure => simp [intOf]; omega
    · obtain rfl : len = k := by omega
      go_wp2
      go_ret
      exact ⟨by rw [hu.out]; rfl, rfl⟩
end Go.Proofs.YtnkmfnnkophccaaDoor
