/- teamsterref.Simple, where it says yes. -/
import Derived.Test.YtcbmbofbiodhmaaDoorRefNearA
import Derived.Test.YtcbmbofbiodhmaaDoorHas
import Derived.Test.YtcbmbofbiodhmaaDoorBlk
import Derived.Test.YtcbmbofbiodhmaaDoorNearGr
import Derived.Test.YtcbmbofbiodhmaaDoorEachBits
namespace Go.Proofs.YtcbmbofbiodhmaaDoor
open Go.RowKit Go.Shelf
attribute [local go_sem] Oper.semAt_some

theorem five (b1 b2 h1 h2 b3 : Bool) (h : ¬ (b1 = true ∧ b2 = true ∧ h1 = false ∧ h2 = false ∧ b3 = false)) : b1 = false ∨ (b1 = true ∧ b2 = false) ∨ (b1 = true ∧ b2 = true ∧ h1 = true) ∨ (b1 = true ∧ b2 = true ∧ h1 = false ∧ h2 = true) ∨ (b1 = true ∧ b2 = true ∧ h1 = false ∧ h2 = false ∧ b3 = true) := by
  cases b1 <;> cases b2 <;> cases h1 <;> cases h2 <;> cases b3 <;> simp at h ⊢
set_option maxHeartbeats 1600000 in
theorem simple_any (N i : Nat) (A : Option Addr) (len cap : Nat) (es : List E) (A2 : Option Addr) (len2 cap2 : Nat) (zs : List Int) (w : World) (hr : Rd w A len 3 (ps3 .i64 .i64 .i64 es)) (hz : Rd w A2 len2 1 (ints .i64 zs)) (hl : len ≤ 45) (hl2 : len2 ≤ 9223372036854775807) (hN : N ≤ 10) (hok : ∀ e ∈ es, okE N e)
    (hT : ∀ a b, a < N → b < a → ¬ (adj es i a = true ∧ adj es i b = true ∧ hasB zs (a : Int) = false ∧ hasB zs (b : Int) = false ∧ adj es a b = false)) :
    Calls Tryd.prog 9 #[.agg #[.int .i64 N, .slice A len cap], .int .i64 (i : Int), .slice A2 len2 cap2] w fun e w' => e = .returned (.bool true) ∧ Below w.heap.size w w' := by
  have gb := (Below.refl _ w).alloc (Nat.le_refl _) (.cells #[.int .i64 N, .slice A len cap] 24)
  have bG := Blk.new w 24 #[.int .i64 N, .slice A len cap]
  have hsz : (w.alloc (.cells #[.int .i64 N, .slice A len cap] 24)).heap.size = w.heap.size + 1 := by simp
  have HNr := Lib.hid (fun (a b : Nat) W (h : Below w.heap.size w W) => refNear_any N a b A len cap es W (hr.later h) hl hok)
  have HHs := Lib.hid (fun (a : Nat) W (h : Below w.heap.size w W) => has_any (a : Int) A2 len2 cap2 zs W (hz.later h) hl2)
  have hTH := Lib.hid hT
  have gbH := Lib.hid gb; have bGH := Lib.hid bG
  clear hr hz hok hT gb bG
  go_enter Tryd.func9, Tryd.ntmps9
  go_wp2
  generalize w.alloc (.cells #[.int .i64 N, .slice A len cap] 24) = w0 at *
  go_loopw [7] (fun av wr => ∃ a : Nat, a ≤ N ∧ av = .int .i64 a ∧ Below w.heap.size w wr ∧ Blk wr w.heap.size 24 #[.int .i64 N, .slice A len cap]) (fun av _ => N - (intOf av).toNat)
  case atStart => exact ⟨0, by omega, rfl, gbH.out, bGH.out⟩
  case round =>
    obtain ⟨a, ha, rfl, hb, hB⟩ := hrel
    obtain ⟨wo, rfl⟩ : ∃ wo : World, wo = wr := ⟨_, rfl⟩
    have q0 := hB.cell (j := 0) (v := .int .i64 (N : Int)) rfl
    have hbH := Lib.hid hb; have hBH := Lib.hid hB
    clear hb hB
    by_cases haN : a < N
    · have haN' : (a : Int) < N := by omega
      go_wp2
      go_loopw [8] (fun bv wr => ∃ b : Nat, b ≤ a ∧ bv = .int .i64 b ∧ Below w.heap.size w wr ∧ Blk wr w.heap.size 24 #[.int .i64 N, .slice A len cap]) (fun bv _ => a - (intOf bv).toNat)
      case atStart => exact ⟨0, by omega, rfl, hbH.out, hBH.out⟩
      case round =>
        clear q0
        obtain ⟨b, hb, rfl, hbb, hB⟩ := hrel
        obtain ⟨wi, rfl⟩ : ∃ wi : World, wi = wr := ⟨_, rfl⟩
        have q0 := hB.cell (j := 0) (v := .int .i64 (N : Int)) rfl
        have q1 := hB.cell (j := 1) (v := .slice A len cap) rfl
        have hbbH := Lib.hid hbb; have hBiH := Lib.hid hB
        clear hbb hB
        by_cases hba : b < a
        · have hba' : (b : Int) < a := by omega
          have h5 := five (adj es i a) (adj es i b) (hasB zs (a : Int)) (hasB zs (b : Int)) (adj es a b) (hTH.out a b haN hba)
          have HN1 := Lib.hid (HNr.out i a wi hbbH.out)
          rcases h5 with e1 | ⟨e1, e2⟩ | ⟨e1, e2, e3⟩ | ⟨e1, e2, e3, e4⟩ | ⟨e1, e2, e3, e4, e5⟩
          all_goals
            rw [e1] at HN1
            clear e1
            go_wp2_with fail
            refine HN1.out.mono ?_
            rintro _ wa ⟨rfl, hba1⟩
            clear HN1
            have hb1 := hbbH.out.trans (hba1.mono hbbH.out.size)
            have hB1 := hBiH.out.below hba1 hBiH.out.lt
            have q0 := hB1.cell (j := 0) (v := .int .i64 (N : Int)) rfl
            have q1 := hB1.cell (j := 1) (v := .slice A len cap) rfl
            have hb1H := Lib.hid hb1; have hB1H := Lib.hid hB1
            clear hba1 hb1 hB1
          · clear q0 q1
            go_wp2
            go_roundw
            case rel => exact ⟨b + 1, by omega, by go_num, hb1H.out, hB1H.out⟩
            case measure => simp [intOf]; omega
          all_goals
            have HN2 := Lib.hid (HNr.out i b wa hb1H.out)
            rw [e2] at HN2
            clear e2
            go_wp2_with fail
            refine HN2.out.mono ?_
            rintro _ wb ⟨rfl, hba2⟩
            clear HN2
            have hb2 := hb1H.out.trans (hba2.mono hb1H.out.size)
            have hB2 := hB1H.out.below hba2 hB1H.out.lt
            have q0 := hB2.cell (j := 0) (v := .int .i64 (N : Int)) rfl
            have q1 := hB2.cell (j := 1) (v := .slice A len cap) rfl
            have hb2H := Lib.hid hb2; have hB2H := Lib.hid hB2
            clear hba2 hb2 hB2
          · clear q0 q1
            go_wp2
            go_roundw
            case rel => exact ⟨b + 1, by omega, by go_num, hb2H.out, hB2H.out⟩
            case measure => simp [intOf]; omega
          all_goals
            have HS1 := Lib.hid (HHs.out a wb hb2H.out)
            rw [e3] at HS1
            clear e3
            go_wp2_with fail
            refine HS1.out.mono ?_
            rintro _ _ ⟨rfl, rfl⟩
            clear HS1
          · clear q0 q1
            go_wp2
            go_roundw
            case rel => exact ⟨b + 1, by omega, by go_num, hb2H.out, hB2H.out⟩
            case measure => simp [intOf]; omega
          all_goals
            have HS2 := Lib.hid (HHs.out b wb hb2H.out)
            rw [e4] at HS2
            clear e4
            go_wp2_with fail
            refine HS2.out.mono ?_
            rintro _ _ ⟨rfl, rfl⟩
            clear HS2
          · clear q0 q1
            go_wp2
            go_roundw
            case rel => exact ⟨b + 1, by omega, by go_num, hb2H.out, hB2H.out⟩
            case measure => simp [intOf]; omega
          · have HN3 := Lib.hid (HNr.out a b wb hb2H.out)
            rw [e5] at HN3
            clear e5
            go_wp2_with fail
            refine HN3.out.mono ?_
            rintro _ wc ⟨rfl, hba3⟩
            clear HN3
            have hb3H := Lib.hid (hb2H.out.trans (hba3.mono hb2H.out.size))
            have hB3H := Lib.hid (hB2H.out.below hba3 hB2H.out.lt)
            clear q0 q1 hba3
            go_wp2
            go_roundw
            case rel => exact ⟨b + 1, by omega, by go_num, hb3H.out, hB3H.out⟩
            case measure => simp [intOf]; omega
        · obtain rfl : b = a := by omega
          clear q0 q1
          go_wp2
          go_roundw
          case rel => exact ⟨b + 1, by omega, by go_num, hbbH.out, hBiH.out⟩
          case measure => simp [intOf]; omega
    · obtain rfl : a = N := by omega
      go_wp2
      go_ret
      exact ⟨rfl, hbH.out⟩
end Go.Proofs.YtcbmbofbiodhmaaDoor
