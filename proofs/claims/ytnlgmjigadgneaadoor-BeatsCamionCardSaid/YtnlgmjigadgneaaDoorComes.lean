/- teamsterkeep.comes: from one player, to whom one comes by those that are beaten. -/
import Derived.Test.YtnlgmjigadgneaaDoorCamionLaw
namespace Go.Proofs.YtnlgmjigadgneaaDoor
open Go.RowKit

structure CI (ts : List Nat) (i q C : Nat) : Prop where
  lt : C < 2 ^ ts.length
  snd : ∀ S, Closed ts S → S i → ∀ m, C.testBit m = true → S m
  cmp : ∀ f, Way ts i f → ∀ s, s ≤ q → C.testBit (f s) = true
structure CJ (ts : List Nat) (i q j C : Nat) : Prop where
  ci : CI ts i q C
  nx : ∀ f, Way ts i f → f q < j → C.testBit (f (q + 1)) = true
theorem CI.beg {ts : List Nat} {i : Nat} (hi : i < ts.length) : CI ts i 0 (2 ^ i) where
  lt := Nat.pow_lt_pow_right (by omega) hi
  snd := fun S _ h m hm => by
    rw [Nat.testBit_two_pow] at hm
    have := of_decide_eq_true hm
    subst this; exact h
  cmp := fun f hf s hs => by
    obtain rfl : s = 0 := by omega
    rw [hf.beg, Nat.testBit_two_pow]; simp
theorem CJ.beg {ts : List Nat} {i q C : Nat} (h : CI ts i q C) : CJ ts i q 0 C := ⟨h, fun _ _ h => absurd h (by omega)⟩
theorem CJ.fin {ts : List Nat} {i q C : Nat} (h : CJ ts i q ts.length C) : CI ts i (q + 1) C where
  lt := h.ci.lt
  snd := h.ci.snd
  cmp := fun f hf s hs => by
    rcases Nat.lt_or_ge s (q + 1) with h1 | h1
    · exact h.ci.cmp f hf s (by omega)
    · obtain rfl : s = q + 1 := by omega
      exact h.nx f hf (hf.lt q)
theorem CJ.yes {ts : List Nat} {i q j C : Nat} (hlt : ∀ i, i < ts.length → ts.getD i 0 < 2 ^ ts.length) (hj : j < ts.length) (h : CJ ts i q j C) (hb : C.testBit j = true) : CJ ts i q (j + 1) (C ||| ts.getD j 0) where
  ci := {
    lt := Nat.or_lt_two_pow h.ci.lt (hlt j hj)
    snd := fun S hS h0 m hm => by
      rw [Nat.testBit_or] at hm
      cases h1 : C.testBit m
      · rw [h1, Bool.false_or] at hm
        have hml : m < ts.length := lt_bitN (hlt j hj) hm
        exact hS j m hj hml (h.ci.snd S hS h0 j hb) hm
      · exact h.ci.snd S hS h0 m h1
    cmp := fun f hf s hs => by rw [Nat.testBit_or, h.ci.cmp f hf s hs]; rfl }
  nx := fun f hf hq => by
    rw [Nat.testBit_or]
    rcases Nat.lt_or_ge (f q) j with h1 | h1
    · rw [h.nx f hf h1]; rfl
    · have e : f q = j := by omega
      have := hf.step q
      rw [e] at this
      unfold beat at this
      rw [this]; simp
theorem CJ.no {ts : List Nat} {i q j C : Nat} (h : CJ ts i q j C) (hb : C.testBit j = false) : CJ ts i q (j + 1) C where
  ci := h.ci
  nx := fun f hf hq => by
    rcases Nat.lt_or_ge (f q) j with h1 | h1
    · exact h.nx f hf h1
    · have e : f q = j := by omega
      have := h.ci.cmp f hf q (Nat.le_refl _)
      rw [e, hb] at this; cases this
set_option maxHeartbeats 1600000 in
set_option maxRecDepth 100000 in
theorem comes_any (A : Option Addr) (cap i : Nat) (ts : List Nat) (w : World) (hr : Rd w A ts.length 1 (wds ts)) (hT : Tour ts) (hi : i < ts.length) :
    Calls Tryd.prog 13 #[.slice A ts.length cap, .int .i64 (i : Int)] w fun e w' => (∃ C : Nat, e = .returned (.int .u32 (C : Int)) ∧ CI ts i ts.length C) ∧ w = w' := by
  have hlen := hT.len
  have hp8 : 2 ^ ts.length ≤ 2 ^ 8 := Nat.pow_le_pow_right (by omega) hlen
  have hltH := Lib.hid hT.lt
  have hrH := Lib.hid hr
  have hpi : (2 : Int) ^ i % 4294967296 = ((2 ^ i : Nat) : Int) := two_pow_u32 i (by omega)
  have hi0 : (0 : Int) ≤ i := by omega
  have hi32 : (i : Int) < 32 := by omega
  have hbeg := Lib.hid (CI.beg (ts := ts) hi)
  clear hr hT
  generalize hPI : 2 ^ i = pi at *
  clear hPI
  go_enter Tryd.func13, Tryd.ntmps13
  go_wp2
  go_loop [5, 6, 7] (fun v k _ => ∃ (q C : Nat), q ≤ ts.length ∧ k = .int .i64 q ∧ v = .int .u32 C ∧ CI ts i q C) (fun _ k _ => ts.length - (intOf k).toNat)
  case atStart => exact ⟨0, pi, Nat.zero_le _, rfl, by rw [hpi], hbeg.out⟩
  case round =>
    obtain ⟨q, C, hq, rfl, rfl, hC⟩ := hrel
    by_cases hlt : q < ts.length
    · have hJ := Lib.hid (CJ.beg hC)
      clear hC
      go_wp2
      go_loop [5, 7] (fun v k => ∃ (j C : Nat), j ≤ ts.length ∧ k = .int .i64 j ∧ v = .int .u32 C ∧ CJ ts i q j C) (fun _ k => ts.length - (intOf k).toNat)
      case atStart => exact ⟨0, C, Nat.zero_le _, rfl, rfl, hJ.out⟩
      case round =>
        clear hJ
        obtain ⟨j, C, hj, rfl, rfl, hC⟩ := hrel
        have hCl := hC.ci.lt
        by_cases hlt2 : j < ts.length
        · obtain ⟨b, o, rfl, hab, hc⟩ := hrH.out.wd hlt2
          have hy := hltH.out j hlt2
          have hB := Lib.hid (bit_any C j w (by omega) (by omega))
          have hor := u32_or_nat C (ts.getD j 0) (by omega) (by omega)
          cases hb : C.testBit j
          · rw [hb] at hB
            have hn := Lib.hid (hC.no hb)
            clear hC hb hor
            generalize ts.getD j 0 = y at *
            go_wp2_with fail
            refine hB.out.mono ?_
            rintro e w3 ⟨rfl, rfl⟩
            go_wp2
            go_round
            case rel => exact ⟨j + 1, C, by omega, by go_num, rfl, hn.out⟩
            case measure => simp [intOf]; omega
          · rw [hb] at hB
            have hn := Lib.hid (hC.yes hltH.out hlt2 hb)
            clear hC hb
            generalize ts.getD j 0 = y at *
            go_wp2_with fail
            refine hB.out.mono ?_
            rintro e w3 ⟨rfl, rfl⟩
            go_wp2
            go_round
            case rel => exact ⟨j + 1, C ||| y, by omega, by go_num, by first | rfl | rw [hor], hn.out⟩
            case measure => simp [intOf]; omega
        · obtain rfl : ts.length = j := by omega
          have hn := Lib.hid hC.fin
          clear hC
          go_wp2
          go_round
          case rel => exact ⟨q + 1, by omega, by omega, C, rfl, hn.out⟩
          case measure => simp [intOf]; omega
    · obtain rfl : ts.length = q := by omega
      have hCH := Lib.hid hC
      clear hC
      go_wp2
      go_ret
      exact ⟨⟨C, rfl, hCH.out⟩, rfl⟩
end Go.Proofs.YtnlgmjigadgneaaDoor
