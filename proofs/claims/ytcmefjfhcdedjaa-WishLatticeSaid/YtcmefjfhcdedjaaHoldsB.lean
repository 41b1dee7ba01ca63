/- wish.Holds. -/
import Derived.Test.YtcmefjfhcdedjaaHolds
namespace Go.Proofs.Ytcmefjfhcdedjaa
open Go.RowKit

def maskP (zs : List Int) : Nat → Nat
  | 0 => 0
  | k + 1 => if 0 ≤ zs.getD k 0 then maskP zs k ||| 2 ^ (zs.getD k 0).toNat else maskP zs k
theorem maskP_bit (zs : List Int) (x : Nat) : ∀ k, k ≤ zs.length → (maskP zs k).testBit x = hasB (zs.take k) x
  | 0, _ => by simp [maskP, hasB]
  | k + 1, hk => by
    have ih := maskP_bit zs x k (by omega)
    have ht : zs.take (k + 1) = zs.take k ++ [zs.getD k 0] := by
      rw [List.take_add_one]
      simp [List.getD, show k < zs.length by omega]
    have hh : hasB (zs.take (k + 1)) x = (hasB (zs.take k) x || ((x : Int) == zs.getD k 0)) := by
      rw [ht]
      unfold hasB
      rw [List.any_append]
      simp
    rw [hh]
    unfold maskP
    split
    · rw [Nat.testBit_or, ih, Nat.testBit_two_pow]
      congr 1
      rw [Bool.eq_iff_iff, decide_eq_true_iff, beq_iff_eq]
      omega
    · rw [ih, show ((x : Int) == zs.getD k 0) = false by rw [beq_eq_false_iff_ne]; omega, Bool.or_false]
theorem maskP_lt (zs : List Int) : ∀ k, (∀ q, q < k → zs.getD q 0 < 8) → maskP zs k < 256
  | 0, _ => by simp [maskP]
  | k + 1, h => by
    have ih := maskP_lt zs k fun q hq => h q (by omega)
    have h0 := h k (by omega)
    unfold maskP
    split
    · exact Nat.or_lt_two_pow (n := 8) ih (Nat.pow_lt_pow_right (by omega) (by omega))
    · exact ih
def okmAt (n : Nat) (zs : List Int) (k : Nat) : Prop := -1 ≤ zs.getD k 0 ∧ zs.getD k 0 < n ∧ (0 ≤ zs.getD k 0 → hasB (zs.take k) (zs.getD k 0) = false)
theorem hasB_iff {zs : List Int} {k : Nat} {x : Int} (hk : k ≤ zs.length) : hasB (zs.take k) x = true ↔ ∃ q, q < k ∧ zs.getD q 0 = x := by
  unfold hasB
  rw [List.any_eq_true]
  constructor
  · rintro ⟨y, hy, he⟩
    obtain ⟨q, hq, rfl⟩ := List.mem_take_iff_getElem.1 hy
    refine ⟨q, by omega, ?_⟩
    simp at he
    simp [List.getD, show q < zs.length by omega, he]
  · rintro ⟨q, hq, rfl⟩
    refine ⟨zs.getD q 0, ?_, by simp⟩
    rw [List.mem_take_iff_getElem]
    exact ⟨q, by omega, by simp [List.getD, show q < zs.length by omega]⟩
theorem okm_iff {n : Nat} {zs : List Int} (hl : zs.length = n) : OkM n (mAt zs) ↔ ∀ k, k < n → okmAt n zs k := by
  constructor
  · intro h k hk
    refine ⟨(h.1 k hk).1, (h.1 k hk).2, fun h0 => ?_⟩
    cases hb : hasB (zs.take k) (zs.getD k 0) with
    | false => rfl
    | true =>
      obtain ⟨q, hq, he⟩ := (hasB_iff (by omega)).1 hb
      have := h.2 q k (by omega) hk he (by unfold mAt; omega)
      omega
  · intro h
    refine ⟨fun i hi => ⟨(h i hi).1, (h i hi).2.1⟩, fun i i' hi hi' e h0 => ?_⟩
    unfold mAt at e h0
    rcases Nat.lt_trichotomy i i' with h1 | h1 | h1
    · have := (h i' hi').2.2 (by omega)
      rw [(hasB_iff (by omega)).2 ⟨i, h1, e⟩] at this
      cases this
    · exact h1
    · have := (h i hi).2.2 (by omega)
      rw [(hasB_iff (by omega)).2 ⟨i', h1, e.symm⟩] at this
      cases this
def HPost (l r : List Rw) (nz : Nat) (zs : List Int) (e : Ending) : Prop := ∃ (b : Bool) (c : Int), e = .returned (.tuple #[.bool b, .int .i64 c]) ∧ (wchk l r ≠ 0 → c ≠ 0) ∧ (wchk l r = 0 → ((c = 0 ∧ b = true) ↔ (nz = l.length ∧ Stab l.length (rowF l) (rowF r) (mAt zs))))
theorem hpost_no {l r : List Rw} {nz : Nat} {zs : List Int} (h : wchk l r = 0) (c : Int) (hno : ¬ (nz = l.length ∧ Stab l.length (rowF l) (rowF r) (mAt zs))) : HPost l r nz zs (.returned (.tuple #[.bool false, .int .i64 c])) :=
  ⟨false, c, rfl, fun h' => absurd h h', fun _ => by simp only [Bool.false_eq_true, and_false, false_iff]; exact hno⟩
theorem Holds_bad (A : Option Addr) (n c : Nat) (l : List Rw) (B : Option Addr) (m d : Nat) (r : List Rw) (Z : Value) (nz : Nat) (zs : List Int) (w : World) (hL : RdR w A n l) (hR : RdR w B m r) (hn : n ≤ 9223372036854775807) (hm : m ≤ 9223372036854775807) (hc : wchk l r ≠ 0) :
    Calls Try.prog 11 #[.agg #[.slice A n c, .slice B m d], Z] w fun e w' => HPost l r nz zs e ∧ Below w.heap.size w w' := by
  have HC := Lib.hid (wishCheck_any A n c l B m d r _ (hL.alloc (.cells #[.slice A n c, .slice B m d] 24)) (hR.alloc (.cells #[.slice A n c, .slice B m d] 24)) hn hm)
  have hcb : (wchk l r != 0) = true := by simpa using hc
  have hcH := Lib.hid hc
  clear hL hR hc
  go_enter Try.func11, Try.ntmps11
  go_wp2_with fail
  refine HC.out.mono ?_
  rintro e w1 ⟨rfl, hb⟩
  have hbb := ((Below.refl _ w).alloc (Nat.le_refl _) (.cells #[.slice A n c, .slice B m d] 24)).trans (hb.mono (by simp))
  clear HC hb
  go_wp2
  go_ret2
  exact ⟨⟨false, _, rfl, fun _ => hcH.out, fun h => absurd h hcH.out⟩, hbb⟩
set_option maxHeartbeats 3200000 in
set_option maxRecDepth 100000 in
theorem Holds_ok (A : Option Addr) (n c : Nat) (l : List Rw) (B : Option Addr) (d : Nat) (r : List Rw) (Z : Option Addr) (nz cz : Nat) (zs : List Int) (w : World) (hL : RdR w A n l) (hR : RdR w B n r) (hz : Rd w Z nz 1 (ints .i64 zs)) (hc : wchk l r = 0) :
    Calls Try.prog 11 #[.agg #[.slice A n c, .slice B n d], .slice Z nz cz] w fun e w' => HPost l r nz zs e ∧ Below w.heap.size w w' := by
  obtain ⟨h8, _, _, _⟩ := wchk_ok hc
  rw [hL.1] at h8
  have hzl : zs.length = nz := by simpa [ints] using hz.1
  have HC := Lib.hid (wishCheck_any A n c l B n d r _ (hL.alloc (.cells #[.slice A n c, .slice B n d] 24)) (hR.alloc (.cells #[.slice A n c, .slice B n d] 24)) (by omega) (by omega))
  rw [hc] at HC
  have hlH := Lib.hid hL.1
  have hLH := Lib.hid hL; have hRH := Lib.hid hR; have hzH := Lib.hid hz; have hcH := Lib.hid hc; have hzlH := Lib.hid hzl
  have g0 : (w.alloc (.cells #[.slice A n c, .slice B n d] 24)).cell? ⟨w.heap.size, 0, none⟩ = some (.slice A n c) := by go_simp
  have g1 : (w.alloc (.cells #[.slice A n c, .slice B n d] 24)).cell? ⟨w.heap.size, 1, none⟩ = some (.slice B n d) := by go_simp
  have gs : (w.alloc (.cells #[.slice A n c, .slice B n d] 24)).heap.size = w.heap.size + 1 := by simp
  have gb := (Below.refl _ w).alloc (Nat.le_refl _) (.cells #[.slice A n c, .slice B n d] 24)
  clear hL hR hz hc hzl
  go_enter Try.func11, Try.ntmps11
  go_wp2_with fail
  generalize w.alloc (.cells #[.slice A n c, .slice B n d] 24) = wg at *
  refine HC.out.mono ?_
  rintro e w1 ⟨rfl, hb1⟩
  have c0 := below_cell hb1 (by omega) g0
  have c1 := below_cell hb1 (by omega) g1
  have hbb := Lib.hid (gb.trans (hb1.mono (by omega)))
  clear HC g0 g1 gs gb hb1
  by_cases hnz : n = nz
  · subst hnz
    have hnn : ((n : Int) != (n : Int)) = false := by simp
    have hnn0 := Lib.hid (fun (h : ¬ OkM n (mAt zs)) c => hpost_no (nz := n) (zs := zs) hcH.out c fun ⟨_, hs⟩ => h (by rw [← hlH.out]; exact hs.ok))
    go_wp2
    go_loop [8, 25] (fun s i => ∃ k : Nat, k ≤ n ∧ i = .int .i64 k ∧ s = .int .i64 ((maskP zs k : Nat) : Int) ∧ ∀ q, q < k → okmAt n zs q) (fun _ i => n - (intOf i).toNat)
    case atStart => exact ⟨0, Nat.zero_le _, rfl, rfl, fun q hq => absurd hq (by omega)⟩
    case round =>
      obtain ⟨k, hk, rfl, rfl, hok⟩ := hrel
      have hokH := Lib.hid hok
      by_cases hlt : k < n
      · obtain ⟨bz, oz, rfl, hbz, hcz⟩ := (hzH.out.later hbb.out).int hlt
        have hml := maskP_lt zs k fun q hq => by have := (hok q hq).2.1; omega
        have hmb := Lib.hid (fun x => maskP_bit zs x k (by rw [hzlH.out]; omega))
        have hmn := Lib.hid (show maskP zs (k + 1) = if 0 ≤ zs.getD k 0 then maskP zs k ||| 2 ^ (zs.getD k 0).toNat else maskP zs k from rfl)
        have hnx : okmAt n zs k → ∀ q, q < k + 1 → okmAt n zs q := fun h q hq => by
          by_cases hqk : q = k
          · subst hqk; exact h
          · exact hokH.out q (by omega)
        have hnx := Lib.hid hnx
        have hbad : ¬ okmAt n zs k → HPost l r n zs (.returned (.tuple #[.bool false, .int .i64 2])) := fun h => hnn0.out (fun ho => h ((okm_iff hzlH.out).1 ho k hlt)) 2
        have hbad := Lib.hid hbad
        have hoka := Lib.hid (show okmAt n zs k ↔ (-1 ≤ zs.getD k 0 ∧ zs.getD k 0 < n ∧ (0 ≤ zs.getD k 0 → hasB (zs.take k) (zs.getD k 0) = false)) from Iff.rfl)
        clear hok
        generalize zs.getD k 0 = z at *
        by_cases h0 : z < -1
        · have hres := Lib.hid (hbad.out fun h => by have := (hoka.out.1 h).1; omega)
          clear hnx hbad hoka
          go_wp2
          go_ret2
          exact ⟨hres.out, hbb.out⟩
        · by_cases h1 : (n : Int) ≤ z
          · have hres := Lib.hid (hbad.out fun h => by have := (hoka.out.1 h).2.1; omega)
            clear hnx hbad hoka
            go_wp2
            go_ret2
            exact ⟨hres.out, hbb.out⟩
          · by_cases h2 : 0 ≤ z
            · obtain ⟨x, rfl⟩ := Int.eq_ofNat_of_zero_le h2
              have hbit := bit_i64W (maskP zs k) x (by omega)
              rw [hmb.out x] at hbit
              cases hh : hasB (zs.take k) (x : Int)
              · rw [hh] at hbit
                simp only [Bool.false_eq_true, if_false] at hbit
                have hres := Lib.hid (hnx.out (hoka.out.2 ⟨by omega, by omega, fun _ => hh⟩))
                have hw2 := two_i64W x (by omega)
                have hor : bits .or .i64 ((maskP zs k : Nat) : Int) ((2 : Int) ^ x) = ((maskP zs k ||| 2 ^ x : Nat) : Int) := by
                  have := i64_orW (maskP zs k) (2 ^ x) (by omega) (by have : 2 ^ x ≤ 2 ^ 8 := Nat.pow_le_pow_right (by omega) (by omega); omega)
                  rw [← this]; simp
                clear hnx hbad hoka hh hmb
                generalize maskP zs k = mk at *
                go_wp2
                go_round
                case rel => exact ⟨k + 1, by omega, by go_num, by rw [hmn.out, if_pos h2]; simp, hres.out⟩
                case measure => simp [intOf]; omega
              · rw [hh] at hbit
                simp only [if_true] at hbit
                have hres := Lib.hid (hbad.out fun h => by have := (hoka.out.1 h).2.2 h2; rw [hh] at this; cases this)
                clear hnx hbad hoka hh hmb
                generalize maskP zs k = mk at *
                go_wp2
                go_ret2
                exact ⟨hres.out, hbb.out⟩
            · have hres := Lib.hid (hnx.out (hoka.out.2 ⟨by omega, by omega, fun h => absurd h h2⟩))
              clear hnx hbad hoka hmb
              go_wp2
              go_round
              case rel => exact ⟨k + 1, by omega, by go_num, by rw [hmn.out, if_neg h2], hres.out⟩
              case measure => simp [intOf]; omega
      · have hokM : OkM n (mAt zs) := (okm_iff hzlH.out).2 fun i hi => hok i (by omega)
        have HH := Lib.hid (holds_any A n c l B d r Z cz zs w1 (hLH.out.later hbb.out) (hRH.out.later hbb.out) (hzH.out.later hbb.out) hcH.out hokM)
        have hokMH := Lib.hid hokM
        clear hok hokH hokM hnn0
        go_wp2_with fail
        refine HH.out.mono ?_
        rintro e w2 ⟨⟨b, rfl, hb⟩, hb2⟩
        have hbe := Lib.hid (hbb.out.trans (hb2.mono hbb.out.size))
        have hbI := Lib.hid hb
        clear HH hb2 hb
        go_wp2
        go_ret2
        refine ⟨⟨b, 0, rfl, fun h => absurd hcH.out h, fun _ => ?_⟩, hbe.out⟩
        rw [hlH.out]
        constructor
        · rintro ⟨_, hb⟩
          obtain ⟨h1, h2⟩ := hbI.out.1 hb
          exact ⟨rfl, hokMH.out, h1, h2⟩
        · rintro ⟨_, hs⟩
          exact ⟨rfl, hbI.out.2 ⟨hs.acc, hs.nob⟩⟩
  · have hres := Lib.hid (hpost_no (nz := nz) (zs := zs) hcH.out 3 fun ⟨h, _⟩ => hnz (by rw [h, hlH.out]))
    have hnn : ((nz : Int) != (n : Int)) = true := by simp; omega
    clear hnz
    go_wp2
    go_ret2
    exact ⟨hres.out, hbb.out⟩
end Go.Proofs.Ytcmefjfhcdedjaa
