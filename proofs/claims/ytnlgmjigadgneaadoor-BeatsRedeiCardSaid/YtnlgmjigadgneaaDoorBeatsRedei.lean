/- BeatsRedei: the walk. -/
import Derived.Test.YtnlgmjigadgneaaDoorRowW
namespace Go.Proofs.YtnlgmjigadgneaaDoor
open Go.RowKit Go.Shelf

open Classical in
set_option maxHeartbeats 3200000 in
set_option maxRecDepth 100000 in
theorem beatsRedei_any (A : Option Addr) (len cap : Nat) (ts : List Nat) (w : World) (hr : Rd w A len 1 (wds ts)) (hl : len ≤ 9223372036854775807) (hwf : ∀ x ∈ ts, x < 4294967296) (htb : Tb w) (hg : 0 < w.heap.size) :
    Calls Tryd.prog 4 #[.slice A len cap] w fun e w' => e = .returned (.bool true) ∧ Below w.heap.size w w' := by
  by_cases hT : Tour ts
  · have hel : ts.length = len := by simpa [wds] using hr.1
    have hlen : len ≤ 8 := by rw [← hel]; exact hT.len
    have HR := Lib.hid (row_ok A len cap ts w hr hwf hT htb hg)
    have hrH := Lib.hid hr; have hTH := Lib.hid hT; have hwfH := Lib.hid hwf
    clear hr hwf htb hT hel
    go_enter Tryd.func4, Tryd.ntmps4
    go_wp2_with fail
    refine HR.out.mono ?_
    rintro e w1 ⟨⟨A', c', R, rfl, hR, hRc, hp, hf⟩, hb1⟩
    have HP := Lib.hid (players_any A len cap ts w1 (hrH.out.later hb1) hl hwfH.out)
    rw [decide_eq_true hTH.out] at HP
    have hRH := Lib.hid hR; have hfH := Lib.hid hf; have hpH := Lib.hid hp; have hb1H := Lib.hid hb1
    clear HR hR hf hp hb1
    go_wp2_with fail
    refine HP.out.mono ?_
    rintro e w2 ⟨rfl, hb2⟩
    have hR2 := hRH.out.later hb2
    have HE := Lib.hid (eachL_any (len : Int) A' len c' (natI R) w2 hR2 (by omega) hRc)
    rw [show eachB (len : Int) (natI R) = true from (eachB_iff _ _).2 ⟨R, hpH.out, rfl⟩] at HE
    have hbb := hb1H.out.trans (hb2.mono hb1H.out.size)
    have hr2 := Lib.hid (hrH.out.later hbb)
    have hR2H := Lib.hid hR2
    clear HP hb2 hRH hR2
    go_wp2_with fail
    refine HE.out.mono ?_
    rintro e w3 ⟨rfl, rfl⟩
    have hfi := Lib.hid (from_idx R none hfH.out)
    have hRl : R.length = len := by simpa using hpH.out.length_eq
    have hRlH := Lib.hid hRl
    have hlt := Lib.hid (fun k (hk : k < len) => show R.getD k 0 < len by
      have := hpH.out.subset (show R.getD k 0 ∈ R by rw [List.getD, List.getElem?_eq_getElem (show k < R.length by rw [hRlH.out]; exact hk)]; exact List.getElem_mem _)
      simpa using this)
    clear HE hRl
    go_wp2
    go_loopw [5] (fun i wr => ∃ k : Nat, 1 ≤ k ∧ i = .int .i64 k ∧ (k ≤ len ∨ k = 1) ∧ Below w2.heap.size w2 wr) (fun i _ => len - (intOf i).toNat)
    case atStart => exact ⟨1, Nat.le_refl _, rfl, .inr rfl, Below.refl _ _⟩
    case round =>
      obtain ⟨k, hk1, rfl, hk, hbr⟩ := hrel
      have hbrH := Lib.hid hbr
      clear hbr
      by_cases hlt2 : k < len
      · obtain ⟨q, rfl⟩ : ∃ q, k = q + 1 := ⟨k - 1, by omega⟩
        obtain ⟨gR, oR, rfl, hgR, hcq⟩ := (hR2H.out.later hbrH.out).int (show q < len by omega)
        obtain ⟨_, _, he, _, hcq1⟩ := (hR2H.out.later hbrH.out).int hlt2
        cases he
        rw [natI_get] at hcq hcq1
        have ha := hlt.out q (by omega)
        have hb := hlt.out (q + 1) hlt2
        obtain ⟨gt, ot, rfl, hgt, hct⟩ := (hr2.out.later hbrH.out).wd ha
        have hbt := hfi.out q (by rw [hRlH.out]; exact hlt2)
        unfold beat at hbt
        have hy := hTH.out.lt (R.getD q 0) (by have := hr2.out.1; simp [wds] at this; omega)
        have hy8 : 2 ^ ts.length ≤ 2 ^ 8 := Nat.pow_le_pow_right (by omega) hTH.out.len
        have HB := Lib.hid (fun W => bit_any (ts.getD (R.getD q 0) 0) (R.getD (q + 1) 0) W (by omega) (by omega))
        simp only [hbt] at HB
        have hqq : (((q + 1 : Nat) : Int)) = (q : Int) + 1 := by omega
        have hw1 : IntKind.i64.wrap (((q + 1 : Nat) : Int) - 1) = (q : Int) := by rw [IntWalk.i64_in _ (by omega)]; omega
        clear hbt hy hy8
        generalize ts.getD (R.getD q 0) 0 = y at *
        generalize R.getD q 0 = a at *
        generalize R.getD (q + 1) 0 = b at *
        have haI : (a : Int) < len := by omega
        have hqI : (q : Int) < len := by omega
        have hq1I : (((q + 1 : Nat) : Int)) < len := by omega
        generalize hkk : q + 1 = k at *
        clear hqq hkk
        go_wp2_with fail
        go_quiet ((go_at_call 9; with_reducible exact quiet_left (HB.out _)))
        go_wp2
        go_roundw
        case rel => exact ⟨k + 1, by omega, by go_num, by omega, below_drewN hbrH.out nq⟩
        case measure => simp [intOf]; omega
      · go_wp2
        go_ret
        exact ⟨rfl, hbb.trans (hbrH.out.mono hbb.size)⟩
  · have HR := Lib.hid (row_bad A len cap ts w hr hl hwf hT)
    have hrH := Lib.hid hr; have hTH := Lib.hid hT; have hwfH := Lib.hid hwf
    clear hr hwf htb hT
    go_enter Tryd.func4, Tryd.ntmps4
    go_wp2_with fail
    refine HR.out.mono ?_
    rintro e w1 ⟨⟨c, hc, rfl⟩, hb1⟩
    have HP := Lib.hid (players_any A len cap ts w1 (hrH.out.later hb1) hl hwfH.out)
    rw [decide_eq_false hTH.out] at HP
    clear HR
    go_wp2_with fail
    refine HP.out.mono ?_
    rintro e w2 ⟨rfl, hb2⟩
    go_wp2
    go_ret
    exact ⟨rfl, hb1.trans (hb2.mono hb1.size)⟩
end Go.Proofs.YtnlgmjigadgneaaDoor
