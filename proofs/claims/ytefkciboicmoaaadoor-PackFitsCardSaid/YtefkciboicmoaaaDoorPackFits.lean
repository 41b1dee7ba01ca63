/- PackFits: the walk. -/
import Derived.Test.YtefkciboicmoaaaDoorPackG
import Derived.Test.YtefkciboicmoaaaDoorPackD
namespace Go.Proofs.YtefkciboicmoaaaDoor
open Go.RowKit

theorem sum_take (zs : List Int) (k : Nat) (h : k < zs.length) : (zs.take (k + 1)).sum = (zs.take k).sum + zs.getD k 0 := by
  rw [List.take_succ_eq_append_getElem h, List.sum_append]
  simp [List.getD, h]
theorem sum_range (zs : List Int) : ((List.range zs.length).map fun i => zs.getD i 0).sum = zs.sum := by
  congr 1
  apply List.ext_getElem
  · simp
  · intro i h1 h2
    simp at h1
    simp [List.getD, h1]
set_option maxHeartbeats 1600000 in
theorem packFits_any (A : Option Addr) (len cap : Nat) (zs : List Int) (room : Int) (B : Option Addr) (lm cm : Nat) (ms : List Int) (w : World) (hr : Rd w A len 1 (ints .i64 zs)) (hl : len ≤ 9223372036854775807) (hrm : Rd w B lm 1 (ints .i64 ms)) (hlm : lm ≤ 9223372036854775807) (htb : Tb w) (hg : 0 < w.heap.size) :
    Calls Tryd.prog 3 #[.slice A len cap, .int .i64 room, .slice B lm cm] w fun e w' => e = .returned (.bool true) ∧ Below w.heap.size w w' := by
  have hel : zs.length = len := by simpa [ints] using hr.1
  have hrmH := Lib.hid hrm
  clear hrm
  by_cases hok : pchk zs room = 0
  · obtain ⟨h8, hr1, hr2, hz⟩ := pchk_ok hok
    have H1 := Lib.hid (First_ok A len cap zs room w hr hok)
    have hrH := Lib.hid hr; have hzH := Lib.hid hz; have helH := Lib.hid hel; have hokH := Lib.hid hok; have htbH := Lib.hid htb
    rw [hel] at h8
    clear hr hz hel hok htb
    go_enter Tryd.func3, Tryd.ntmps3
    go_wp2_with fail
    refine H1.out.mono ?_
    rintro e w1 ⟨g, bs, F, o, rfl, hL, hp, -, hrun, hb1⟩
    have H2 := Lib.hid (fewest_ok A len cap zs room w1 (hrH.out.later hb1) hokH.out (htbH.out.below hg hb1) (by have := hb1.size; omega))
    have hFI := hrun.fi hzH.out (hp.nodup_iff.2 List.nodup_range)
    have hlen := hrun.len
    rw [hp.length_eq, List.length_range] at hlen
    have hfit := hFI.fit (fun c hc => (hrun.bd hzH.out c hc).2) (by rw [helH.out]; exact hlen) (by rw [helH.out]; exact hp)
    have hLH := Lib.hid hL; have hb1H := Lib.hid hb1; have hfitH := Lib.hid hfit
    clear hL hb1 hfit hrun hFI hp H1
    go_wp2_with fail
    refine H2.out.mono ?_
    rintro e w2 ⟨⟨x, xl⟩, rfl, hP, hb2⟩
    have hbb := hb1H.out.trans (hb2.mono hb1H.out.size)
    have hxb := hP.bd
    have hpc := popc_le len (2 ^ len - 1)
    have hsum := fewest_sum hP
    rw [← helH.out, sum_range] at hsum
    have hP2 : PB (fun i => zs.getD i 0) room zs.length (2 ^ zs.length - 1) (x, xl) := by rw [helH.out]; exact hP
    have hno := fun (ls : List Int) (r : Int) (h : Fit zs ls room r) (h0 : 0 ≤ r) => fewest_le h h0 hP2
    dsimp only at hxb hsum hno
    have hL2 := hLH.out.later hb2
    rw [row_ints] at hL2
    have HT := Lib.hid (things_any A len cap zs room w2 (hrH.out.later hbb) hl)
    rw [hokH.out] at HT
    have HB := Lib.hid (boxes_any A (some ⟨g, 0, none⟩) len cap len len zs _ room w2 (hrH.out.later hbb) hL2 hokH.out hl)
    have HM := Lib.hid (boxes_any A B len cap lm cm zs ms room w2 (hrH.out.later hbb) (hrmH.out.later hbb) hokH.out hlm)
    have hr2H := Lib.hid (hrH.out.later hbb)
    have hbbH := Lib.hid hbb; have hnoH := Lib.hid hno
    clear hb2 hbb hP hL2 H2 hP2 hno
    dsimp only
    go_wp2_with fail
    refine HT.out.mono ?_
    rintro e w3 ⟨rfl, rfl⟩
    clear HT
    have hsumH := Lib.hid hsum
    clear hsum
    go_wp2_with fail
    go_loop [11, 13, 39] (fun s _ i => ∃ k : Nat, k ≤ len ∧ i = .int .i64 k ∧ s = .int .i64 (zs.take k).sum ∧ 0 ≤ (zs.take k).sum ∧ (zs.take k).sum ≤ k * 1048576) (fun _ _ i => len - (intOf i).toNat)
    case atStart => exact ⟨0, Nat.zero_le _, rfl, rfl, by simp, by simp⟩
    case round =>
      obtain ⟨k, hk, rfl, rfl, hs0, hs1⟩ := hrel
      by_cases hlt : k < len
      · obtain ⟨b, o2, rfl, hab, hc⟩ := hr2H.out.int hlt
        have hst := Lib.hid (sum_take zs k (by rw [helH.out]; exact hlt))
        have hzk := hzH.out k
        generalize (zs.take k).sum = y at *
        generalize zs.getD k 0 = z at *
        have hw : IntKind.i64.wrap (y + z) = y + z := IntWalk.i64_in _ (by omega)
        go_wp2
        go_round
        case rel => exact ⟨k + 1, by omega, by go_num, by rw [hst.out], by rw [hst.out]; omega, by rw [hst.out]; omega⟩
        case measure => simp [intOf]; omega
      · obtain rfl : k = len := by omega
        have e : zs.take k = zs := List.take_of_length_le (by rw [helH.out]; omega)
        rw [e] at hs0 hs1 ⊢
        have hsum := hsumH.out
        generalize zs.sum = y at *
        clear e
        go_wp2_with fail
        refine HB.out.mono ?_
        rintro e w4 ⟨⟨r, rfl, hBV⟩, rfl⟩
        obtain ⟨hr0, hrx⟩ : 0 ≤ r ∧ x ≤ r := by
          have hf := hfitH.out
          rw [helH.out] at hf
          rcases hBV with ⟨-, h⟩ | ⟨h0, h⟩
          · exact absurd hf (h _)
          · exact ⟨h0, hnoH.out _ _ h h0⟩
        have hm1 : 0 ≤ x * room ∧ x * room ≤ 8388608 := by
          have hx8 : x ≤ 8 := by omega
          have a := Int.mul_le_mul hx8 hr2 (by omega) (by omega : (0 : Int) ≤ 8)
          have b := Int.mul_nonneg hxb.1 (by omega : (0 : Int) ≤ room)
          omega
        have hwm : IntKind.i64.wrap (x * room) = x * room := IntWalk.i64_in _ (by omega)
        clear hBV HB
        go_wp2_with fail
        refine HM.out.mono ?_
        rintro e w4 ⟨⟨q, rfl, hBV⟩, rfl⟩
        have hq : q < 0 ∨ (0 ≤ q ∧ x ≤ q) := by
          rcases hBV with ⟨h, -⟩ | ⟨h0, h⟩
          · left; omega
          · exact .inr ⟨h0, hnoH.out _ _ h h0⟩
        clear hBV HM
        rcases hq with h | ⟨h1, h2⟩
        · go_wp2
          go_ret
          exact ⟨rfl, hbbH.out⟩
        · go_wp2
          go_ret
          exact ⟨rfl, hbbH.out⟩
  · have H1 := Lib.hid (First_bad A len cap zs room w hr hl hok)
    have hrH := Lib.hid hr; have hokH := Lib.hid hok
    have hb : (pchk zs room == 0) = false := beq_eq_false_iff_ne.2 hok
    have hb2 : (pchk zs room != 0) = true := bne_iff_ne.2 hok
    have hbH := Lib.hid hb
    clear hr hok hb
    go_enter Tryd.func3, Tryd.ntmps3
    go_wp2_with fail
    refine H1.out.mono ?_
    rintro e w1 ⟨rfl, hb1⟩
    have H2 := Lib.hid (fewest_bad A len cap zs room w1 (hrH.out.later hb1) hl hokH.out)
    go_wp2_with fail
    refine H2.out.mono ?_
    rintro e w2 ⟨rfl, hb3⟩
    have hbb := hb1.trans (hb3.mono hb1.size)
    have HT := Lib.hid (things_any A len cap zs room w2 (hrH.out.later hbb) hl)
    rw [hbH.out] at HT
    clear H1 H2
    go_wp2_with fail
    refine HT.out.mono ?_
    rintro e w3 ⟨rfl, rfl⟩
    go_wp2
    go_ret
    exact ⟨rfl, hbb⟩
end Go.Proofs.YtefkciboicmoaaaDoor
