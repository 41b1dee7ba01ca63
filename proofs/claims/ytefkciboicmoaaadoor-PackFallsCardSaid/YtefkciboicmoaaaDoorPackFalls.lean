/- PackFalls: the walk. -/
import Derived.Test.YtefkciboicmoaaaDoorPackG
import Derived.Test.YtefkciboicmoaaaDoorPackD
import Derived.Test.YtefkciboicmoaaaDoorPackFall
namespace Go.Proofs.YtefkciboicmoaaaDoor
open Go.RowKit

set_option maxHeartbeats 1600000 in
theorem packFalls_any (A : Option Addr) (len cap : Nat) (zs : List Int) (room : Int) (w : World) (hr : Rd w A len 1 (ints .i64 zs)) (hl : len ≤ 9223372036854775807) (htb : Tb w) (hg : 0 < w.heap.size) :
    Calls Tryd.prog 5 #[.slice A len cap, .int .i64 room] w fun e w' => e = .returned (.bool true) ∧ Below w.heap.size w w' := by
  have hel : zs.length = len := by simpa [ints] using hr.1
  by_cases hok : pchk zs room = 0
  · obtain ⟨h8, hr1, hr2, hz⟩ := pchk_ok hok
    have H1 := Lib.hid (Falling_ok A len cap zs room w hr hok)
    have hrH := Lib.hid hr; have hzH := Lib.hid hz; have helH := Lib.hid hel; have hokH := Lib.hid hok; have htbH := Lib.hid htb
    rw [hel] at h8
    clear hr hz hel hok htb
    go_enter Tryd.func5, Tryd.ntmps5
    go_wp2_with fail
    refine H1.out.mono ?_
    rintro e w1 ⟨g, bs, F, o, rfl, hL, hp, hds, hrun, hb1⟩
    have H2 := Lib.hid (fewest_ok A len cap zs room w1 (hrH.out.later hb1) hokH.out (htbH.out.below hg hb1) (by have := hb1.size; omega))
    have hFI := hrun.fi hzH.out (hp.nodup_iff.2 List.nodup_range)
    have hlen := hrun.len
    rw [hp.length_eq, List.length_range] at hlen
    have hfit := hFI.fit (fun c hc => (hrun.bd hzH.out c hc).2) (by rw [helH.out]; exact hlen) (by rw [helH.out]; exact hp)
    have htw := fun x hP => falls (n := len) (x := x) hr1 hzH.out hrun hp hds hP
    have hLH := Lib.hid hL; have hb1H := Lib.hid hb1; have hfitH := Lib.hid hfit; have htwH := Lib.hid htw
    clear hL hb1 hfit hrun hFI hp htw H1
    go_wp2_with fail
    refine H2.out.mono ?_
    rintro e w2 ⟨⟨x, xl⟩, rfl, hP, hb2⟩
    have hbb := hb1H.out.trans (hb2.mono hb1H.out.size)
    have hx2 := htwH.out _ hP
    have hxb := hP.bd
    have hpc := popc_le len (2 ^ len - 1)
    have hP2 : PB (fun i => zs.getD i 0) room zs.length (2 ^ zs.length - 1) (x, xl) := by rw [helH.out]; exact hP
    have hno := fun (ls : List Int) (r : Int) (h : Fit zs ls room r) (h0 : 0 ≤ r) => fewest_le h h0 hP2
    dsimp only at hx2 hxb hno
    have hnoH := Lib.hid hno
    clear hno hP2
    have hL2 := hLH.out.later hb2
    rw [row_ints] at hL2
    have HT := Lib.hid (things_any A len cap zs room w2 (hrH.out.later hbb) hl)
    rw [hokH.out] at HT
    have HB := Lib.hid (boxes_any A (some ⟨g, 0, none⟩) len cap len len zs _ room w2 (hrH.out.later hbb) hL2 hokH.out hl)
    have hbbH := Lib.hid hbb
    clear hb2 hbb hP hL2 H2
    dsimp only
    go_wp2_with fail
    refine HT.out.mono ?_
    rintro e w3 ⟨rfl, rfl⟩
    go_wp2_with fail
    refine HB.out.mono ?_
    rintro e w4 ⟨⟨r, rfl, hBV⟩, rfl⟩
    obtain ⟨hr0, hr9⟩ : 0 ≤ r ∧ r = (bs.length : Int) := by
      have hf := hfitH.out
      rw [helH.out] at hf
      rcases hBV with ⟨-, h⟩ | ⟨h0, h⟩
      · exact absurd hf (h _)
      · exact ⟨h0, h.uniq hf h0 (by omega)⟩
    have hxr : x ≤ r := by
      have hf := hfitH.out
      rw [helH.out] at hf
      rcases hBV with ⟨-, h⟩ | ⟨h0, h⟩
      · exact absurd hf (h _)
      · exact hnoH.out _ _ h h0
    have hw : IntKind.i64.wrap (2 * r) = 2 * r := IntWalk.i64_in _ (by omega)
    have hw3 : IntKind.i64.wrap (3 * x) = 3 * x := IntWalk.i64_in _ (by omega)
    have hr2 : 2 * r ≤ 3 * x := by omega
    clear hBV hr9 hx2 HB HT
    go_wp2
    go_ret
    exact ⟨rfl, hbbH.out⟩
  · have H1 := Lib.hid (Falling_bad A len cap zs room w hr hl hok)
    have hrH := Lib.hid hr; have hokH := Lib.hid hok
    have hb : (pchk zs room == 0) = false := beq_eq_false_iff_ne.2 hok
    have hb2 : (pchk zs room != 0) = true := bne_iff_ne.2 hok
    have hbH := Lib.hid hb
    clear hr hok hb
    go_enter Tryd.func5, Tryd.ntmps5
    go_wp2_with fail
    refine H1.out.mono ?_
    rintro e w1 ⟨rfl, hb1⟩
    have H2 := Lib.hid (fewest_bad A len cap zs room w1 (hrH.out.later hb1) hl hokH.out)
    go_wp2_with fail
    refine H2.out.mono ?_
    rintro e w2 ⟨rfl, hb3⟩
    have hbb := hb1.trans (hb3.mono hb1.size)
    have HT := Lib.hid (things_any A len cap zs room w2 (hrH.out.later hbb) hl)
    rw [hbH.out] at HT
    clear H1 H2
    go_wp2_with fail
    refine HT.out.mono ?_
    rintro e w3 ⟨rfl, rfl⟩
    go_wp2
    go_ret
    exact ⟨rfl, hbb⟩
end Go.Proofs.YtefkciboicmoaaaDoor
