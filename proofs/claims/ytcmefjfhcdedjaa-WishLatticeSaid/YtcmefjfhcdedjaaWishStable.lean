/- WishStable: the walk. -/
import Derived.Test.YtcmefjfhcdedjaaHoldsB
namespace Go.Proofs.Ytcmefjfhcdedjaa
open Go.RowKit

theorem wishes_any (A : Option Addr) (n c : Nat) (l : List Rw) (B : Option Addr) (m d : Nat) (r : List Rw) (w : World) (hL : RdR w A n l) (hR : RdR w B m r) :
    Calls Try.prog 8 #[.agg #[.slice A n c, .slice B m d]] w fun e w' => e = .returned (.bool (wchk l r == 0)) ∧ Below w.heap.size w w' := by
  have gb := (Below.refl _ w).alloc (Nat.le_refl _) (.cells #[.slice A n c, .slice B m d] 24)
  have H := Lib.hid (wishesCheck_any A n c l B m d r _ (hL.later gb) (hR.later gb))
  clear hL hR
  go_enter Try.func8, Try.ntmps8
  go_wp2_with fail
  refine H.out.mono ?_
  rintro e w' ⟨rfl, hb⟩
  have hbe := Lib.hid (gb.trans (hb.mono (by simp)))
  clear gb hb
  go_wp2
  go_ret
  exact ⟨rfl, hbe.out⟩
theorem row_at_ints (n : Nat) (F : Nat → Int) : row n F = ints .i64 ((List.range n).map F) := by simp [row, ints]
theorem mAt_range {n : Nat} {F : Nat → Int} {i : Nat} (h : i < n) : mAt ((List.range n).map F) i = F i := by simp [mAt, List.getD, h]
theorem stab_congr {n : Nat} {L R : Nat → List Int} {M M' : Nat → Int} (h : ∀ i, i < n → M i = M' i) (s : Stab n L R M) : Stab n L R M' where
  ok := ⟨fun i hi => by rw [← h i hi]; exact s.ok.1 i hi, fun i i' hi hi' e h0 => s.ok.2 i i' hi hi' (by rw [h i hi, h i' hi']; exact e) (by rw [h i hi]; exact h0)⟩
  acc := fun i hi j hj => s.acc i hi j (by rw [h i hi]; exact hj)
  nob := fun i hi p hp hq j hj h8 => by
    obtain ⟨i', h1, h2, h3⟩ := s.nob i hi p hp (fun q hq' => by rw [h i hi]; exact hq q hq') j hj h8
    exact ⟨i', h1, by rw [← h i' h1]; exact h2, h3⟩
theorem wishStable_any (A : Option Addr) (n c : Nat) (l : List Rw) (B : Option Addr) (m d : Nat) (r : List Rw) (w : World) (hL : RdR w A n l) (hR : RdR w B m r) (hn : n ≤ maxLen) (hm : m ≤ maxLen) :
    Calls Try.prog 4 #[.agg #[.slice A n c, .slice B m d]] w fun e w' => e = .returned (.bool true) ∧ Below w.heap.size w w' := by
  unfold maxLen at hn hm
  have gs : (w.alloc (.cells #[.slice A n c, .slice B m d] 24)).heap.size = w.heap.size + 1 := by simp
  have gb := (Below.refl _ w).alloc (Nat.le_refl _) (.cells #[.slice A n c, .slice B m d] 24)
  have g0 : (w.alloc (.cells #[.slice A n c, .slice B m d] 24)).cell? ⟨w.heap.size, 0, none⟩ = some (.slice A n c) := by go_simp
  have g1 : (w.alloc (.cells #[.slice A n c, .slice B m d] 24)).cell? ⟨w.heap.size, 1, none⟩ = some (.slice B m d) := by go_simp
  have hLH := Lib.hid hL; have hRH := Lib.hid hR
  by_cases hc : wchk l r = 0
  · obtain ⟨h8, hlr, hokL, hokR⟩ := wchk_ok hc
    rw [hL.1] at hokL hokR h8
    obtain rfl : n = m := by rw [← hL.1, ← hR.1]; exact hlr
    have HP := Lib.hid (pair_ok A n c l B d r _ (hL.later gb) (hR.later gb) hc)
    have hcH := Lib.hid hc; have hokLH := Lib.hid hokL
    have hcb : (wchk l r == 0) = true := by simp [hc]
    have hlH := Lib.hid hL.1
    clear hL hR hc hlr hokL hokR
    go_enter Try.func4, Try.ntmps4
    go_wp2_with fail
    generalize w.alloc (.cells #[.slice A n c, .slice B n d] 24) = wg at *
    refine HP.out.mono ?_
    rintro e w1 ⟨g, H, F, N, rfl, hown, hb1, hG, hT⟩
    have c0 := below_cell hb1 (by omega) g0
    have c1 := below_cell hb1 (by omega) g1
    have hs1 := hb1.size
    have hbb := gb.trans (hb1.mono (by omega))
    have hst := Lib.hid (told_stab hokLH.out hG hT)
    have HW := Lib.hid (wishes_any A n c l B n d r w1 (hLH.out.later hbb) (hRH.out.later hbb))
    rw [hcb] at HW
    have hrd := Rd.of_own hown
    rw [row_at_ints] at hrd
    have hrdH := Lib.hid hrd
    clear HP g0 g1 gb hb1 hrd hown hG hT
    go_wp2_with fail
    refine HW.out.mono ?_
    rintro e w2 ⟨rfl, hb2⟩
    have c0 := below_cell hb2 (by omega) c0
    have c1 := below_cell hb2 (by omega) c1
    have hs2 := hb2.size
    have hbb2 := hbb.trans (hb2.mono (by omega))
    have HH := Lib.hid (Holds_ok A n c l B d r (some ⟨g, 0, none⟩) n n _ w2 (hLH.out.later hbb2) (hRH.out.later hbb2) (hrdH.out.later hb2) hcH.out)
    clear HW hb2 hbb
    go_wp2_with fail
    refine HH.out.mono ?_
    rintro e w3 ⟨⟨b, cc, rfl, _, hbc⟩, hb3⟩
    obtain ⟨rfl, rfl⟩ := (hbc hcH.out).2 ⟨hlH.out.symm, by rw [hlH.out]; exact stab_congr (fun i hi => (mAt_range hi).symm) hst.out⟩
    have c0 := below_cell hb3 (by omega) c0
    have hbe := Lib.hid (hbb2.trans (hb3.mono (by omega)))
    have hnn : ((n : Int) == (n : Int)) = true := by simp
    clear HH hb3 hbc hbb2 c1
    go_wp2
    go_ret
    exact ⟨rfl, hbe.out⟩
  · have HP := Lib.hid (pair_bad A n c l B m d r _ (hL.later gb) (hR.later gb) (by omega) (by omega) hc)
    have hcb : (wchk l r == 0) = false := by simp [hc]
    have hcb2 : (wchk l r != 0) = true := by simp [hc]
    clear hL hR hc
    go_enter Try.func4, Try.ntmps4
    go_wp2_with fail
    generalize w.alloc (.cells #[.slice A n c, .slice B m d] 24) = wg at *
    refine HP.out.mono ?_
    rintro e w1 ⟨rfl, hb1⟩
    have c0 := below_cell hb1 (by omega) g0
    have c1 := below_cell hb1 (by omega) g1
    have hbb := gb.trans (hb1.mono (by omega))
    have HW := Lib.hid (wishes_any A n c l B m d r w1 (hLH.out.later hbb) (hRH.out.later hbb))
    rw [hcb] at HW
    clear HP g0 g1 gb hb1
    go_wp2_with fail
    refine HW.out.mono ?_
    rintro e w2 ⟨rfl, hb2⟩
    have hbe := Lib.hid (hbb.trans (hb2.mono hbb.size))
    clear HW hb2 hbb
    go_wp2
    go_ret
    exact ⟨rfl, hbe.out⟩
end Go.Proofs.Ytcmefjfhcdedjaa
