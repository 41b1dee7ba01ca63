/- CrewFront: the walk. -/
import Derived.Test.YticffbcbfgboeaaCrewI
import Derived.Test.YticffbcbfgboeaaBel
import Derived.BigQuiet
namespace Go.Proofs.Yticffbcbfgboeaa
open Go.RowKit Go.Shelf

theorem own_slice2 {w : World} {b e s n : Nat} {v : Value} {xs : List Value} (h : w.ownsRow b e s v n xs) : ∃ A c, v = .slice A n c ∧ n ≤ c := by
  rcases h.2 with ⟨rfl, rfl⟩ | ⟨g, cap, cur, rfl, _, _, h1, _⟩
  · exact ⟨none, 0, rfl, Nat.le_refl _⟩
  · exact ⟨_, cap, rfl, h1⟩
theorem own_form0 {w : World} {b e n m c : Nat} {A : Option Addr} {xs : List Value} (h : w.ownsRow b e 1 (.slice A n c) m xs) : (A = none ∧ c = 0) ∨ ∃ g, A = some ⟨g, 0, none⟩ := by
  rcases h.2 with ⟨h1, _⟩ | ⟨g, c, cur, h1, _⟩
  · injection h1 with h1 _ h2; exact .inl ⟨h1, h2⟩
  · injection h1 with h1; exact .inr ⟨g, h1⟩
theorem at_ok (k nc : Nat) (hk : k < 256) (hnc : nc ≤ 9223372036854775807) : ∃ (m : Int) (a : Nat), a ≤ nc ∧ wrap64 ((nc : Int) + 1) = m ∧ m ≠ 0 ∧ (k : Int) % m = (a : Int) := by
  by_cases h : nc = 9223372036854775807
  · subst h
    refine ⟨-9223372036854775808, k, by omega, by unfold wrap64; omega, by decide, ?_⟩
    rw [show (-9223372036854775808 : Int) = -(9223372036854775808 : Int) from rfl, Int.emod_neg]
    exact Int.emod_eq_of_lt (by omega) (by omega)
  · refine ⟨(nc : Int) + 1, k % (nc + 1), by have := Nat.mod_lt k (show 0 < nc + 1 by omega); omega, ?_, by omega, by rw [Int.natCast_emod]; rfl⟩
    unfold wrap64
    omega
set_option maxHeartbeats 3200000 in
set_option maxRecDepth 100000 in
set_option linter.unusedSimpArgs false in
theorem crewFront_any (A B C : Option Addr) (nw ns nc cA cB cC : Nat) (ws : List (Int × Int)) (ss : List Nat) (xs : List Chg) (k : Nat) (w : World) (hA : Rd w A nw 2 (ps2 .i64 .u32 ws)) (hB : Rd w B ns 1 (wds ss)) (hC : Rd w C nc 3 (ps3 .i64 .i64 .i64 xs))
    (hnw : nw ≤ 9223372036854775807) (hns : ns ≤ 9223372036854775807) (hnc : nc ≤ 9223372036854775807) (hcC : nc ≤ cC) (hk : k < 256) :
    Calls Try.prog 5 #[.slice A nw cA, .slice B ns cB, .slice C nc cC, .int .u8 (k : Int)] w fun e w' => e = .returned (.bool true) ∧ Below w.heap.size w w' := by
  obtain ⟨m, a, ha, hw64, hm0, hmod⟩ := at_ok k nc hk hnc
  have hai : (0 : Int) ≤ a := by omega
  have hac : (a : Int) ≤ cC := by omega
  have hAH := Lib.hid hA; have hBH := Lib.hid hB; have hCH := Lib.hid hC
  have hCa := Lib.hid (by have := hC.shortS ha; rw [ps3_take] at this; exact this)
  have hcv : ∀ (v : Value), (if cC = 0 then C else C.map fun x => x.add (0 * 3)) = C := fun _ => by
    cases C <;> simp [Addr.add]
  by_cases hok : pchk ws ns = 0
  case neg =>
    have H1 := Lib.hid (play_bad A B C nw ns nc cA cB cC ws w hA hnw hns hok)
    have H2 := Lib.hid (fun W (hb : Below w.heap.size w W) => play_any A B C nw ns a cA cB cC ws ss (xs.take a) W (hAH.out.later hb) (hBH.out.later hb) (hCa.out.later hb) hnw hns (by omega))
    have hne : (pchk ws ns != 0) = true := bne_iff_ne.2 hok
    clear hA hB hC hok
    generalize pchk ws ns = c at *
    unfold crew0 at H1
    go_enter Try.func5, Try.ntmps5
    go_wp2_with fail
    refine H1.out.mono ?_
    rintro e w1 ⟨rfl, hb1⟩
    have hb2 := hb1.alloc hb1.size (.cells #[.slice none 0 0, .int .u32 0, .slice none 0 0, .slice none 0 0] 32)
    have bk := Blk.new w1 32 #[.slice none 0 0, .int .u32 0, .slice none 0 0, .slice none 0 0]
    have hb2H := Lib.hid hb2
    have bkH := Lib.hid bk
    clear hb1 hb2 bk H1
    go_wp2_with fail
    refine (H2.out _ hb2H.out).mono ?_
    rintro e w3 ⟨⟨A1, n1, c1, A2, n2, c2, A3, n3, c3, inn, code, rfl⟩, hb3⟩
    have bk3 := (bkH.out.below hb3 bkH.out.lt).alloc (.cells #[.slice A1 n1 c1, .int .u32 inn, .slice A2 n2 c2, .slice A3 n3 c3] 32)
    have x0 := bk3.cell (j := 0) rfl
    have hb4 := (hb2H.out.trans (hb3.mono hb2H.out.size)).alloc (hb2H.out.trans (hb3.mono hb2H.out.size)).size (.cells #[.slice A1 n1 c1, .int .u32 inn, .slice A2 n2 c2, .slice A3 n3 c3] 32)
    have hb4H := Lib.hid hb4
    clear hb3 bk3 hb4 hb2H bkH H2
    go_wp2
    go_ret
    exact ⟨rfl, hb4H.out⟩
  by_cases h64 : nc ≤ 64
  case neg =>
    have H1 := Lib.hid (play_big A B C nw ns nc cA cB cC ws w hA hok (by omega) hnc)
    have H2 := Lib.hid (fun W (hb : Below w.heap.size w W) => play_any A B C nw ns a cA cB cC ws ss (xs.take a) W (hAH.out.later hb) (hBH.out.later hb) (hCa.out.later hb) hnw hns (by omega))
    clear hA hB hC hok
    unfold crew0 at H1
    go_enter Try.func5, Try.ntmps5
    go_wp2_with fail
    refine H1.out.mono ?_
    rintro e w1 ⟨rfl, hb1⟩
    have hb2 := hb1.alloc hb1.size (.cells #[.slice none 0 0, .int .u32 0, .slice none 0 0, .slice none 0 0] 32)
    have bk := Blk.new w1 32 #[.slice none 0 0, .int .u32 0, .slice none 0 0, .slice none 0 0]
    have hb2H := Lib.hid hb2
    have bkH := Lib.hid bk
    clear hb1 hb2 bk H1
    go_wp2_with fail
    refine (H2.out _ hb2H.out).mono ?_
    rintro e w3 ⟨⟨A1, n1, c1, A2, n2, c2, A3, n3, c3, inn, code, rfl⟩, hb3⟩
    have bk3 := (bkH.out.below hb3 bkH.out.lt).alloc (.cells #[.slice A1 n1 c1, .int .u32 inn, .slice A2 n2 c2, .slice A3 n3 c3] 32)
    have x0 := bk3.cell (j := 0) rfl
    have hb4 := (hb2H.out.trans (hb3.mono hb2H.out.size)).alloc (hb2H.out.trans (hb3.mono hb2H.out.size)).size (.cells #[.slice A1 n1 c1, .int .u32 inn, .slice A2 n2 c2, .slice A3 n3 c3] 32)
    have hb4H := Lib.hid hb4
    clear hb3 bk3 hb4 hb2H bkH H2
    go_wp2
    go_ret
    exact ⟨rfl, hb4H.out⟩
  obtain ⟨pl, hpl⟩ := exists_pl
  have hxl : xs.length = nc := by have := hC.1; rw [ps3_length] at this; omega
  have H1 := Lib.hid (play_ok pl hpl A B C nw ns nc cA cB cC ws ss xs w hA hB hC hok h64)
  have H2 := Lib.hid (fun W (hb : Below w.heap.size w W) => play_ok pl hpl A B C nw ns a cA cB cC ws ss (xs.take a) W (hAH.out.later hb) (hBH.out.later hb) (hCa.out.later hb) hok (by omega))
  have htake := runC_take pl ws ss xs a (initC ns)
  have hlen := runC_length pl ws ss xs (initC ns)
  have hlen2 := runC_length pl ws ss (xs.take a) (initC ns)
  rw [hxl] at hlen
  rw [List.length_take, hxl, Nat.min_eq_left ha] at hlen2
  generalize runC pl ws ss xs (initC ns) = l1 at *
  generalize runS pl ws ss xs (initC ns) = s1 at *
  generalize runC pl ws ss (xs.take a) (initC ns) = l2 at *
  generalize runS pl ws ss (xs.take a) (initC ns) = s2 at *
  have htakeH := Lib.hid htake; have hlenH := Lib.hid hlen; have hlen2H := Lib.hid hlen2
  clear hA hB hC hok htake hlen hlen2 hpl hxl h64
  go_enter Try.func5, Try.ntmps5
  go_wp2_with fail
  refine H1.out.mono ?_
  rintro e w1 ⟨vC, vW, vT, tv, rfl, hP1, hb1⟩
  obtain ⟨A1, c1, rfl, hc1⟩ := own_slice2 hP1.co
  obtain ⟨A2, c2, rfl⟩ := own_slice hP1.wa
  obtain ⟨A3, c3, rfl⟩ := own_slice hP1.ta
  rw [hlenH.out] at hc1 ⊢
  have hA1 := own_form0 hP1.co
  have hR1 := Rd.of_own hP1.co
  rw [hlenH.out] at hR1
  have hb2 := hb1.alloc hb1.size (.cells #[.slice A1 nc c1, .int .u32 (s1.inn : Int), .slice A2 ns c2, .slice A3 ns c3] 32)
  have bk := Blk.new w1 32 #[.slice A1 nc c1, .int .u32 (s1.inn : Int), .slice A2 ns c2, .slice A3 ns c3]
  have hR2 := hR1.alloc (.cells #[.slice A1 nc c1, .int .u32 (s1.inn : Int), .slice A2 ns c2, .slice A3 ns c3] 32)
  have hb2H := Lib.hid hb2
  have bkH := Lib.hid bk
  have hR2H := Lib.hid hR2
  clear hb1 hb2 bk H1 hP1 hR1 hR2
  go_wp2_with fail
  generalize w1.alloc (.cells #[.slice A1 nc c1, .int .u32 (s1.inn : Int), .slice A2 ns c2, .slice A3 ns c3] 32) = w2 at *
  generalize w1.heap.size = bC at *
  refine (H2.out _ hb2H.out).mono ?_
  rintro e w3 ⟨vC, vW, vT, tv', rfl, hP3, hb3⟩
  obtain ⟨A4, c4, rfl, hc4⟩ := own_slice2 hP3.co
  obtain ⟨A5, c5, rfl⟩ := own_slice hP3.wa
  obtain ⟨A6, c6, rfl⟩ := own_slice hP3.ta
  rw [hlen2H.out] at hc4 ⊢
  have hR3 := Rd.of_own hP3.co
  rw [hlen2H.out] at hR3
  have hR4 := Lib.hid (hR3.alloc (.cells #[.slice A4 a c4, .int .u32 (s2.inn : Int), .slice A5 ns c5, .slice A6 ns c6] 32))
  have hR5 := Lib.hid ((hR2H.out.later hb3).alloc (.cells #[.slice A4 a c4, .int .u32 (s2.inn : Int), .slice A5 ns c5, .slice A6 ns c6] 32))
  have bkC := Lib.hid ((bkH.out.below hb3 bkH.out.lt).alloc (.cells #[.slice A4 a c4, .int .u32 (s2.inn : Int), .slice A5 ns c5, .slice A6 ns c6] 32))
  have bkD := Lib.hid (Blk.new w3 32 #[.slice A4 a c4, .int .u32 (s2.inn : Int), .slice A5 ns c5, .slice A6 ns c6])
  have hb4 := Lib.hid ((hb2H.out.trans (hb3.mono hb2H.out.size)).alloc (hb2H.out.trans (hb3.mono hb2H.out.size)).size (.cells #[.slice A4 a c4, .int .u32 (s2.inn : Int), .slice A5 ns c5, .slice A6 ns c6] 32))
  clear hb3 hP3 hR3 hb2H bkH hR2H H2
  go_upto_region 6 with fail
  generalize w3.alloc (.cells #[.slice A4 a c4, .int .u32 (s2.inn : Int), .slice A5 ns c5, .slice A6 ns c6] 32) = wZ at *
  generalize w3.heap.size = bD at *
  have cC0 := BW.cell (w := wZ) (bkC.out.cell (j := 0) rfl)
  have cC2 := BW.cell (w := wZ) (bkC.out.cell (j := 2) rfl)
  have cD0 := BW.cell (w := wZ) (bkD.out.cell (j := 0) rfl)
  have hR6 := hR5.out.short ha
  rw [ints_take, ← htakeH.out] at hR6
  have HCd : Hid (∀ p : BW wZ, Calls Try.prog 13 #[.slice A4 a c4, .slice A1 a c1] p.w' fun e w' => e = .returned (.bool true) ∧ Below p.w'.heap.size p.w' w') := Lib.hid (fun p => (codes_any A4 a c4 l2 A1 a c1 l2 p.w' (hR4.out.later p.hb) (by omega) (hR6.later p.hb)).mono fun e w' ⟨he, hb⟩ => ⟨by rw [he]; simp, hb⟩)
  have hac1 : (a : Int) ≤ c1 := by omega
  have hcv1 : ∀ (v : Value), (if c1 = 0 then A1 else A1.map fun x => x.add (0 * 1)) = A1 := fun _ => by
    cases A1 <;> simp [Addr.add]
  clear bkC bkD hR4 hR5 hR6 hA1
  refine wp_region_below (by kernel_rfl) (by kernel_rfl) ?_
  repeat (go_big_quiet_step (first | rfl | (with_reducible refine Calls.bel (HCd.out _))))
  refine wpQuiet_nil ?_
  rintro _ ⟨p, rfl⟩
  have hbF := Lib.hid (hb4.out.trans (p.hb.mono hb4.out.size))
  clear cC0 cC2 cD0 HCd hb4
  go_wp2
  go_ret
  exact ⟨rfl, hbF.out⟩
end Go.Proofs.Yticffbcbfgboeaa
