/- ColourWelsh: WELSH, POWELL: each node's colour is no greater than its degree, nor than how many are ahead of it. -/
import Derived.Test.YtnpgnohnpbdblaaDoorGreedy
import Derived.Test.YtnpgnohnpbdblaaDoorRight
import Derived.Test.YtnpgnohnpbdblaaDoorDegree
import Derived.Test.YtnpgnohnpbdblaaDoorCrowdLaw
import Derived.Test.YtnpgnohnpbdblaaDoorCard
namespace Go.Proofs.YtnpgnohnpbdblaaDoor
open Go.RowKit Go.Shelf

theorem row_intsW (n : Nat) (F : Nat → Int) : row n F = ints .i64 ((List.range n).map F) := by simp [row, ints]
theorem getD_mapW (n : Nat) (F : Nat → Int) {j : Nat} (hj : j < n) : ((List.range n).map F).getD j 0 = F j := by simp [List.getD, hj]
set_option maxHeartbeats 3200000 in
set_option maxRecDepth 100000 in
theorem welsh_walk (N : Int) (A : Option Addr) (len cap : Nat) (es : List E) (A2 : Option Addr) (len2 cap2 : Nat) (zs : List Int) (w : World) (hr : Rd w A len 3 (ps3 .i64 .i64 .i64 es)) (hlen : len ≤ 9223372036854775807) (hcap : len ≤ cap)
    (hr2 : Rd w A2 len2 1 (ints .i64 zs)) (hl2 : len2 ≤ 9223372036854775807) (hcap2 : len2 ≤ cap2) (htb : Tb w) (hg : 0 < w.heap.size) :
    Calls Tryd.prog 4 #[.agg #[.int .i64 N, .slice A len cap], .slice A2 len2 cap2] w fun e w' => e = .returned (.bool true) ∧ Below w.heap.size w w' := by
  have gb := (Below.refl _ w).alloc (Nat.le_refl _) (.cells #[.int .i64 N, .slice A len cap] 24)
  have g0 : (w.alloc (.cells #[.int .i64 N, .slice A len cap] 24)).cell? ⟨w.heap.size, 0, none⟩ = some (.int .i64 N) := by go_simp
  have g1 : (w.alloc (.cells #[.int .i64 N, .slice A len cap] 24)).cell? ⟨w.heap.size, 1, none⟩ = some (.slice A len cap) := by go_simp
  have gs : (w.alloc (.cells #[.int .i64 N, .slice A len cap] 24)).heap.size = w.heap.size + 1 := by simp
  have HG := Lib.hid (fun W (h : Below w.heap.size w W) => good_any N A len cap es W (hr.later h) hlen hcap)
  have hel2 : zs.length = len2 := by simpa [ints] using hr2.1
  cases hq : gchk N es == 0
  · have HL := Lib.hid (greedy_bad N A len cap es A2 len2 cap2 _ (hr.later gb) hlen hq)
    rw [hq] at HG
    clear hr hr2 hq htb
    go_enter Tryd.func4, Tryd.ntmps4
    go_wp2_with fail
    generalize w.alloc (.cells #[.int .i64 N, .slice A len cap] 24) = wg at *
    refine HL.out.mono ?_
    rintro _ w1 ⟨z, rfl, hz, hb1⟩
    have q0 := below_cell hb1 (by omega) g0
    have q1 := below_cell hb1 (by omega) g1
    have hbw := gb.trans (hb1.mono (by omega))
    have HG1 := Lib.hid (HG.out w1 hbw)
    clear hb1
    go_wp2_with fail
    refine HG1.out.mono ?_
    rintro _ w2 ⟨rfl, hb2⟩
    go_wp2
    go_ret
    exact ⟨rfl, hbw.trans (hb2.mono hbw.size)⟩
  · have hok : gchk N es = 0 := by simpa using hq
    obtain ⟨h0, h10, h45, hokE, hdis⟩ := gchk_ok hok
    obtain ⟨n, rfl⟩ := Int.eq_ofNat_of_zero_le h0
    rw [Int.toNat_natCast] at hokE
    have hel := ps3_len hr
    rw [hel] at h45
    have hN : n ≤ 10 := by omega
    have g := nearGr hok
    rw [hq] at HG
    have HL := Lib.hid (greedy_ok n A len cap es A2 len2 cap2 zs _ (hr.later gb) h45 hok (hr2.later gb) hl2 (htb.below hg gb) (by omega))
    have HE := Lib.hid (fun W (h : Below w.heap.size w W) => eachL_any (n : Int) A2 len2 cap2 zs W (hr2.later h) (by omega) hcap2)
    have HR := Lib.hid (fun W (h : Below w.heap.size w W) k A' m c zs (hR : Rd W A' m 1 (ints .i64 zs)) hm => right_any n k A len cap es A' m c zs W (hr.later h) hR h45 hm hN hokE)
    have HD := Lib.hid (fun W (h : Below w.heap.size w W) i => degree_any n i A len cap es W (hr.later h) h45 hokE)
    have hdeg := Lib.hid (fun i (hi : i < n) => show (cntB n fun m => nb (nearW n es) i m) = degE es i from by
      rw [← dg_deg hN hokE hdis hi]
      unfold cntB dg
      congr 1
      exact List.filter_congr fun m _ => nearW_bit es hokE i m hi)
    have hiff := Lib.hid (fun (k : Nat) zs => rightB_iff (N := n) (k := k) (zs := zs) hok)
    have hr2H := Lib.hid hr2; have hel2H := Lib.hid hel2; have gH := Lib.hid g
    have hdle := Lib.hid (fun i => show degE es i ≤ len from by rw [← hel]; unfold degE; exact List.length_filter_le _ _)
    clear hr hr2 hq htb hok hokE hel2 g hdis hel
    go_enter Tryd.func4, Tryd.ntmps4
    go_wp2_with fail
    generalize w.alloc (.cells #[.int .i64 (n : Int), .slice A len cap] 24) = wg at *
    refine HL.out.mono ?_
    rintro _ w1 ⟨hb1, hcase⟩
    have q0 := below_cell hb1 (by omega) g0
    have q1 := below_cell hb1 (by omega) g1
    have hs1 := hb1.size
    have hbw := gb.trans (hb1.mono (by omega))
    have HG1 := Lib.hid (HG.out w1 hbw)
    clear hb1 g0 g1 gb
    rcases hcase with ⟨hE, rfl⟩ | ⟨y, gl, L, hp, rfl, rfl, hown, hGr⟩
    · go_wp2_with fail
      refine HG1.out.mono ?_
      rintro _ w2 ⟨rfl, hb2⟩
      have q0 := below_cell hb2 (by omega) q0
      have hbw2 := hbw.trans (hb2.mono hbw.size)
      have HE1 := HE.out w2 hbw2
      rw [hE] at HE1
      have HE1 := Lib.hid HE1
      clear hE
      go_wp2_with fail
      refine HE1.out.mono ?_
      rintro _ w3 ⟨rfl, rfl⟩
      go_wp2
      go_ret
      exact ⟨rfl, hbw2⟩
    · have hpH := Lib.hid hp; have hownH := Lib.hid hown; have hGrH := Lib.hid hGr
      have hl2n : len2 = n := by have := hp.length_eq; rw [← hel2H.out]; simpa [natI] using this
      subst hl2n
      have hcolH := Lib.hid (hGr.col gH.out hp)
      clear hp hown hGr
      go_wp2_with fail
      refine HG1.out.mono ?_
      rintro _ w2 ⟨rfl, hb2⟩
      have q0 := below_cell hb2 (by omega) q0
      have q1 := below_cell hb2 (by omega) q1
      have hs2 := hb2.size
      have hbw2 := hbw.trans (hb2.mono hbw.size)
      have HE1 := HE.out w2 hbw2
      rw [(eachB_iff len2 (natI y)).2 ⟨y, hpH.out, rfl⟩] at HE1
      have HE1 := Lib.hid HE1
      have hRl := (Rd.of_own hownH.out).later hb2
      rw [row_intsW] at hRl
      have HR1 := HR.out w2 hbw2 (len2 : Int) (some ⟨gl, 0, none⟩) len2 len2 _ hRl (by omega)
      rw [(hiff.out len2 _).2 ⟨by simp, col_congr gH.out hcolH.out (fun j hj => (getD_mapW len2 L hj).symm)⟩] at HR1
      have HR1 := Lib.hid HR1
      have hRlH := Lib.hid hRl
      clear hb2 hbw hRl
      go_wp2_with fail
      refine HE1.out.mono ?_
      rintro _ w3 ⟨rfl, rfl⟩
      go_wp2_with fail
      refine HR1.out.mono ?_
      rintro _ w4 ⟨rfl, hb4⟩
      have q0 := below_cell hb4 (by omega) q0
      have q1 := below_cell hb4 (by omega) q1
      have hs4 := hb4.size
      have hbw4 := hbw2.trans (hb4.mono hbw2.size)
      have hR4 := Lib.hid (hRlH.out.later hb4)
      have hS4 : w.heap.size < w4.heap.size := by omega
      have q0H := Lib.hid q0; have q1H := Lib.hid q1; have hbw4H := Lib.hid hbw4
      clear hb4 hbw2 hbw4 q0 q1
      go_wp2
      go_loopw [7, 8, 39] (fun _ _ i wr => ∃ j : Nat, j ≤ len2 ∧ i = .int .i64 j ∧ Below w4.heap.size w4 wr) (fun _ _ i _ => len2 - (intOf i).toNat)
      case atStart => exact ⟨0, Nat.zero_le _, rfl, Below.refl _ _⟩
      case round =>
        obtain ⟨j, hj, rfl, hb⟩ := hrel
        have hbT := hbw4H.out.trans (hb.mono (by omega))
        have q0 := below_cell hb hS4 q0H.out
        have q1 := below_cell hb hS4 q1H.out
        by_cases hjn : j < len2
        · obtain ⟨b2, o2, rfl, hab2, hz⟩ := (hr2H.out.later hbT).int hjn
          obtain ⟨hin, _⟩ := perm_at hpH.out hjn
          have hyl : y.length = len2 := by simpa using hpH.out.length_eq
          have hzi : (natI y).getD j 0 = ((y.getD j 0 : Nat) : Int) := natI_at (by omega)
          rw [hzi] at hz
          have h0L := (hcolH.out _ hin).1
          have hpos := hGrH.out.pos hjn h0L
          have hdg := hGrH.out.deg gH.out hjn h0L
          rw [hdeg.out _ hin] at hdg
          have hdl := hdle.out (y.getD j 0)
          have HD1 := Lib.hid (fun W (h : Below w.heap.size w W) => HD.out W h (y.getD j 0))
          obtain ⟨_, _, hA, hgl, hcl⟩ := (hR4.out.later hb).int hin
          cases hA
          rw [Nat.zero_add, getD_mapW len2 L hin] at hcl
          clear hzi hyl
          generalize y.getD j 0 = i at *
          generalize L i = li at *
          generalize degE es i = d at *
          have hii : (i : Int) < len2 := by omega
          have hi0 : (0 : Int) ≤ i := by omega
          have hbTH := Lib.hid hbT; have hbH := Lib.hid hb
          have hbTd := hbT.drew
          have hS5 : w.heap.size < wr.drew.heap.size := by have := hb.size; simp; omega
          clear hbT hb
          have hd1 : decide ((j : Int) < li) = false := by simp; omega
          have hd2 : decide ((d : Int) < li) = false := by simp; omega
          have hgl4 : gl < wr.drew.heap.size := by simpa using hgl
          go_wp2_with fail
          go_region_held3 (fun w' => w'.cell? ⟨w.heap.size, 0, none⟩ = some (.int .i64 len2) ∧ w'.cell? ⟨w.heap.size, 1, none⟩ = some (.slice A len cap) ∧ w'.cell? ⟨gl, i, none⟩ = some (.int .i64 li)) (first | go_keep | assumption | exact ⟨qA0, qA1, qA2⟩ | fail) ((first
            | (go_at_call 19
               (with_reducible refine (HD1.out _ hbTd).mono ?_)
               rintro e wA ⟨rfl, bA⟩
               have qA0 := below_cell bA hS5 q0
               have qA1 := below_cell bA hS5 q1
               have qA2 := below_cell bA hgl4 hcl)
            | fail))
          all_goals
            go_wp2_with fail
            go_roundw
            case rel => exact ⟨j + 1, by omega, by go_num, by first | exact hbH.out.drew.trans (bA.mono (by have := hbH.out.size; simpa using this)) | exact (hbH.out.drew.trans (bA.mono (by have := hbH.out.size; simpa using this))).drew | exact below_drewN (hbH.out.drew.trans (bA.mono (by have := hbH.out.size; simpa using this))) _⟩
            case measure => simp [intOf]; omega
        · go_wp2
          go_ret
          exact ⟨rfl, hbT⟩
theorem colourWelsh_any (N : Int) (A : Option Addr) (len cap : Nat) (es : List E) (A2 : Option Addr) (len2 cap2 : Nat) (zs : List Int) (w : World) (_ : (Lit.int .i64 N).wf = true) (hr : Rd w A len 3 (ps3 .i64 .i64 .i64 es)) (hlen : len ≤ maxLen) (hcap : len ≤ cap) (_ : ∀ a ∈ es, (Lit.int .i64 a.1).wf = true ∧ (Lit.int .i64 a.2.1).wf = true ∧ (Lit.int .i64 a.2.2).wf = true)
    (hr2 : Rd w A2 len2 1 (ints .i64 zs)) (hl2 : len2 ≤ maxLen) (hcap2 : len2 ≤ cap2) (_ : ∀ z ∈ zs, (Lit.int .i64 z).wf = true) (htb : Tb w) (hg : 0 < w.heap.size) :
    Calls Tryd.prog 4 #[.agg #[.int .i64 N, .slice A len cap], .slice A2 len2 cap2] w fun e w' => e = .returned (.bool true) ∧ Below w.heap.size w w' := by
  unfold maxLen at hlen hl2
  exact welsh_walk N A len cap es A2 len2 cap2 zs w hr (by omega) hcap hr2 (by omega) hcap2 htb hg
end Go.Proofs.YtnpgnohnpbdblaaDoor
