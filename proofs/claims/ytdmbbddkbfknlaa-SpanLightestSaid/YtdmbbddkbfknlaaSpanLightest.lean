/- SpanLightest: the walk. -/
import Derived.Test.YtdmbbddkbfknlaaForestW
import Derived.Test.YtdmbbddkbfknlaaWeighs
namespace Go.Proofs.Ytdmbbddkbfknlaa
open Go.RowKit
attribute [local go_sem] Oper.semAt_some

theorem light_of {N : Int} {es : List E} (h : ∀ j, j < es.length → echkAt N es j = 0) (i : Nat) (hi : i < es.length) : -1048576 ≤ wE es i ∧ wE es i ≤ 1048576 := by
  have := h i hi
  unfold echkAt echk at this
  have hh : heavyE (es.getD i (0, 0, 0)) = false := by
    cases hv : heavyE (es.getD i (0, 0, 0)) with
    | false => rfl
    | true => simp only [hv, if_true] at this; split at this <;> (try split at this) <;> (try split at this) <;> omega
  unfold heavyE at hh
  rw [Bool.or_eq_false_iff, decide_eq_false_iff_not, decide_eq_false_iff_not] at hh
  unfold wE eAt
  exact ⟨by have := hh.1; omega, by have := hh.2; omega⟩
noncomputable def forB (es : List E) (N : Nat) (zs : List Int) : Bool := @decide (∃ l, zs = natI l ∧ IsFor es N l) (Classical.propDecidable _)
theorem forB_iff {es : List E} {N : Nat} {zs : List Int} : forB es N zs = true ↔ ∃ l, zs = natI l ∧ IsFor es N l := @decide_eq_true_iff _ (Classical.propDecidable _)
theorem forestB_any (N : Nat) (A L : Option Addr) (len cap ll cl : Nat) (es : List E) (zs : List Int) (w : World) (hr : Rd w A len 3 (ps3 .i64 .i64 .i64 es)) (hrl : Rd w L ll 1 (ints .i64 zs)) (hN : N ≤ 10) (hl : len ≤ 45) (hok : ∀ e ∈ es, okE N e) (hll : ll ≤ 9223372036854775807) (hcl : ll ≤ cl) :
    Calls Try.prog 7 #[.agg #[.int .i64 N, .slice A len cap], .slice L ll cl] w fun e w' => e = .returned (.bool (forB es N zs)) ∧ Below w.heap.size w w' :=
  (forest_any N A L len cap ll cl es zs w hr hrl hN hl hok hll hcl).mono fun _ _ ⟨b, he, hb, hB⟩ => ⟨by
    rw [he]
    have : b = forB es N zs := by rw [Bool.eq_iff_iff, hb, forB_iff]
    rw [this], hB⟩
set_option maxHeartbeats 3200000 in
set_option maxRecDepth 100000 in
theorem light_walk (N : Int) (A : Option Addr) (len cap : Nat) (es : List E) (L : Option Addr) (ll cl : Nat) (zs : List Int) (w : World) (hr : Rd w A len 3 (ps3 .i64 .i64 .i64 es)) (hlen : len ≤ 9223372036854775807) (hcap : len ≤ cap) (hrl : Rd w L ll 1 (ints .i64 zs)) (hll : ll ≤ 9223372036854775807) (hcl : ll ≤ cl) :
    Calls Try.prog 3 #[.agg #[.int .i64 N, .slice A len cap], .slice L ll cl] w fun e w' => e = .returned (.bool true) ∧ Below w.heap.size w w' := by
  have hel : es.length = len := ps3_len hr
  have gb := (Below.refl _ w).alloc (Nat.le_refl _) (.cells #[.int .i64 N, .slice A len cap] 24)
  have hK := Blk.new w 24 #[.int .i64 (N : Int), .slice A len cap]
  have g0 := hK.cell (j := 0) rfl
  have g1 := hK.cell (j := 1) rfl
  by_cases hok : gchk N es = 0
  · obtain ⟨h0, h10, h45, hokE, hlight⟩ := gchk_ok hok
    obtain ⟨n, rfl⟩ := Int.eq_ofNat_of_zero_le h0
    rw [Int.toNat_natCast] at hokE
    have hn10 : n ≤ 10 := by omega
    have hl45 : len ≤ 45 := by omega
    have hlt := light_of hlight
    have HT := Lib.hid (spanLeast_ok n A len cap es _ (hr.later gb) hok)
    have HG := Lib.hid (fun W (h : Below w.heap.size w W) => good_any n A len cap es W (hr.later h) hlen hcap)
    rw [hok] at HG
    have HF := Lib.hid (fun W (h : Below w.heap.size w W) => forestB_any n A L len cap ll cl es zs W (hr.later h) (hrl.later h) hn10 hl45 hokE hll hcl)
    have HW := Lib.hid (fun (l : List Nat) (e : zs = natI l) (hin : ∀ i ∈ l, i < es.length) (h45 : ll ≤ 45) W (h : Below w.heap.size w W) => weighs_any n A L len cap ll cl es l W (hr.later h) (e ▸ hrl.later h) hin h45 hlt)
    have hzl : zs.length = ll := by simpa [ints] using hrl.1
    have hrH := Lib.hid hr; have hokH := Lib.hid hokE; have helH := Lib.hid hel; have hltH := Lib.hid hlt
    have gbH := Lib.hid gb; have hKH := Lib.hid hK; have hzlH := Lib.hid hzl
    clear hr hrl gb hK hok hokE hel h0 h10 h45 hlight hlt hzl
    go_enter Try.func3, Try.ntmps3
    go_wp2_with fail
    refine HT.out.mono ?_
    rintro _ w1 ⟨v, l, G, rfl, hown, hFG, hSr, hlp, hlN, hb1⟩
    obtain ⟨AL, cL, rfl⟩ := own_slice hown
    have hbw := gbH.out.trans (hb1.mono (by simp))
    have hK1 := hKH.out.below hb1 hKH.out.lt
    have q0 := hK1.cell (j := 0) rfl
    have q1 := hK1.cell (j := 1) rfl
    have HG1 := Lib.hid (HG.out w1 hbw)
    have hIs : IsFor es n l := IsFor.perm (by have := kr_for hokH.out (helH.out.symm ▸ hFG); rwa [helH.out] at this) hlp
    have hlaw : ∀ l2, IsFor es n l2 → wgt es l ≤ wgt es l2 := fun l2 h2 => by
      have h3 := kruskal_law hokH.out (helH.out.symm ▸ hFG) (helH.out.symm ▸ hSr) h2
      rw [helH.out] at h3
      have h4 : wgt es l = wgt es (kr es G len) := perm_sumI (hlp.map _)
      omega
    have hcL := own_capS hown
    obtain ⟨m, hm⟩ : ∃ m, l.length = m := ⟨_, rfl⟩
    rw [hm] at hown hcL hlN ⊢
    have hrdL := Rd.of_own hown
    have HF1 := Lib.hid (fun W (h : Below w1.heap.size w1 W) => forestB_any n A AL len cap m cL es (natI l) W (hrH.out.later (hbw.trans (h.mono hbw.size))) (hrdL.later h) hn10 hl45 hokH.out (by omega) hcL)
    have hfl : forB es n (natI l) = true := forB_iff.2 ⟨l, rfl, hIs⟩
    rw [hfl] at HF1
    have HW1 := Lib.hid (fun W (h : Below w1.heap.size w1 W) => weighs_any n A AL len cap m cL es l W (hrH.out.later (hbw.trans (h.mono hbw.size))) (hrdL.later h) hIs.ins (by omega) hltH.out)
    have hbwH := Lib.hid hbw; have hK1H := Lib.hid hK1; have hlawH := Lib.hid hlaw
    clear hb1 hbw hK1 g0 g1 HT hown hFG hSr hlp HG hrdL hlaw hIs hfl hm
    go_wp2_with fail
    refine HG1.out.mono ?_
    rintro _ w2 ⟨rfl, hb2⟩
    have hb2H := Lib.hid hb2
    have hK2 := Lib.hid (hK1H.out.below hb2 hK1H.out.lt)
    have q0 := hK2.out.cell (j := 0) rfl
    have q1 := hK2.out.cell (j := 1) rfl
    clear hb2 HG1 hK1H
    go_wp2_with fail
    refine (HF1.out _ hb2H.out).mono ?_
    rintro _ w3 ⟨rfl, hb3⟩
    have hb13 := hb2H.out.trans (hb3.mono hb2H.out.size)
    have hb3w := hbwH.out.trans (hb13.mono hbwH.out.size)
    have hK3 := hK2.out.below hb3 hK2.out.lt
    have q0 := hK3.cell (j := 0) rfl
    have q1 := hK3.cell (j := 1) rfl
    have hb13H := Lib.hid hb13; have hb3H := Lib.hid hb3w
    clear hb3 hb13 hb3w hK3 HF1 hb2H hK2 hbwH
    have gp0 := fun p : BW w3 => BW.cell (w := w3) q0 p
    have gp1 := fun p : BW w3 => BW.cell (w := w3) q1 p
    have hF2 := Lib.hid (fun p : BW w3 => HF.out p.w' (hb3H.out.trans (p.hb.mono hb3H.out.size)))
    have hW1 := Lib.hid (fun p : BW w3 => HW1.out p.w' (hb13H.out.trans (p.hb.mono hb13H.out.size)))
    cases hfz : forB es n zs with
    | false =>
      rw [hfz] at hF2
      clear HW HF HW1 hW1 hfz
      go_upto_region 6 with fail
      refine wp_region_below (by kernel_rfl) (by kernel_rfl) ?_
      repeat (go_big_quiet_step (first | rfl | (with_reducible refine Calls.bel (hF2.out _))))
      refine wpQuiet_nil ?_
      rintro _ ⟨⟨wB, bB⟩, rfl⟩
      have hfin := Lib.hid (hb3H.out.trans (bB.mono hb3H.out.size))
      clear bB gp0 gp1 hF2
      go_wp2
      go_ret
      exact ⟨rfl, hfin.out⟩
    | true =>
      obtain ⟨l2, hz2, h2⟩ := forB_iff.1 hfz
      have hll2 : ll ≤ 45 := by
        have h3 := nodup_len h2.one h2.ins
        have h4 := hzlH.out
        rw [hz2] at h4
        have h5 : (natI l2).length = l2.length := by simp [natI]
        have := helH.out
        omega
      have hW2 := Lib.hid (fun p : BW w3 => HW.out l2 hz2 h2.ins hll2 p.w' (hb3H.out.trans (p.hb.mono hb3H.out.size)))
      have hle := hlawH.out l2 h2
      rw [hfz] at hF2
      clear HW HF HW1 hfz hz2 h2 hlawH
      generalize wgt es l = x1 at *
      generalize wgt es l2 = x2 at *
      have hled : decide (x1 ≤ x2) = true := decide_eq_true hle
      go_upto_region 6 with fail
      refine wp_region_below (by kernel_rfl) (by kernel_rfl) ?_
      repeat (go_big_quiet_step (first | rfl | (with_reducible refine Calls.bel (hF2.out _)) | (with_reducible refine Calls.bel (hW1.out _)) | (with_reducible refine Calls.bel (hW2.out _))))
      refine wpQuiet_nil ?_
      rintro _ ⟨⟨wB, bB⟩, rfl⟩
      have hfin := Lib.hid (hb3H.out.trans (bB.mono hb3H.out.size))
      clear bB gp0 gp1 hF2 hW1 hW2
      go_wp2
      go_ret
      exact ⟨rfl, hfin.out⟩
  · have HT := Lib.hid (spanLeast_bad N A len cap es _ (hr.later gb) hlen (by simpa using hok))
    have HG := Lib.hid (fun W (h : Below w.heap.size w W) => good_any N A len cap es W (hr.later h) hlen hcap)
    have e1 : (gchk N es == 0) = false := by simpa using hok
    rw [e1] at HG
    have gbH := Lib.hid gb; have hKH := Lib.hid hK
    clear hr hrl gb hK hok hel
    generalize gchk N es = q at *
    go_enter Try.func3, Try.ntmps3
    go_wp2_with fail
    refine HT.out.mono ?_
    rintro _ w1 ⟨z, rfl, hz, hb1⟩
    have hbw := gbH.out.trans (hb1.mono (by simp))
    have hK1 := hKH.out.below hb1 hKH.out.lt
    have q0 := hK1.cell (j := 0) rfl
    have q1 := hK1.cell (j := 1) rfl
    have HG1 := Lib.hid (HG.out w1 hbw)
    have hbwH := Lib.hid hbw; have hK1H := Lib.hid hK1
    clear hb1 hbw hK1 g0 g1 HT
    go_wp2_with fail
    refine HG1.out.mono ?_
    rintro _ w2 ⟨rfl, hb2⟩
    have hbw2 := hbwH.out.trans (hb2.mono hbwH.out.size)
    go_wp2
    go_ret
    exact ⟨rfl, hbw2⟩
theorem spanLightest_any (N : Int) (A : Option Addr) (len cap : Nat) (es : List E) (L : Option Addr) (ll cl : Nat) (zs : List Int) (w : World) (_ : (Lit.int .i64 N).wf = true) (hr : Rd w A len 3 (ps3 .i64 .i64 .i64 es)) (hlen : len ≤ maxLen) (hcap : len ≤ cap) (_ : ∀ a ∈ es, (Lit.int .i64 a.1).wf = true ∧ (Lit.int .i64 a.2.1).wf = true ∧ (Lit.int .i64 a.2.2).wf = true) (hrl : Rd w L ll 1 (ints .i64 zs)) (hll : ll ≤ maxLen) (hcl : ll ≤ cl) (_ : ∀ z ∈ zs, (Lit.int .i64 z).wf = true) :
    Calls Try.prog 3 #[.agg #[.int .i64 N, .slice A len cap], .slice L ll cl] w fun e w' => e = .returned (.bool true) ∧ Below w.heap.size w w' := by
  unfold maxLen at hlen hll
  exact light_walk N A len cap es L ll cl zs w hr (by omega) hcap hrl (by omega) hcl
end Go.Proofs.Ytdmbbddkbfknlaa
