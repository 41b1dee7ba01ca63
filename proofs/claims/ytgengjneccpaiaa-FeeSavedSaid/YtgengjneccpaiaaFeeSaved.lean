/- FeeSaved: the law, and the walk. -/
import Derived.Test.YtgengjneccpaiaaFeeSpare
namespace Go.Proofs.Ytgengjneccpaiaa
open Go.RowKit Go.Shelf

/-- none of that value costs less; and as much where there are potentials -/
theorem saved_law {N : Nat} {l : List Arc} {s t : Nat} {f g : Nat → Int} {v : Int} (hn : NOk N l) (hs : s < N) (ht : t < N) (hst : s ≠ t) (hf : Chp N l s t f v) (hg : FL N l s t g v) :
    costF l f ≤ costF l g ∧ ((∃ q, Pt l g q) → costF l g = costF l f) := by
  obtain ⟨q, hq, _⟩ := hf.pt
  have h1 := hq.least hn hs ht hst hf.fl hg
  rw [Int.sub_self, Int.zero_mul, Int.add_zero] at h1
  refine ⟨h1, fun ⟨q2, hq2⟩ => ?_⟩
  have h2 := hq2.least hn hs ht hst hg hf.fl
  rw [Int.sub_self, Int.zero_mul, Int.add_zero] at h2
  omega
theorem len0 (x : Nat) : x = 0 → ((x : Int) == 0) = true := by rintro rfl; rfl
section
variable (n : Int) (A : Option Addr) (len cap : Nat) (l : List Arc) (s t value : Int) (w : World) (G : Option Addr) (lg cg : Nat)
theorem feeSaved_bad (hr : Rd w A len 4 (arcs l)) (hlen : len ≤ 9223372036854775807) (h : fwr n l s t value ≠ 0) :
    Calls Try.prog 4 #[.agg #[.int .i64 n, .slice A len cap], .int .i64 s, .int .i64 t, .int .i64 value, .slice G lg cg] w fun e w' => e = .returned (.bool true) ∧ Below w.heap.size w w' := by
  have hb0 := (Below.refl _ w).alloc (Nat.le_refl _) (.cells #[.int .i64 n, .slice A len cap] 24)
  have hr0 := hr.later hb0
  have hK := Blk.new w 24 #[.int .i64 n, .slice A len cap]
  have k0 := hK.cell (j := 0) rfl
  have k1 := hK.cell (j := 1) rfl
  have HL := Lib.hid (least_bad n A len cap l s t value _ hr0 hlen h)
  have e1 : (fwr n l s t value != 0) = true := by simpa using h
  have hb0H := Lib.hid hb0
  clear hr hr0 hb0 hK h
  generalize fwr n l s t value = q at *
  go_enter Try.func4, Try.ntmps4
  go_wp2_with fail
  refine HL.out.mono ?_
  rintro e w1 ⟨rfl, hb1⟩
  have hbF := hb0H.out.trans (hb1.mono hb0H.out.size)
  go_wp2
  go_ret
  exact ⟨rfl, hbF⟩
end
set_option maxHeartbeats 6400000 in
set_option maxRecDepth 100000 in
theorem feeSaved_ok (N : Nat) (A : Option Addr) (len cap : Nat) (l : List Arc) (s t : Nat) (value : Int) (G : Option Addr) (lg cg : Nat) (gs : List Int) (w : World) (hr : Rd w A len 4 (arcs l)) (hlen : len ≤ 9223372036854775807) (hrg : Rd w G lg 1 (ints .i64 gs)) (hlg : lg ≤ 9223372036854775807) (hv : value ≤ 9223372036854775807) (h : fwr N l s t value = 0) :
    Calls Try.prog 4 #[.agg #[.int .i64 N, .slice A len cap], .int .i64 s, .int .i64 t, .int .i64 value, .slice G lg cg] w fun e w' => e = .returned (.bool true) ∧ Below w.heap.size w w' := by
  have hel := arcs_len hr
  have hb0 := (Below.refl _ w).alloc (Nat.le_refl _) (.cells #[.int .i64 N, .slice A len cap] 24)
  have hK := Blk.new w 24 #[.int .i64 N, .slice A len cap]
  have k0 := hK.cell (j := 0) rfl
  have k1 := hK.cell (j := 1) rfl
  have HL := Lib.hid (least_ok N A len cap l s t value _ (hr.later hb0) h hv)
  obtain ⟨h1, h2, h3⟩ := fwr_ok h
  obtain ⟨h4, h5, h6, h7, h8, h9⟩ := echk_ok h1
  obtain ⟨g1, g2, g3, g4⟩ := nchk_ok h4
  have hn := Lib.hid (⟨g4⟩ : NOk N l)
  have hnk := Lib.hid h4
  have hs : s < N := by omega
  have ht : t < N := by omega
  have hst : s ≠ t := by omega
  have hN : N ≤ 10 := by omega
  have hl30 : len ≤ 30 := by omega
  have hrH := Lib.hid hr; have hb0H := Lib.hid hb0; have hKH := Lib.hid hK; have helH := Lib.hid hel; have hrgH := Lib.hid hrg
  clear hr hb0 hK h hel h1 h3 h4 h5 h6 h7 h8 h9 g1 g2 g3 g4 hrg
  go_enter Try.func4, Try.ntmps4
  go_wp2_with fail
  refine HL.out.mono ?_
  rintro e w1 hp
  obtain ⟨hb1, ca, sa, ea, rfl, ha⟩ := hp.v
  have hbb := Lib.hid (hb0H.out.trans (hb1.mono hb0H.out.size))
  have hK1 := Lib.hid (hKH.out.below hb1 hKH.out.lt)
  have k0 := hK1.out.cell (j := 0) rfl
  have k1 := hK1.out.cell (j := 1) rfl
  clear hb1 hp HL
  rcases ha with ⟨rfl, rfl, rfl, _⟩ | ⟨rfl, f, gl, cp, rfl, rfl, hown, hC⟩
  · go_wp2
    go_ret
    exact ⟨rfl, hbb.out⟩
  · have hrf := Rd.of_own hown
    rw [rowLF_ints] at hrf
    have hgf : ∀ k, k < l.length → (rowLF len f).getD k 0 = f k := fun k hk => rowLF_get (by rw [← helH.out]; exact hk)
    have hfl : FL N l s t (fun k => (rowLF len f).getD k 0) value := hC.fl.congrF hgf
    have hPt : ∃ q, Pt l (fun k => (rowLF len f).getD k 0) q := by
      obtain ⟨q, hq, _⟩ := hC.pt
      refine ⟨q, fun x hx hrm => hq x hx ?_⟩
      have e : rm l (fun k => (rowLF len f).getD k 0) x = rm l f x := by unfold rm; dsimp only; rw [hgf x.1 hx]
      rw [← e]; exact hrm
    have hflH := Lib.hid hfl; have hPtH := Lib.hid hPt; have hCH := Lib.hid hC; have hrfH := Lib.hid hrf
    have HS := Lib.hid (spare_ok N A (some ⟨gl, 0, none⟩) len cap cp l (rowLF len f) w1 (hrH.out.later hbb.out) hrf hnk.out hfl.ok)
    clear hown hrf hgf hfl hPt hC
    go_wp2_with fail
    refine HS.out.mono ?_
    rintro e w2 ⟨hb2, on, rfl, _, hon⟩
    obtain rfl : on = false := by
      cases on
      · rfl
      · exact absurd hPtH.out (hon rfl)
    have hbb2 := Lib.hid (hbb.out.trans (hb2.mono hbb.out.size))
    have hK2 := Lib.hid (hK1.out.below hb2 hK1.out.lt)
    have k0 := hK2.out.cell (j := 0) rfl
    have k1 := hK2.out.cell (j := 1) rfl
    have HF := Lib.hid (flows_any N A (some ⟨gl, 0, none⟩) len cap len cp l (rowLF len f) s t w2 (hrH.out.later hbb2.out) (hrfH.out.later hb2) hn.out hN hl30 hlen hs ht)
    clear hb2 hon HS
    go_wp2_with fail
    refine HF.out.mono ?_
    rintro _ w3 ⟨hb3, v3, ok3, rfl, hy3, hn3⟩
    obtain rfl : ok3 = true := by
      cases ok3
      · exact absurd ⟨rfl, _, hflH.out⟩ (hn3 rfl)
      · rfl
    obtain rfl : v3 = value := by
      have h1 := (hy3 rfl).2.vl
      rw [hflH.out.vl] at h1; exact h1.symm
    have evv : (v3 != v3) = false := by simp
    have hbb3 := Lib.hid (hbb2.out.trans (hb3.mono hbb2.out.size))
    have hK3 := Lib.hid (hK2.out.below hb3 hK2.out.lt)
    have k0 := hK3.out.cell (j := 0) rfl
    have k1 := hK3.out.cell (j := 1) rfl
    have HG := Lib.hid (flows_any N A G len cap lg cg l gs s t w3 (hrH.out.later hbb3.out) (hrgH.out.later hbb3.out) hn.out hN hl30 hlg hs ht)
    clear hb3 hy3 hn3 HF hflH hPtH hrfH
    go_wp2_with fail
    refine HG.out.mono ?_
    rintro _ w4 ⟨hb4, v4, ok4, rfl, hy4, _⟩
    have hbb4 := Lib.hid (hbb3.out.trans (hb4.mono hbb3.out.size))
    have hK4 := Lib.hid (hK3.out.below hb4 hK3.out.lt)
    have k0 := hK4.out.cell (j := 0) rfl
    have k1 := hK4.out.cell (j := 1) rfl
    have hy4H := Lib.hid hy4
    clear hb4 HG hy4
    cases ok4
    · go_wp2
      go_ret
      exact ⟨rfl, hbb4.out⟩
    · by_cases hvv : v4 = v3
      · subst hvv
        obtain ⟨hll, hflg⟩ := hy4H.out rfl
        subst hll
        have hcb := costF_bd hn.out hflg.ok
        have hgb : ∀ k, k < l.length → 0 ≤ gs.getD k 0 ∧ gs.getD k 0 ≤ 1048576 := fun k hk => by
          have h1 := hflg.ok k hk
          have h2 := hn.out.at hk
          omega
        have hlaw := saved_law hn.out hs ht hst hCH.out hflg
        have HS2 := Lib.hid (spare_ok N A G lg cap cg l gs w4 (hrH.out.later hbb4.out) (hrgH.out.later hbb4.out) hnk.out hflg.ok)
        have HCo := Lib.hid (fun W hW hW2 => costs_any N A G lg cap cg l gs W hW hW2 hn.out hl30 hgb)
        have hlawH := Lib.hid hlaw
        clear hflg hgb hlaw hcb
        generalize costF l f = cf at *
        generalize costF l (fun k => gs.getD k 0) = cg' at *
        go_wp2_with fail
        refine HS2.out.mono ?_
        rintro _ w5 ⟨hb5, on, rfl, ho1, _⟩
        have hbb5 := Lib.hid (hbb4.out.trans (hb5.mono hbb4.out.size))
        have hK5 := Lib.hid (hK4.out.below hb5 hK4.out.lt)
        have k0 := hK5.out.cell (j := 0) rfl
        have k1 := hK5.out.cell (j := 1) rfl
        have d1 : decide (cf ≤ cg') = true := decide_eq_true hlawH.out.1
        have ho1H := Lib.hid ho1
        clear hb5 HS2 ho1
        go_wp2_with fail
        refine (HCo.out w5 (hrH.out.later hbb5.out) (hrgH.out.later hbb5.out)).mono ?_
        rintro _ w6 ⟨rfl, hb6⟩
        have hbb6 := Lib.hid (hbb5.out.trans (hb6.mono hbb5.out.size))
        have hK6 := Lib.hid (hK5.out.below hb6 hK5.out.lt)
        have k0 := hK6.out.cell (j := 0) rfl
        have k1 := hK6.out.cell (j := 1) rfl
        clear hb6
        cases on
        · have heq := hlawH.out.2 (ho1H.out rfl)
          subst heq
          go_wp2_with fail
          refine (HCo.out w6 (hrH.out.later hbb6.out) (hrgH.out.later hbb6.out)).mono ?_
          rintro _ w7 ⟨rfl, hb7⟩
          have hbF := hbb6.out.trans (hb7.mono hbb6.out.size)
          go_wp2
          go_ret
          exact ⟨rfl, hbF⟩
        · go_wp2
          go_ret
          exact ⟨rfl, hbb6.out⟩
      · have hne : (v4 != v3) = true := by simpa using hvv
        clear hvv
        go_wp2
        go_ret
        exact ⟨rfl, hbb4.out⟩
theorem feeSaved_any (n : Int) (A : Option Addr) (len cap : Nat) (l : List Arc) (s t value : Int) (G : Option Addr) (lg cg : Nat) (gs : List Int) (w : World) (hr : Rd w A len 4 (arcs l)) (hlen : len ≤ 9223372036854775807) (hrg : Rd w G lg 1 (ints .i64 gs)) (hlg : lg ≤ 9223372036854775807) (hv : value ≤ 9223372036854775807) :
    Calls Try.prog 4 #[.agg #[.int .i64 n, .slice A len cap], .int .i64 s, .int .i64 t, .int .i64 value, .slice G lg cg] w fun e w' => e = .returned (.bool true) ∧ Below w.heap.size w w' := by
  by_cases h : fwr n l s t value = 0
  · obtain ⟨h1, h2, h3⟩ := fwr_ok h
    obtain ⟨h4, h5, h6, h7, h8, h9⟩ := echk_ok h1
    obtain ⟨g1, g2, g3, g4⟩ := nchk_ok h4
    obtain ⟨N, rfl⟩ := Int.eq_ofNat_of_zero_le g1
    obtain ⟨sN, rfl⟩ := Int.eq_ofNat_of_zero_le h5
    obtain ⟨tN, rfl⟩ := Int.eq_ofNat_of_zero_le h7
    exact feeSaved_ok N A len cap l sN tN value G lg cg gs w hr hlen hrg hlg hv h
  · exact feeSaved_bad n A len cap l s t value w G lg cg hr hlen h
end Go.Proofs.Ytgengjneccpaiaa
