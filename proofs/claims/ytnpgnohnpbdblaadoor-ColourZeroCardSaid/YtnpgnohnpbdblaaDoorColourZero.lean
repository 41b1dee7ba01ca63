/- ColourZero: there is a colouring just if it is no less than the least; and with one more there are no fewer. -/
import Derived.Test.YtnpgnohnpbdblaaDoorCountB
import Derived.Test.YtnpgnohnpbdblaaDoorPaintD
import Derived.Test.YtnpgnohnpbdblaaDoorCard
namespace Go.Proofs.YtnpgnohnpbdblaaDoor
open Go.RowKit Go.Shelf

theorem pre0 (k : Nat) : PPre k 0 fun _ => -1 := ⟨fun j hj => absurd hj (by omega), fun _ _ => rfl⟩
theorem cnt_chi {ns : List Nat} {n k c : Nat} (g : Gr n ns) (hk : k ≤ 12) (h : IsChi ns n c) : 0 < Cnt ns k n 0 (fun _ => -1) ↔ c ≤ k := by
  rw [Cnt_pos g hk n 0 _ (by omega) (pre0 k)]
  constructor
  · rintro ⟨M, hM⟩
    exact isChi_le h ((col_ext g).1 hM)
  · intro hck
    obtain ⟨⟨M, hM⟩, _⟩ := h
    refine ⟨fun j => if j < n then M j else 0, ?_⟩
    exact (col_ext g).2 (col_congr g (col_mono hM hck) fun j hj => by simp [hj])
set_option maxHeartbeats 1600000 in
theorem zero_walk (N k : Int) (A : Option Addr) (len cap : Nat) (es : List E) (w : World) (hr : Rd w A len 3 (ps3 .i64 .i64 .i64 es)) (hlen : len ≤ 9223372036854775807) (hcap : len ≤ cap) (htb : Tb w) (hg : 0 < w.heap.size) :
    Calls Tryd.prog 10 #[.agg #[.int .i64 N, .slice A len cap], .int .i64 k] w fun e w' => e = .returned (.bool true) ∧ Below w.heap.size w w' := by
  have gb := (Below.refl _ w).alloc (Nat.le_refl _) (.cells #[.int .i64 N, .slice A len cap] 24)
  have g0 : (w.alloc (.cells #[.int .i64 N, .slice A len cap] 24)).cell? ⟨w.heap.size, 0, none⟩ = some (.int .i64 N) := by go_simp
  have g1 : (w.alloc (.cells #[.int .i64 N, .slice A len cap] 24)).cell? ⟨w.heap.size, 1, none⟩ = some (.slice A len cap) := by go_simp
  have gs : (w.alloc (.cells #[.int .i64 N, .slice A len cap] 24)).heap.size = w.heap.size + 1 := by simp
  have HG := Lib.hid (fun W (h : Below w.heap.size w W) => good_any N A len cap es W (hr.later h) hlen hcap)
  cases hq : gchk N es == 0
  · have HC := Lib.hid (count_bad N k A len cap es _ (hr.later gb) hlen hq)
    have HL := Lib.hid (fun W (h : Below w.heap.size w W) => least_bad N A len cap es W (hr.later h) hlen hq)
    rw [hq] at HG
    clear hr hq htb
    go_enter Tryd.func10, Tryd.ntmps10
    go_wp2_with fail
    generalize w.alloc (.cells #[.int .i64 N, .slice A len cap] 24) = wg at *
    refine HC.out.mono ?_
    rintro _ w1 ⟨z, rfl, hz, hb1⟩
    have q0 := below_cell hb1 (by omega) g0
    have q1 := below_cell hb1 (by omega) g1
    have hbw := gb.trans (hb1.mono (by omega))
    have hs1 := hb1.size
    have HL1 := Lib.hid (HL.out w1 hbw)
    clear hb1 g0 g1 gb
    go_wp2_with fail
    refine HL1.out.mono ?_
    rintro _ w2 ⟨z2, rfl, hz2, hb2⟩
    have q0 := below_cell hb2 (by omega) q0
    have q1 := below_cell hb2 (by omega) q1
    have hbw2 := hbw.trans (hb2.mono hbw.size)
    have HG1 := Lib.hid (HG.out w2 hbw2)
    clear hb2 hbw
    go_wp2_with fail
    refine HG1.out.mono ?_
    rintro _ w3 ⟨rfl, hb3⟩
    go_wp2
    go_ret
    exact ⟨rfl, hbw2.trans (hb3.mono hbw2.size)⟩
  · have hok : gchk N es = 0 := by simpa using hq
    obtain ⟨h0, h10, h45, hokE, _⟩ := gchk_ok hok
    obtain ⟨n, rfl⟩ := Int.eq_ofNat_of_zero_le h0
    rw [ps3_len hr] at h45
    have hN : n ≤ 10 := by omega
    have g := nearGr hok
    rw [hq] at HG
    have HL := Lib.hid (fun W (h : Below w.heap.size w W) => least_ok n A len cap es W (hr.later h) h45 hok (htb.below hg h) (Nat.lt_of_lt_of_le hg h.size))
    have HC := Lib.hid (fun W (h : Below w.heap.size w W) (q : Nat) (hq : q ≤ 12) => count_ok n q A len cap es W (hr.later h) h45 hok hq (htb.below hg h) (Nat.lt_of_lt_of_le hg h.size))
    have HR := Lib.hid (fun (hk : k < 0 ∨ 12 < k) => count_range n k A len cap es _ (hr.later gb) hlen hok hk)
    clear hr hq htb hok hokE
    by_cases hk : k < 0 ∨ 12 < k
    · have HR1 := Lib.hid (HR.out hk)
      clear HR HC
      rcases hk with hk | hk
      all_goals
        go_enter Tryd.func10, Tryd.ntmps10
        go_wp2_with fail
        generalize w.alloc (.cells #[.int .i64 (n : Int), .slice A len cap] 24) = wg at *
        refine HR1.out.mono ?_
        rintro _ w1 ⟨rfl, hb1⟩
        have q0 := below_cell hb1 (by omega) g0
        have q1 := below_cell hb1 (by omega) g1
        have hs1 := hb1.size
        have hbw := gb.trans (hb1.mono (by omega))
        have HL1 := Lib.hid (HL.out w1 hbw)
        clear hb1 g0 g1 gb
        go_wp2_with fail
        refine HL1.out.mono ?_
        rintro _ w2 ⟨c, gl, L, rfl, hown, hcol, hchi, hcN, hb2⟩
        have q0 := below_cell hb2 (by omega) q0
        have q1 := below_cell hb2 (by omega) q1
        have hbw2 := hbw.trans (hb2.mono hbw.size)
        have HG1 := Lib.hid (HG.out w2 hbw2)
        clear hb2 hbw hown hcol hchi
        go_wp2_with fail
        refine HG1.out.mono ?_
        rintro _ w3 ⟨rfl, hb3⟩
        have hb4 := hbw2.trans (hb3.mono hbw2.size)
        go_wp2
        go_ret
        exact ⟨rfl, hb4⟩
    · obtain ⟨q, rfl⟩ := Int.eq_ofNat_of_zero_le (show 0 ≤ k by omega)
      have hq12 : q ≤ 12 := by omega
      have HC1 := Lib.hid (HC.out _ gb q hq12)
      have hlaw := Lib.hid (fun c (h : IsChi (nearW n es) n c) => cnt_chi g hq12 h)
      have hmore := Lib.hid (fun (h : q < 12) => Cnt_more (ns := nearW n es) (k := q) h n 0 (fun _ => -1) (fun _ => by omega))
      have hcle := Cnt_le (ns := nearW n es) hq12 n 0 (fun _ => -1)
      have h12 : 12 ^ n ≤ 61917364224 := Nat.le_trans (Nat.pow_le_pow_right (by omega) (show n ≤ 10 by omega)) (by decide)
      have hzero : n = 0 → Cnt (nearW n es) q n 0 (fun _ => -1) = 1 := fun e => by subst e; rfl
      have hzH := Lib.hid hzero
      clear HR hk hzero
      by_cases hq11 : q ≤ 11
      · have HC2 := Lib.hid (fun W (h : Below w.heap.size w W) => HC.out W h (q + 1) (by omega))
        have hm := hmore.out (by omega)
        have hcle2 := Cnt_le (ns := nearW n es) (k := q + 1) (by omega) n 0 (fun _ => -1)
        have hw1 : IntKind.i64.wrap ((q : Int) + 1) = ((q + 1 : Nat) : Int) := by rw [IntWalk.i64_in _ (by omega)]; simp
        have hw1H := Lib.hid hw1
        obtain ⟨R2, hR2⟩ : ∃ R, Cnt (nearW n es) (q + 1) n 0 (fun _ => -1) = R := ⟨_, rfl⟩
        obtain ⟨R1, hR1⟩ : ∃ R, Cnt (nearW n es) q n 0 (fun _ => -1) = R := ⟨_, rfl⟩
        simp only [hR2] at HC2 hm hcle2
        simp only [hR1] at HC1 hm hcle hlaw hzH
        clear HC hmore hR1 hR2 hw1
        simp only [show ((q + 1 : Nat) : Int) = (q : Int) + 1 by omega] at HC2
        go_enter Tryd.func10, Tryd.ntmps10
        go_wp2_with fail
        generalize w.alloc (.cells #[.int .i64 (n : Int), .slice A len cap] 24) = wg at *
        refine HC1.out.mono ?_
        rintro _ w1 ⟨rfl, hb1⟩
        have q0 := below_cell hb1 (by omega) g0
        have q1 := below_cell hb1 (by omega) g1
        have hs1 := hb1.size
        have hbw := gb.trans (hb1.mono (by omega))
        have HL1 := Lib.hid (HL.out w1 hbw)
        clear hb1 g0 g1 gb
        go_wp2_with fail
        refine HL1.out.mono ?_
        rintro _ w2 ⟨c, gl, L, rfl, hown, hcol, hchi, hcN, hb2⟩
        have hl := hlaw.out c hchi
        have q0 := below_cell hb2 (by omega) q0
        have q1 := below_cell hb2 (by omega) q1
        have hs2 := hb2.size
        have hbw2 := hbw.trans (hb2.mono hbw.size)
        have HG1 := Lib.hid (HG.out w2 hbw2)
        clear hb2 hbw hown hcol hchi hlaw
        go_wp2_with fail
        refine HG1.out.mono ?_
        rintro _ w3 ⟨rfl, hb3⟩
        have q0 := below_cell hb3 (by omega) q0
        have q1 := below_cell hb3 (by omega) q1
        have hs3 := hb3.size
        have hbw3 := hbw2.trans (hb3.mono hbw2.size)
        have HC3 := Lib.hid (HC2.out w3 hbw3)
        clear hb3 hbw2
        go_wp2_with fail
        refine HC3.out.mono ?_
        rintro _ w4 ⟨rfl, hb4⟩
        have q0 := below_cell hb4 (by omega) q0
        have hbw4 := hbw3.trans (hb4.mono hbw3.size)
        have hm' : (R1 : Int) ≤ R2 := by omega
        clear hb4 hbw3
        by_cases hn0 : n = 0
        · have hR1 := hzH.out hn0
          subst hn0; subst hR1
          have hcq : (c : Int) ≤ q := by have := hl.1 (by omega); omega
          clear hl hm
          go_wp2
          go_ret
          exact ⟨rfl, hbw4⟩
        · have hn1 : (0 : Int) < n := by omega
          by_cases hck : c ≤ q
          · have hRp : (0 : Int) < R1 := by have := hl.2 hck; omega
            have hcq : (c : Int) ≤ q := by omega
            clear hl hm hn0 hck
            go_wp2
            go_ret
            exact ⟨rfl, hbw4⟩
          · obtain rfl : R1 = 0 := by
              rcases Nat.eq_zero_or_pos R1 with h | h
              · exact h
              · exact absurd (hl.1 h) hck
            have hcq : (q : Int) < c := by omega
            clear hl hm hn0 hck
            go_wp2
            go_ret
            exact ⟨by simp; omega, hbw4⟩
      · obtain rfl : q = 12 := by omega
        generalize Cnt (nearW n es) 12 n 0 (fun _ => -1) = R1 at *
        clear HC hmore hlaw hzH
        go_enter Tryd.func10, Tryd.ntmps10
        go_wp2_with fail
        generalize w.alloc (.cells #[.int .i64 (n : Int), .slice A len cap] 24) = wg at *
        refine HC1.out.mono ?_
        rintro _ w1 ⟨rfl, hb1⟩
        have q0 := below_cell hb1 (by omega) g0
        have q1 := below_cell hb1 (by omega) g1
        have hs1 := hb1.size
        have hbw := gb.trans (hb1.mono (by omega))
        have HL1 := Lib.hid (HL.out w1 hbw)
        clear hb1 g0 g1 gb
        go_wp2_with fail
        refine HL1.out.mono ?_
        rintro _ w2 ⟨c, gl, L, rfl, hown, hcol, hchi, hcN, hb2⟩
        have q0 := below_cell hb2 (by omega) q0
        have q1 := below_cell hb2 (by omega) q1
        have hbw2 := hbw.trans (hb2.mono hbw.size)
        have HG1 := Lib.hid (HG.out w2 hbw2)
        clear hb2 hbw hown hcol hchi
        go_wp2_with fail
        refine HG1.out.mono ?_
        rintro _ w3 ⟨rfl, hb3⟩
        have hb4 := hbw2.trans (hb3.mono hbw2.size)
        go_wp2
        go_ret
        exact ⟨rfl, hb4⟩
theorem colourZero_any (N : Int) (A : Option Addr) (len cap : Nat) (es : List E) (k : Int) (w : World) (_ : (Lit.int .i64 N).wf = true) (hr : Rd w A len 3 (ps3 .i64 .i64 .i64 es)) (hlen : len ≤ maxLen) (hcap : len ≤ cap) (_ : ∀ a ∈ es, (Lit.int .i64 a.1).wf = true ∧ (Lit.int .i64 a.2.1).wf = true ∧ (Lit.int .i64 a.2.2).wf = true) (_ : (Lit.int .i64 k).wf = true) (htb : Tb w) (hg : 0 < w.heap.size) :
    Calls Tryd.prog 10 #[.agg #[.int .i64 N, .slice A len cap], .int .i64 k] w fun e w' => e = .returned (.bool true) ∧ Below w.heap.size w w' := by
  unfold maxLen at hlen
  exact zero_walk N k A len cap es w hr (by omega) hcap htb hg
end Go.Proofs.YtnpgnohnpbdblaaDoor
