/- ColourWhitney: without an edge there are as many colourings as with it, and as with both its nodes in one, together. -/
import Derived.Test.YtnpgnohnpbdblaaDoorMerged
import Derived.Test.YtnpgnohnpbdblaaDoorCountB
import Derived.Test.YtnpgnohnpbdblaaDoorCard
namespace Go.Proofs.YtnpgnohnpbdblaaDoor
open Go.RowKit Go.Shelf

theorem pow_bd {q t n : Nat} (hq : q ≤ 12) (ht : t ≤ n) (hn : n ≤ 10) : q ^ t ≤ 61917364224 := Nat.le_trans (Nat.pow_le_pow_left hq t) (Nat.le_trans (Nat.pow_le_pow_right (by omega) (show t ≤ 10 by omega)) (by decide))
set_option maxHeartbeats 1600000 in
theorem whitney_walk (N k : Int) (ev : Nat) (hev : ev < 256) (A : Option Addr) (len cap : Nat) (es : List E) (w : World) (hr : Rd w A len 3 (ps3 .i64 .i64 .i64 es)) (hlen : len ≤ 9223372036854775807) (hcap : len ≤ cap) (htb : Tb w) (hg : 0 < w.heap.size) :
    Calls Tryd.prog 8 #[.agg #[.int .i64 N, .slice A len cap], .int .u8 (ev : Int), .int .i64 k] w fun e w' => e = .returned (.bool true) ∧ Below w.heap.size w w' := by
  have gb := (Below.refl _ w).alloc (Nat.le_refl _) (.cells #[.int .i64 N, .slice A len cap] 24)
  have g0 : (w.alloc (.cells #[.int .i64 N, .slice A len cap] 24)).cell? ⟨w.heap.size, 0, none⟩ = some (.int .i64 N) := by go_simp
  have g1 : (w.alloc (.cells #[.int .i64 N, .slice A len cap] 24)).cell? ⟨w.heap.size, 1, none⟩ = some (.slice A len cap) := by go_simp
  have gs : (w.alloc (.cells #[.int .i64 N, .slice A len cap] 24)).heap.size = w.heap.size + 1 := by simp
  have HG := Lib.hid (fun W (h : Below w.heap.size w W) => good_any N A len cap es W (hr.later h) hlen hcap)
  cases hq : gchk N es == 0
  · have HC := Lib.hid (count_bad N k A len cap es _ (hr.later gb) hlen hq)
    rw [hq] at HG
    clear hr hq htb
    go_enter Tryd.func8, Tryd.ntmps8
    go_wp2_with fail
    generalize w.alloc (.cells #[.int .i64 N, .slice A len cap] 24) = wg at *
    refine HC.out.mono ?_
    rintro _ w1 ⟨z, rfl, hz, hb1⟩
    have q0 := below_cell hb1 (by omega) g0
    have q1 := below_cell hb1 (by omega) g1
    have hbw := gb.trans (hb1.mono (by omega))
    have hs1 := hb1.size
    have HG1 := Lib.hid (HG.out w1 hbw)
    clear hb1 g0 g1 gb
    go_wp2_with fail
    refine HG1.out.mono ?_
    rintro _ w3 ⟨rfl, hb3⟩
    go_wp2
    go_ret
    exact ⟨rfl, hbw.trans (hb3.mono hbw.size)⟩
  · have hok : gchk N es = 0 := by simpa using hq
    obtain ⟨h0, h10, h45, hokE, _⟩ := gchk_ok hok
    obtain ⟨n, rfl⟩ := Int.eq_ofNat_of_zero_le h0
    rw [Int.toNat_natCast] at hokE
    have hel := ps3_len hr
    rw [hel] at h45
    have hN : n ≤ 10 := by omega
    rw [hq] at HG
    have HR := Lib.hid (fun (hk : k < 0 ∨ 12 < k) => count_range n k A len cap es _ (hr.later gb) hlen hok hk)
    by_cases hk : k < 0 ∨ 12 < k
    · have HR1 := Lib.hid (HR.out hk)
      clear HR hr hq htb hok hokE
      rcases hk with hk | hk
      all_goals
        go_enter Tryd.func8, Tryd.ntmps8
        go_wp2_with fail
        generalize w.alloc (.cells #[.int .i64 (n : Int), .slice A len cap] 24) = wg at *
        refine HR1.out.mono ?_
        rintro _ w1 ⟨rfl, hb1⟩
        have q0 := below_cell hb1 (by omega) g0
        have q1 := below_cell hb1 (by omega) g1
        have hs1 := hb1.size
        have hbw := gb.trans (hb1.mono (by omega))
        have HG1 := Lib.hid (HG.out w1 hbw)
        clear hb1 g0 g1 gb
        go_wp2_with fail
        refine HG1.out.mono ?_
        rintro _ w3 ⟨rfl, hb3⟩
        have hb4 := hbw.trans (hb3.mono hbw.size)
        go_wp2
        go_ret
        exact ⟨rfl, hb4⟩
    · obtain ⟨q, rfl⟩ := Int.eq_ofNat_of_zero_le (show 0 ≤ k by omega)
      have hq12 : q ≤ 12 := by omega
      have HC1 := Lib.hid (count_ok n q A len cap es _ (hr.later gb) h45 hok hq12 (htb.below hg gb) (Nat.lt_of_lt_of_le hg gb.size))
      clear HR hk
      have hcle := Cnt_le (ns := nearW n es) hq12 n 0 (fun _ => -1)
      have h12 : 12 ^ n ≤ 61917364224 := pow_bd (Nat.le_refl _) (Nat.le_refl _) hN
      by_cases hl0 : len = 0
      · subst hl0
        obtain rfl : es = [] := List.eq_nil_of_length_eq_zero hel
        have hF := Cnt_free (n := n) hq12 n 0 (fun _ => -1) (fun _ => by omega)
        rw [hF] at HC1 hcle
        obtain ⟨P, hP0, hPs, hPb, hPn⟩ : ∃ P : Nat → Nat, P 0 = 1 ∧ (∀ t, P (t + 1) = P t * q) ∧ (∀ t, t ≤ n → P t ≤ 61917364224) ∧ q ^ n = P n := ⟨fun t => q ^ t, by simp, fun t => Nat.pow_succ q t, fun t ht => pow_bd hq12 ht hN, rfl⟩
        rw [hPn] at HC1 hcle
        have hPH := Lib.hid hPs; have hPbH := Lib.hid hPb
        clear hF hr hq htb hok hokE hPn hPs hPb
        go_enter Tryd.func8, Tryd.ntmps8
        go_wp2_with fail
        generalize w.alloc (.cells #[.int .i64 (n : Int), .slice A 0 cap] 24) = wg at *
        refine HC1.out.mono ?_
        rintro _ w1 ⟨rfl, hb1⟩
        have q0 := below_cell hb1 (by omega) g0
        have q1 := below_cell hb1 (by omega) g1
        have hs1 := hb1.size
        have hbw := gb.trans (hb1.mono (by omega))
        have HG1 := Lib.hid (HG.out w1 hbw)
        clear hb1 g0 g1 gb HC1 HG
        go_wp2_with fail
        refine HG1.out.mono ?_
        rintro _ w3 ⟨rfl, hb3⟩
        have q0 := below_cell hb3 (by omega) q0
        have q1 := below_cell hb3 (by omega) q1
        have hb4 := hbw.trans (hb3.mono hbw.size)
        clear hb3 hbw HG1 hcle h12
        go_wp2
        go_loopw [9, 10] (fun x i wr => ∃ t : Nat, t ≤ n ∧ i = .int .i64 t ∧ x = .int .i64 (P t : Nat) ∧ wr = w3) (fun _ i _ => n - (intOf i).toNat)
        case atStart => exact ⟨0, Nat.zero_le _, rfl, by rw [hP0]; rfl, rfl⟩
        case round =>
          obtain ⟨t, ht, rfl, rfl, rfl⟩ := hrel
          by_cases hlt : t < n
          · have h1 := hPbH.out (t + 1) (by omega)
            have hwm : IntKind.i64.wrap ((P t : Int) * (q : Int)) = (P (t + 1) : Nat) := by
              have := hPH.out t
              rw [← Int.natCast_mul, ← this, IntWalk.i64_in _ (by omega)]
            have hlZ : (t : Int) < n := by omega
            go_wp2
            go_roundw
            case rel => exact ⟨t + 1, by omega, by go_num, by simp⟩
            case measure => simp [intOf]; omega
          · obtain rfl : t = n := by omega
            go_wp2
            go_ret
            exact ⟨rfl, hb4⟩
      · obtain ⟨i, hi⟩ : ∃ i, ev % len = i := ⟨_, rfl⟩
        have hil : i < len := by rw [← hi]; exact Nat.mod_lt _ (by omega)
        obtain ⟨a, b, z0, hat, ha, hb, hab⟩ := ok_at hokE (show i < es.length by omega)
        obtain ⟨m, rfl⟩ : ∃ m, n = m + 1 := ⟨n - 1, by omega⟩
        have hfok := fewer_ok hok (show i < es.length by omega)
        have hmok := merge_ok hok ha hb hab
        rw [show m + 1 - 1 = m by omega] at hmok
        have hlaw := whitney hok hq12 (show i < es.length by omega) hat ha hb hab
        rw [show m + 1 - 1 = m by omega] at hlaw
        have hF := Lib.hid (fun W (h : Below w.heap.size w W) => fewer_any (m + 1) i A len cap es W (hr.later h) h45)
        have hM := Lib.hid (fun W (h : Below w.heap.size w W) => merged_any m i a b z0 A len cap es W (hr.later h) h45 hok hil hat ha hb hab)
        have hfl : (es.eraseIdx i).length ≤ 45 := Nat.le_trans (List.eraseIdx_sublist _ _).length_le (by omega)
        have hml : (mergeE a b es).length ≤ 45 := (gchk_ok hmok).2.2.1
        have hCF := Lib.hid (fun (A' : Option Addr) (cap' : Nat) W (h : Below w.heap.size w W) (hR : Rd W A' (es.eraseIdx i).length 3 (ps3 .i64 .i64 .i64 (es.eraseIdx i))) => count_ok (m + 1) q A' _ cap' _ W hR hfl hfok hq12 (htb.below hg h) (Nat.lt_of_lt_of_le hg h.size))
        have hCM := Lib.hid (fun (A' : Option Addr) (cap' : Nat) W (h : Below w.heap.size w W) (hR : Rd W A' (mergeE a b es).length 3 (ps3 .i64 .i64 .i64 (mergeE a b es))) => count_ok m q A' _ cap' _ W hR hml hmok hq12 (htb.below hg h) (Nat.lt_of_lt_of_le hg h.size))
        have hbF := Cnt_le (ns := nearW (m + 1) (es.eraseIdx i)) hq12 (m + 1) 0 (fun _ => -1)
        generalize Cnt (nearW (m + 1) es) q (m + 1) 0 (fun _ => -1) = R0 at *
        generalize Cnt (nearW (m + 1) (es.eraseIdx i)) q (m + 1) 0 (fun _ => -1) = R1 at *
        generalize Cnt (nearW m (mergeE a b es)) q m 0 (fun _ => -1) = R2 at *
        generalize es.eraseIdx i = fs at *
        generalize mergeE a b es = ms at *
        have hw1 : IntKind.i64.wrap (ev : Int) = ev := IntWalk.i64_in _ (by omega)
        have hw2 : Int.tmod (ev : Int) len = i := by rw [Int.tmod_eq_emod_of_nonneg (by omega)]; omega
        have hw3 : IntKind.i64.wrap ((R0 : Int) + R2) = R1 := by rw [IntWalk.i64_in _ (by omega)]; omega
        have hl0Z : (len : Int) ≠ 0 := by omega
        generalize hm1 : ((m + 1 : Nat) : Int) = m1 at *
        clear hr hq htb hok hokE hl0 hat hfok hmok hlaw h12 hi
        go_enter Tryd.func8, Tryd.ntmps8
        go_wp2_with fail
        generalize w.alloc (.cells #[.int .i64 m1, .slice A len cap] 24) = wg at *
        refine HC1.out.mono ?_
        rintro _ w1 ⟨rfl, hb1⟩
        have q0 := below_cell hb1 (by omega) g0
        have q1 := below_cell hb1 (by omega) g1
        have hs1 := hb1.size
        have hbw := gb.trans (hb1.mono (by omega))
        have HG1 := Lib.hid (HG.out w1 hbw)
        clear hb1 g0 g1 gb HC1 HG
        go_wp2_with fail
        refine HG1.out.mono ?_
        rintro _ w3 ⟨rfl, hb3⟩
        have q0 := below_cell hb3 (by omega) q0
        have q1 := below_cell hb3 (by omega) q1
        have hs3 := hb3.size
        have hbw3 := hbw.trans (hb3.mono hbw.size)
        have hF1 := Lib.hid (hF.out w3 hbw3)
        clear hb3 hbw HG1 hF
        go_wp2_with fail
        refine hF1.out.mono ?_
        rintro _ w4 ⟨A4, c4, rfl, hR4, hc4, hb4⟩
        have q0 := below_cell hb4 (by omega) q0
        have q1 := below_cell hb4 (by omega) q1
        have hs4 := hb4.size
        have hbw4 := hbw3.trans (hb4.mono hbw3.size)
        have hC4 := Lib.hid (hCF.out A4 c4 w4 hbw4 hR4)
        clear hb4 hbw3 hF1 hCF hR4
        go_wp2_with fail
        refine hC4.out.mono ?_
        rintro _ w5 ⟨rfl, hb5⟩
        have q0 := below_cell hb5 (by omega) q0
        have q1 := below_cell hb5 (by omega) q1
        have hs5 := hb5.size
        have hbw5 := hbw4.trans (hb5.mono hbw4.size)
        have hM1 := Lib.hid (hM.out w5 hbw5)
        clear hb5 hbw4 hC4 hM
        go_wp2_with fail
        refine hM1.out.mono ?_
        rintro _ w6 ⟨A6, c6, rfl, hR6, hc6, hb6⟩
        have q0 := below_cell hb6 (by omega) q0
        have hbw6 := hbw5.trans (hb6.mono hbw5.size)
        have hC6 := Lib.hid (hCM.out A6 c6 w6 hbw6 hR6)
        clear hb6 hbw5 hM1 hCM hR6
        go_wp2_with fail
        refine hC6.out.mono ?_
        rintro _ w7 ⟨rfl, hb7⟩
        have hbw7 := hbw6.trans (hb7.mono hbw6.size)
        clear hb7 hbw6 hC6
        go_wp2
        go_ret
        exact ⟨rfl, hbw7⟩
theorem colourWhitney_any (N : Int) (A : Option Addr) (len cap : Nat) (es : List E) (ev k : Int) (w : World) (_ : (Lit.int .i64 N).wf = true) (hr : Rd w A len 3 (ps3 .i64 .i64 .i64 es)) (hlen : len ≤ maxLen) (hcap : len ≤ cap) (_ : ∀ a ∈ es, (Lit.int .i64 a.1).wf = true ∧ (Lit.int .i64 a.2.1).wf = true ∧ (Lit.int .i64 a.2.2).wf = true) (hev : (Lit.int .u8 ev).wf = true) (_ : (Lit.int .i64 k).wf = true) (htb : Tb w) (hg : 0 < w.heap.size) :
    Calls Tryd.prog 8 #[.agg #[.int .i64 N, .slice A len cap], .int .u8 ev, .int .i64 k] w fun e w' => e = .returned (.bool true) ∧ Below w.heap.size w w' := by
  unfold maxLen at hlen
  obtain ⟨h0, h1⟩ : 0 ≤ ev ∧ ev < 256 := by
    have h1 : IntKind.u8.min ≤ ev ∧ ev ≤ IntKind.u8.max := by simpa [Lit.wf] using hev
    have e1 : IntKind.u8.min = 0 := by decide
    have e2 : IntKind.u8.max = 255 := by decide
    omega
  obtain ⟨v, rfl⟩ := Int.eq_ofNat_of_zero_le h0
  exact whitney_walk N k v (by omega) A len cap es w hr (by omega) hcap htb hg
end Go.Proofs.YtnpgnohnpbdblaaDoor
