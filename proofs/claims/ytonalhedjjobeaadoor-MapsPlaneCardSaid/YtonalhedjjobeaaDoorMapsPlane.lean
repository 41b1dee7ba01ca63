/- MapsPlane: the walk. -/
import Derived.Test.YtonalhedjjobeaaDoorPlaneLaw
import Derived.Test.YtonalhedjjobeaaDoorUnlike
import Derived.Test.YtonalhedjjobeaaDoorRefParts
namespace Go.Proofs.YtonalhedjjobeaaDoor
open Go.RowKit Go.Shelf
attribute [local go_sem] Oper.semAt_some

theorem part_rowH {N : Nat} {es : List E} (hok : ∀ e ∈ es, okE N e) {p : Nat → Nat} (hp : ∀ i, i < N → IsPart es N i (p i)) : (List.range N).map (fun i => (p i : Int)) = (List.range N).map fun i => ((lab es i : Nat) : Int) :=
  List.map_congr_left fun i hi => by rw [isPart_lab hok (List.mem_range.1 hi) (hp i (List.mem_range.1 hi))]
set_option maxHeartbeats 3200000 in
set_option maxRecDepth 100000 in
theorem mapsPlane_walk (N : Int) (A : Option Addr) (len cap : Nat) (es : List E) (R : Option Addr) (n c : Nat) (l : List Rw) (w : World) (hr : Rd w A len 3 (ps3 .i64 .i64 .i64 es)) (hR : RdR w R n l) (hby : ∀ r ∈ l, r.len * 8 ≤ 140737488355328) (hlen : len ≤ 9223372036854775807) (hcap : len ≤ cap) (hn : n ≤ 9223372036854775807) (htb : Tb w) (hg : 0 < w.heap.size) :
    Calls Tryd.prog 4 #[.agg #[.int .i64 N, .slice A len cap], .slice R n c] w fun e w' => e = .returned (.bool true) ∧ Below w.heap.size w w' := by
  have hel := ps3_len hr
  have gb := (Below.refl _ w).alloc (Nat.le_refl _) (.cells #[.int .i64 N, .slice A len cap] 24)
  have hK := Blk.new w 24 #[.int .i64 N, .slice A len cap]
  have g0 := hK.cell (j := 0) (v := .int .i64 N) rfl
  have g1 := hK.cell (j := 1) (v := .slice A len cap) rfl
  have HR := Lib.hid (fun W (hb : Below w.heap.size w W) => mapRef_any N A len cap es R n c l W (hr.later hb) (hR.later hb) hlen hcap hn)
  cases hB : mapB N es l with
  | true =>
    obtain ⟨N, rs, rfl, hI⟩ := map_of hB
    obtain ⟨m, h, hm, hh, hCF⟩ := map_nums hI
    have hn2 : n = N := by have := hI.len; have := hR.1; omega
    subst hn2
    have HH := Lib.hid (holes_ok n A len cap es R c l rs _ (hr.later gb) (hR.later gb) hby hB hI m hm h hh (htb.below hg gb) (by have := gb.size; omega))
    have HF := Lib.hid (fun W (hb : Below w.heap.size w W) => facesX_ok n A len cap es R c l rs W (hr.later hb) (hR.later hb) hby hB hI m hm (htb.below hg hb) (by have := hb.size; omega))
    have hn10 := hI.le
    have he45 := hI.ed
    have HP := Lib.hid (fun W (hb : Below w.heap.size w W) => refParts_any n A len cap es W (hr.later hb) hI.le (by omega) hI.dst.ok)
    have hrp := Lib.hid (fun (p : Nat → Nat) (hp : ∀ i, i < n → IsPart es n i (p i)) => part_rowH hI.dst.ok hp)
    have hun := Lib.hid (unl_lab n es)
    have hrn : rts n es ≤ n := by unfold rts cntB; exact Nat.le_trans (List.length_filter_le _ _) (by simp)
    have hF200 : m + isoN rs n ≤ 200 := by
      obtain ⟨k, hk, rfl⟩ := hm
      have h1 := hk.nd.length_le_of_subset (l₂ := dl es) fun z hz => hk.sub z hz
      rw [dl_length] at h1
      have := iso_le rs n
      unfold isoN; omega
    have hF0 : n = 0 ∨ 0 < m + isoN rs n := by
      by_cases e : n = 0
      · left; exact e
      · right
        have h0 : 0 < rts n es := by
          unfold rts cntB
          refine List.length_pos_of_mem (a := 0) (List.mem_filter.2 ⟨List.mem_range.2 (by omega), ?_⟩)
          have := lab_le es 0
          rw [beq_iff_eq]; omega
        omega
    have hPL := Lib.hid (show h = 0 → rts n es = 1 → 3 ≤ n → es.length + 6 ≤ 3 * n ∧ ((∀ x, x < 2 ^ n → cwB n es x = true → popc 10 x < 3) → es.length + 4 ≤ 2 * n) from fun e1 e2 e3 => plane hI e2 e3 hm (by subst e1; rw [e2] at hh; omega))
    have HCr := Lib.hid (fun W (hb : Below w.heap.size w W) => crowdR_any n A len cap es W (hr.later hb) (by omega) hI.le hI.dst.ok)
    rw [hel] at hh he45 hPL
    have gbH := Lib.hid gb; have hKH := Lib.hid hK
    have hBH := Lib.hid (show refB n es l = true by rw [← mapB_eq]; exact hB)
    clear hr hR hby htb gb hK hB hI hel hm
    generalize m + isoN rs n = F at *
    generalize (List.range n).map (fun i => ((lab es i : Nat) : Int)) = zs at *
    generalize rts n es = C at *
    go_enter Tryd.func4, Tryd.ntmps4
    have hhH := Lib.hid hh
    have hh20 : h ≤ 200 := by omega
    clear hh
    go_wp2_with fail
    refine HH.out.mono ?_
    rintro _ w1 ⟨rfl, hb1⟩
    have hbw1 := Lib.hid (gbH.out.trans (hb1.mono gbH.out.size))
    have hK1 := Lib.hid (hKH.out.below hb1 hKH.out.lt)
    have q0 := hK1.out.cell (j := 0) (v := .int .i64 (n : Int)) rfl
    have q1 := hK1.out.cell (j := 1) (v := .slice A len cap) rfl
    clear HH hb1 g0 g1 hKH gbH
    go_wp2_with fail
    refine (HF.out _ hbw1.out).mono ?_
    rintro _ w2 ⟨rfl, hb2⟩
    have hbw2 := Lib.hid (hbw1.out.trans (hb2.mono hbw1.out.size))
    have hK2 := Lib.hid (hK1.out.below hb2 hK1.out.lt)
    have q0 := hK2.out.cell (j := 0) (v := .int .i64 (n : Int)) rfl
    have q1 := hK2.out.cell (j := 1) (v := .slice A len cap) rfl
    clear HF hb2 hK1 hbw1
    go_wp2_with fail
    refine (HR.out _ hbw2.out).mono ?_
    rintro _ w3 ⟨z, rfl, hz, hb3⟩
    obtain rfl : z = 0 := by rw [hBH.out, beq_iff_eq] at hz; exact hz
    have hbw3 := Lib.hid (hbw2.out.trans (hb3.mono hbw2.out.size))
    have hK3 := Lib.hid (hK2.out.below hb3 hK2.out.lt)
    have q0 := hK3.out.cell (j := 0) (v := .int .i64 (n : Int)) rfl
    have q1 := hK3.out.cell (j := 1) (v := .slice A len cap) rfl
    clear HR hb3 hK2 hbw2 hz hCF
    by_cases hn3 : n < 3
    · clear HP hrp hun HCr hPL
      have d3 : decide ((n : Int) < 3) = true := decide_eq_true (by omega)
      have d3' : decide (n < 3) = true := decide_eq_true hn3
      clear hn3
      rcases hF0 with rfl | hF0
      · cases e1 : ((h : Int) != 0)
        · go_wp2
          go_ret
          exact ⟨rfl, hbw3.out⟩
        · go_wp2
          go_ret
          exact ⟨rfl, hbw3.out⟩
      · have f1 : decide (F < 1) = false := decide_eq_false (by omega)
        have f2 : decide ((F : Int) < 1) = false := decide_eq_false (by omega)
        cases e0 : decide (0 < n) <;> cases e1 : ((h : Int) != 0)
        all_goals
          go_wp2
          go_ret
          exact ⟨rfl, hbw3.out⟩
    · have hF1 : 1 ≤ F := by omega
      have f0 : decide (0 < n) = true := decide_eq_true (by omega)
      have f1 : decide (F < 1) = false := decide_eq_false (by omega)
      have f2 : decide ((F : Int) < 1) = false := decide_eq_false (by omega)
      have d3 : decide ((n : Int) < 3) = false := decide_eq_false (by omega)
      have d3' : decide (n < 3) = false := decide_eq_false hn3
      clear hF0
      by_cases hh0 : h = 0
      · subst hh0
        go_wp2_with fail
        refine (HP.out _ hbw3.out).mono ?_
        rintro _ w4 ⟨v4, p4, rfl, hown4, hp4, hb4⟩
        obtain ⟨A4, c4, rfl⟩ := own_slice hown4
        rw [row_intsH, hrp.out _ hp4] at hown4
        have hbw4 := Lib.hid (hbw3.out.trans (hb4.mono hbw3.out.size))
        have hK4 := Lib.hid (hK3.out.below hb4 hK3.out.lt)
        have q0 := hK4.out.cell (j := 0) (v := .int .i64 (n : Int)) rfl
        have q1 := hK4.out.cell (j := 1) (v := .slice A len cap) rfl
        have HU := Lib.hid (unlike_any A4 n c4 zs w4 (Rd.of_own hown4) (by omega) (own_capH hown4))
        rw [hun.out] at HU
        clear HP hb4 hK3 hbw3 hown4 hp4 hrp f0 f1 f2
        go_wp2_with fail
        refine HU.out.mono ?_
        rintro _ _ ⟨rfl, rfl⟩
        clear HU hun
        by_cases hC1 : C = 1
        · subst hC1
          obtain ⟨hm1, hm2⟩ := hPL.out (by trivial) (by trivial) (by omega)
          have hm2H := Lib.hid hm2
          have e6 : decide ((len : Int) ≤ 3 * (n : Int) - 6) = true := decide_eq_true (by omega)
          clear hm1 hm2 hPL
          go_wp2_with fail
          refine (HCr.out _ hbw4.out).mono ?_
          rintro _ w5 ⟨b, rfl, hb1024, hbest, hb5⟩
          have hbw5 := Lib.hid (hbw4.out.trans (hb5.mono hbw4.out.size))
          have hK5 := Lib.hid (hK4.out.below hb5 hK4.out.lt)
          have q0 := hK5.out.cell (j := 0) (v := .int .i64 (n : Int)) rfl
          have q1 := hK5.out.cell (j := 1) (v := .slice A len cap) rfl
          have HZ := Lib.hid (size_any b w5 hb1024)
          have hm3 := Lib.hid (show popc 10 b < 3 → (len : Int) ≤ 2 * (n : Int) - 4 from fun h => by
            have := hm2H.out (fun x hx hc => Nat.lt_of_le_of_lt (hbest x hx hc) h)
            omega)
          have hpb := popc_le 10 b
          clear HCr hb5 hK4 hbw4 hbest hm2H
          generalize popc 10 b = pb at *
          go_wp2_with fail
          refine HZ.out.mono ?_
          rintro _ _ ⟨rfl, rfl⟩
          clear HZ
          by_cases hpb3 : pb < 3
          · have t1 : decide ((3 : Int) ≤ (pb : Int)) = false := decide_eq_false (by omega)
            have t1' : decide (3 ≤ pb) = false := decide_eq_false (by omega)
            have e4 : decide ((len : Int) ≤ 2 * (n : Int) - 4) = true := decide_eq_true (hm3.out hpb3)
            go_wp2
            go_ret
            exact ⟨rfl, hbw5.out⟩
          · have t1 : decide ((3 : Int) ≤ (pb : Int)) = true := decide_eq_true (by omega)
            have t1' : decide (3 ≤ pb) = true := decide_eq_true (by omega)
            go_wp2
            go_ret
            exact ⟨rfl, hbw5.out⟩
        · have c1 : ((C : Int) != 1) = true := by simp; omega
          go_wp2
          go_ret
          exact ⟨rfl, hbw4.out⟩
      · have e1 : ((h : Int) != 0) = true := by simp; exact hh0
        clear HP hrp hun HCr hPL
        go_wp2
        go_ret
        exact ⟨rfl, hbw3.out⟩
  | false =>
    have HH := Lib.hid (holes_bad N A len cap es R n c l _ (hr.later gb) (hR.later gb) hby hlen hn hB (htb.below hg gb) (by have := gb.size; omega))
    have HF := Lib.hid (fun W (hb : Below w.heap.size w W) => facesX_bad N A len cap es R n c l W (hr.later hb) (hR.later hb) hby hlen hn hB (htb.below hg hb) (by have := hb.size; omega))
    have gbH := Lib.hid gb; have hKH := Lib.hid hK
    have hBH := Lib.hid (show refB N es l = false by rw [← mapB_eq]; exact hB)
    clear hr hR hby htb gb hK hB hel
    go_enter Tryd.func4, Tryd.ntmps4
    go_wp2_with fail
    refine HH.out.mono ?_
    rintro _ w1 ⟨z1, rfl, hz1, hb1⟩
    have hbw1 := Lib.hid (gbH.out.trans (hb1.mono gbH.out.size))
    have hK1 := Lib.hid (hKH.out.below hb1 hKH.out.lt)
    have q0 := hK1.out.cell (j := 0) (v := .int .i64 N) rfl
    have q1 := hK1.out.cell (j := 1) (v := .slice A len cap) rfl
    clear HH hb1 g0 g1 hKH gbH
    go_wp2_with fail
    refine (HF.out _ hbw1.out).mono ?_
    rintro _ w2 ⟨z2, rfl, hz2, hb2⟩
    have hbw2 := Lib.hid (hbw1.out.trans (hb2.mono hbw1.out.size))
    have hK2 := Lib.hid (hK1.out.below hb2 hK1.out.lt)
    have q0 := hK2.out.cell (j := 0) (v := .int .i64 N) rfl
    have q1 := hK2.out.cell (j := 1) (v := .slice A len cap) rfl
    clear HF hb2 hK1 hbw1
    go_wp2_with fail
    refine (HR.out _ hbw2.out).mono ?_
    rintro _ w3 ⟨z, rfl, hz, hb3⟩
    have hz3 : (z != 0) = true := by rw [hBH.out, beq_eq_false_iff_ne] at hz; simpa using hz
    have hbw3 := Lib.hid (hbw2.out.trans (hb3.mono hbw2.out.size))
    clear HR hb3 hK2 hbw2 hz q0 q1
    go_wp2
    go_ret
    exact ⟨rfl, hbw3.out⟩
theorem mapsPlane_any (N : Int) (A : Option Addr) (len cap : Nat) (es : List E) (R : Option Addr) (n c : Nat) (l : List Rw) (w : World) (_ : (Lit.int .i64 N).wf = true) (hr : Rd w A len 3 (ps3 .i64 .i64 .i64 es)) (hlen : len ≤ maxLen) (hcap : len ≤ cap) (_ : ∀ a ∈ es, (Lit.int .i64 a.1).wf = true ∧ (Lit.int .i64 a.2.1).wf = true ∧ (Lit.int .i64 a.2.2).wf = true) (hR : RdR w R n l) (hn : n ≤ maxLen) (_ : n ≤ c) (hby : ∀ r ∈ l, r.len * 8 ≤ 140737488355328) (htb : Tb w) (hg : 0 < w.heap.size) :
    Calls Tryd.prog 4 #[.agg #[.int .i64 N, .slice A len cap], .slice R n c] w fun e w' => e = .returned (.bool true) ∧ Below w.heap.size w w' := by
  unfold maxLen at hlen hn
  exact mapsPlane_walk N A len cap es R n c l w hr hR hby (by omega) hcap (by omega) htb hg
end Go.Proofs.YtonalhedjjobeaaDoor
