/- MapsEuler: the walk. -/
import Derived.Test.YtonalhedjjobeaaDoorMapsCk
import Derived.Test.YtonalhedjjobeaaDoorUnlike
import Derived.Test.YtonalhedjjobeaaDoorRefParts
namespace Go.Proofs.YtonalhedjjobeaaDoor
open Go.RowKit Go.Shelf
attribute [local go_sem] Oper.semAt_some

theorem part_rowH {N : Nat} {es : List E} (hok : ∀ e ∈ es, okE N e) {p : Nat → Nat} (hp : ∀ i, i < N → IsPart es N i (p i)) : (List.range N).map (fun i => (p i : Int)) = (List.range N).map fun i => ((lab es i : Nat) : Int) :=
  List.map_congr_left fun i hi => by rw [isPart_lab hok (List.mem_range.1 hi) (hp i (List.mem_range.1 hi))]
/-- what a map has: so many rounds, so many holes -/
theorem map_nums {n : Nat} {es : List E} {l : List Rw} {rs : List (List Nat)} (hI : MapIs n es l rs) : ∃ m h : Nat, Cyc (dl es) (ph rs) m ∧ 2 * (h : Int) = 2 * (rts n es : Int) - ((n : Int) - (es.length : Int) + ((m + isoN rs n : Nat) : Int)) ∧ rts n es ≤ m + isoN rs n := by
  obtain ⟨m, hm⟩ := Cyc.ex (ph_perm hI.dst.ok hI.map)
  obtain ⟨h1, h2, h3⟩ := euler hI.dst hI.map hm
  exact ⟨m, (2 * rts n es + es.length - (m + isoN rs n + n)) / 2, hm, by omega, h3⟩
set_option maxHeartbeats 3200000 in
set_option maxRecDepth 100000 in
theorem mapsEuler_walk (N : Int) (A : Option Addr) (len cap : Nat) (es : List E) (R : Option Addr) (n c : Nat) (l : List Rw) (w : World) (hr : Rd w A len 3 (ps3 .i64 .i64 .i64 es)) (hR : RdR w R n l) (hby : ∀ r ∈ l, r.len * 8 ≤ 140737488355328) (hlen : len ≤ 9223372036854775807) (hcap : len ≤ cap) (hn : n ≤ 9223372036854775807) (htb : Tb w) (hg : 0 < w.heap.size) :
    Calls Tryd.prog 3 #[.agg #[.int .i64 N, .slice A len cap], .slice R n c] w fun e w' => e = .returned (.bool true) ∧ Below w.heap.size w w' := by
  have hel := ps3_len hr
  have gb := (Below.refl _ w).alloc (Nat.le_refl _) (.cells #[.int .i64 N, .slice A len cap] 24)
  have hK := Blk.new w 24 #[.int .i64 N, .slice A len cap]
  have g0 := hK.cell (j := 0) (v := .int .i64 N) rfl
  have g1 := hK.cell (j := 1) (v := .slice A len cap) rfl
  have HR := Lib.hid (fun W (hb : Below w.heap.size w W) => mapRef_any N A len cap es R n c l W (hr.later hb) (hR.later hb) hlen hcap hn)
  cases hB : mapB N es l with
  | true =>
    obtain ⟨N, rs, rfl, hI⟩ := map_of hB
    obtain ⟨m, h, hm, hh, hCF⟩ := map_nums hI
    have hn2 : n = N := by have := hI.len; have := hR.1; omega
    subst hn2
    have HH := Lib.hid (holes_ok n A len cap es R c l rs _ (hr.later gb) (hR.later gb) hby hB hI m hm h hh (htb.below hg gb) (by have := gb.size; omega))
    have HF := Lib.hid (fun W (hb : Below w.heap.size w W) => facesX_ok n A len cap es R c l rs W (hr.later hb) (hR.later hb) hby hB hI m hm (htb.below hg hb) (by have := hb.size; omega))
    have hn10 := hI.le
    have he45 := hI.ed
    have HP := Lib.hid (fun W (hb : Below w.heap.size w W) => refParts_any n A len cap es W (hr.later hb) hI.le (by omega) hI.dst.ok)
    have hrp := Lib.hid (fun (p : Nat → Nat) (hp : ∀ i, i < n → IsPart es n i (p i)) => part_rowH hI.dst.ok hp)
    have hun := Lib.hid (unl_lab n es)
    have hrn : rts n es ≤ n := by unfold rts cntB; exact Nat.le_trans (List.length_filter_le _ _) (by simp)
    have hF200 : m + isoN rs n ≤ 200 := by
      obtain ⟨k, hk, rfl⟩ := hm
      have h1 := hk.nd.length_le_of_subset (l₂ := dl es) fun z hz => hk.sub z hz
      rw [dl_length] at h1
      have := iso_le rs n
      unfold isoN; omega
    rw [hel] at hh he45
    have gbH := Lib.hid gb; have hKH := Lib.hid hK
    have hBH := Lib.hid (show refB n es l = true by rw [← mapB_eq]; exact hB)
    clear hr hR hby htb gb hK hB hI hel hm
    generalize m + isoN rs n = F at *
    generalize (List.range n).map (fun i => ((lab es i : Nat) : Int)) = zs at *
    generalize rts n es = C at *
    go_enter Tryd.func3, Tryd.ntmps3
    have hhH := Lib.hid hh
    have hh20 : h ≤ 200 := by omega
    clear hh
    go_wp2_with fail
    refine HH.out.mono ?_
    rintro _ w1 ⟨rfl, hb1⟩
    have hbw1 := Lib.hid (gbH.out.trans (hb1.mono gbH.out.size))
    have hK1 := Lib.hid (hKH.out.below hb1 hKH.out.lt)
    have q0 := hK1.out.cell (j := 0) (v := .int .i64 (n : Int)) rfl
    have q1 := hK1.out.cell (j := 1) (v := .slice A len cap) rfl
    clear HH hb1 g0 g1 hKH gbH
    go_wp2_with fail
    refine (HF.out _ hbw1.out).mono ?_
    rintro _ w2 ⟨rfl, hb2⟩
    have hbw2 := Lib.hid (hbw1.out.trans (hb2.mono hbw1.out.size))
    have hK2 := Lib.hid (hK1.out.below hb2 hK1.out.lt)
    have q0 := hK2.out.cell (j := 0) (v := .int .i64 (n : Int)) rfl
    have q1 := hK2.out.cell (j := 1) (v := .slice A len cap) rfl
    clear HF hb2 hK1 hbw1
    go_wp2_with fail
    refine (HR.out _ hbw2.out).mono ?_
    rintro _ w3 ⟨z, rfl, hz, hb3⟩
    obtain rfl : z = 0 := by rw [hBH.out, beq_iff_eq] at hz; exact hz
    have hbw3 := Lib.hid (hbw2.out.trans (hb3.mono hbw2.out.size))
    have hK3 := Lib.hid (hK2.out.below hb3 hK2.out.lt)
    have q0 := hK3.out.cell (j := 0) (v := .int .i64 (n : Int)) rfl
    have q1 := hK3.out.cell (j := 1) (v := .slice A len cap) rfl
    clear HR hb3 hK2 hbw2 hz
    go_wp2_with fail
    refine (HP.out _ hbw3.out).mono ?_
    rintro _ w4 ⟨v4, p4, rfl, hown4, hp4, hb4⟩
    obtain ⟨A4, c4, rfl⟩ := own_slice hown4
    rw [row_intsH, hrp.out _ hp4] at hown4
    have hbw4 := Lib.hid (hbw3.out.trans (hb4.mono hbw3.out.size))
    have hK4 := Lib.hid (hK3.out.below hb4 hK3.out.lt)
    have q0 := hK4.out.cell (j := 0) (v := .int .i64 (n : Int)) rfl
    have q1 := hK4.out.cell (j := 1) (v := .slice A len cap) rfl
    have HU := Lib.hid (unlike_any A4 n c4 zs w4 (Rd.of_own hown4) (by omega) (own_capH hown4))
    rw [hun.out] at HU
    clear HP hb4 hK3 hbw3 hown4 hp4 hrp
    go_wp2_with fail
    refine HU.out.mono ?_
    rintro _ _ ⟨rfl, rfl⟩
    have d1 : decide ((0 : Int) ≤ (h : Int)) = true := decide_eq_true (by omega)
    have d2 : decide ((C : Int) ≤ (F : Int)) = true := decide_eq_true (by omega)
    have d3 : ((n : Int) - (len : Int) + (F : Int) == 2 * (C : Int) - 2 * (h : Int)) = true := by
      rw [beq_iff_eq]; have := hhH.out; omega
    clear HU hun
    go_wp2
    go_ret
    exact ⟨rfl, hbw4.out⟩
  | false =>
    have HH := Lib.hid (holes_bad N A len cap es R n c l _ (hr.later gb) (hR.later gb) hby hlen hn hB (htb.below hg gb) (by have := gb.size; omega))
    have HF := Lib.hid (fun W (hb : Below w.heap.size w W) => facesX_bad N A len cap es R n c l W (hr.later hb) (hR.later hb) hby hlen hn hB (htb.below hg hb) (by have := hb.size; omega))
    have gbH := Lib.hid gb; have hKH := Lib.hid hK
    have hBH := Lib.hid (show refB N es l = false by rw [← mapB_eq]; exact hB)
    clear hr hR hby htb gb hK hB hel
    go_enter Tryd.func3, Tryd.ntmps3
    go_wp2_with fail
    refine HH.out.mono ?_
    rintro _ w1 ⟨z1, rfl, hz1, hb1⟩
    have hbw1 := Lib.hid (gbH.out.trans (hb1.mono gbH.out.size))
    have hK1 := Lib.hid (hKH.out.below hb1 hKH.out.lt)
    have q0 := hK1.out.cell (j := 0) (v := .int .i64 N) rfl
    have q1 := hK1.out.cell (j := 1) (v := .slice A len cap) rfl
    clear HH hb1 g0 g1 hKH gbH
    go_wp2_with fail
    refine (HF.out _ hbw1.out).mono ?_
    rintro _ w2 ⟨z2, rfl, hz2, hb2⟩
    have hbw2 := Lib.hid (hbw1.out.trans (hb2.mono hbw1.out.size))
    have hK2 := Lib.hid (hK1.out.below hb2 hK1.out.lt)
    have q0 := hK2.out.cell (j := 0) (v := .int .i64 N) rfl
    have q1 := hK2.out.cell (j := 1) (v := .slice A len cap) rfl
    clear HF hb2 hK1 hbw1
    go_wp2_with fail
    refine (HR.out _ hbw2.out).mono ?_
    rintro _ w3 ⟨z, rfl, hz, hb3⟩
    have hz3 : (z != 0) = true := by rw [hBH.out, beq_eq_false_iff_ne] at hz; simpa using hz
    have hbw3 := Lib.hid (hbw2.out.trans (hb3.mono hbw2.out.size))
    clear HR hb3 hK2 hbw2 hz q0 q1
    go_wp2
    go_ret
    exact ⟨rfl, hbw3.out⟩
theorem mapsEuler_any (N : Int) (A : Option Addr) (len cap : Nat) (es : List E) (R : Option Addr) (n c : Nat) (l : List Rw) (w : World) (_ : (Lit.int .i64 N).wf = true) (hr : Rd w A len 3 (ps3 .i64 .i64 .i64 es)) (hlen : len ≤ maxLen) (hcap : len ≤ cap) (_ : ∀ a ∈ es, (Lit.int .i64 a.1).wf = true ∧ (Lit.int .i64 a.2.1).wf = true ∧ (Lit.int .i64 a.2.2).wf = true) (hR : RdR w R n l) (hn : n ≤ maxLen) (_ : n ≤ c) (hby : ∀ r ∈ l, r.len * 8 ≤ 140737488355328) (htb : Tb w) (hg : 0 < w.heap.size) :
    Calls Tryd.prog 3 #[.agg #[.int .i64 N, .slice A len cap], .slice R n c] w fun e w' => e = .returned (.bool true) ∧ Below w.heap.size w w' := by
  unfold maxLen at hlen hn
  exact mapsEuler_walk N A len cap es R n c l w hr hR hby (by omega) hcap (by omega) htb hg
end Go.Proofs.YtonalhedjjobeaaDoor
