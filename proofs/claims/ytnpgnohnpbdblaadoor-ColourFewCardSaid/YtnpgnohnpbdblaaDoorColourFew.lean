/- ColourFew: for any graph and any colouring: what is told is one; and none has fewer colours. -/
import Derived.Test.YtnpgnohnpbdblaaDoorRight
import Derived.Test.YtnpgnohnpbdblaaDoorUnlike
import Derived.Test.YtnpgnohnpbdblaaDoorCard
namespace Go.Proofs.YtnpgnohnpbdblaaDoor
open Go.RowKit Go.Shelf

/-- is it the first one with its number? -/
def fstB (zs : List Int) (k : Nat) : Bool := !(zs.take k).contains (zs.getD k 0)
def posI (zs : List Int) (v : Int) : Nat := (zs.findIdx? (· == v)).getD zs.length
theorem posI_spec {zs : List Int} {j : Nat} (hj : j < zs.length) : posI zs (zs.getD j 0) ≤ j ∧ zs.getD (posI zs (zs.getD j 0)) 0 = zs.getD j 0 ∧ fstB zs (posI zs (zs.getD j 0)) = true := by
  unfold posI
  cases h : zs.findIdx? (· == zs.getD j 0) with
  | none =>
    rw [List.findIdx?_eq_none_iff] at h
    have := h zs[j] (List.getElem_mem _)
    simp [List.getD, hj] at this
  | some p =>
    obtain ⟨hp, he, hlt⟩ := List.findIdx?_eq_some_iff_getElem.1 h
    simp only [Option.getD_some]
    have he' : zs.getD p 0 = zs.getD j 0 := by simpa [List.getD, hp] using he
    refine ⟨Nat.le_of_not_lt fun hjp => ?_, he', ?_⟩
    · have := hlt j hjp
      simp [List.getD, hj] at this
    · unfold fstB
      simp only [Bool.not_eq_true', List.contains_eq_any_beq, List.any_eq_false, beq_iff_eq]
      intro y hy hye
      obtain ⟨q, hq, rfl⟩ := List.mem_take_iff_getElem.1 hy
      have := hlt q (by omega)
      rw [← hye, he'] at this
      simp at this
def rnk (zs : List Int) (j : Nat) : Nat := cntB (posI zs (zs.getD j 0)) (fstB zs)
theorem cntB_mono {f : Nat → Bool} {a b : Nat} (h : a ≤ b) : cntB a f ≤ cntB b f := by
  induction b with
  | zero => obtain rfl : a = 0 := by omega
            exact Nat.le_refl _
  | succ b ih =>
    rcases Nat.lt_or_ge b a with h1 | h1
    · obtain rfl : a = b + 1 := by omega
      exact Nat.le_refl _
    · rw [cntB_succ]; exact Nat.le_trans (ih h1) (Nat.le_add_right _ _)
theorem cntB_lt {f : Nat → Bool} {a b : Nat} (h : a < b) (hf : f a = true) : cntB a f < cntB b f := by
  have h1 := cntB_succ a f
  rw [hf] at h1
  have h2 := cntB_mono (f := f) (show a + 1 ≤ b from h)
  simp at h1; omega
/-- as many colours as there are unlike numbers are enough -/
theorem col_unl {ns : List Nat} {n k : Nat} {zs : List Int} (g : Gr n ns) (hl : zs.length = n) (h : Col ns n k fun j => zs.getD j 0) : Col ns n (unl zs) fun j => (rnk zs j : Nat) := by
  intro j hj
  have hp := posI_spec (zs := zs) (j := j) (by omega)
  refine ⟨by dsimp only; omega, ?_, fun m hm => ?_⟩
  · dsimp only
    have : cntB (posI zs (zs.getD j 0)) (fstB zs) < cntB zs.length (fstB zs) := cntB_lt (by omega) hp.2.2
    unfold rnk; unfold unl; exact_mod_cast this
  · dsimp only
    obtain ⟨_, hmn, _, _⟩ := g.ok j m hm
    have hq := posI_spec (zs := zs) (j := m) (by omega)
    have hne := (h j hj).2.2 m hm
    dsimp only at hne
    unfold rnk
    intro he
    have he : cntB (posI zs (zs.getD m 0)) (fstB zs) = cntB (posI zs (zs.getD j 0)) (fstB zs) := by exact_mod_cast he
    rcases Nat.lt_trichotomy (posI zs (zs.getD m 0)) (posI zs (zs.getD j 0)) with h1 | h1 | h1
    · have := cntB_lt h1 hq.2.2; omega
    · have e1 := hp.2.1; rw [← h1, hq.2.1] at e1; exact hne e1
    · have := cntB_lt h1 hp.2.2; omega
theorem row_ints (n : Nat) (F : Nat → Int) : row n F = ints .i64 ((List.range n).map F) := by simp [row, ints]
theorem getD_map_range (n : Nat) (F : Nat → Int) {j : Nat} (hj : j < n) : ((List.range n).map F).getD j 0 = F j := by simp [List.getD, hj]
set_option maxHeartbeats 1600000 in
theorem few_walk (N : Int) (A : Option Addr) (len cap : Nat) (es : List E) (A2 : Option Addr) (len2 cap2 : Nat) (zs : List Int) (w : World) (hr : Rd w A len 3 (ps3 .i64 .i64 .i64 es)) (hlen : len ≤ 9223372036854775807) (hcap : len ≤ cap)
    (hr2 : Rd w A2 len2 1 (ints .i64 zs)) (hl2 : len2 ≤ 9223372036854775807) (hcap2 : len2 ≤ cap2) (htb : Tb w) (hg : 0 < w.heap.size) :
    Calls Tryd.prog 5 #[.agg #[.int .i64 N, .slice A len cap], .slice A2 len2 cap2] w fun e w' => e = .returned (.bool true) ∧ Below w.heap.size w w' := by
  have gb := (Below.refl _ w).alloc (Nat.le_refl _) (.cells #[.int .i64 N, .slice A len cap] 24)
  have g0 : (w.alloc (.cells #[.int .i64 N, .slice A len cap] 24)).cell? ⟨w.heap.size, 0, none⟩ = some (.int .i64 N) := by go_simp
  have g1 : (w.alloc (.cells #[.int .i64 N, .slice A len cap] 24)).cell? ⟨w.heap.size, 1, none⟩ = some (.slice A len cap) := by go_simp
  have gs : (w.alloc (.cells #[.int .i64 N, .slice A len cap] 24)).heap.size = w.heap.size + 1 := by simp
  have HG := Lib.hid (fun W (h : Below w.heap.size w W) => good_any N A len cap es W (hr.later h) hlen hcap)
  have hel2 : zs.length = len2 := by simpa [ints] using hr2.1
  cases hq : gchk N es == 0
  · have HL := Lib.hid (least_bad N A len cap es _ (hr.later gb) hlen hq)
    rw [hq] at HG
    clear hr hr2 hq htb
    go_enter Tryd.func5, Tryd.ntmps5
    go_wp2_with fail
    generalize w.alloc (.cells #[.int .i64 N, .slice A len cap] 24) = wg at *
    refine HL.out.mono ?_
    rintro _ w1 ⟨z, rfl, hz, hb1⟩
    have q0 := below_cell hb1 (by omega) g0
    have q1 := below_cell hb1 (by omega) g1
    have hbw := gb.trans (hb1.mono (by omega))
    have HG1 := Lib.hid (HG.out w1 hbw)
    clear hb1
    go_wp2_with fail
    refine HG1.out.mono ?_
    rintro _ w2 ⟨rfl, hb2⟩
    go_wp2
    go_ret
    exact ⟨rfl, hbw.trans (hb2.mono hbw.size)⟩
  · have hok : gchk N es = 0 := by simpa using hq
    obtain ⟨h0, h10, h45, hokE, _⟩ := gchk_ok hok
    obtain ⟨n, rfl⟩ := Int.eq_ofNat_of_zero_le h0
    rw [Int.toNat_natCast] at hokE
    rw [ps3_len hr] at h45
    have hN : n ≤ 10 := by omega
    have g := nearGr hok
    rw [hq] at HG
    have HL := Lib.hid (least_ok n A len cap es _ (hr.later gb) h45 hok (htb.below hg gb) (by omega))
    have HR := Lib.hid (fun W (h : Below w.heap.size w W) k A' m c zs (hR : Rd W A' m 1 (ints .i64 zs)) hm => right_any n k A len cap es A' m c zs W (hr.later h) hR h45 hm hN hokE)
    have HU := Lib.hid (fun W (h : Below w.heap.size w W) => unlike_any A2 len2 cap2 zs W (hr2.later h) hl2 hcap2)
    have hiff := Lib.hid (fun (k : Nat) zs => rightB_iff (N := n) (k := k) (zs := zs) hok)
    have hr2H := Lib.hid hr2; have hel2H := Lib.hid hel2; have gH := Lib.hid g
    clear hr hr2 hq htb hok hokE hel2 g
    go_enter Tryd.func5, Tryd.ntmps5
    go_wp2_with fail
    generalize w.alloc (.cells #[.int .i64 (n : Int), .slice A len cap] 24) = wg at *
    refine HL.out.mono ?_
    rintro _ w1 ⟨k, gl, L, rfl, hown, hcol, hchi, hkN, hb1⟩
    have q0 := below_cell hb1 (by omega) g0
    have q1 := below_cell hb1 (by omega) g1
    have hs1 := hb1.size
    have hbw := gb.trans (hb1.mono (by omega))
    have HG1 := Lib.hid (HG.out w1 hbw)
    have hownH := Lib.hid hown; have hcolH := Lib.hid hcol; have hchiH := Lib.hid hchi
    clear hb1 g0 g1 hown hcol hchi gb
    go_wp2_with fail
    refine HG1.out.mono ?_
    rintro _ w2 ⟨rfl, hb2⟩
    have q0 := below_cell hb2 (by omega) q0
    have q1 := below_cell hb2 (by omega) q1
    have hs2 := hb2.size
    have hbw2 := hbw.trans (hb2.mono hbw.size)
    have hRl := (Rd.of_own hownH.out).later hb2
    rw [row_ints] at hRl
    have HR1 := HR.out w2 hbw2 (k : Int) (some ⟨gl, 0, none⟩) n n _ hRl (by omega)
    rw [(hiff.out k _).2 ⟨by simp, col_congr gH.out hcolH.out (fun j hj => (getD_map_range n L hj).symm)⟩] at HR1
    have HR1 := Lib.hid HR1
    clear hb2 hbw hRl
    go_wp2_with fail
    refine HR1.out.mono ?_
    rintro _ w3 ⟨rfl, hb3⟩
    have q0 := below_cell hb3 (by omega) q0
    have q1 := below_cell hb3 (by omega) q1
    have hs3 := hb3.size
    have hbw3 := hbw2.trans (hb3.mono hbw2.size)
    have HR2 := Lib.hid (HR.out w3 hbw3 ((12 : Nat) : Int) A2 len2 cap2 zs (hr2H.out.later hbw3) hl2)
    have hbw3H := Lib.hid hbw3
    clear hb3 hbw2 hbw3
    cases hqr : rightB n ((12 : Nat) : Int) es zs
    · rw [hqr] at HR2
      go_wp2_with fail
      refine HR2.out.mono ?_
      rintro _ w4 ⟨rfl, hb4⟩
      go_wp2
      go_ret
      exact ⟨rfl, hbw3H.out.trans (hb4.mono hbw3H.out.size)⟩
    · rw [hqr] at HR2
      obtain ⟨hzl, hc12⟩ := (hiff.out 12 zs).1 hqr
      have hge := isChi_le hchiH.out (col_unl gH.out hzl hc12)
      clear hqr hc12
      go_wp2_with fail
      refine HR2.out.mono ?_
      rintro _ w4 ⟨rfl, hb4⟩
      have hbw4 := hbw3H.out.trans (hb4.mono hbw3H.out.size)
      have HU1 := Lib.hid (HU.out w4 hbw4)
      have hul : unl zs ≤ zs.length := by unfold unl cntB; exact Nat.le_trans (List.length_filter_le _ _) (by simp)
      generalize unl zs = u at *
      go_wp2_with fail
      refine HU1.out.mono ?_
      rintro _ w5 ⟨rfl, rfl⟩
      go_wp2
      go_ret
      exact ⟨rfl, hbw4⟩
theorem colourFew_any (N : Int) (A : Option Addr) (len cap : Nat) (es : List E) (A2 : Option Addr) (len2 cap2 : Nat) (zs : List Int) (w : World) (_ : (Lit.int .i64 N).wf = true) (hr : Rd w A len 3 (ps3 .i64 .i64 .i64 es)) (hlen : len ≤ maxLen) (hcap : len ≤ cap) (_ : ∀ a ∈ es, (Lit.int .i64 a.1).wf = true ∧ (Lit.int .i64 a.2.1).wf = true ∧ (Lit.int .i64 a.2.2).wf = true)
    (hr2 : Rd w A2 len2 1 (ints .i64 zs)) (hl2 : len2 ≤ maxLen) (hcap2 : len2 ≤ cap2) (_ : ∀ z ∈ zs, (Lit.int .i64 z).wf = true) (htb : Tb w) (hg : 0 < w.heap.size) :
    Calls Tryd.prog 5 #[.agg #[.int .i64 N, .slice A len cap], .slice A2 len2 cap2] w fun e w' => e = .returned (.bool true) ∧ Below w.heap.size w w' := by
  unfold maxLen at hlen hl2
  exact few_walk N A len cap es A2 len2 cap2 zs w hr (by omega) hcap hr2 (by omega) hcap2 htb hg
end Go.Proofs.YtnpgnohnpbdblaaDoor
