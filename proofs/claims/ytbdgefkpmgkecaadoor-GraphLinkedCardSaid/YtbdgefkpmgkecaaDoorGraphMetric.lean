/- GraphMetric: the walk. -/
import Derived.Test.YtbdgefkpmgkecaaDoorDist
import Derived.Test.YtbdgefkpmgkecaaDoorInside
import Derived.Test.YtbdgefkpmgkecaaDoorRefNearA
namespace Go.Proofs.YtbdgefkpmgkecaaDoor
open Go.RowKit Go.Shelf

theorem rowsV_at {w : World} {A : Option Addr} {N : Nat} {G : Nat → Nat} (h : Rd w A N 1 (rowsV N G N)) {j : Nat} (hj : j < N) : ∃ b o, A = some ⟨b, o, none⟩ ∧ b < w.heap.size ∧ w.cell? ⟨b, o + j, none⟩ = some (.slice (some ⟨G j, 0, none⟩) N N) := by
  obtain ⟨b, o, rfl, hlt, hc⟩ := h.cell (j := 0) hj (by omega)
  refine ⟨b, o, rfl, hlt, ?_⟩
  have hg : (rowsV N G N)[j]? = some (.slice (some ⟨G j, 0, none⟩) N N) := by simp [rowsV, hj]
  simpa [hg] using hc
theorem row_at {w : World} {g n : Nat} {F : Nat → Int} (h : Rd w (some ⟨g, 0, none⟩) n 1 (row n F)) {j : Nat} (hj : j < n) : g < w.heap.size ∧ w.cell? ⟨g, j, none⟩ = some (.int .i64 (F j)) := by
  obtain ⟨b, o, hA, hlt, hc⟩ := h.row hj
  injection hA with hA
  injection hA with h1 h2 _
  subst h1 h2
  exact ⟨hlt, by simpa using hc⟩
theorem graphMetric_bad (N : Int) (A : Option Addr) (len cap : Nat) (es : List E) (a b c : Int) (w : World) (hr : Rd w A len 3 (ps3 .i64 .i64 .i64 es)) (hl : len ≤ 9223372036854775807) (hcap : len ≤ cap) (hc : gchk N es ≠ 0) :
    Calls Tryd.prog 3 #[.agg #[.int .i64 N, .slice A len cap], .int .i64 a, .int .i64 b, .int .i64 c] w fun e w' => e = .returned (.bool true) ∧ Below w.heap.size w w' := by
  have HD := Lib.hid (dist_bad N A len cap es _ (hr.alloc (.cells #[.int .i64 N, .slice A len cap] 24)) hl hc)
  have hcb : (gchk N es != 0) = true := by simpa using hc
  have hcg : (gchk N es == 0) = false := by simpa using hc
  have hrH := Lib.hid hr
  have g0 : (w.alloc (.cells #[.int .i64 N, .slice A len cap] 24)).cell? ⟨w.heap.size, 0, none⟩ = some (.int .i64 N) := by go_simp
  have g1 : (w.alloc (.cells #[.int .i64 N, .slice A len cap] 24)).cell? ⟨w.heap.size, 1, none⟩ = some (.slice A len cap) := by go_simp
  have gs : (w.alloc (.cells #[.int .i64 N, .slice A len cap] 24)).heap.size = w.heap.size + 1 := by simp
  have gb := (Below.refl _ w).alloc (Nat.le_refl _) (.cells #[.int .i64 N, .slice A len cap] 24)
  clear hr hc
  go_enter Tryd.func3, Tryd.ntmps3
  go_wp2_with fail
  generalize w.alloc (.cells #[.int .i64 N, .slice A len cap] 24) = wg at *
  refine HD.out.mono ?_
  rintro e w1 ⟨rfl, hb1⟩
  have c0 := below_cell hb1 (by omega) g0
  have c1 := below_cell hb1 (by omega) g1
  have hbb := gb.trans (hb1.mono (by omega))
  have HG := Lib.hid (good_any N A len cap es w1 (hrH.out.later hbb) hl hcap)
  rw [hcg] at HG
  go_wp2_with fail
  refine HG.out.mono ?_
  rintro e w2 ⟨rfl, hb2⟩
  have hbe := hbb.trans (hb2.mono hbb.size)
  go_wp2
  go_ret
  exact ⟨rfl, hbe⟩
set_option maxHeartbeats 12800000 in
set_option maxRecDepth 100000 in
theorem graphMetric_ok (N : Nat) (A : Option Addr) (len cap : Nat) (es : List E) (a b c : Int) (w : World) (hr : Rd w A len 3 (ps3 .i64 .i64 .i64 es)) (hcap : len ≤ cap) (hc : gchk N es = 0) (htb : Tb w) (hg : 0 < w.heap.size) :
    Calls Tryd.prog 3 #[.agg #[.int .i64 N, .slice A len cap], .int .i64 a, .int .i64 b, .int .i64 c] w fun e w' => e = .returned (.bool true) ∧ Below w.heap.size w w' := by
  obtain ⟨_, h10, h45, hok, _⟩ := gchk_ok hc
  have h10 : N ≤ 10 := by omega
  rw [Int.toNat_natCast] at hok
  rw [ps3_len hr] at h45
  have gs : (w.alloc (.cells #[.int .i64 (N : Int), .slice A len cap] 24)).heap.size = w.heap.size + 1 := by simp
  have gb := (Below.refl _ w).alloc (Nat.le_refl _) (.cells #[.int .i64 (N : Int), .slice A len cap] 24)
  have HD := Lib.hid (dist_ok N A len cap es _ rfl _ (hr.alloc (.cells #[.int .i64 (N : Int), .slice A len cap] 24)) hc (htb.below hg gb) (by omega))
  have hgrH := Lib.hid (near_gr hc)
  have hcg : (gchk N es == 0) = true := by rw [hc]; rfl
  have hrH := Lib.hid hr; have hokH := Lib.hid hok
  have g0 : (w.alloc (.cells #[.int .i64 (N : Int), .slice A len cap] 24)).cell? ⟨w.heap.size, 0, none⟩ = some (.int .i64 (N : Int)) := by go_simp
  have g1 : (w.alloc (.cells #[.int .i64 (N : Int), .slice A len cap] 24)).cell? ⟨w.heap.size, 1, none⟩ = some (.slice A len cap) := by go_simp
  clear hr hc htb hok
  go_enter Tryd.func3, Tryd.ntmps3
  go_wp2_with fail
  generalize w.alloc (.cells #[.int .i64 (N : Int), .slice A len cap] 24) = wg at *
  refine HD.out.mono ?_
  rintro e w1 ⟨v, G, rfl, hown, hrows, hb1⟩
  obtain ⟨Ad, cd, rfl⟩ := own_slice hown
  have c0 := below_cell hb1 (by omega) g0
  have c1 := below_cell hb1 (by omega) g1
  have hbb := gb.trans (hb1.mono (by omega))
  have HG := Lib.hid (good_any N A len cap es w1 (hrH.out.later hbb) (by omega) hcap)
  rw [hcg] at HG
  have hs1 := hb1.size
  have hdH := Lib.hid (Rd.of_own hown)
  have hrwH := Lib.hid (fun m (hm : m < N) => Rd.of_own (hrows m hm))
  clear HD hown hrows hb1 g0 g1 gb
  go_wp2_with fail
  refine HG.out.mono ?_
  rintro e w2 ⟨rfl, hb2⟩
  have c0 := below_cell hb2 (by omega) c0
  have c1 := below_cell hb2 (by omega) c1
  have hs2 := hb2.size
  have hbb2 := hbb.trans (hb2.mono hbb.size)
  have hd2 := Lib.hid (hdH.out.later hb2)
  have hrw2 := Lib.hid (fun m (hm : m < N) => (hrwH.out m hm).later hb2)
  clear HG hb2 hbb hdH hrwH hcg
  have hin3 : Rd (w2.alloc (.cells #[.int .i64 a, .int .i64 b, .int .i64 c] 3)) (some ⟨w2.heap.size, 0, none⟩) 3 1 (ints .i64 [a, b, c]) := ⟨rfl, fun _ => (rd_new3 w2 (.int .i64 a) (.int .i64 b) (.int .i64 c) 3).2 (by omega)⟩
  have HI := Lib.hid (inside_any N (some ⟨w2.heap.size, 0, none⟩) 3 3 [a, b, c] _ hin3 (by omega))
  have c0 := alloc_cell (by omega) c0 (.cells #[.int .i64 a, .int .i64 b, .int .i64 c] 3)
  have c1 := alloc_cell (by omega) c1 (.cells #[.int .i64 a, .int .i64 b, .int .i64 c] 3)
  have hbi := (Below.refl _ w2).alloc (Nat.le_refl _) (.cells #[.int .i64 a, .int .i64 b, .int .i64 c] 3)
  have hs3 := hbi.size
  have hbb3 := hbb2.trans (hbi.mono hbb2.size)
  have hd3 := Lib.hid (hd2.out.later hbi)
  have hrw3 := Lib.hid (fun m (hm : m < N) => (hrw2.out m hm).later hbi)
  clear hd2 hrw2 hbb2 hbi hin3
  go_wp2_with fail
  generalize w2.alloc (.cells #[.int .i64 a, .int .i64 b, .int .i64 c] 3) = wi at *
  cases hin : insideB (N : Int) [a, b, c]
  · rw [hin] at HI
    clear hin
    refine HI.out.mono ?_
    rintro e w3 ⟨rfl, rfl⟩
    go_wp2
    go_ret
    exact ⟨rfl, hbb3⟩
  · rw [hin] at HI
    unfold insideB at hin
    simp only [List.all_cons, List.all_nil, Bool.and_true, Bool.and_eq_true] at hin
    have hinn : ∀ x : Int, inB N x = true → ∃ m : Nat, x = m ∧ m < N := fun x hx => by
      unfold inB at hx
      simp at hx
      exact ⟨x.toNat, by omega, by omega⟩
    obtain ⟨an, rfl, ha⟩ := hinn a hin.1
    obtain ⟨bn, rfl, hb⟩ := hinn b hin.2.1
    obtain ⟨cn, rfl, hcN⟩ := hinn c hin.2.2
    clear hin hinn
    have hgr := hgrH.out
    obtain ⟨X, hX⟩ : ∃ X, X = far (nearW N es) an bn := ⟨_, rfl⟩
    obtain ⟨Y, hY⟩ : ∃ Y, Y = far (nearW N es) bn cn := ⟨_, rfl⟩
    obtain ⟨Z, hZ⟩ : ∃ Z, Z = far (nearW N es) an cn := ⟨_, rfl⟩
    have hXs : far (nearW N es) bn an = X := by rw [hX]; exact far_symm hgr hb ha
    have hz1 : (X == 0) = decide (an = bn) := by rw [hX, ← decide_eq_decide.2 (far_zero hgr ha)]; rfl
    have hz2 : ((an : Int) == (bn : Int)) = decide (an = bn) := by
      by_cases h : an = bn
      · simp [h]
      · have h2 : ¬ (an : Int) = bn := by omega
        simp [h, h2]
    have ho1 : (X == 1) = adj es an bn := by
      rw [hX, ← nearW_bit es hokH.out an bn ha]
      have := far_one hgr (j := bn) ha
      unfold nb at this
      cases h : ((nearW N es).getD an 0).testBit bn
      · rw [h] at this; simp at this; simpa using this
      · rw [h] at this; simp at this; simp [this]
    have htri : 0 ≤ X → 0 ≤ Y → 0 ≤ Z ∧ Z ≤ X + Y := by rw [hX, hY, hZ]; exact far_tri hgr ha
    have hXb : X ≤ 10 := by rw [hX]; rcases far_cases hgr (j := bn) ha with ⟨h, _⟩ | ⟨k, h, hk, _⟩ <;> omega
    have hYb : Y ≤ 10 := by rw [hY]; rcases far_cases hgr (j := cn) hb with ⟨h, _⟩ | ⟨k, h, hk, _⟩ <;> omega
    have htriH := Lib.hid htri
    have hNear := Lib.hid (fun W hb => refNear_any N an bn A len cap es W ((hrH.out.later hbb3).later hb) (by omega) hokH.out)
    refine HI.out.mono ?_
    rintro e w3 ⟨rfl, rfl⟩
    obtain ⟨bd, od, rfl, hbdl, ca⟩ := rowsV_at hd3.out ha
    obtain ⟨_, _, hA', _, cb⟩ := rowsV_at hd3.out hb
    injection hA' with hA'
    injection hA' with q1 q2 _
    subst q1 q2
    obtain ⟨hga, cab⟩ := row_at (hrw3.out an ha) hb
    obtain ⟨hgb, cba⟩ := row_at (hrw3.out bn hb) ha
    obtain ⟨_, cbc⟩ := row_at (hrw3.out bn hb) hcN
    obtain ⟨_, cac⟩ := row_at (hrw3.out an ha) hcN
    rw [← hX] at cab
    rw [hXs] at cba
    rw [← hY] at cbc
    rw [← hZ] at cac
    have r0 := Below.refl wi.heap.size wi
    have hai : (an : Int) < N := by omega
    have hbi : (bn : Int) < N := by omega
    have hci : (cn : Int) < N := by omega
    have ha0 : (0 : Int) ≤ an := by omega
    have hb0 : (0 : Int) ≤ bn := by omega
    have hc0' : (0 : Int) ≤ cn := by omega
    have hxx : (X != X) = false := by simp
    have hnn : ((N : Int) != (N : Int)) = false := by simp
    have hwl : w.heap.size < wi.heap.size := by omega
    have hs0 : w.heap.size ≤ wi.heap.size := by omega
    have hcH := Lib.hid (And.intro cab (And.intro cbc cac))
    clear hX hY hZ hXs htri hgr hd3 hrw3 HI hgrH cbc cac
    generalize decide (an = bn) = z at *
    generalize adj es an bn = y at *
    have hzz : (z != z) = false := by cases z <;> rfl
    have hyy : (y != y) = false := by cases y <;> rfl
    go_upto_region 8 with fail
    go_cut [101] (fun v wx => v = .bool false ∧ Below wi.heap.size wi wx)
    case first =>
      go_region_held3 (fun w' => w'.cell? ⟨w.heap.size, 0, none⟩ = some (.int .i64 (N : Int)) ∧ w'.cell? ⟨w.heap.size, 1, none⟩ = some (.slice A len cap) ∧ w'.cell? ⟨bd, od + an, none⟩ = some (.slice (some ⟨G an, 0, none⟩) N N) ∧ w'.cell? ⟨bd, od + bn, none⟩ = some (.slice (some ⟨G bn, 0, none⟩) N N) ∧ w'.cell? ⟨G an, bn, none⟩ = some (.int .i64 X) ∧ w'.cell? ⟨G bn, an, none⟩ = some (.int .i64 X)) (first | go_keep | exact ⟨below_cell bA hwl c0, below_cell bA hwl c1, below_cell bA hbdl ca, below_cell bA hbdl cb, below_cell bA hga cab, below_cell bA hgb cba⟩) ((first
        | (go_at_call 8
           (with_reducible refine (hNear.out wi.drew (Below.drew r0)).mono ?_)
           rintro e wA ⟨rfl, bA0⟩
           have bA := (Below.drew r0).trans bA0)
        | fail))
      all_goals
        go_wp2_with fail
        go_meet
        exact ⟨rfl, bA⟩
    case rest =>
      obtain ⟨rfl, hbc⟩ := hcut
      have ca := below_cell hbc hbdl ca
      have cb := below_cell hbc hbdl cb
      have cab := below_cell hbc hga cab
      have cbc := below_cell hbc hgb hcH.out.2.1
      have cac := below_cell hbc hga hcH.out.2.2
      have hfin := Lib.hid (hbb3.trans (hbc.mono hs0))
      clear c0 c1 cba hbb3 hz1 hz2 ho1 hxx hnn hzz hyy hNear hbc
      by_cases hX0 : X < 0
      · go_wp2
        go_quiet (fail)
        go_wp2
        go_ret
        exact ⟨rfl, below_drewN hfin.out nq⟩
      · have hX1 : 0 ≤ X := by omega
        by_cases hY0 : Y < 0
        · have hXd : decide (X < 0) = false := by simp; omega
          have hYd : decide (Y < 0) = true := by simp; omega
          clear htriH
          go_wp2
          refine wp_region_quiet_lit (by kernel_rfl) (by kernel_rfl) ?_
          repeat (go_big_quiet_step (fail))
          refine wpQuiet_nil ?_
          intro _ hw'
          obtain ⟨nq, hw''⟩ := hw'
          subst hw''
          go_wp2
          go_ret
          exact ⟨rfl, below_drewN hfin.out nq⟩
        · have hY1 : 0 ≤ Y := by omega
          obtain ⟨hZ0, hZ1⟩ := htriH.out hX1 hY1
          have hw : IntKind.i64.wrap (X + Y) = X + Y := IntWalk.i64_in _ (by omega)
          have hXd : decide (X < 0) = false := by simp; omega
          have hYd : decide (Y < 0) = false := by simp; omega
          have hZd : decide (0 ≤ Z) = true := by simp; omega
          have hZe : decide (Z ≤ X + Y) = true := by simp; omega
          clear hX0 hY0
          go_wp2
          refine wp_region_quiet_lit (by kernel_rfl) (by kernel_rfl) ?_
          repeat (go_big_quiet_step (fail))
          refine wpQuiet_nil ?_
          intro _ hw'
          obtain ⟨nq, hw''⟩ := hw'
          subst hw''
          go_wp2
          go_ret
          exact ⟨rfl, below_drewN hfin.out nq⟩
theorem graphMetric_any (N : Int) (A : Option Addr) (len cap : Nat) (es : List E) (a b c : Int) (w : World) (_ : (Lit.int .i64 N).wf = true) (hr : Rd w A len 3 (ps3 .i64 .i64 .i64 es)) (hlen : len ≤ maxLen) (hcap : len ≤ cap) (_ : ∀ a ∈ es, (Lit.int .i64 a.1).wf = true ∧ (Lit.int .i64 a.2.1).wf = true ∧ (Lit.int .i64 a.2.2).wf = true)
    (_ : (Lit.int .i64 a).wf = true) (_ : (Lit.int .i64 b).wf = true) (_ : (Lit.int .i64 c).wf = true) (htb : Tb w) (hg : 0 < w.heap.size) :
    Calls Tryd.prog 3 #[.agg #[.int .i64 N, .slice A len cap], .int .i64 a, .int .i64 b, .int .i64 c] w fun e w' => e = .returned (.bool true) ∧ Below w.heap.size w w' := by
  unfold maxLen at hlen
  by_cases hc : gchk N es = 0
  · obtain ⟨h0, _, _, _, _⟩ := gchk_ok hc
    obtain ⟨n, rfl⟩ := Int.eq_ofNat_of_zero_le h0
    exact graphMetric_ok n A len cap es a b c w hr hcap hc htb hg
  · exact graphMetric_bad N A len cap es a b c w hr (by omega) hcap hc
end Go.Proofs.YtbdgefkpmgkecaaDoor
