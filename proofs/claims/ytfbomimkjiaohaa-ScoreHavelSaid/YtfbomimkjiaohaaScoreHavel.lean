/- ScoreHavel: the walk. -/
import Derived.Test.YtfbomimkjiaohaaScoreMake
import Derived.Test.YtfbomimkjiaohaaNatI
import Derived.Test.YtfbomimkjiaohaaBel
import Derived.Deep.DeepCutAuto
namespace Go.Proofs.Ytfbomimkjiaohaa
open Go.RowKit

theorem tiIh : TI Try.prog 22 3 (.int .i64 0) 1 8 := TI.mk' Try.underlying22 (by kernel_rfl) rfl (by decide)
/-- what Make told -/
def Told (n : Nat) (zs : List Int) (N1 : Int) (A1 : Option Addr) (l1 c1 : Nat) (cd : Int) (w1 : World) : Prop :=
  (cd = 0 ∧ N1 = n ∧ ∃ ps, l1 = List.length ps ∧ Rd w1 A1 l1 3 (ps3 .i64 .i64 .i64 (toQ ps)) ∧ l1 ≤ c1 ∧ (∀ e ∈ ps, e.1 < n ∧ e.2 < n ∧ e.1 ≠ e.2) ∧ ps.Pairwise (fun e f => ¬ sameQ e f) ∧ ∀ x, x < n → (dgP ps x : Int) = zs.getD x 0) ∨ cd = 5
def ToldP (n : Nat) (zs : List Int) (w : World) (e : Ending) (w' : World) : Prop :=
  ∃ (N1 : Int) (A1 : Option Addr) (l1 c1 : Nat) (cd : Int), e = .returned (.tuple #[.agg #[.int .i64 N1, .slice A1 l1 c1], .int .i64 cd]) ∧ Told n zs N1 A1 l1 c1 cd w' ∧ Below w.heap.size w w'
theorem told_any (A : Option Addr) (n cap : Nat) (zs : List Int) (w : World) (hz : Rd w A n 1 (ints .i64 zs)) (hn : n ≤ 10) :
    Calls Try.prog 8 #[.slice A n cap] w (ToldP n zs w) := by
  refine (make_any A n cap zs w hz hn).mono ?_
  rintro e w' ⟨hb, h | h⟩
  · obtain ⟨A', c', ps, rfl, hr, hc, h1, h2, h3⟩ := h
    exact ⟨_, _, _, _, _, rfl, .inl ⟨rfl, rfl, ps, rfl, hr, hc, h1, h2, h3⟩, hb⟩
  · exact ⟨_, _, _, _, _, h.1, .inr rfl, hb⟩
/-- what Make tells of the degrees of a graph -/
theorem make_own (A : Option Addr) (n cap : Nat) (es : List E) (w : World) (hz : Rd w A n 1 (ints .i64 (natI ((List.range n).map (degE es))))) (hn : n ≤ 10) (hok : OkL n es) :
    Calls Try.prog 8 #[.slice A n cap] w fun e w' => ∃ (A' : Option Addr) (c' : Nat), e = .returned (.tuple #[.agg #[.int .i64 n, .slice A' es.length c'], .int .i64 0]) ∧ Below w.heap.size w w' := by
  refine (make_any A n cap _ w hz hn).mono ?_
  have hat : ∀ i, i < n → (natI ((List.range n).map (degE es))).getD i 0 = (degE es i : Int) := fun i hi => by simp [natI, List.getD, hi]
  rintro e w' ⟨hb, h | h⟩
  · obtain ⟨A', c', ps, rfl, hr, hc, h1, h2, h3⟩ := h
    refine ⟨A', c', ?_, hb⟩
    have hl : ps.length = es.length := by
      have e1 := hands2 (toQ_ok h1 h2).ok
      have e2 := hands2 hok.ok
      have e3 := sumD_congr (f := degE (toQ ps)) (g := degE es) n fun x hx => by
        have := h3 x hx
        rw [hat x hx] at this
        rw [degE_toQ]; omega
      have e4 : (toQ ps).length = ps.length := by simp [toQ]
      omega
    rw [hl]
  · exact absurd (gph_of hok) (h.2 (degE es) hat)
structure HC (s : Nat) (N : Int) (A2 : Option Addr) (len2 cap2 : Nat) (w wx : World) : Prop where
  b : Below s w wx
  g : Blk wx s 33 #[.int .i64 N, .slice A2 len2 cap2]
set_option maxHeartbeats 3200000 in
set_option maxRecDepth 100000 in
theorem scoreHavel_any (A : Option Addr) (n cap : Nat) (zs : List Int) (N : Int) (A2 : Option Addr) (len2 cap2 : Nat) (es : List E) (w : World) (hz : Rd w A n 1 (ints .i64 zs)) (hl : n ≤ 9223372036854775807)
    (hr : Rd w A2 len2 3 (ps3 .i64 .i64 .i64 es)) (hcap2 : len2 ≤ cap2) (hl2 : len2 ≤ 9223372036854775807) :
    Calls Try.prog 4 #[.slice A n cap, .agg #[.int .i64 N, .slice A2 len2 cap2]] w fun e w' => e = .returned (.bool true) ∧ Below w.heap.size w w' := by
  have gb := (Below.refl _ w).alloc (Nat.le_refl _) (.cells #[.int .i64 N, .slice A2 len2 cap2] 33)
  have bG := Blk.new w 33 #[.int .i64 N, .slice A2 len2 cap2]
  have hzg := hz.later gb
  have hzH := Lib.hid hz; have hrH := Lib.hid hr
  have gbH := Lib.hid gb; have bGH := Lib.hid bG
  have gs : (w.alloc (.cells #[.int .i64 N, .slice A2 len2 cap2] 33)).heap.size = w.heap.size + 1 := by simp
  by_cases h10 : 10 < n
  · have HM := Lib.hid (make_large A n cap (w.alloc (.cells #[.int .i64 N, .slice A2 len2 cap2] 33)) h10)
    have hd : decide ((10 : Int) < n) = true := decide_eq_true (by omega)
    clear hz hr gb bG hzg gs
    go_enter Try.func4, Try.ntmps4
    go_wp2_with fail
    refine HM.out.mono ?_
    rintro _ w1 ⟨rfl, hb⟩
    have hfin := Lib.hid (gbH.out.trans (hb.mono gbH.out.size))
    clear hb
    go_wp2_with fail
    go_ret
    exact ⟨rfl, hfin.out.alloc hfin.out.size _⟩
  · have hn : n ≤ 10 := by omega
    have hd : decide ((10 : Int) < n) = false := decide_eq_false (by omega)
    have HM := Lib.hid (told_any A n cap zs (w.alloc (.cells #[.int .i64 N, .slice A2 len2 cap2] 33)) hzg hn)
    clear hz hr gb bG hzg h10
    go_enter Try.func4, Try.ntmps4
    go_wp2_with fail
    refine HM.out.mono ?_
    rintro _ w1 ⟨N1, A1, l1, c1, cd, rfl, hT, hb⟩
    have hTH := Lib.hid hT
    have hb1 := gbH.out.trans (hb.mono gbH.out.size)
    have hz1 : w.heap.size < w1.heap.size := by have := hb.size; omega
    have bG1 := Lib.hid ((bGH.out.below hb (by omega)).alloc (.cells #[.int .i64 N1, .slice A1 l1 c1] 33))
    have hb2 := Lib.hid (hb1.alloc hb1.size (.cells #[.int .i64 N1, .slice A1 l1 c1] 33))
    have bT := Lib.hid (Blk.new w1 33 #[.int .i64 N1, .slice A1 l1 c1])
    have hw12 : Below w1.heap.size w1 (w1.alloc (.cells #[.int .i64 N1, .slice A1 l1 c1] 33)) := (Below.refl _ _).alloc (Nat.le_refl _) _
    have hw12H := Lib.hid hw12
    have hs2 : (w1.alloc (.cells #[.int .i64 N1, .slice A1 l1 c1] 33)).heap.size = w1.heap.size + 1 := by simp
    clear hT hb hb1 hw12 HM bGH gbH gs
    go_upto_if 23 with fail
    generalize w1.alloc (.cells #[.int .i64 N1, .slice A1 l1 c1] 33) = w2 at *
    go_cut [7] (fun _ wx => HC w.heap.size N A2 len2 cap2 w wx)
    case first =>
      rcases hTH.out with ⟨rfl, rfl, ps, hl1, hrT, hcT, hok1, hpw, hdg⟩ | rfl
      · have hokL := toQ_ok hok1 hpw
        have hl45 := pairs_le hn hok1 hpw
        rw [← hl1] at hl45
        have hqlen : (toQ ps).length = l1 := by rw [hl1]; simp [toQ]
        have hgood : gchk n (toQ ps) = 0 := gchk_iff.2 ⟨by rw [hqlen]; simp [glarge]; omega, hokL⟩
        have HG := Lib.hid (good_any n A1 l1 c1 (toQ ps) w2 (hrT.later hw12H.out) (by omega) hcT)
        rw [show (gchk n (toQ ps) == 0) = true from beq_iff_eq.2 hgood] at HG
        have hokE := Lib.hid hokL.ok
        have hdgH := Lib.hid hdg; have hrTH := Lib.hid hrT
        have t0 := bT.out.cell (j := 0) (v := .int .i64 n) rfl
        have t1 := bT.out.cell (j := 1) (v := .slice A1 l1 c1) rfl
        clear hok1 hpw hdg hrT hokL hgood hqlen hl1 hTH
        go_wp2_with fail
        refine HG.out.mono ?_
        rintro _ w3 ⟨rfl, hb3⟩
        have bT3 := bT.out.below hb3 (by omega)
        have t0 := bT3.cell (j := 0) (v := .int .i64 n) rfl
        have hb23 := Lib.hid hb3
        have hs3 := hb3.size
        clear HG hb3 bT3
        go_wp2_with fail
        go_loopw [7] (fun iv wr => ∃ i : Nat, i ≤ n ∧ iv = .int .i64 i ∧ Below w2.heap.size w2 wr) (fun iv _ => n - (intOf iv).toNat)
        case atStart => exact ⟨0, by omega, rfl, hb23.out⟩
        case round =>
          obtain ⟨i, hi, rfl, hbr⟩ := hrel
          obtain ⟨w4, rfl⟩ : ∃ w4 : World, w4 = wr := ⟨_, rfl⟩
          have hbrH := Lib.hid hbr
          have bT4 := bT.out.below hbr (by omega)
          have t2 := bT4.cell (j := 0) (v := .int .i64 n) rfl
          have t3 := bT4.cell (j := 1) (v := .slice A1 l1 c1) rfl
          by_cases hin : i < n
          · have hiI : (i : Int) < n := by omega
            have hi0 : (0 : Int) ≤ i := by omega
            obtain ⟨bb, o, rfl, _, cz⟩ := (hzH.out.later (hb2.out.trans (hbr.mono hb2.out.size))).int hin
            have HD := Lib.hid (fun (p : BW w4) => degree_any n i A1 l1 c1 (toQ ps) p.w' (((hrTH.out.later hw12H.out).later hbrH.out).later p.hb) (by omega) hokE.out)
            rw [degE_toQ] at HD
            rw [← hdgH.out i hin] at cz
            obtain ⟨D, hD⟩ : ∃ D, dgP ps i = D := ⟨_, rfl⟩
            rw [hD] at HD cz
            have hDD : ((D : Int) != D) = false := by simp
            have x0 := BW.cell (w := w4) t2; have x1 := BW.cell (w := w4) t3; have x2 := BW.cell (w := w4) cz
            have hs4 := hbr.size
            clear hbr bT4 hD
            go_wp2
            refine wp_region_below (by kernel_rfl) (by kernel_rfl) ?_
            repeat (go_big_quiet_step (first | rfl | (with_reducible refine Calls.bel (HD.out _))))
            refine wpQuiet_nil ?_
            rintro _ ⟨p, rfl⟩
            have hbf := Lib.hid (hbrH.out.trans (p.hb.mono hs4))
            clear x0 x1 x2 HD t2 t3 cz
            go_wp2
            go_roundw
            case rel => exact ⟨i + 1, by omega, by go_num, hbf.out⟩
            case measure => simp [intOf]; omega
          · obtain rfl : i = n := by omega
            have hfin := Lib.hid (show HC w.heap.size N A2 len2 cap2 w w4 from ⟨hb2.out.trans (hbr.mono hb2.out.size), bG1.out.below hbr (by omega)⟩)
            clear hbr bT4
            go_wp2
            go_meet
            exact hfin.out
      · have hfin := Lib.hid (show HC w.heap.size N A2 len2 cap2 w w2 from ⟨hb2.out, bG1.out⟩)
        go_wp2
        go_meet
        exact hfin.out
    case rest =>
      have hcH := Lib.hid hcut
      clear hcut hTH bG1 hb2 bT hw12H hs2 hz1
      have g0 := hcH.out.g.cell (j := 0) (v := .int .i64 N) rfl
      have g1 := hcH.out.g.cell (j := 1) (v := .slice A2 len2 cap2) rfl
      have HG := Lib.hid (good_any N A2 len2 cap2 es wc (hrH.out.later hcH.out.b) hl2 hcap2)
      by_cases hok : gchk N es = 0
      case neg =>
        rw [show (gchk N es == 0) = false from beq_eq_false_iff_ne.2 hok] at HG
        clear hok
        go_wp2_with fail
        refine HG.out.mono ?_
        rintro _ w3 ⟨rfl, hb3⟩
        have hfin := Lib.hid (hcH.out.b.trans (hb3.mono hcH.out.b.size))
        clear hb3
        go_wp2_with fail
        go_ret
        exact ⟨rfl, hfin.out⟩
      rw [show (gchk N es == 0) = true from beq_iff_eq.2 hok] at HG
      obtain ⟨hN0, hN10, hl45, hokE, _⟩ := gchk_ok hok
      obtain ⟨m, rfl⟩ := Int.eq_ofNat_of_zero_le hN0
      rw [Int.toNat_natCast] at hokE
      have hel := ps3_len hrH.out
      rw [hel] at hl45
      have hokL := Lib.hid (gchk_iff.1 hok).2
      have hokEH := Lib.hid hokE; have helH := Lib.hid hel
      clear hok hokE hel
      go_wp2_with fail
      refine HG.out.mono ?_
      rintro _ w3 ⟨rfl, hb3⟩
      have hb3H := Lib.hid hb3
      have hcs := hcH.out.b.size
      have hgl := hcH.out.g.lt
      clear HG g0 g1 hb3
      go_wp2_with fail
      go_loopw [8, 9] (fun v iv wr => ∃ i : Nat, i ≤ m ∧ iv = .int .i64 i ∧ wr.ownsRow w3.heap.size 3 1 v i (ints .i64 (natI ((List.range i).map (degE es)))) ∧ Below w3.heap.size w3 wr) (fun _ iv _ => m - (intOf iv).toNat)
      case atStart => exact ⟨0, by omega, rfl, World.ownsRow_nil _ _ _ _, Below.refl _ _⟩
      case round =>
        obtain ⟨i, hi, rfl, hown, hbr⟩ := hrel
        obtain ⟨w4, rfl⟩ : ∃ w4 : World, w4 = wr := ⟨_, rfl⟩
        have hb34 := hb3H.out.trans (hbr.mono hb3H.out.size)
        have bG4 := hcH.out.g.below hb34 hgl
        have t2 := bG4.cell (j := 0) (v := .int .i64 m) rfl
        have t3 := bG4.cell (j := 1) (v := .slice A2 len2 cap2) rfl
        have hb04 := Lib.hid (hcH.out.b.trans (hb34.mono hcs))
        have hbrH := Lib.hid hbr; have hownH := Lib.hid hown
        have hs34 := hbr.size
        by_cases him : i < m
        · have hiI : (i : Int) < m := by omega
          have hi0 : (0 : Int) ≤ i := by omega
          have HD := Lib.hid (degree_any m i A2 len2 cap2 es w4 (hrH.out.later hb04.out) hl45 hokEH.out)
          obtain ⟨A4, c4, rfl⟩ := own_slice hown
          have hrow := Lib.hid (show ints .i64 (natI ((List.range (i + 1)).map (degE es))) = ints .i64 (natI ((List.range i).map (degE es))) ++ [.int .i64 (degE es i : Int)] from by rw [List.range_succ]; simp [ints, natI])
          obtain ⟨D, hD⟩ : ∃ D, degE es i = D := ⟨_, rfl⟩
          rw [hD] at HD hrow
          clear hbr hown bG4 hb34 hD
          go_wp2_with fail
          refine HD.out.mono ?_
          rintro _ w5 ⟨rfl, hb5⟩
          have o5 := Lib.hid (own_below hownH.out hb5)
          have hb35 := Lib.hid (hbrH.out.trans (hb5.mono hs34))
          have hs5 := hb5.size
          clear hb5 HD t2 t3
          go_wp2_with (at_builtin; refine wpList_app (s := .tmp 57) (x := .tmp 61) _ tiIh (o5.out.alloc _) (rd_new1 w5 (.int .i64 (D : Int)) 3) (ints_one (l := [(D : Int)])) (by omega) (by omega) (by simp; omega) rfl rfl rfl rfl ?_)
          intro v' w7 hown' hg hat
          have hb7 := Lib.hid ((hb35.out.alloc hb35.out.size (.cells #[.int .i64 (D : Int)] 3)).grown hg (by simp; omega) (fun x e => by have := (o5.out.lt x e).1; omega))
          have o7 := Lib.hid (show w7.ownsRow w3.heap.size 3 1 v' (i + 1) (ints .i64 (natI ((List.range (i + 1)).map (degE es)))) from by rw [hrow.out]; exact hown')
          clear hg hown' hat
          go_wp2
          go_roundw
          case rel => exact ⟨i + 1, by omega, by go_num, o7.out, hb7.out⟩
          case measure => simp [intOf]; omega
        · obtain rfl : i = m := by omega
          obtain ⟨A4, c4, rfl⟩ := own_slice hown
          have HM := Lib.hid (make_own A4 i c4 es w4 (Rd.of_own hown) (by omega) hokL.out)
          rw [helH.out] at HM
          have bG4H := Lib.hid bG4
          have hs4 := hb34.size
          clear hbr hown bG4 hb34
          go_wp2_with fail
          refine HM.out.mono ?_
          rintro _ w5 ⟨A5, c5, rfl, hb5⟩
          have bG5 := (bG4H.out.below hb5 (by omega)).alloc (.cells #[.int .i64 (i : Int), .slice A5 len2 c5] 33)
          have bX := Blk.new w5 33 #[.int .i64 (i : Int), .slice A5 len2 c5]
          have u0 := bG5.cell (j := 0) (v := .int .i64 i) rfl
          have u1 := bG5.cell (j := 1) (v := .slice A2 len2 cap2) rfl
          have y0 := bX.cell (j := 0) (v := .int .i64 i) rfl
          have y1 := bX.cell (j := 1) (v := .slice A5 len2 c5) rfl
          have hfin := Lib.hid (show Below w.heap.size w (w5.alloc (.cells #[.int .i64 (i : Int), .slice A5 len2 c5] 33)) from by
            have h1 := hb04.out.trans (hb5.mono hb04.out.size)
            exact h1.alloc h1.size _)
          have hxx : ((len2 : Int) == len2) = true := by simp
          have hyy : ((i : Int) == i) = true := by simp
          clear hb5 bG5 bX HM t2 t3
          go_wp2_with fail
          go_ret
          exact ⟨by simp, hfin.out⟩
end Go.Proofs.Ytfbomimkjiaohaa
