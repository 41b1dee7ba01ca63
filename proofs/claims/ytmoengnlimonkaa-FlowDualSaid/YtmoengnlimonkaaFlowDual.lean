/- FlowDual: the law, and the walk. -/
import Derived.Test.YtmoengnlimonkaaFlowD
namespace Go.Proofs.Ytmoengnlimonkaa
open Go.RowKit Go.Shelf

theorem wordOf (S : Nat → Bool) : ∀ n : Nat, ∃ u, u < 2 ^ n ∧ ∀ i, u.testBit i = (S i && decide (i < n))
  | 0 => ⟨0, by simp, fun i => by simp⟩
  | n + 1 => by
    obtain ⟨u, hu, hb⟩ := wordOf S n
    have hp : 2 ^ n < 2 ^ (n + 1) := Nat.pow_lt_pow_right (by omega) (by omega)
    cases hs : S n
    · refine ⟨u, by omega, fun i => ?_⟩
      rw [hb]
      by_cases hi : i < n
      · simp [hi, show i < n + 1 by omega]
      · by_cases hi2 : i = n
        · subst hi2; simp [hs]
        · simp [hi, show ¬ i < n + 1 by omega]
    · refine ⟨u ||| 2 ^ n, Nat.or_lt_two_pow (by omega) hp, fun i => ?_⟩
      rw [Nat.testBit_or, hb, Nat.testBit_two_pow]
      by_cases hi : n = i
      · subst hi; simp [hs]
      · by_cases hi2 : i < n
        · simp [hi, hi2, show i < n + 1 by omega]
        · simp [hi, hi2, show ¬ i < n + 1 by omega]
theorem capS_congr {N : Nat} {l : List Arc} (hn : NOk N l) {S S' : Nat → Bool} (h : ∀ i, i < N → S i = S' i) : capS l S = capS l S' := by
  unfold capS
  refine sm_congr fun k hk => ?_
  have := hn.at hk
  rw [h _ this.1, h _ this.2.1]
/-- FORD, FULKERSON -/
theorem dual_law {N : Nat} {l : List Arc} {s t b : Nat} {f : Nat → Int} {v c : Int} (hn : NOk N l) (hs : s < N) (h : Mxf N l s t f v) (hc : CutI l s t (2 ^ N) b c) : v = c ∧ b.testBit s = true ∧ b.testBit t = false ∧ capS l b.testBit = c := by
  obtain ⟨S, h1, h2, h3⟩ := h.ct
  obtain ⟨u, hu, hub⟩ := wordOf S N
  have hadm : adm s t u = true := by unfold adm; rw [hub, hub, h1, h2]; simp [hs]
  have hcu : capS l u.testBit = v := by rw [← h3]; exact capS_congr hn fun i hi => by rw [hub]; simp [hi]
  rcases hc with ⟨_, h4⟩ | ⟨h0, h4, h5, h6⟩
  · rw [h4 u hu] at hadm; cases hadm
  · have h7 := h6 u hu hadm
    unfold adm at h4
    simp only [Bool.and_eq_true, Bool.not_eq_true'] at h4
    have h8 := h.fl.le hn h4.1 h4.2 hs
    exact ⟨by omega, h4.1, h4.2, by omega⟩
theorem FL.congr {N : Nat} {l : List Arc} {s t : Nat} {f g : Nat → Int} {v : Int} (h : FL N l s t f v) (hg : ∀ k, k < l.length → g k = f k) : FL N l s t g v := by
  have he : ∀ u, ex l g u = ex l f u := fun u => by
    unfold ex
    exact sm_congr fun k hk => by rw [hg k hk]
  exact ⟨fun k hk => by rw [hg k hk]; exact h.ok k hk, fun u hu a b => by rw [he]; exact h.kp u hu a b, by rw [he]; exact h.vl⟩
def rowL (m : Nat) (f : Nat → Int) : List Int := (List.range m).map f
theorem rowL_ints (m : Nat) (f : Nat → Int) : row m f = ints .i64 (rowL m f) := by simp [row, ints, rowL]
theorem rowL_get {m : Nat} {f : Nat → Int} {k : Nat} (h : k < m) : (rowL m f).getD k 0 = f k := by simp [rowL, List.getD, h]
set_option maxHeartbeats 3200000 in
set_option maxRecDepth 100000 in
theorem flowDual_any (n : Int) (A : Option Addr) (len cap : Nat) (l : List Arc) (s t : Int) (G : Option Addr) (lg cg : Nat) (gs : List Int) (x : Nat) (w : World) (hr : Rd w A len 4 (arcs l)) (hlen : len ≤ 9223372036854775807) (hrg : Rd w G lg 1 (ints .i64 gs)) (hlg : lg ≤ 9223372036854775807) (hx : x < 4294967296) :
    Calls Try.prog 4 #[.agg #[.int .i64 n, .slice A len cap], .int .i64 s, .int .i64 t, .slice G lg cg, .int .u32 (x : Int)] w fun e w' => e = .returned (.bool true) ∧ Below w.heap.size w w' := by
  have hel := arcs_len hr
  have hb0 := (Below.refl _ w).alloc (Nat.le_refl _) (.cells #[.int .i64 n, .slice A len cap] 24)
  have hr0 := hr.later hb0
  have hK := Blk.new w 24 #[.int .i64 n, .slice A len cap]
  have k0 := hK.cell (j := 0) rfl
  have k1 := hK.cell (j := 1) rfl
  by_cases hok : echk n l s t = 0
  · obtain ⟨h1, h2, h3, h4, h5, h6⟩ := echk_ok hok
    obtain ⟨g1, g2, g3, g4⟩ := nchk_ok h1
    obtain ⟨N, rfl⟩ := Int.eq_ofNat_of_zero_le g1
    obtain ⟨sN, rfl⟩ := Int.eq_ofNat_of_zero_le h2
    obtain ⟨tN, rfl⟩ := Int.eq_ofNat_of_zero_le h4
    have HM := Lib.hid (mostF_ok N A len cap l sN tN _ hr0 hok)
    have hrH := Lib.hid hr; have hrgH := Lib.hid hrg; have hKH := Lib.hid hK; have hb0H := Lib.hid hb0; have hokH := Lib.hid hok; have hnH := Lib.hid (⟨g4⟩ : NOk N l); have helH := Lib.hid hel
    clear hr hr0 hrg hK hb0 hok g4 h1 g1 h2 h4
    go_enter Try.func4, Try.ntmps4
    go_wp2_with fail
    refine HM.out.mono ?_
    rintro e w1 ⟨f, v, gl, c, rfl, hown, hmx, hv0, hb1⟩
    have hbb := hb0H.out.trans (hb1.mono hb0H.out.size)
    have hK1 : Blk w1 w.heap.size 24 #[.int .i64 N, .slice A len cap] := (hb1.block _ hKH.out.lt).trans hKH.out
    have q0 := hK1.cell (j := 0) rfl
    have q1 := hK1.cell (j := 1) rfl
    have HC := Lib.hid (cutF_ok N A len cap l sN tN w1 (hrH.out.later hbb) hokH.out)
    have hrf := Rd.of_own hown
    rw [rowL_ints] at hrf
    have hmxH := Lib.hid hmx; have hbH := Lib.hid hbb; have hK1H := Lib.hid hK1; have hrfH := Lib.hid hrf
    clear hb1 hbb hK1 k0 k1 HM hmx hown hrf
    go_wp2_with fail
    refine HC.out.mono ?_
    rintro e w2 ⟨b, cz, rfl, hbS, hCI, hb2⟩
    obtain ⟨hvc, hbs, hbt, hcap⟩ := dual_law hnH.out (by omega) hmxH.out hCI
    subst hvc
    have hpN : 2 ^ N ≤ 2 ^ 10 := Nat.pow_le_pow_right (by omega) (by omega)
    have hbb := hbH.out.trans (hb2.mono hbH.out.size)
    have hK2 : Blk w2 w.heap.size 24 #[.int .i64 N, .slice A len cap] := (hb2.block _ hK1H.out.lt).trans hK1H.out
    have q0 := hK2.cell (j := 0) rfl
    have q1 := hK2.cell (j := 1) rfl
    have HE := Lib.hid (endsCheck_any N A len cap l sN tN w2 (hrH.out.later hbb) hlen)
    rw [hokH.out] at HE
    have hrf2 := Lib.hid (hrfH.out.later hb2)
    have hb2H := Lib.hid hbb; have hK2H := Lib.hid hK2; have hcapH := Lib.hid hcap
    clear hb2 hbb hK2 HC hCI hcap hrfH hbH
    go_wp2_with fail
    refine HE.out.mono ?_
    rintro e w3 ⟨rfl, hb3⟩
    have hbb := hb2H.out.trans (hb3.mono hb2H.out.size)
    have hK3 : Blk w3 w.heap.size 24 #[.int .i64 N, .slice A len cap] := (hb3.block _ hK2H.out.lt).trans hK2H.out
    have q0 := hK3.cell (j := 0) rfl
    have q1 := hK3.cell (j := 1) rfl
    have HF := Lib.hid (flows_any N A (some ⟨gl, 0, none⟩) len cap len c l (rowL len f) sN tN w3 (hrH.out.later hbb) (hrf2.out.later hb3) hnH.out (by omega) (by omega) hlen (by omega) (by omega))
    have hb3H := Lib.hid hbb; have hK3H := Lib.hid hK3
    clear hb3 hbb hK3 HE hb2H hrf2
    go_wp2_with fail
    refine HF.out.mono ?_
    rintro e w4 ⟨hb4, v4, ok4, rfl, hy4, hn4⟩
    have hflR : FL N l sN tN (fun k => (rowL len f).getD k 0) v := hmxH.out.fl.congr fun k hk => rowL_get (by rw [← helH.out]; exact hk)
    obtain rfl : ok4 = true := by
      cases ok4
      · exact absurd ⟨rfl, v, hflR⟩ (hn4 rfl)
      · rfl
    obtain rfl : v4 = v := by
      have h1 := (hy4 rfl).2.vl
      rw [hflR.vl] at h1; exact h1.symm
    have hbb := hb3H.out.trans (hb4.mono hb3H.out.size)
    have hK4 : Blk w4 w.heap.size 24 #[.int .i64 N, .slice A len cap] := (hb4.block _ hK3H.out.lt).trans hK3H.out
    have q0 := hK4.cell (j := 0) rfl
    have q1 := hK4.cell (j := 1) rfl
    have HBs := Lib.hid (fun W => bitR_any b sN W (by omega) (by omega))
    rw [hbs] at HBs
    have HBt := Lib.hid (fun W => bitR_any b tN W (by omega) (by omega))
    rw [hbt] at HBt
    have HCS := Lib.hid (cutSize_any N A len cap l b w4 (hrH.out.later hbb) hnH.out (by omega) (by omega) (by omega))
    rw [hcapH.out] at HCS
    have hb4H := Lib.hid hbb; have hK4H := Lib.hid hK4
    have evv : (v4 != v4) = false := by simp
    clear hb4 hbb hK4 HF hy4 hn4 hflR hb3H hbs hbt
    go_wp2_with fail
    refine (HBs.out _).mono ?_
    rintro e w5 ⟨rfl, rfl⟩
    go_wp2_with fail
    refine (HBt.out _).mono ?_
    rintro e w5 ⟨rfl, rfl⟩
    go_wp2_with fail
    refine HCS.out.mono ?_
    rintro e w5 ⟨rfl, hb5⟩
    have hbb := hb4H.out.trans (hb5.mono hb4H.out.size)
    have hK5 : Blk w5 w.heap.size 24 #[.int .i64 N, .slice A len cap] := (hb5.block _ hK4H.out.lt).trans hK4H.out
    have q0 := hK5.cell (j := 0) rfl
    have q1 := hK5.cell (j := 1) rfl
    have HF2 := Lib.hid (flows_any N A G len cap lg cg l gs sN tN w5 (hrH.out.later hbb) (hrgH.out.later hbb) hnH.out (by omega) (by omega) hlg (by omega) (by omega))
    have hb5H := Lib.hid hbb; have hK5H := Lib.hid hK5
    clear hb5 hbb hK5 HCS hb4H HBs HBt
    go_wp2_with fail
    refine HF2.out.mono ?_
    rintro e w6 ⟨hb6, v6, ok6, rfl, hy6, hn6⟩
    have hle : ok6 = true → v6 ≤ v4 := fun h => by
      obtain ⟨S, h1, h2, h3⟩ := hmxH.out.ct
      rw [← h3]
      exact (hy6 h).2.le hnH.out h1 h2 (by omega)
    have hbb := hb5H.out.trans (hb6.mono hb5H.out.size)
    have hK6 : Blk w6 w.heap.size 24 #[.int .i64 N, .slice A len cap] := (hb6.block _ hK5H.out.lt).trans hK5H.out
    have q0 := hK6.cell (j := 0) rfl
    have q1 := hK6.cell (j := 1) rfl
    have HXs := Lib.hid (fun W => bitR_any x sN W hx (by omega))
    have HXt := Lib.hid (fun W => bitR_any x tN W hx (by omega))
    have HCX := Lib.hid (cutSize_any N A len cap l x w6 (hrH.out.later hbb) hnH.out (by omega) (by omega) hx)
    have hcx := fun (h1 : x.testBit sN = true) (h2 : x.testBit tN = false) => hmxH.out.fl.le hnH.out h1 h2 (by omega)
    have hb6H := Lib.hid hbb; have hK6H := Lib.hid hK6
    have hcut : decide (v4 < v6) = false ∨ ok6 = false := by
      cases ok6
      · exact .inr rfl
      · left; have := hle rfl; exact decide_eq_false (by omega)
    clear hb6 hbb hK6 HF2 hy6 hn6 hb5H hle
    -- the last line, whatever the other flow is
    rcases hcut with hcut | hcut
    all_goals
      (try subst hcut)
      (try cases ok6)
      all_goals
        cases hxs : x.testBit sN
        · rw [hxs] at HXs
          clear hxs hcx
          go_wp2_with fail
          refine (HXs.out _).mono ?_
          rintro e w7 ⟨rfl, rfl⟩
          go_wp2
          go_ret
          exact ⟨rfl, hb6H.out⟩
        · rw [hxs] at HXs
          cases hxt : x.testBit tN
          · rw [hxt] at HXt
            have hge := hcx hxs hxt
            clear hxs hxt hcx
            generalize capS l x.testBit = cx at *
            go_wp2_with fail
            refine (HXs.out _).mono ?_
            rintro e w7 ⟨rfl, rfl⟩
            go_wp2_with fail
            refine (HXt.out _).mono ?_
            rintro e w7 ⟨rfl, rfl⟩
            go_wp2_with fail
            refine HCX.out.mono ?_
            rintro e w7 ⟨rfl, hb7⟩
            have hbF := hb6H.out.trans (hb7.mono hb6H.out.size)
            go_wp2
            go_ret
            exact ⟨rfl, hbF⟩
          · rw [hxt] at HXt
            clear hxs hxt hcx
            go_wp2_with fail
            refine (HXs.out _).mono ?_
            rintro e w7 ⟨rfl, rfl⟩
            go_wp2_with fail
            refine (HXt.out _).mono ?_
            rintro e w7 ⟨rfl, rfl⟩
            go_wp2
            go_ret
            exact ⟨rfl, hb6H.out⟩
  · have HM := Lib.hid (mostF_bad n A len cap l s t _ hr0 hlen hok)
    have e1 : (echk n l s t != 0) = true := by simpa using hok
    have hrH := Lib.hid hr; have hKH := Lib.hid hK; have hb0H := Lib.hid hb0; have hokH := Lib.hid hok
    clear hr hr0 hrg hK hb0 hok
    go_enter Try.func4, Try.ntmps4
    go_wp2_with fail
    refine HM.out.mono ?_
    rintro e w1 ⟨rfl, hb1⟩
    have hbb := hb0H.out.trans (hb1.mono hb0H.out.size)
    have hK1 : Blk w1 w.heap.size 24 #[.int .i64 n, .slice A len cap] := (hb1.block _ hKH.out.lt).trans hKH.out
    have q0 := hK1.cell (j := 0) rfl
    have q1 := hK1.cell (j := 1) rfl
    have HC := Lib.hid (cutF_bad n A len cap l s t w1 (hrH.out.later hbb) hlen hokH.out)
    have hbH := Lib.hid hbb; have hK1H := Lib.hid hK1
    clear hb1 hbb hK1 k0 k1 HM
    go_wp2_with fail
    refine HC.out.mono ?_
    rintro e w2 ⟨rfl, hb2⟩
    have hbb := hbH.out.trans (hb2.mono hbH.out.size)
    have hK2 : Blk w2 w.heap.size 24 #[.int .i64 n, .slice A len cap] := (hb2.block _ hK1H.out.lt).trans hK1H.out
    have q0 := hK2.cell (j := 0) rfl
    have q1 := hK2.cell (j := 1) rfl
    have HE := Lib.hid (endsCheck_any n A len cap l s t w2 (hrH.out.later hbb) hlen)
    have hb2H := Lib.hid hbb
    clear hb2 hbb hK2 HC hbH
    go_wp2_with fail
    refine HE.out.mono ?_
    rintro e w3 ⟨rfl, hb3⟩
    have hbF := hb2H.out.trans (hb3.mono hb2H.out.size)
    go_wp2
    go_ret
    exact ⟨rfl, hbF⟩
end Go.Proofs.Ytmoengnlimonkaa
