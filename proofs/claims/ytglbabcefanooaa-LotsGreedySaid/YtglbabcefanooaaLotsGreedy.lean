/- LotsGreedy: the walk. -/
import Derived.Test.YtglbabcefanooaaBestM
import Derived.Test.YtglbabcefanooaaRefRank
namespace Go.Proofs.Ytglbabcefanooaa
open Go.RowKit Go.Maps

set_option maxHeartbeats 1600000 in
theorem best_bad (A B : Option Addr) (la ca lb cb : Nat) (xs : List Nat) (w : World) (hra : Rd w A la 1 (wds xs)) (hla : la ≤ 9223372036854775807) (hno : ¬ (LOk xs ∧ la = lb)) :
    Calls Try.prog 4 #[.slice A la ca, .slice B lb cb] w fun e w' => (∃ c : Int, e = .returned (.tuple #[.int .u32 0, .int .i64 c]) ∧ (c != 0) = true) ∧ Below w.heap.size w w' := by
  have gb := (Below.refl _ w).alloc (Nat.le_refl _) (.cells #[.slice B lb cb] 23)
  have bx := Boxed.new w 23 (.slice B lb cb)
  have CA := Lib.hid (fun W (h : Below w.heap.size w W) => check_any A la ca xs W (hra.later h) hla)
  have hs1 : (w.alloc (.cells #[.slice B lb cb] 23)).heap.size = w.heap.size + 1 := by simp
  clear hra
  by_cases hok : LOk xs
  · have h3 : (lb : Int) ≠ la := fun h => hno ⟨hok, by omega⟩
    rw [lchk_ok.2 hok] at CA
    clear hok hno
    go_enter Try.func4, Try.ntmps4
    go_wp2_with fail
    generalize w.alloc (.cells #[.slice B lb cb] 23) = wg at *
    refine (CA.out _ gb).mono ?_
    rintro _ w1 ⟨rfl, hb1⟩
    have hbw := gb.trans (hb1.mono (by omega))
    have bx1 : Boxed w1 w.heap.size 23 (.slice B lb cb) := (hb1.block _ bx.lt).trans bx
    have cx1 := bx1.cell
    clear gb hb1 bx CA bx1
    go_wp2
    go_ret2
    exact ⟨⟨3, rfl, rfl⟩, hbw⟩
  · have hc : (lchk xs != 0) = true := bne_iff_ne.2 fun h => hok (lchk_ok.1 h)
    clear hok hno
    generalize lchk xs = c at *
    go_enter Try.func4, Try.ntmps4
    go_wp2_with fail
    generalize w.alloc (.cells #[.slice B lb cb] 23) = wg at *
    refine (CA.out _ gb).mono ?_
    rintro _ w1 ⟨rfl, hb1⟩
    have hbw := gb.trans (hb1.mono (by omega))
    clear gb hb1 bx CA
    go_wp2
    go_ret2
    exact ⟨⟨c, rfl, hc⟩, hbw⟩
set_option maxHeartbeats 1600000 in
theorem best_wide (A B : Option Addr) (n ca cb : Nat) (xs : List Nat) (zs : List Int) (w : World) (hra : Rd w A n 1 (wds xs)) (hrb : Rd w B n 1 (ints .i64 zs)) (hok : LOk xs) (hz : zs.any wideX = true) :
    Calls Try.prog 4 #[.slice A n ca, .slice B n cb] w fun e w' => e = .returned (.tuple #[.int .u32 0, .int .i64 4]) ∧ Below w.heap.size w w' := by
  have hel : xs.length = n := by simpa [wds] using hra.1
  have hn : n ≤ 10 := by rw [← hel]; exact hok.1
  have gb := (Below.refl _ w).alloc (Nat.le_refl _) (.cells #[.slice B n cb] 23)
  have bx := Boxed.new w 23 (.slice B n cb)
  have CA := Lib.hid (fun W (h : Below w.heap.size w W) => check_any A n ca xs W (hra.later h) (by omega))
  rw [lchk_ok.2 hok] at CA
  have CZ := Lib.hid (fun W (h : Below w.heap.size w W) => contains_wideX B n cb zs W (hrb.later h) (by omega))
  rw [hz] at CZ
  have hs1 : (w.alloc (.cells #[.slice B n cb] 23)).heap.size = w.heap.size + 1 := by simp
  clear hra hrb hok hz hel
  go_enter Try.func4, Try.ntmps4
  go_wp2_with fail
  generalize w.alloc (.cells #[.slice B n cb] 23) = wg at *
  refine (CA.out _ gb).mono ?_
  rintro _ w1 ⟨rfl, hb1⟩
  have hbw := gb.trans (hb1.mono (by omega))
  have bx1 : Boxed w1 w.heap.size 23 (.slice B n cb) := (hb1.block _ bx.lt).trans bx
  have cx1 := bx1.cell
  have CZ1 := Lib.hid (CZ.out w1 hbw)
  clear gb hb1 bx CA CZ
  go_wp2_with fail
  refine CZ1.out.mono ?_
  rintro _ w2 ⟨rfl, hb2⟩
  have hbw2 := hbw.trans (hb2.mono hbw.size)
  clear hb2 hbw bx1 cx1 CZ1
  go_wp2
  go_ret2
  exact ⟨rfl, hbw2⟩
theorem zs_bd {zs : List Int} (h : zs.any wideX = false) (i : Nat) : -1048576 ≤ zs.getD i 0 ∧ zs.getD i 0 ≤ 1048576 := by
  rcases Nat.lt_or_ge i zs.length with h1 | h1
  · have := List.any_eq_false.1 h zs[i] (List.getElem_mem _)
    simp [wideX] at this
    simp [List.getD, h1]
    omega
  · rw [List.getD, List.getElem?_eq_none h1]; simp
open Classical in
set_option maxHeartbeats 1600000 in
theorem greedy_bad (A B : Option Addr) (la ca lb cb : Nat) (xs : List Nat) (s : Nat) (w : World) (hra : Rd w A la 1 (wds xs)) (hla : la ≤ 9223372036854775807) (hno : ¬ (LOk xs ∧ la = lb)) :
    Calls Try.prog 3 #[.slice A la ca, .slice B lb cb, .int .u32 (s : Int)] w fun e w' => e = .returned (.bool true) ∧ Below w.heap.size w w' := by
  have hC := Lib.hid (best_bad A B la ca lb cb xs w hra hla hno)
  have LA := Lib.hid (fun W (h : Below w.heap.size w W) => lot_any A la ca xs 0 W (hra.later h) hla)
  have e1 : ∀ (l : List Nat) n, decide (LOk l ∧ 0 < 2 ^ n) = decide (LOk l) := fun l n => by
    rw [decide_eq_decide]; exact ⟨fun h => h.1, fun h => ⟨h, Nat.pow_pos (by omega)⟩⟩
  rw [e1] at LA
  clear hra e1
  by_cases h1 : LOk xs
  · have h3 : (lb : Int) ≠ la := fun h => hno ⟨h1, by omega⟩
    rw [decide_eq_true h1] at LA
    clear h1 hno
    go_enter Try.func3, Try.ntmps3
    go_wp2_with fail
    refine hC.out.mono ?_
    rintro _ w1 ⟨⟨c, rfl, hc⟩, hb1⟩
    have LA1 := Lib.hid (LA.out w1 hb1)
    clear LA hC
    go_wp2_with fail
    refine LA1.out.mono ?_
    rintro _ w2 ⟨rfl, rfl⟩
    go_wp2
    go_ret
    exact ⟨rfl, hb1⟩
  · rw [decide_eq_false h1] at LA
    clear h1 hno
    go_enter Try.func3, Try.ntmps3
    go_wp2_with fail
    refine hC.out.mono ?_
    rintro _ w1 ⟨⟨c, rfl, hc⟩, hb1⟩
    have LA1 := Lib.hid (LA.out w1 hb1)
    clear LA hC
    go_wp2_with fail
    refine LA1.out.mono ?_
    rintro _ w2 ⟨rfl, rfl⟩
    go_wp2
    go_ret
    exact ⟨rfl, hb1⟩
open Classical in
theorem greedy_wide (A B : Option Addr) (n ca cb : Nat) (xs : List Nat) (zs : List Int) (s : Nat) (w : World) (hra : Rd w A n 1 (wds xs)) (hrb : Rd w B n 1 (ints .i64 zs)) (hok : LOk xs) (hz : zs.any wideX = true) :
    Calls Try.prog 3 #[.slice A n ca, .slice B n cb, .int .u32 (s : Int)] w fun e w' => e = .returned (.bool true) ∧ Below w.heap.size w w' := by
  have hel : xs.length = n := by simpa [wds] using hra.1
  have hn : n ≤ 10 := by rw [← hel]; exact hok.1
  have hC := Lib.hid (best_wide A B n ca cb xs zs w hra hrb hok hz)
  have LA := Lib.hid (fun W (h : Below w.heap.size w W) => lot_any A n ca xs 0 W (hra.later h) (by omega))
  rw [decide_eq_true (show LOk xs ∧ 0 < 2 ^ n from ⟨hok, Nat.pow_pos (by omega)⟩)] at LA
  clear hra hrb hok hz hel
  go_enter Try.func3, Try.ntmps3
  go_wp2_with fail
  refine hC.out.mono ?_
  rintro _ w1 ⟨rfl, hb1⟩
  have LA1 := Lib.hid (LA.out w1 hb1)
  clear LA hC
  go_wp2_with fail
  refine LA1.out.mono ?_
  rintro _ w2 ⟨rfl, rfl⟩
  go_wp2
  go_ret
  exact ⟨rfl, hb1⟩
open Classical in
set_option maxHeartbeats 3200000 in
theorem greedy_ok (A B : Option Addr) (n ca cb : Nat) (xs : List Nat) (zs : List Int) (s : Nat) (hs32 : s < 4294967296) (w : World) (hra : Rd w A n 1 (wds xs)) (hrb : Rd w B n 1 (ints .i64 zs)) (hok : LOk xs) (hz : zs.any wideX = false) :
    Calls Try.prog 3 #[.slice A n ca, .slice B n cb, .int .u32 (s : Int)] w fun e w' => e = .returned (.bool true) ∧ Below w.heap.size w w' := by
  have hel : xs.length = n := by simpa [wds] using hra.1
  have hn : n ≤ 10 := by rw [← hel]; exact hok.1
  have hp : 2 ^ n ≤ 2 ^ 10 := Nat.pow_le_pow_right (by omega) hn
  have hpos : 0 < 2 ^ n := Nat.pow_pos (by omega)
  obtain ⟨m, hm⟩ : ∃ m, 2 ^ n = m + 1 := ⟨2 ^ n - 1, by omega⟩
  have hC := Lib.hid (best_ok A B n ca cb xs zs w hra hrb hok hz)
  have LA := Lib.hid (fun x W (h : Below w.heap.size w W) => lot_any A n ca xs x W (hra.later h) (by omega))
  have LA0 := Lib.hid (fun W (h : Below w.heap.size w W) => LA.out 0 W h)
  rw [decide_eq_true (show LOk xs ∧ 0 < 2 ^ n from ⟨hok, hpos⟩)] at LA0
  have RA := Lib.hid (fun W (h : Below w.heap.size w W) => refRank_any A n ca xs m W (hra.later h) hok (by omega))
  have FA := Lib.hid (fun x (hx : x < 2 ^ n) W (h : Below w.heap.size w W) => free_any A n ca xs x W (hra.later h) hok hx)
  have WA := Lib.hid (fun x (hx : x < 2 ^ n) W (h : Below w.heap.size w W) => worth_any B n cb zs x W (hrb.later h) hn (zs_bd hz) (by omega))
  have hlaw := Lib.hid (fun G y (hG : GdI xs y n n G) (hp : y.Perm (List.range n)) (hS : SrI (fun i => zs.getD i 0) y n) hf hz => greedy_best (s := s) (x := fun i => zs.getD i 0) hok.at hp hG (fun p q h1 h2 => hS p q h1 h2) hf hz)
  have hsize := Lib.hid (fun G y (hG : GdI xs y n n G) (hp : y.Perm (List.range n)) => greedy_size hok.at hp hG)
  have hokH := Lib.hid hok
  have hone := two_pow_u32 n (by omega)
  have hpc : ((2 ^ n : Nat) : Int) = (2 : Int) ^ n := by simp
  have hE := Lib.hid (show (2 : Int) ^ n - 1 = (m : Int) by rw [← hpc, hm]; omega)
  have hmr : 2 ^ n - 1 = m := by omega
  rw [hmr] at hsize hlaw
  have hmH := Lib.hid hm; have hpH := Lib.hid hp
  clear hra hrb hok hz hel hpos hm hmr hp
  go_enter Try.func3, Try.ntmps3
  go_wp2_with fail
  refine hC.out.mono ?_
  rintro _ w1 ⟨G, y, rfl, hG, hpy, hS, hb1⟩
  have hGlt := hG.lt
  have hG10 : G < 1024 := by have := hpH.out; omega
  have hfr : rkS xs n G = popc 10 G := by rw [popc_ten hn hGlt]; exact hG.free
  have hsz := hsize.out G y hG hpy
  rw [← popc_ten hn hGlt] at hsz
  have hlaw2 := Lib.hid (hlaw.out G y hG hpy hS)
  have LA1 := Lib.hid (LA0.out w1 hb1)
  have RA1 := Lib.hid (RA.out w1 hb1)
  rw [← hsz] at RA1 hlaw2
  have hb1H := Lib.hid hb1
  clear LA0 hC hG hpy hS hlaw hsize RA hb1 hsz
  go_wp2_with fail
  refine LA1.out.mono ?_
  rintro _ w2 ⟨rfl, rfl⟩
  go_wp2_with fail
  rw [hE.out]
  refine RA1.out.mono ?_
  rintro _ w2 ⟨rfl, hb2⟩
  have hb3 := hb1H.out.trans (hb2.mono hb1H.out.size)
  have LG := LA.out G w2 hb3
  rw [decide_eq_true (show LOk xs ∧ G < 2 ^ n from ⟨hokH.out, hGlt⟩)] at LG
  have SG := Lib.hid (size_any G w2 hG10)
  have FG := FA.out G hGlt w2 hb3
  rw [hfr, beq_self_eq_true] at FG
  have LGH := Lib.hid LG; have FGH := Lib.hid FG
  have WG := Lib.hid (WA.out G hGlt w2 hb3)
  have LS := Lib.hid (LA.out s w2 hb3)
  have hb3H := Lib.hid hb3
  clear LA1 RA1 hb2 hb1H LG FG hfr hb3
  go_wp2_with fail
  refine LGH.out.mono ?_
  rintro _ w3 ⟨rfl, rfl⟩
  go_wp2_with fail
  refine SG.out.mono ?_
  rintro _ w3 ⟨rfl, rfl⟩
  go_wp2_with fail
  refine FGH.out.mono ?_
  rintro _ w3 ⟨rfl, rfl⟩
  clear LGH SG FGH
  by_cases hs : s < 2 ^ n
  · rw [decide_eq_true (show LOk xs ∧ s < 2 ^ n from ⟨hokH.out, hs⟩)] at LS
    have SS := Lib.hid (size_any s w2 (by have := hpH.out; omega))
    have FS := Lib.hid (FA.out s hs w2 hb3H.out)
    have WS := Lib.hid (WA.out s hs w2 hb3H.out)
    have hten := popc_ten hn hs
    rw [← hten] at hlaw2
    clear hten LA FA WA hs
    by_cases h1 : popc 10 s = popc 10 G
    · by_cases h2 : rkS xs n s = popc 10 s
      · have hle := hlaw2.out h2 (by rw [h1])
        rw [h2, beq_self_eq_true] at FS
        rw [h1] at SS
        clear hlaw2 h1 h2
        generalize popc 10 G = pg at *
        generalize wortW (fun i => zs.getD i 0) s n = ws at *
        generalize wortW (fun i => zs.getD i 0) G n = wg at *
        go_wp2_with fail
        refine LS.out.mono ?_
        rintro _ w3 ⟨rfl, rfl⟩
        go_wp2_with fail
        refine SS.out.mono ?_
        rintro _ w3 ⟨rfl, rfl⟩
        go_wp2_with fail
        refine FS.out.mono ?_
        rintro _ w3 ⟨rfl, rfl⟩
        go_wp2_with fail
        refine WS.out.mono ?_
        rintro _ w3 ⟨rfl, rfl⟩
        go_wp2_with fail
        refine WG.out.mono ?_
        rintro _ w3 ⟨rfl, rfl⟩
        go_wp2
        go_ret
        exact ⟨by simp, hb3H.out⟩
      · have hf : (rkS xs n s == popc 10 s) = false := by simpa using h2
        rw [hf] at FS
        rw [h1] at SS
        clear hlaw2 h1 h2 hf
        generalize popc 10 G = pg at *
        go_wp2_with fail
        refine LS.out.mono ?_
        rintro _ w3 ⟨rfl, rfl⟩
        go_wp2_with fail
        refine SS.out.mono ?_
        rintro _ w3 ⟨rfl, rfl⟩
        go_wp2_with fail
        refine FS.out.mono ?_
        rintro _ w3 ⟨rfl, rfl⟩
        go_wp2
        go_ret
        exact ⟨rfl, hb3H.out⟩
    · have hne : ((popc 10 s : Nat) : Int) ≠ (popc 10 G : Nat) := by omega
      clear hlaw2 h1
      generalize popc 10 G = pg at *
      generalize popc 10 s = ps at *
      go_wp2_with fail
      refine LS.out.mono ?_
      rintro _ w3 ⟨rfl, rfl⟩
      go_wp2_with fail
      refine SS.out.mono ?_
      rintro _ w3 ⟨rfl, rfl⟩
      go_wp2
      go_ret
      exact ⟨rfl, hb3H.out⟩
  · rw [decide_eq_false (show ¬ (LOk xs ∧ s < 2 ^ n) from fun h => hs h.2)] at LS
    clear hs hlaw2 LA FA WA
    go_wp2_with fail
    refine LS.out.mono ?_
    rintro _ w3 ⟨rfl, rfl⟩
    go_wp2
    go_ret
    exact ⟨rfl, hb3H.out⟩
theorem u32_natG {n : Int} (h : (Lit.int .u32 n).wf = true) : ∃ m : Nat, n = m ∧ m < 4294967296 := by
  have : IntKind.u32.min ≤ n ∧ n ≤ IntKind.u32.max := by simpa [Lit.wf] using h
  rw [show IntKind.u32.min = 0 from rfl, show IntKind.u32.max = 4294967295 from rfl] at this
  exact ⟨n.toNat, by omega, by omega⟩
theorem wds_ofG {zs : List Int} (h : ∀ z ∈ zs, (Lit.int .u32 z).wf = true) : ints .u32 zs = wds (zs.map Int.toNat) := by
  unfold ints wds
  rw [List.map_map]
  exact List.map_congr_left fun z hz => by
    obtain ⟨m, rfl, _⟩ := u32_natG (h z hz)
    simp
theorem lotsGreedy_any (A : Option Addr) (la ca : Nat) (xs : List Nat) (B : Option Addr) (lb cb : Nat) (zs : List Int) (s : Int) (w : World) (hra : Rd w A la 1 (wds xs)) (hla : la ≤ maxLen) (hrb : Rd w B lb 1 (ints .i64 zs)) (hs : (Lit.int .u32 s).wf = true) :
    Calls Try.prog 3 #[.slice A la ca, .slice B lb cb, .int .u32 s] w fun e w' => e = .returned (.bool true) ∧ Below w.heap.size w w' := by
  unfold maxLen at hla
  obtain ⟨s, rfl, hs32⟩ := u32_natG hs
  by_cases h : LOk xs ∧ la = lb
  · obtain ⟨h1, rfl⟩ := h
    cases hz : zs.any wideX
    · exact greedy_ok A B la ca cb xs zs s hs32 w hra hrb h1 hz
    · exact greedy_wide A B la ca cb xs zs s w hra hrb h1 hz
  · exact greedy_bad A B la ca lb cb xs s w hra (by omega) h
end Go.Proofs.Ytglbabcefanooaa
