/- ShortWalks: the walk. -/
import Derived.Test.YtemcolhpghjnkaaWayS
namespace Go.Proofs.Ytemcolhpghjnkaa
open Go.RowKit

theorem insideB_eq (n t : Int) : insideB n [t] = (decide (0 ≤ t) && decide (t < n)) := by simp [insideB, inB]
theorem swrong_two {n s t : Int} {l : List Arc} : swrong n l [s, t] = 0 ↔ nchk n l = 0 ∧ (0 ≤ s ∧ s < n) ∧ (0 ≤ t ∧ t < n) := by
  unfold swrong
  by_cases h : nchk n l = 0
  · rw [if_neg (by simpa using h)]
    by_cases h2 : insideB n [s, t] = true
    · rw [if_pos h2]
      simp [insideB, inB] at h2
      simp [h]; omega
    · rw [if_neg h2]
      simp [insideB, inB] at h2
      simp [h]
      omega
  · rw [if_pos h]
    simp [h]
set_option maxRecDepth 100000 in
set_option maxHeartbeats 3200000 in
theorem shortWalks_bad1 (n s t : Int) (A : Option Addr) (len cap : Nat) (l : List Arc) (B : Option Addr) (lb cb : Nat) (w : World) (hr : Rd w A len 4 (arcs l)) (hlen : len ≤ 9223372036854775807) (hc : swrong n l [s] ≠ 0) (hc2 : swrong n l [s, t] ≠ 0) :
    Calls Try.prog 5 #[.agg #[.int .i64 n, .slice A len cap], .int .i64 s, .int .i64 t, .slice B lb cb] w fun e w' => e = .returned (.bool true) ∧ Below w.heap.size w w' := by
  have gb := (Below.refl _ w).alloc (Nat.le_refl _) (.cells #[.int .i64 n, .slice A len cap] 24)
  have bG := Blk.new w 24 #[.int .i64 n, .slice A len cap]
  have hs : (w.alloc (.cells #[.int .i64 n, .slice A len cap] 24)).heap.size = w.heap.size + 1 := by simp
  have HW := Lib.hid (way_bad n s t A len cap l _ (hr.later gb) hlen hc2)
  have HF := Lib.hid (fun W (h : Below w.heap.size w W) => far_bad n s A len cap l W (hr.later h) hlen hc)
  have HN := Lib.hid (fun W (h : Below w.heap.size w W) => net_any n s A len cap l W (hr.later h) hlen)
  have hnf : netB n l s = false := by rw [netB_swrong]; simpa using hc
  rw [hnf] at HN
  have hcb : (swrong n l [s, t] != 0) = true := by simpa using hc2
  have gbH := Lib.hid gb; have bGH := Lib.hid bG
  clear hr hc hc2 gb bG hnf
  generalize swrong n l [s, t] = z at *
  go_enter Try.func5, Try.ntmps5
  go_wp2_with fail
  refine HW.out.mono ?_
  rintro _ w1 ⟨rfl, hb1⟩
  have b1 := bGH.out.below hb1 (by omega)
  have c0 := b1.cell (j := 0) (v := .int .i64 n) rfl; have c1 := b1.cell (j := 1) (v := .slice A len cap) rfl
  have hb1' := gbH.out.trans (hb1.mono gbH.out.size)
  have HF1 := Lib.hid (HF.out w1 hb1')
  have hs1 := hb1.size
  have b1H := Lib.hid b1; have hb1H := Lib.hid hb1'
  clear hb1 b1 hb1' HW HF
  go_wp2_with fail
  refine HF1.out.mono ?_
  rintro _ w2 ⟨rfl, hb2⟩
  unfold nil3
  have b2 := b1H.out.below hb2 (by omega)
  have d0 := b2.cell (j := 0) (v := .int .i64 n) rfl; have d1 := b2.cell (j := 1) (v := .slice A len cap) rfl
  have hb2' := hb1H.out.trans (hb2.mono hb1H.out.size)
  have HN1 := Lib.hid (HN.out w2 hb2')
  have hb2H := Lib.hid hb2'
  clear hb2 b2 hb2' HF1 HN c0 c1
  go_wp2_with fail
  refine HN1.out.mono ?_
  rintro _ w3 ⟨rfl, hb3⟩
  have hfin := Lib.hid (hb2H.out.trans (hb3.mono hb2H.out.size))
  clear hb3 HN1 d0 d1
  go_wp2
  go_ret
  exact ⟨rfl, hfin.out⟩
set_option maxRecDepth 100000 in
set_option maxHeartbeats 3200000 in
theorem shortWalks_bad2 (N s : Nat) (t : Int) (A : Option Addr) (len cap : Nat) (l : List Arc) (B : Option Addr) (lb cb : Nat) (w : World) (hr : Rd w A len 4 (arcs l)) (hlen : len ≤ 9223372036854775807) (hc : swrong N l [(s : Int)] = 0) (hc2 : swrong N l [(s : Int), t] ≠ 0) :
    Calls Try.prog 5 #[.agg #[.int .i64 N, .slice A len cap], .int .i64 s, .int .i64 t, .slice B lb cb] w fun e w' => e = .returned (.bool true) ∧ Below w.heap.size w w' := by
  obtain ⟨hnk, hs0, hsN⟩ := swrong_ok hc
  obtain ⟨_, hN, hl, hok⟩ := nchk_ok hnk
  have hel := arcs_len hr
  rw [hel] at hl
  have gb := (Below.refl _ w).alloc (Nat.le_refl _) (.cells #[.int .i64 N, .slice A len cap] 24)
  have bG := Blk.new w 24 #[.int .i64 N, .slice A len cap]
  have hs : (w.alloc (.cells #[.int .i64 N, .slice A len cap] 24)).heap.size = w.heap.size + 1 := by simp
  have HW := Lib.hid (way_bad N s t A len cap l _ (hr.later gb) hlen hc2)
  have HF := Lib.hid (fun W (h : Below w.heap.size w W) => far_ok N s A len cap l W (hr.later h) (by omega) hl (by omega) hok hc)
  have HN := Lib.hid (fun W (h : Below w.heap.size w W) => net_any N s A len cap l W (hr.later h) hlen)
  have hnf : netB N l s = true := by rw [netB_swrong]; simpa using hc
  rw [hnf] at HN
  have hcb : (swrong N l [(s : Int), t] != 0) = true := by simpa using hc2
  have hin : insideB N [t] = false := by
    rw [insideB_eq]
    have : ¬ (0 ≤ t ∧ t < N) := fun h => hc2 (swrong_two.2 ⟨hnk, ⟨hs0, hsN⟩, h⟩)
    simp; omega
  have gbH := Lib.hid gb; have bGH := Lib.hid bG
  clear hr hc hc2 gb bG hnf hok hnk hel
  generalize swrong N l [(s : Int), t] = z at *
  go_enter Try.func5, Try.ntmps5
  go_wp2_with fail
  refine HW.out.mono ?_
  rintro _ w1 ⟨rfl, hb1⟩
  have b1 := bGH.out.below hb1 (by omega)
  have c0 := b1.cell (j := 0) (v := .int .i64 N) rfl; have c1 := b1.cell (j := 1) (v := .slice A len cap) rfl
  have hb1' := gbH.out.trans (hb1.mono gbH.out.size)
  have HF1 := Lib.hid (HF.out w1 hb1')
  have hs1 := hb1.size
  have b1H := Lib.hid b1; have hb1H := Lib.hid hb1'
  clear hb1 b1 hb1' HW HF
  go_wp2_with fail
  refine HF1.out.mono ?_
  rintro _ w2 ⟨hb2, hcase⟩
  have hev : ∃ (v1 v2 : Value) (z2 : Int), (‹Ending› : Ending) = .returned (.tuple #[v1, v2, .int .i64 z2]) := by
    rcases hcase with ⟨_, h⟩ | ⟨_, bf, bh, h, _⟩
    · exact ⟨_, _, _, h⟩
    · exact ⟨_, _, _, h⟩
  obtain ⟨v1, v2, z2, rfl⟩ := hev
  have b2 := b1H.out.below hb2 (by omega)
  have d0 := b2.cell (j := 0) (v := .int .i64 N) rfl; have d1 := b2.cell (j := 1) (v := .slice A len cap) rfl
  have hb2' := hb1H.out.trans (hb2.mono hb1H.out.size)
  have HN1 := Lib.hid (HN.out w2 hb2')
  have hs2 := hb2.size
  have hb2H := Lib.hid hb2'; have b2H := Lib.hid b2
  clear hb2 b2 hb2' HF1 HN c0 c1 hcase
  go_wp2_with fail
  refine HN1.out.mono ?_
  rintro _ w3 ⟨rfl, hb3⟩
  have b3 := b2H.out.below hb3 (by omega)
  have e0 := b3.cell (j := 0) (v := .int .i64 N) rfl
  have hb3' := hb2H.out.trans (hb3.mono hb2H.out.size)
  have hb3H := Lib.hid (hb3'.alloc hb3'.size (.cells #[.int .i64 t] 3))
  have HI := Lib.hid (inside_any N (some ⟨w3.heap.size, 0, none⟩) 1 1 [t] _ (rd_new1 w3 (.int .i64 t) 3) (by omega))
  rw [hin] at HI
  clear hb3 b3 hb3' HN1 d0 d1 hin
  go_wp2_with fail
  refine HI.out.mono ?_
  rintro _ _ ⟨rfl, rfl⟩
  clear HI
  go_wp2
  go_ret
  exact ⟨rfl, hb3H.out⟩
set_option maxRecDepth 100000 in
set_option maxHeartbeats 6400000 in
theorem shortWalks_ok (N s t : Nat) (A : Option Addr) (len cap : Nat) (l : List Arc) (B : Option Addr) (lb cb : Nat) (ms : List Int) (w : World) (hr : Rd w A len 4 (arcs l)) (hlen : len ≤ 9223372036854775807) (hnk : nchk N l = 0) (hs : s < N) (ht : t < N) (hm : Rd w B lb 1 (ints .i64 ms)) (hlb : lb ≤ 1048576) :
    Calls Try.prog 5 #[.agg #[.int .i64 N, .slice A len cap], .int .i64 s, .int .i64 t, .slice B lb cb] w fun e w' => e = .returned (.bool true) ∧ Below w.heap.size w w' := by
  obtain ⟨_, hN, hl, hok⟩ := nchk_ok hnk
  have hel := arcs_len hr
  rw [hel] at hl
  have hcs : swrong N l [(s : Int)] = 0 := by unfold swrong; rw [if_neg (by simpa using hnk)]; simp [insideB, inB, hs]
  have gb := (Below.refl _ w).alloc (Nat.le_refl _) (.cells #[.int .i64 N, .slice A len cap] 24)
  have bG := Blk.new w 24 #[.int .i64 N, .slice A len cap]
  have hsz : (w.alloc (.cells #[.int .i64 N, .slice A len cap] 24)).heap.size = w.heap.size + 1 := by simp
  have HW := Lib.hid (way_ok N s t A len cap l _ (hr.later gb) (by omega) hl hs ht hok hnk)
  have HF := Lib.hid (fun W (h : Below w.heap.size w W) => far_ok N s A len cap l W (hr.later h) (by omega) hl hs hok hcs)
  have HN := Lib.hid (fun W (h : Below w.heap.size w W) => net_any N s A len cap l W (hr.later h) hlen)
  have hnf : netB N l s = true := by rw [netB_swrong]; simpa using hcs
  rw [hnf] at HN
  have hin : insideB N [(t : Int)] = true := by rw [insideB_eq]; simp [ht]
  have HK := Lib.hid (fun W (h : Below w.heap.size w W) => walk_any N s t A len cap l B lb cb ms W (hr.later h) hl hok (hm.later h) hlb)
  have HK2 := Lib.hid (fun W (h : Below w.heap.size w W) (A2 : Option Addr) (n2 c2 : Nat) (zs : List Int) (hz : Rd W A2 n2 1 (ints .i64 zs)) (h10 : n2 ≤ 10) => walk_any N s t A len cap l A2 n2 c2 zs W (hr.later h) hl hok hz (by omega))
  have hne : ∀ a ∈ l, aF a ≠ aT a := fun a ha => by
    obtain ⟨f, t, m, e, rfl, _, _, h, _⟩ := aok_split (hok a ha)
    exact h
  have hwk := Lib.hid (fun (h2 : (bfRun l (N + 1) (bfInit s)).2 = true) (y : Int) (h : wgo l s 0 ms = some (y, (t : Int))) => show (bfRun l (N + 1) (bfInit s)).1.T t = true ∧ (bfRun l (N + 1) (bfInit s)).1.F t ≤ y from by
    obtain ⟨k, j, hj, hw⟩ := wgo_wk (fun a ha => by
      obtain ⟨f, t, m, e, rfl, _⟩ := aok_split (hok a ha)
      exact ⟨f, t, rfl, rfl⟩) ms s 0 y t h
    obtain rfl : t = j := by omega
    have h0 := far_zero hne h2
    have := hw.ge (bfRun_still (N + 1) h2) (Sup.run (s := s) hne (N + 1)).1
    rw [h0] at this
    exact ⟨this.1, by omega⟩)
  have gbH := Lib.hid gb; have bGH := Lib.hid bG
  clear hr hcs gb bG hnf hok hnk hel hne hm
  go_enter Try.func5, Try.ntmps5
  go_wp2_with fail
  refine HW.out.mono ?_
  rintro _ w1 ⟨hb1, hcase1⟩
  have b1 := bGH.out.below hb1 (by omega)
  have c0 := b1.cell (j := 0) (v := .int .i64 N) rfl; have c1 := b1.cell (j := 1) (v := .slice A len cap) rfl
  have hb1' := gbH.out.trans (hb1.mono gbH.out.size)
  have HF1 := Lib.hid (HF.out w1 hb1')
  have hs1 := hb1.size
  have b1H := Lib.hid b1; have hb1H := Lib.hid hb1'; have hcase1H := Lib.hid hcase1
  have hev : ∃ (A2 : Option Addr) (n2 c2 : Nat) (z : Int) (zs : List Int), (‹Ending› : Ending) = .returned (.tuple #[.slice A2 n2 c2, .int .i64 z]) ∧ n2 ≤ 10 ∧ Rd w1 A2 n2 1 (ints .i64 zs) ∧
      ((((bfRun l (N + 1) (bfInit s)).2 = false ∨ (bfRun l (N + 1) (bfInit s)).1.T t = false) ∧ z = 5) ∨ ((bfRun l (N + 1) (bfInit s)).2 = true ∧ (bfRun l (N + 1) (bfInit s)).1.T t = true ∧ z = 0 ∧ wgo l s 0 zs = some ((bfRun l (N + 1) (bfInit s)).1.F t, (t : Int)))) := by
    rcases hcase1 with ⟨h1, h2⟩ | ⟨h1, h2, A2, n2, c2, zs, h3, h4, h5, h6⟩
    · exact ⟨none, 0, 0, 5, [], h2, by omega, ⟨rfl, fun h => by omega⟩, .inl ⟨h1, rfl⟩⟩
    · exact ⟨A2, n2, c2, 0, zs, h3, h4, h5, .inr ⟨h1, h2, rfl, h6⟩⟩
  obtain ⟨A2, n2, c2, z, zs, rfl, hn2, hzs, hzc⟩ := hev
  have hzsH := Lib.hid hzs; have hzcH := Lib.hid hzc
  clear hb1 b1 hb1' HW HF hcase1 hcase1H hzs hzc
  go_wp2_with fail
  refine HF1.out.mono ?_
  rintro _ w2 ⟨hb2, hcase2⟩
  have b2 := b1H.out.below hb2 (by omega)
  have d0 := b2.cell (j := 0) (v := .int .i64 N) rfl; have d1 := b2.cell (j := 1) (v := .slice A len cap) rfl
  have hb2' := hb1H.out.trans (hb2.mono hb1H.out.size)
  have HN1 := Lib.hid (HN.out w2 hb2')
  have hs2 := hb2.size
  have hzs2H := Lib.hid (hzsH.out.later hb2)
  have hb2H := Lib.hid hb2'; have b2H := Lib.hid b2
  clear hb2 b2 hb2' HF1 HN c0 c1 hzsH
  rcases hcase2 with ⟨hq, rfl⟩ | ⟨hq, bf, bh, rfl, rf, rh⟩
  · have hz5 : z = 5 := by
      rcases hzcH.out with ⟨_, h⟩ | ⟨h, _⟩
      · exact h
      · rw [hq] at h; cases h
    subst hz5
    unfold nil3
    clear hq hzcH
    go_wp2_with fail
    refine HN1.out.mono ?_
    rintro _ w3 ⟨rfl, hb3⟩
    have b3 := b2H.out.below hb3 (by omega)
    have e0 := b3.cell (j := 0) (v := .int .i64 N) rfl
    have hb3' := hb2H.out.trans (hb3.mono hb2H.out.size)
    have hb3H := Lib.hid (hb3'.alloc hb3'.size (.cells #[.int .i64 t] 3))
    have HI := Lib.hid (inside_any N (some ⟨w3.heap.size, 0, none⟩) 1 1 [(t : Int)] _ (rd_new1 w3 (.int .i64 t) 3) (by omega))
    rw [hin] at HI
    clear hb3 b3 hb3' HN1 d0 d1 hin
    go_wp2_with fail
    refine HI.out.mono ?_
    rintro _ _ ⟨rfl, rfl⟩
    clear HI
    go_wp2
    go_ret
    exact ⟨rfl, hb3H.out⟩
  · have rfH := Lib.hid (Rd.of_own rf); have rhH := Lib.hid (Rd.of_own rh)
    have hqH := Lib.hid hq
    clear rf rh hq
    go_wp2_with fail
    refine HN1.out.mono ?_
    rintro _ w3 ⟨rfl, hb3⟩
    have b3 := b2H.out.below hb3 (by omega)
    have e0 := b3.cell (j := 0) (v := .int .i64 N) rfl
    have hb3' := hb2H.out.trans (hb3.mono hb2H.out.size)
    have hb4 := hb3'.alloc hb3'.size (.cells #[.int .i64 t] 3)
    have hba := (hb3.alloc hb3.size (.cells #[.int .i64 t] 3))
    have b4 := b3.alloc (.cells #[.int .i64 t] 3)
    have f0 := b4.cell (j := 0) (v := .int .i64 N) rfl; have f1 := b4.cell (j := 1) (v := .slice A len cap) rfl
    have rf4 := row_cell (rfH.out.later hba) ht; have rh4 := brow_cell (rhH.out.later hba) ht
    have hbfl := row_lt (rfH.out.later hba) ht
    have HI := Lib.hid (inside_any N (some ⟨w3.heap.size, 0, none⟩) 1 1 [(t : Int)] _ (rd_new1 w3 (.int .i64 t) 3) (by omega))
    rw [hin] at HI
    have hsz4 : (w3.alloc (.cells #[.int .i64 t] 3)).heap.size = w3.heap.size + 1 := by simp
    have hzs4H := Lib.hid (hzs2H.out.later hba)
    have b4H := Lib.hid b4; have hb4H := Lib.hid hb4
    have HKw := Lib.hid (HK.out _ hb4)
    have hs3 := hb3.size
    clear hb3 b3 hb3' HN1 d0 d1 hin hb4 hba b4 hzs2H
    have ht0 : (0 : Int) ≤ t := by omega
    have htN : (t : Int) < N := by omega
    have hNN : ((N : Int) != (N : Int)) = false := by simp
    go_wp2_with fail
    refine HI.out.mono ?_
    rintro _ _ ⟨rfl, rfl⟩
    clear HI
    have hwkq := Lib.hid (hwk.out hqH.out)
    rcases hzcH.out with ⟨h1, rfl⟩ | ⟨_, hTt, rfl, hgo⟩
    · have hTf : (bfRun l (N + 1) (bfInit s)).1.T t = false := by
        rcases h1 with h | h
        · rw [hqH.out] at h; cases h
        · exact h
      rw [hTf] at rh4 hwkq
      clear h1 hTf hzcH
      generalize (bfRun l (N + 1) (bfInit s)).1.F t = Ft at *
      go_wp2_with fail
      refine HKw.out.mono ?_
      rintro _ w5 ⟨hres, hb5⟩
      have hfin := Lib.hid (hb4H.out.trans (hb5.mono hb4H.out.size))
      rcases hres with ⟨_, rfl⟩ | ⟨y, j, hg, rfl⟩
      · clear hb5 HKw
        go_wp2
        go_ret
        exact ⟨rfl, hfin.out⟩
      · have hjt : (j == (t : Int)) = false := by
          rw [beq_eq_false_iff_ne]
          intro e
          rw [e] at hg
          have := (hwkq.out y hg).1
          cases this
        clear hb5 HKw hg
        go_wp2
        go_ret
        exact ⟨rfl, hfin.out⟩
    · rw [hTt] at rh4 hwkq
      clear hzcH hTt
      generalize (bfRun l (N + 1) (bfInit s)).1.F t = Ft at *
      have hgoH := Lib.hid hgo
      clear hgo
      go_wp2_with fail
      refine HKw.out.mono ?_
      rintro _ w5 ⟨hres, hb5⟩
      have hb5' := hb4H.out.trans (hb5.mono hb4H.out.size)
      have b5 := b4H.out.below hb5 (by omega)
      have g0 := b5.cell (j := 0) (v := .int .i64 N) rfl; have g1 := b5.cell (j := 1) (v := .slice A len cap) rfl
      have rf5 := below_cell hb5 hbfl rf4
      have hs5 := hb5.size
      have HKl := Lib.hid (HK2.out w5 hb5' A2 n2 c2 zs (hzs4H.out.later hb5) hn2)
      have hb5H := Lib.hid hb5'
      have b5H := Lib.hid b5
      have hev : ∃ (y : Int) (rb : Bool), (‹Ending› : Ending) = .returned (.tuple #[.int .i64 y, .bool rb]) ∧ (rb = true → Ft ≤ y) := by
        rcases hres with ⟨_, h⟩ | ⟨y, j, hg, h⟩
        · exact ⟨0, false, h, fun h => by cases h⟩
        · refine ⟨y, (j == (t : Int)), h, fun h2 => ?_⟩
          rw [beq_iff_eq] at h2
          rw [h2] at hg
          exact (hwkq.out y hg).2
      obtain ⟨y, rb, rfl, hrb⟩ := hev
      have hrbH := Lib.hid hrb
      clear hb5 b5 hb5' HKw hres rf4 rh4 f0 f1 hrb
      go_wp2_with fail
      refine HKl.out.mono ?_
      rintro _ w6 ⟨hres, hb6⟩
      have hfin := Lib.hid (hb5H.out.trans (hb6.mono hb5H.out.size))
      have rf6 := below_cell hb6 (by omega) rf5
      have hev : (‹Ending› : Ending) = .returned (.tuple #[.int .i64 Ft, .bool true]) := by
        rcases hres with ⟨h, _⟩ | ⟨y2, j, hg, h⟩
        · rw [hgoH.out] at h; cases h
        · rw [hgoH.out] at hg
          cases hg
          rw [h]; simp
      subst hev
      have hFF : (Ft == Ft) = true := by simp
      cases rb
      · clear hb6 HKl hres rf5 g0 g1
        go_wp2
        go_ret
        exact ⟨rfl, hfin.out⟩
      · have hle : decide (Ft ≤ y) = true := decide_eq_true (hrbH.out rfl)
        clear hb6 HKl hres rf5 g0 g1
        go_wp2
        go_ret
        exact ⟨rfl, hfin.out⟩
theorem shortWalks_any (n : Int) (A : Option Addr) (len cap : Nat) (l : List Arc) (s t : Int) (B : Option Addr) (lb cb : Nat) (ms : List Int) (w : World) (hr : Rd w A len 4 (arcs l)) (hlen : len ≤ 9223372036854775807) (hm : Rd w B lb 1 (ints .i64 ms)) (hlb : lb ≤ 1048576) :
    Calls Try.prog 5 #[.agg #[.int .i64 n, .slice A len cap], .int .i64 s, .int .i64 t, .slice B lb cb] w fun e w' => e = .returned (.bool true) ∧ Below w.heap.size w w' := by
  by_cases h1 : swrong n l [s] = 0
  · obtain ⟨hnk, hs0, hsN⟩ := swrong_ok h1
    obtain ⟨s', rfl⟩ := Int.eq_ofNat_of_zero_le hs0
    obtain ⟨n', rfl⟩ := Int.eq_ofNat_of_zero_le (show 0 ≤ n by omega)
    by_cases h2 : swrong n' l [(s' : Int), t] = 0
    · obtain ⟨_, _, ht0, htN⟩ := swrong_two.1 h2
      obtain ⟨t', rfl⟩ := Int.eq_ofNat_of_zero_le ht0
      exact shortWalks_ok n' s' t' A len cap l B lb cb ms w hr hlen hnk (by omega) (by omega) hm hlb
    · exact shortWalks_bad2 n' s' t A len cap l B lb cb w hr hlen h1 h2
  · refine shortWalks_bad1 n s t A len cap l B lb cb w hr hlen h1 fun h2 => h1 ?_
    obtain ⟨h3, ⟨h4, h5⟩, _⟩ := swrong_two.1 h2
    have := (swrong_two (t := s)).2 ⟨h3, ⟨h4, h5⟩, ⟨h4, h5⟩⟩
    unfold swrong at this ⊢
    rw [if_neg (by simpa using h3)] at this ⊢
    simp [insideB, inB, h4, h5]
end Go.Proofs.Ytemcolhpghjnkaa
