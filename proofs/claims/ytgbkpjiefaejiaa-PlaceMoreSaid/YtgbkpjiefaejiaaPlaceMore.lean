/- PlaceMore: the walk. -/
import Derived.Test.YtgbkpjiefaejiaaPlaceMoreA
import Derived.Test.YtgbkpjiefaejiaaPlaceF
namespace Go.Proofs.Ytgbkpjiefaejiaa
open Go.RowKit Go.Shelf

theorem wds_ofP {zs : List Int} (h : ∀ z ∈ zs, (Lit.int .u32 z).wf = true) : ints .u32 zs = wds (zs.map Int.toNat) ∧ ∀ x ∈ zs.map Int.toNat, x < 4294967296 := by
  refine ⟨?_, fun x hx => ?_⟩
  · unfold ints wds
    rw [List.map_map]
    exact List.map_congr_left fun z hz => by
      have := wf_u32 (h z hz)
      simp only [Function.comp]
      rw [Int.toNat_of_nonneg this.1]
  · obtain ⟨z, hz, rfl⟩ := List.mem_map.1 hx
    have := wf_u32 (h z hz)
    omega
theorem tiWk : TI Try.prog 22 36 (.agg #[.int .i64 0, .int .u32 0]) 2 16 := TI.mk' Try.underlying22 (by kernel_rfl) rfl (by decide)
theorem own_sliceM {w : World} {b e s n : Nat} {v : Value} {xs : List Value} (h : w.ownsRow b e s v n xs) : ∃ A c, v = .slice A n c ∧ n ≤ c := by
  rcases h.2 with ⟨rfl, rfl⟩ | ⟨g, cap, cur, rfl, _, _, h1, _⟩
  · exact ⟨none, 0, rfl, Nat.le_refl _⟩
  · exact ⟨_, cap, rfl, h1⟩
set_option maxHeartbeats 3200000 in
set_option maxRecDepth 100000 in
theorem placeMore_any (A B : Option Addr) (nw nt cA cB : Nat) (ws : List (Int × Int)) (ts : List Nat) (k r h : Nat) (w : World) (hw : Rd w A nw 2 (ps2 .i64 .u32 ws)) (ht : Rd w B nt 1 (wds ts)) (hcB : nt ≤ cB)
    (hnw : nw ≤ 9223372036854775807) (hnt : nt ≤ 9223372036854775807) (hws : ∀ c ∈ ws, 0 ≤ c.2 ∧ c.2 < 4294967296) (hts : ∀ i, ts.getD i 0 < 4294967296) (hk : k < 256) (hr : r < 256) (hh : h < 4294967296) :
    Calls Try.prog 4 #[.slice A nw cA, .slice B nt cB, .int .u8 (k : Int), .int .u8 (r : Int), .int .u32 (h : Int)] w fun e w' => e = .returned (.bool true) ∧ Below w.heap.size w w' := by
  have hwl : ws.length = nw := by have := hw.1; rw [ps2_length] at this; omega
  have htl : ts.length = nt := by have := ht.1; rw [wds_length] at this; omega
  have hwH := Lib.hid hw; have htH := Lib.hid ht; have hwsH := Lib.hid hws; have htsH := Lib.hid hts
  have hwlH := Lib.hid hwl; have htlH := Lib.hid htl
  by_cases hok : pchk ws nt = 0
  case neg =>
    have H1 := Lib.hid (pmost_bad A B nw nt cA cB ws w hw (by omega) (by omega) hok)
    have hne : (pchk ws nt != 0) = true := bne_iff_ne.2 hok
    have heq : (pchk ws nt == 0) = false := beq_false_of_ne hok
    have H2 := Lib.hid (fun W (hb : Below w.heap.size w W) => crewed_any A B nw nt cA cB ws W (hwH.out.later hb) (by omega) (by omega))
    rw [heq] at H2
    clear hw ht hws hts hwl htl hok heq
    generalize pchk ws nt = c at *
    go_enter Try.func4, Try.ntmps4
    go_wp2_with fail
    refine H1.out.mono ?_
    rintro e w1 ⟨rfl, hb1⟩
    go_wp2_with fail
    refine (H2.out _ hb1).mono ?_
    rintro e w2 ⟨rfl, hb2⟩
    have hb2' := hb1.trans (hb2.mono hb1.size)
    go_wp2
    go_ret
    exact ⟨rfl, hb2'⟩
  obtain ⟨hnw6, hnt12, hrm⟩ := pchk_ok hok
  rw [hwl] at hnw6 hrm
  have hrmH := Lib.hid hrm
  have H1 := Lib.hid (pmost_ok A B nw nt cA cB ws ts w hw ht hcB hok)
  have H2 := Lib.hid (fun W (hb : Below w.heap.size w W) => crewed_any A B nw nt cA cB ws W (hwH.out.later hb) (by omega) (by omega))
  rw [hok] at H2
  clear hw ht hws hts hwl htl hrm hok
  go_enter Try.func4, Try.ntmps4
  go_wp2_with fail
  refine H1.out.mono ?_
  rintro e w1 ⟨⟨v, room, t, l, rfl, hown, hG⟩, hb1⟩
  obtain ⟨A1, c1, rfl, hc1⟩ := own_sliceM hown
  have hrl := Rd.of_own hown
  obtain ⟨hP1, hP2⟩ := hG.best hwlH.out htlH.out (fun j hj => (hrmH.out j hj).1)
  have hP1H := Lib.hid hP1; have hP2H := Lib.hid hP2; have hrlH := Lib.hid hrl; have hb1H := Lib.hid hb1
  clear hP1 hP2 hrl hown hG hb1 H1
  go_wp2_with fail
  refine (H2.out _ hb1H.out).mono ?_
  rintro e w2 ⟨rfl, hb2⟩
  have hb2' := hb1H.out.trans (hb2.mono hb1H.out.size)
  have hrl2 := Lib.hid (hrlH.out.later hb2)
  have hw2 := Lib.hid (hwH.out.later hb2')
  have hb2H := Lib.hid hb2'
  clear hb2 hb2' hrlH hb1H H2
  by_cases hz : nw = 0
  · have hp0 : (prd l nt : Int) = 0 := by
      rw [prd_cnt]
      refine sm_all0 fun m hm => if_neg ?_
      show ¬ (0 : Int) ≤ l.getD m 0
      rcases hP1H.out.2.1 m (by show m < ts.length; rw [htlH.out]; exact hm) with h1 | ⟨_, h2, _⟩
      · have h3 : l.getD m 0 = -1 := h1
        omega
      · have h3 : l.getD m 0 < ws.length := h2
        rw [hwlH.out, hz] at h3
        omega
    have HP := Lib.hid (paired_any A1 nt c1 l w2 hrl2.out (by omega))
    have hp1 : prd l nt = 0 := by omega
    rw [hp1] at HP
    subst hz
    clear hp0 hp1
    go_wp2_with fail
    refine HP.out.mono ?_
    rintro e w3 ⟨rfl, rfl⟩
    go_wp2
    go_ret
    exact ⟨rfl, hb2H.out⟩
  · go_wp2_with (at_builtin; refine wpList_app (s := .tmp 46) (x := .tmp 47) _ tiWk (World.ownsRow_lit (base := w2.heap.size) w2 #[] 0 (Nat.le_refl _) (Nat.zero_le _) rfl) (hw2.out.alloc _) ps2_one (by omega) (by omega) (by simp) rfl rfl rfl rfl ?_)
    intro v' w3 hown3 hg3 hat3
    obtain ⟨g, c3, rfl, hg0, hgs⟩ := hown3.form (by omega)
    have hb3 : Below w2.heap.size w2 w3 := ((Below.refl _ _).alloc (Nat.le_refl _) _).grown hg3 (by simp) (by simp [Value.ownBlock])
    have hb3H := Lib.hid (hb2H.out.trans (hb3.mono hb2H.out.size))
    have hrl3 := Lib.hid (hrl2.out.later hb3)
    have hb3K := Lib.hid hb3
    have hown4 : w3.ownsRow w2.heap.size 36 2 (.slice (some ⟨g, 0, none⟩) nw c3) nw (ps2 .i64 .u32 ws) := by simpa using hown3
    obtain ⟨i, hi⟩ : ∃ i : Nat, i = k % nw := ⟨_, rfl⟩
    have hin : i < nw := by rw [hi]; exact Nat.mod_lt _ (by omega)
    clear hg3 hat3 hb3 hown3
    have hmod : (k : Int) % (nw : Int) = (i : Int) := by subst hi; simp
    obtain ⟨b, o, e, hlt, q0, q1⟩ := (Rd.of_own hown4).pair hin
    cases e
    simp only [Nat.zero_add] at q0 q1
    have f0 := hown4.frozenAt (i * 2)
    have f1 := hown4.frozenAt (i * 2 + 1)
    have hrk := hrmH.out i hin
    unfold wat at hrk
    generalize hc : ws.getD i (0, 0) = c at *
    obtain ⟨cr, ch⟩ := c
    dsimp only at q0 q1 hrk
    clear hi
    obtain ⟨ws2, hws2⟩ : ∃ ws2, ws2 = ws.set i (cr + (r : Int) % 3, bits .or .u32 ch (h : Int)) := ⟨_, rfl⟩
    have hs2 := ((hown4.stored (i * 2) (.int .i64 (cr + (r : Int) % 3))).1.stored (i * 2 + 1) (.int .u32 (bits .or .u32 ch (h : Int)))).1
    rw [ps2_set _ _ _ _ (by rw [hwlH.out]; exact hin), ← hws2] at hs2
    have hl2 : ws2.length = nw := by rw [hws2, List.length_set]; exact hwlH.out
    have hb5 := Lib.hid ((hb3H.out.setCell (show w.heap.size ≤ (⟨g, i * 2, none⟩ : Addr).block from Nat.le_trans hb2H.out.size hg0) (.int .i64 (cr + (r : Int) % 3))).setCell (show w.heap.size ≤ (⟨g, i * 2 + 1, none⟩ : Addr).block from Nat.le_trans hb2H.out.size hg0) (.int .u32 (bits .or .u32 ch (h : Int))))
    have hr5 := Lib.hid (Rd.of_own hs2)
    have hrl5 := Lib.hid (hrl2.out.later ((hb3K.out.setCell (show w2.heap.size ≤ (⟨g, i * 2, none⟩ : Addr).block from hg0) (.int .i64 (cr + (r : Int) % 3))).setCell (show w2.heap.size ≤ (⟨g, i * 2 + 1, none⟩ : Addr).block from hg0) (.int .u32 (bits .or .u32 ch (h : Int)))))
    by_cases hok2 : pchk ws2 nt = 0
    · have H5 := Lib.hid (pmost_ok (some ⟨g, 0, none⟩) B nw nt c3 cB ws2 ts _ hr5.out (htH.out.later hb5.out) hcB hok2)
      have hl3 := Lib.hid (hrl3.out)
      clear hs2
      go_wp2_with fail
      refine H5.out.mono ?_
      rintro e w6 ⟨⟨v6, room6, t6, l6, rfl, hown6, hG6⟩, hb6⟩
      obtain ⟨A6, c6, rfl, hc6⟩ := own_sliceM hown6
      obtain ⟨hP6, hP7⟩ := hG6.best hl2 htlH.out (fun j hj => ((pchk_ok hok2).2.2 j (by omega)).1)
      have hmore : PlG ws2 ts l := by
        refine plg_more (hl2.trans hwlH.out.symm) (fun j hj => ?_) htsH.out (fun j hj t htl ht => ?_) hP1H.out
        · unfold rms
          rw [hws2, wat_set _ _ _ _ (by rw [hwlH.out]; exact hin)]
          by_cases e : j = i
          · subst e
            rw [if_pos rfl]
            unfold wat
            rw [hc]
            show cr ≤ cr + (r : Int) % 3
            omega
          · rw [if_neg e]; omega
        · rw [hws2, wat_set _ _ _ _ (by rw [hwlH.out]; exact hin)]
          by_cases e : j = i
          · subst e
            rw [if_pos rfl]
            have hcm := hwsH.out (wat ws j) (wat_mem hj)
            unfold wat at ht hcm
            rw [hc] at ht hcm
            dsimp only at ht hcm ⊢
            obtain ⟨chn, rfl⟩ := Int.eq_ofNat_of_zero_le hcm.1
            rw [u32_or_nat chn h (by omega) hh]
            exact mayI_or (by omega) hh htl ht
          · rw [if_neg e]; exact ht
      have hle : (prd l nt : Int) ≤ prd l6 nt := by rw [prd_cnt, prd_cnt]; exact hP7 l hmore
      have H6 := Lib.hid (crewed_any (some ⟨g, 0, none⟩) B nw nt c3 cB ws2 w6 (hr5.out.later hb6) hnw hnt)
      rw [hok2] at H6
      have hr6 := Lib.hid (Rd.of_own hown6)
      have hrl6 := Lib.hid (hrl5.out.later hb6)
      have hb6H := Lib.hid (hb5.out.trans (hb6.mono hb5.out.size))
      clear hown6 hG6 hP6 hP7 hmore hb6
      go_wp2_with fail
      refine H6.out.mono ?_
      rintro e w7 ⟨rfl, hb7⟩
      have HP1 := Lib.hid (paired_any A6 nt c6 l6 w7 (hr6.out.later hb7) (by omega))
      have HP2 := Lib.hid (paired_any A1 nt c1 l w7 (hrl6.out.later hb7) (by omega))
      have hb7H := Lib.hid (hb6H.out.trans (hb7.mono hb6H.out.size))
      generalize prd l nt = p at *
      generalize prd l6 nt = q at *
      clear hb7
      have hqd : decide ((p : Int) ≤ (q : Int)) = true := decide_eq_true hle
      go_wp2_with fail
      refine HP1.out.mono ?_
      rintro e w8 ⟨rfl, rfl⟩
      go_wp2_with fail
      refine HP2.out.mono ?_
      rintro e w8 ⟨rfl, rfl⟩
      go_wp2
      go_ret
      exact ⟨rfl, hb7H.out⟩
    · have H5 := Lib.hid (pmost_bad (some ⟨g, 0, none⟩) B nw nt c3 cB ws2 _ hr5.out hnw hnt hok2)
      have hne : (pchk ws2 nt != 0) = true := bne_iff_ne.2 hok2
      have heq : (pchk ws2 nt == 0) = false := beq_false_of_ne hok2
      have H6 := Lib.hid (fun W (hb : Below _ _ W) => crewed_any (some ⟨g, 0, none⟩) B nw nt c3 cB ws2 W (hr5.out.later hb) hnw hnt)
      rw [heq] at H6
      clear hs2 heq hok2
      generalize pchk ws2 nt = c at *
      go_wp2_with fail
      refine H5.out.mono ?_
      rintro e w6 ⟨rfl, hb6⟩
      have hb6H := Lib.hid (hb5.out.trans (hb6.mono hb5.out.size))
      go_wp2_with fail
      refine (H6.out _ hb6).mono ?_
      rintro e w7 ⟨rfl, hb7⟩
      have hb7H := Lib.hid (hb6H.out.trans (hb7.mono hb6H.out.size))
      clear hb6 hb7
      go_wp2
      go_ret
      exact ⟨rfl, hb7H.out⟩
end Go.Proofs.Ytgbkpjiefaejiaa
