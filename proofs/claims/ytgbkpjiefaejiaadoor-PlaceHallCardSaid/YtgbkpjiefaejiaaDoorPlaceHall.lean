/- PlaceHall: the walk. -/
import Derived.Test.YtgbkpjiefaejiaaDoorPlaceShort
import Derived.Test.YtgbkpjiefaejiaaDoorPlaceE
import Derived.Test.YtgbkpjiefaejiaaDoorPlaceF
namespace Go.Proofs.YtgbkpjiefaejiaaDoor
open Go.RowKit Go.Shelf

theorem wds_ofP {zs : List Int} (h : ∀ z ∈ zs, (Lit.int .u32 z).wf = true) : ints .u32 zs = wds (zs.map Int.toNat) ∧ ∀ x ∈ zs.map Int.toNat, x < 4294967296 := by
  refine ⟨?_, fun x hx => ?_⟩
  · unfold ints wds
    rw [List.map_map]
    exact List.map_congr_left fun z hz => by
      have := wf_u32 (h z hz)
      simp only [Function.comp]
      rw [Int.toNat_of_nonneg this.1]
  · obtain ⟨z, hz, rfl⟩ := List.mem_map.1 hx
    have := wf_u32 (h z hz)
    omega
theorem own_slice2 {w : World} {b e s n : Nat} {v : Value} {xs : List Value} (h : w.ownsRow b e s v n xs) : ∃ A c, v = .slice A n c ∧ n ≤ c := by
  rcases h.2 with ⟨rfl, rfl⟩ | ⟨g, cap, cur, rfl, _, _, h1, _⟩
  · exact ⟨none, 0, rfl, Nat.le_refl _⟩
  · exact ⟨_, cap, rfl, h1⟩
/-- as many as can be -/
theorem Gr.most {ws : List (Int × Int)} {ts : List Nat} {nt : Nat} {room : Nat → Int} {t : Int} {l : List Int} (ht : ts.length = nt) (hr : ∀ j, j < ws.length → 0 ≤ rms ws j) (h : Gr (PDm ws ts (rms ws)) nt room t l) : MaxPl (PDm ws ts (rms ws)) (cntL l nt) := by
  obtain ⟨K, hK⟩ := h.max
  have hp := h.pgi hK (by show ∀ j, j < ws.length → _; exact hr) (by show nt ≤ ts.length; omega)
  have hnt : (PDm ws ts (rms ws)).nt = nt := ht
  have hd := PGI.done (d := PDm ws ts (rms ws)) (t := t) (room := room) (K := K) (l := l) (by rw [hnt]; exact hp)
  rw [hnt] at hd
  rw [hd.2]
  exact hK
set_option maxHeartbeats 3200000 in
set_option maxRecDepth 100000 in
theorem placeHall_any (A B : Option Addr) (nw nt cA cB : Nat) (ws : List (Int × Int)) (ts : List Nat) (w : World) (hw : Rd w A nw 2 (ps2 .i64 .u32 ws)) (ht : Rd w B nt 1 (wds ts)) (hcB : nt ≤ cB)
    (hnw : nw ≤ 9223372036854775807) (hnt : nt ≤ 9223372036854775807) (hws : ∀ c ∈ ws, 0 ≤ c.2 ∧ c.2 < 4294967296) (hts : ∀ i, ts.getD i 0 < 4294967296) (htb : Tb w) (hg : 0 < w.heap.size) :
    Calls Tryd.prog 3 #[.slice A nw cA, .slice B nt cB] w fun e w' => e = .returned (.bool true) ∧ Below w.heap.size w w' := by
  have hwl : ws.length = nw := by have := hw.1; rw [ps2_length] at this; omega
  have htl : ts.length = nt := by have := ht.1; rw [wds_length] at this; omega
  have hwH := Lib.hid hw; have htH := Lib.hid ht; have hwsH := Lib.hid hws; have htsH := Lib.hid hts
  have hwlH := Lib.hid hwl; have htlH := Lib.hid htl
  by_cases hok : pchk ws nt = 0
  case neg =>
    have H1 := Lib.hid (pmost_bad A B nw nt cA cB ws w hw (by omega) (by omega) hok)
    have hne : (pchk ws nt != 0) = true := bne_iff_ne.2 hok
    have heq : (pchk ws nt == 0) = false := beq_false_of_ne hok
    have H3 := Lib.hid (fun W (hb : Below w.heap.size w W) => short_bad A B nw nt cA cB ws W (hwH.out.later hb) (by omega) (by omega) hok)
    have H2 := Lib.hid (fun W (hb : Below w.heap.size w W) => crewed_any A B nw nt cA cB ws W (hwH.out.later hb) (by omega) (by omega))
    rw [heq] at H2
    clear hw ht hws hts hwl htl hok heq htb
    generalize pchk ws nt = c at *
    go_enter Tryd.func3, Tryd.ntmps3
    go_wp2_with fail
    refine H1.out.mono ?_
    rintro e w1 ⟨rfl, hb1⟩
    go_wp2_with fail
    refine (H3.out _ hb1).mono ?_
    rintro e w2 ⟨rfl, hb2⟩
    have hb2' := hb1.trans (hb2.mono hb1.size)
    go_wp2_with fail
    refine (H2.out _ hb2').mono ?_
    rintro e w3 ⟨rfl, hb3⟩
    have hb3' := hb2'.trans (hb3.mono hb2'.size)
    go_wp2
    go_ret
    exact ⟨rfl, hb3'⟩
  obtain ⟨hnw6, hnt12, hrm⟩ := pchk_ok hok
  have hrmH := Lib.hid (fun (j : Nat) (hj : j < ws.length) => show 0 ≤ rms ws j ∧ rms ws j ≤ 12 from hrm j hj)
  have H1 := Lib.hid (pmost_ok A B nw nt cA cB ws ts w hw ht hcB hok)
  have H2 := Lib.hid (fun W (hb : Below w.heap.size w W) => crewed_any A B nw nt cA cB ws W (hwH.out.later hb) (by omega) (by omega))
  have H3 := Lib.hid (fun W (hb : Below w.heap.size w W) => short_ok A B nw nt cA cB ws ts W (hwH.out.later hb) (htH.out.later hb) hok hts (htb.below hg hb) (Nat.lt_of_lt_of_le hg hb.size))
  have H5 := Lib.hid (fun (s : Nat) (hs : s < 4294967296) W (hb : Below w.heap.size w W) => lack_any A B nw nt cA cB ws ts s W (hwH.out.later hb) (htH.out.later hb) hok hs hws hts)
  have hlw := Lib.hid (fun s => lackI_bd (ws := ws) (ts := ts) (s := s) hrm ws.length (Nat.le_refl _))
  rw [hok] at H2
  clear hw ht hws hts hwl htl hrm hok htb
  go_enter Tryd.func3, Tryd.ntmps3
  go_wp2_with fail
  refine H1.out.mono ?_
  rintro e w1 ⟨⟨v, room, t, l, rfl, hown, hG⟩, hb1⟩
  obtain ⟨A1, c1, rfl, hc1⟩ := own_slice2 hown
  have hrl := Rd.of_own hown
  obtain ⟨hP1, _⟩ := hG.best hwlH.out htlH.out (fun j hj => (hrmH.out j (by rw [hwlH.out]; exact hj)).1)
  have hMx := hG.most htlH.out (fun j hj => (hrmH.out j hj).1)
  have hP1H := Lib.hid hP1; have hMxH := Lib.hid hMx; have hrlH := Lib.hid hrl; have hb1H := Lib.hid hb1
  clear hP1 hMx hrl hown hG hb1 H1
  go_wp2_with fail
  refine (H3.out _ hb1H.out).mono ?_
  rintro e w2 ⟨s, m, rfl, hS, hb2⟩
  have hb2' := hb1H.out.trans (hb2.mono hb1H.out.size)
  have hs12 : s < 4096 := by
    have h1 := hS.lt
    rw [htlH.out] at h1
    exact Nat.lt_of_lt_of_le h1 (Nat.pow_le_pow_right (n := 2) (by omega) hnt12)
  -- what lacks the most lacks what is left over
  have hlaw : lackI ws ts s nw = (nt : Int) - prd l nt := by
    have h1 := lack_le (l := l) hP1H.out hS.lt (by rw [htlH.out]; exact hnt12)
    obtain ⟨s', h2, h3⟩ := hall_set hrmH.out (by rw [htlH.out]; exact hnt12) hMxH.out
    have h4 := hS.up s' (by rw [← htlH.out]; exact h2)
    have h5 := hS.eq
    rw [htlH.out, ← prd_cnt] at h1 h3
    rw [hwlH.out] at h1 h3 h4 h5
    omega
  have hrl2 := Lib.hid (hrlH.out.later hb2)
  have hlwk := hlw.out s
  rw [hwlH.out, hlaw] at hlwk
  have hb2H := Lib.hid hb2'
  clear hb2 hb2' hrlH hb1H H3 hS
  go_wp2_with fail
  refine (H2.out _ hb2H.out).mono ?_
  rintro e w3 ⟨rfl, hb3⟩
  have hb3' := hb2H.out.trans (hb3.mono hb2H.out.size)
  have hrl3 := Lib.hid (hrl2.out.later hb3)
  have hb3H := Lib.hid hb3'
  have H4 := Lib.hid (placing_any A B A1 nw nt nt cA cB c1 ws ts l w3 (hwH.out.later hb3') (htH.out.later hb3') hrl3.out hnw hnt hwsH.out htsH.out)
  clear hb3 hb3' hrl2 hb2H H2
  go_wp2_with fail
  refine H4.out.mono ?_
  rintro e w4 ⟨⟨b4, rfl, hb4i⟩, hb4⟩
  obtain rfl : b4 = true := hb4i.2 hP1H.out
  have hb4' := hb3H.out.trans (hb4.mono hb3H.out.size)
  have hrl4 := Lib.hid (hrl3.out.later hb4)
  have hb4H := Lib.hid hb4'
  have HPl := Lib.hid (paired_any A1 nt c1 l w4 hrl4.out (by omega))
  have HL := Lib.hid (H5.out s (by omega) w4 hb4H.out)
  rw [hlaw] at HL
  have hle1 := prd_le l nt
  clear hb4 hb4' hb4i hrl3 hb3H H4 hlaw
  generalize prd l nt = p at *
  have hsb : IntKind.i64.wrap ((nt : Int) - p) = (nt : Int) - p := IntWalk.i64_in _ (by omega)
  go_wp2_with fail
  refine HPl.out.mono ?_
  rintro e w5 ⟨rfl, rfl⟩
  go_wp2_with fail
  refine HL.out.mono ?_
  rintro e w6 ⟨rfl, hb6⟩
  have hb6H := Lib.hid (hb4H.out.trans (hb6.mono hb4H.out.size))
  clear hb6
  go_wp2
  go_ret
  exact ⟨rfl, hb6H.out⟩
end Go.Proofs.YtgbkpjiefaejiaaDoor
