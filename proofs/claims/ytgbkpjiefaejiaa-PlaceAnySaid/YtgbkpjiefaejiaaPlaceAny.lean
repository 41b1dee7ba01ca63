/- PlaceAny: the walk. -/
import Derived.Test.YtgbkpjiefaejiaaPlaceAnyLaw
import Derived.Test.YtgbkpjiefaejiaaPlaceF
namespace Go.Proofs.Ytgbkpjiefaejiaa
open Go.RowKit Go.Shelf

theorem wds_ofP {zs : List Int} (h : ∀ z ∈ zs, (Lit.int .u32 z).wf = true) : ints .u32 zs = wds (zs.map Int.toNat) ∧ ∀ x ∈ zs.map Int.toNat, x < 4294967296 := by
  refine ⟨?_, fun x hx => ?_⟩
  · unfold ints wds
    rw [List.map_map]
    exact List.map_congr_left fun z hz => by
      have := wf_u32 (h z hz)
      simp only [Function.comp]
      rw [Int.toNat_of_nonneg this.1]
  · obtain ⟨z, hz, rfl⟩ := List.mem_map.1 hx
    have := wf_u32 (h z hz)
    omega
theorem own_slice2 {w : World} {b e s n : Nat} {v : Value} {xs : List Value} (h : w.ownsRow b e s v n xs) : ∃ A c, v = .slice A n c ∧ n ≤ c := by
  rcases h.2 with ⟨rfl, rfl⟩ | ⟨g, cap, cur, rfl, _, _, h1, _⟩
  · exact ⟨none, 0, rfl, Nat.le_refl _⟩
  · exact ⟨_, cap, rfl, h1⟩
set_option maxHeartbeats 3200000 in
set_option maxRecDepth 100000 in
theorem placeAny_any (A B C : Option Addr) (nw nt nl cA cB cC : Nat) (ws : List (Int × Int)) (ts : List Nat) (m : List Int) (s : Nat) (w : World) (hw : Rd w A nw 2 (ps2 .i64 .u32 ws)) (ht : Rd w B nt 1 (wds ts)) (hm : Rd w C nl 1 (ints .i64 m)) (hcB : nt ≤ cB)
    (hnw : nw ≤ 9223372036854775807) (hnt : nt ≤ 9223372036854775807) (hnl : nl ≤ 9223372036854775807) (hws : ∀ c ∈ ws, 0 ≤ c.2 ∧ c.2 < 4294967296) (hts : ∀ i, ts.getD i 0 < 4294967296) (hs : s < 4294967296) :
    Calls Try.prog 3 #[.slice A nw cA, .slice B nt cB, .slice C nl cC, .int .u32 (s : Int)] w fun e w' => e = .returned (.bool true) ∧ Below w.heap.size w w' := by
  have hwl : ws.length = nw := by have := hw.1; rw [ps2_length] at this; omega
  have htl : ts.length = nt := by have := ht.1; rw [wds_length] at this; omega
  have hwH := Lib.hid hw; have htH := Lib.hid ht; have hmH := Lib.hid hm; have hwsH := Lib.hid hws; have htsH := Lib.hid hts
  have hwlH := Lib.hid hwl; have htlH := Lib.hid htl
  by_cases hok : pchk ws nt = 0
  case neg =>
    have H1 := Lib.hid (pmost_bad A B nw nt cA cB ws w hw (by omega) (by omega) hok)
    have hne : (pchk ws nt != 0) = true := bne_iff_ne.2 hok
    have heq : (pchk ws nt == 0) = false := beq_false_of_ne hok
    have H2 := Lib.hid (fun W (hb : Below w.heap.size w W) => crewed_any A B nw nt cA cB ws W (hwH.out.later hb) (by omega) (by omega))
    rw [heq] at H2
    clear hw ht hm hws hts hwl htl hok heq
    generalize pchk ws nt = c at *
    go_enter Try.func3, Try.ntmps3
    go_wp2_with fail
    refine H1.out.mono ?_
    rintro e w1 ⟨rfl, hb1⟩
    go_wp2_with fail
    refine (H2.out _ hb1).mono ?_
    rintro e w2 ⟨rfl, hb2⟩
    have hb2' := hb1.trans (hb2.mono hb1.size)
    go_wp2
    go_ret
    exact ⟨rfl, hb2'⟩
  obtain ⟨hnw6, hnt12, hrm⟩ := pchk_ok hok
  rw [hwl] at hnw6 hrm
  have hrmH := Lib.hid (fun (j : Nat) (hj : j < nw) => show 0 ≤ rms ws j from (hrm j hj).1)
  have H1 := Lib.hid (pmost_ok A B nw nt cA cB ws ts w hw ht hcB hok)
  have H2 := Lib.hid (fun W (hb : Below w.heap.size w W) => crewed_any A B nw nt cA cB ws W (hwH.out.later hb) (by omega) (by omega))
  have H5 := Lib.hid (fun W (hb : Below w.heap.size w W) => lack_any A B nw nt cA cB ws ts s W (hwH.out.later hb) (htH.out.later hb) hok hs hws hts)
  rw [hok] at H2
  clear hw ht hm hws hts hwl htl hrm hok
  go_enter Try.func3, Try.ntmps3
  go_wp2_with fail
  refine H1.out.mono ?_
  rintro e w1 ⟨⟨v, room, t, l, rfl, hown, hG⟩, hb1⟩
  obtain ⟨A1, c1, rfl, hc1⟩ := own_slice2 hown
  have hrl := Rd.of_own hown
  obtain ⟨hP1, hP2⟩ := hG.best hwlH.out htlH.out hrmH.out
  have hP1H := Lib.hid hP1; have hP2H := Lib.hid hP2; have hrlH := Lib.hid hrl; have hb1H := Lib.hid hb1
  clear hP1 hP2 hrl hown hG hb1 H1
  go_wp2_with fail
  refine (H2.out _ hb1H.out).mono ?_
  rintro e w2 ⟨rfl, hb2⟩
  have hb2' := hb1H.out.trans (hb2.mono hb1H.out.size)
  have hrl2 := hrlH.out.later hb2
  have H3 := Lib.hid (placing_any A B A1 nw nt nt cA cB c1 ws ts l w2 (hwH.out.later hb2') (htH.out.later hb2') hrl2 hnw hnt hwsH.out htsH.out)
  have hrl2H := Lib.hid hrl2; have hb2H := Lib.hid hb2'
  clear hb2 hb2' hrl2 hrlH hb1H H2
  go_wp2_with fail
  refine H3.out.mono ?_
  rintro e w3 ⟨⟨b3, rfl, hb3i⟩, hb3⟩
  obtain rfl : b3 = true := hb3i.2 hP1H.out
  have hb3' := hb2H.out.trans (hb3.mono hb2H.out.size)
  have hrl3 := hrl2H.out.later hb3
  have H4 := Lib.hid (placing_any A B C nw nt nl cA cB cC ws ts m w3 (hwH.out.later hb3') (htH.out.later hb3') (hmH.out.later hb3') hnw hnl hwsH.out htsH.out)
  have hrl3H := Lib.hid hrl3; have hb3H := Lib.hid hb3'
  clear hb3 hb3' hrl3 hrl2H hb2H H3 hb3i
  go_wp2_with fail
  refine H4.out.mono ?_
  rintro e w4 ⟨⟨b4, rfl, hb4i⟩, hb4⟩
  have hb4' := hb3H.out.trans (hb4.mono hb3H.out.size)
  have hrl4 := Lib.hid (hrl3H.out.later hb4)
  have hm4 := Lib.hid (hmH.out.later hb4')
  have hb4H := Lib.hid hb4'
  have hb4iH := Lib.hid hb4i
  have hle1 := prd_le l nt
  have hle2 := prd_le m nl
  have hlaw := Lib.hid (fun (h : s < 2 ^ nt) => by
    have := lack_le (l := l) hP1H.out (s := s) (by rw [htlH.out]; exact h) (by rw [htlH.out]; exact hnt12)
    rw [htlH.out, hwlH.out, ← prd_cnt] at this
    exact this)
  have hmax := Lib.hid (fun (h : PlG ws ts m) => by
    have h1 := hP2H.out m h
    have h2 : m.length = ts.length := h.1
    have h3 : m.length = nl := by simpa [ints] using hmH.out.1
    rw [htlH.out, h3] at h2
    rw [← prd_cnt, ← prd_cnt] at h1
    have h4 : (prd m nl : Int) ≤ prd l nt := by rw [h2]; exact h1
    exact h4)
  clear hb4 hb4' hb4i hrl3H hb3H H4
  have HPl := Lib.hid (fun W (h : Rd W A1 nt 1 (ints .i64 l)) => paired_any A1 nt c1 l W h (by omega))
  have HPm := Lib.hid (paired_any C nl cC m w4 hm4.out (by omega))
  have HL := Lib.hid (H5.out w4 hb4H.out)
  have h2p := two_pow_u32 nt (by omega)
  generalize prd l nt = p at *
  generalize prd m nl = q at *
  generalize lackI ws ts s nw = y at *
  generalize hPw : (2 : Nat) ^ nt = P at *
  have hjn : ∀ w5, Below w4.heap.size w4 w5 → Rd w5 A1 nt 1 (ints .i64 l) := fun w5 h => hrl4.out.later h
  have hjnH := Lib.hid hjn
  clear hjn hPw
  cases b4
  · rcases Nat.lt_or_ge s P with hlt | hge
    · have hy := hlaw.out hlt
      have hd : decide ((P : Int) ≤ (s : Int)) = false := decide_eq_false (by omega)
      have hsb : IntKind.i64.wrap ((nt : Int) - p) = (nt : Int) - p := IntWalk.i64_in _ (by omega)
      have hyd : decide (y ≤ (nt : Int) - p) = true := decide_eq_true hy
      go_wp2_with fail
      refine HL.out.mono ?_
      rintro e w5 ⟨rfl, hb5⟩
      have hr5 := hjnH.out _ hb5
      have hb5H := Lib.hid (hb4H.out.trans (hb5.mono hb4H.out.size))
      clear hb5
      go_wp2_with fail
      refine (HPl.out _ hr5).mono ?_
      rintro e w6 ⟨rfl, rfl⟩
      go_wp2
      go_ret
      exact ⟨rfl, hb5H.out⟩
    · have hd : decide ((P : Int) ≤ (s : Int)) = true := decide_eq_true (by omega)
      go_wp2_with fail
      go_ret
      exact ⟨rfl, hb4H.out⟩
  · have hqp := hmax.out (hb4iH.out.1 rfl)
    have hqd : decide ((p : Int) < (q : Int)) = false := decide_eq_false (by omega)
    rcases Nat.lt_or_ge s P with hlt | hge
    · have hy := hlaw.out hlt
      have hd : decide ((P : Int) ≤ (s : Int)) = false := decide_eq_false (by omega)
      have hsb : IntKind.i64.wrap ((nt : Int) - p) = (nt : Int) - p := IntWalk.i64_in _ (by omega)
      have hyd : decide (y ≤ (nt : Int) - p) = true := decide_eq_true hy
      go_wp2_with fail
      refine HPm.out.mono ?_
      rintro e w5 ⟨rfl, rfl⟩
      go_wp2_with fail
      refine (HPl.out _ hrl4.out).mono ?_
      rintro e w5 ⟨rfl, rfl⟩
      go_wp2_with fail
      refine HL.out.mono ?_
      rintro e w5 ⟨rfl, hb5⟩
      have hr5 := hjnH.out _ hb5
      have hb5H := Lib.hid (hb4H.out.trans (hb5.mono hb4H.out.size))
      clear hb5
      go_wp2_with fail
      refine (HPl.out _ hr5).mono ?_
      rintro e w6 ⟨rfl, rfl⟩
      go_wp2
      go_ret
      exact ⟨rfl, hb5H.out⟩
    · have hd : decide ((P : Int) ≤ (s : Int)) = true := decide_eq_true (by omega)
      go_wp2_with fail
      refine HPm.out.mono ?_
      rintro e w5 ⟨rfl, rfl⟩
      go_wp2_with fail
      refine (HPl.out _ hrl4.out).mono ?_
      rintro e w5 ⟨rfl, rfl⟩
      go_wp2_with fail
      go_ret
      exact ⟨rfl, hb4H.out⟩
end Go.Proofs.Ytgbkpjiefaejiaa
