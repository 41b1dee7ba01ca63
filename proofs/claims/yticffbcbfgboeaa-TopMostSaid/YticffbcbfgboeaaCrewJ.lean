/- teamsterref.Lists, Crews: the same are the same. -/
import Derived.Test.YticffbcbfgboeaaCrewI
import Derived.Test.YticffbcbfgboeaaIntsEq
import Derived.Test.YticffbcbfgboeaaBel
import Derived.BigQuiet
namespace Go.Proofs.Yticffbcbfgboeaa
open Go.RowKit Go.Shelf

/-- lists of numbers in memory -/
def RL (w : World) (A : Option Addr) (n : Nat) (ls : List (List Int)) : Prop := ∃ tv : List Value, Rd w A n 1 tv ∧ ∀ k, k < n → ∃ A' c, tv.getD k undef = .slice A' (ls.getD k []).length c ∧ Rd w A' (ls.getD k []).length 1 (ints .i64 (ls.getD k []))
theorem RL.later {w w' : World} {A : Option Addr} {n : Nat} {ls : List (List Int)} (h : RL w A n ls) (hb : Below w.heap.size w w') : RL w' A n ls := by
  obtain ⟨tv, h1, h2⟩ := h
  exact ⟨tv, h1.later hb, fun k hk => by
    obtain ⟨A', c, h3, h4⟩ := h2 k hk
    exact ⟨A', c, h3, h4.later hb⟩⟩
theorem RL.at {w : World} {A : Option Addr} {n : Nat} {ls : List (List Int)} (h : RL w A n ls) {k : Nat} (hk : k < n) : ∃ b o A' c, A = some ⟨b, o, none⟩ ∧ b < w.heap.size ∧ w.cell? ⟨b, o + k, none⟩ = some (.slice A' (ls.getD k []).length c) ∧ Rd w A' (ls.getD k []).length 1 (ints .i64 (ls.getD k [])) := by
  obtain ⟨tv, h1, h2⟩ := h
  obtain ⟨A', c, h3, h4⟩ := h2 k hk
  obtain ⟨b, o, e, hlt, hc⟩ := h1.2 (by omega)
  have hl := h1.1
  refine ⟨b, o, A', c, e, hlt, ?_, h4⟩
  rw [hc k (by omega), List.getElem?_eq_getElem (by omega), ← h3]
  simp [List.getD, List.getElem?_eq_getElem (show k < tv.length by omega)]
theorem PM.lists {n₀ ns : Nat} {s : CS} {cs : List Int} {vC vW : Value} {A : Option Addr} {c : Nat} {tv : List Value} {W : World} (h : PM n₀ ns s cs vC vW (.slice A ns c) tv W) : RL W A ns s.tasks :=
  ⟨tv, Rd.of_own h.ta, fun k hk => by
    have h1 := h.tk k hk
    obtain ⟨A', c', e⟩ := own_slice h1
    rw [e] at h1
    exact ⟨A', c', e, Rd.of_own h1⟩⟩
set_option maxHeartbeats 1600000 in
set_option maxRecDepth 100000 in
theorem lists_same (A B : Option Addr) (n c d : Nat) (ls : List (List Int)) (w : World) (hA : RL w A n ls) (hB : RL w B n ls) (hn : n ≤ 9223372036854775807) (h12 : ∀ k, k < n → (ls.getD k []).length ≤ 9223372036854775807) :
    Calls Try.prog 19 #[.slice A n c, .slice B n d] w fun e w' => e = .returned (.bool true) ∧ Below w.heap.size w w' := by
  have hAH := Lib.hid hA; have hBH := Lib.hid hB; have h12H := Lib.hid h12
  have hnn : ((n : Int) != (n : Int)) = false := by simp
  clear hA hB h12
  go_enter Try.func19, Try.ntmps19
  go_wp2
  go_loopw [5] (fun i wr => ∃ k : Nat, k ≤ n ∧ i = .int .i64 k ∧ Below w.heap.size w wr) (fun i _ => n - (intOf i).toNat)
  case atStart => exact ⟨0, Nat.zero_le _, rfl, Below.refl _ _⟩
  case round =>
    obtain ⟨k, hk, rfl, hb⟩ := hrel
    by_cases hlt : k < n
    · obtain ⟨b, o, A', c', rfl, hbl, hc, hR⟩ := (hAH.out.later hb).at hlt
      obtain ⟨b2, o2, B', d', rfl, hbl2, hc2, hR2⟩ := (hBH.out.later hb).at hlt
      have hl := h12H.out k hlt
      generalize ls.getD k [] = l at *
      have HI : Hid (∀ p : BW wr, Calls Try.prog 18 #[.slice A' l.length c', .slice B' l.length d'] p.w' fun e w' => e = .returned (.bool true) ∧ Below p.w'.heap.size p.w' w') := Lib.hid (fun p => (ints_any A' l.length c' l B' l.length d' l p.w' (hR.later p.hb) hl (hR2.later p.hb)).mono fun e w' ⟨he, hb⟩ => ⟨by rw [he]; simp, hb⟩)
      have q1 := BW.cell (w := wr) hc
      have q2 := BW.cell (w := wr) hc2
      have hbH := Lib.hid hb
      have hk0 : (0 : Int) ≤ (k : Int) := by omega
      have hkl : (k : Int) < n := by omega
      clear hb hR hR2 hc hc2
      go_upto_region 6 with fail
      refine wp_region_below (by kernel_rfl) (by kernel_rfl) ?_
      repeat (go_big_quiet_step (first | rfl | (with_reducible refine Calls.bel (HI.out _))))
      refine wpQuiet_nil ?_
      rintro _ ⟨p, rfl⟩
      have hbF := Lib.hid (hbH.out.trans (p.hb.mono hbH.out.size))
      clear q1 q2 HI
      go_wp2
      go_roundw
      case rel => exact ⟨k + 1, by omega, by go_num, hbF.out⟩
      case measure => simp [intOf]; omega
    · go_wp2
      go_ret
      exact ⟨rfl, hb⟩
set_option maxHeartbeats 1600000 in
set_option maxRecDepth 100000 in
theorem crews_same (A1 B1 A2 B2 A3 B3 : Option Addr) (n1 c1 d1 n2 c2 d2 n3 c3 d3 : Nat) (inn : Int) (cs ws : List Int) (ts : List (List Int)) (w : World) (h1 : Rd w A1 n1 1 (ints .i64 cs)) (g1 : Rd w B1 n1 1 (ints .i64 cs)) (h2 : Rd w A2 n2 1 (ints .i64 ws)) (g2 : Rd w B2 n2 1 (ints .i64 ws)) (h3 : RL w A3 n3 ts) (g3 : RL w B3 n3 ts)
    (b1 : n1 ≤ 9223372036854775807) (b2 : n2 ≤ 9223372036854775807) (b3 : n3 ≤ 9223372036854775807) (h12 : ∀ k, k < n3 → (ts.getD k []).length ≤ 9223372036854775807) :
    Calls Try.prog 14 #[.agg #[.slice A1 n1 c1, .int .u32 inn, .slice A2 n2 c2, .slice A3 n3 c3], .agg #[.slice B1 n1 d1, .int .u32 inn, .slice B2 n2 d2, .slice B3 n3 d3]] w fun e w' => e = .returned (.bool true) ∧ Below w.heap.size w w' := by
  have H1 := Lib.hid (fun W (hb : Below w.heap.size w W) => codes_any A1 n1 c1 cs B1 n1 d1 cs W (h1.later hb) b1 (g1.later hb))
  have H2 := Lib.hid (fun W (hb : Below w.heap.size w W) => ints_any A2 n2 c2 ws B2 n2 d2 ws W (h2.later hb) b2 (g2.later hb))
  have H3 := Lib.hid (fun W (hb : Below w.heap.size w W) => lists_same A3 B3 n3 c3 d3 ts W (h3.later hb) (g3.later hb) b3 h12)
  have e1 : decide (cs = cs) = true := by simp
  have e2 : decide (ws = ws) = true := by simp
  rw [e1] at H1
  rw [e2] at H2
  have hb0 := ((Below.refl _ w).alloc (Nat.le_refl _) (.cells #[.slice A1 n1 c1, .int .u32 inn, .slice A2 n2 c2, .slice A3 n3 c3] 32)).alloc (by simp) (.cells #[.slice B1 n1 d1, .int .u32 inn, .slice B2 n2 d2, .slice B3 n3 d3] 32)
  have k1 := (Blk.new w 32 #[.slice A1 n1 c1, .int .u32 inn, .slice A2 n2 c2, .slice A3 n3 c3]).alloc (.cells #[.slice B1 n1 d1, .int .u32 inn, .slice B2 n2 d2, .slice B3 n3 d3] 32)
  have k2 := Blk.new (w.alloc (.cells #[.slice A1 n1 c1, .int .u32 inn, .slice A2 n2 c2, .slice A3 n3 c3] 32)) 32 #[.slice B1 n1 d1, .int .u32 inn, .slice B2 n2 d2, .slice B3 n3 d3]
  rw [World.size_alloc] at k2
  have hb0H := Lib.hid hb0; have k1H := Lib.hid k1; have k2H := Lib.hid k2
  clear h1 g1 h2 g2 h3 g3 hb0 k1 k2 h12 e1 e2
  go_enter Try.func14, Try.ntmps14
  go_wp2_with fail
  generalize (w.alloc (.cells #[.slice A1 n1 c1, .int .u32 inn, .slice A2 n2 c2, .slice A3 n3 c3] 32)).alloc (.cells #[.slice B1 n1 d1, .int .u32 inn, .slice B2 n2 d2, .slice B3 n3 d3] 32) = w0 at *
  refine (H1.out _ hb0H.out).mono ?_
  rintro e w1 ⟨rfl, hb1⟩
  have hbA := hb0H.out.trans (hb1.mono hb0H.out.size)
  have kA := k1H.out.below hb1 k1H.out.lt; have kB := k2H.out.below hb1 k2H.out.lt
  have a1 := kA.cell (j := 1) rfl; have a2 := kA.cell (j := 2) rfl
  have q1 := kB.cell (j := 1) rfl; have q2 := kB.cell (j := 2) rfl
  have kAH := Lib.hid kA; have kBH := Lib.hid kB; have hbAH := Lib.hid hbA
  clear hb1 hbA kA kB
  go_wp2_with fail
  refine (H2.out _ hbAH.out).mono ?_
  rintro e w2 ⟨rfl, hb2⟩
  have hbB := hbAH.out.trans (hb2.mono hbAH.out.size)
  have a3 := (kAH.out.below hb2 kAH.out.lt).cell (j := 3) rfl
  have q3 := (kBH.out.below hb2 kBH.out.lt).cell (j := 3) rfl
  have hbBH := Lib.hid hbB
  clear hb2 hbB
  go_wp2_with fail
  refine (H3.out _ hbBH.out).mono ?_
  rintro e w3 ⟨rfl, hb3⟩
  have hbC := Lib.hid (hbBH.out.trans (hb3.mono hbBH.out.size))
  clear hb3
  go_wp2
  go_ret
  exact ⟨rfl, hbC.out⟩
end Go.Proofs.Yticffbcbfgboeaa
