/- LanesFew: the plain law. LanesFew: the walk. -/
import Derived.Test.YteadceghjfaekaaDoorLanesAp
import Derived.Test.YteadceghjfaekaaDoorDegreeL
namespace Go.Proofs.YteadceghjfaekaaDoor
open Go.RowKit

theorem adj_nb' {n : Nat} {es : List E} (hok : ∀ e ∈ es, okE n e) : nb (nearW n es) = adj es := by
  funext x y
  by_cases hx : x < n
  · exact nearW_bit es hok x y hx
  · have h1 : nb (nearW n es) x y = false := by
      unfold nb
      rw [show (nearW n es).getD x 0 = 0 by simp [List.getD, show (nearW n es)[x]? = none by rw [List.getElem?_eq_none_iff, nearW_length]; omega]]
      simp
    rw [h1]
    symm
    refine List.any_eq_false.2 fun e he => ?_
    obtain ⟨p, q, h2, h3, h4, h5, _⟩ := hok e he
    unfold adjE
    rw [h2, h3]
    simp
    omega
theorem adj_wo' {n w : Nat} {es : List E} (hok : ∀ e ∈ es, okE n e) {i j : Nat} (h : adj (wo w es) i j = true) : adj es i j = true ∧ w.testBit i = false ∧ w.testBit j = false := by
  obtain ⟨e, he, h2⟩ := List.any_eq_true.1 h
  obtain ⟨h3, h4⟩ := List.mem_filter.1 he
  refine ⟨List.any_eq_true.2 ⟨e, h3, h2⟩, ?_⟩
  obtain ⟨p, q, e1, e2, _, _, _⟩ := hok e h3
  unfold freeE at h4
  unfold adjE at h2
  rw [e1, e2] at h2
  unfold eA eB at h4
  rw [e1, e2] at h4
  simp at h2 h4
  rcases h2 with h2 | h2
  · have e3 : p = i := by omega
    have e4 : q = j := by omega
    rw [e3, e4] at h4
    exact h4
  · have e3 : p = j := by omega
    have e4 : q = i := by omega
    rw [e3, e4] at h4
    exact ⟨h4.2, h4.1⟩
theorem parted_sep {n w x y : Nat} {es : List E} (hok : ∀ e ∈ es, okE n e) (hxy : x ≠ y) (h : Sep (adj es) w.testBit x y) : dW (wo w es) n x y < 0 := by
  refine Int.lt_of_not_ge fun hc => ?_
  have : x = y ∨ Av (adj es) w.testBit x y := cn_least (es := wo w es) (R := fun i j => i = j ∨ Av (adj es) w.testBit i j) (fun i => .inl rfl) (fun i m j h1 h2 => by
    rcases h1 with rfl | h1
    · exact h2
    · rcases h2 with rfl | h2
      · exact .inr h1
      · exact .inr (h1.trans h2)) (fun i j hij => by
    obtain ⟨h1, _, h3⟩ := adj_wo' hok hij
    exact .inr (.step .refl h1 h3)) n x y hc
  rcases this with e | e
  · exact hxy e
  · exact h.no e
theorem lanes_law {n x y K K' best : Nat} {es : List E} {f f' : Nat → Int} (h : gchk n es = 0) (hxy : x ≠ y) (hna : adj es x y = false)
    (h1 : HF n (adj es) (LN n es) x y f K) (h2 : ∃ S : Nat → Bool, S (n + x) = true ∧ S y = false ∧ capS (LN n es) S = K)
    (h3 : HF n (adj es) (LN n es) y x f' K') (h4 : ∃ S : Nat → Bool, S (n + y) = true ∧ S x = false ∧ capS (LN n es) S = K')
    (hb : WaI (nearW n es) n x y (allW n x y + 1) best) : K = K' ∧ K ≤ degE es x ∧ K ≤ degE es y ∧ K = popc 10 best ∧ dW (wo best es) n x y < 0 ∧ best.testBit x = false ∧ best.testBit y = false := by
  obtain ⟨_, h10, _, hok, hd⟩ := gchk_ok h
  rw [Int.toNat_natCast] at hok
  have h10 : n ≤ 10 := by omega
  have hnb := adj_nb' hok
  have hgr := nearGr h
  have hsy : ∀ i j, adj es i j = true → adj es j i = true := fun i j hij => by rw [← hnb] at hij ⊢; exact (hgr.ok i j hij).2.2.1
  have hirr : ∀ i, adj es i i = false := fun i => by
    cases e : adj es i i
    · rfl
    · rw [← hnb] at e; exact absurd rfl (hgr.ok i i e).2.2.2
  have hx := h1.a; have hy := h1.b
  have hsep := hb.sep
  rw [hnb] at hsep
  have hsz : ∀ w, w < 2 ^ n → szB n w.testBit = (popc 10 w : Int) := fun w hw => by
    rw [sz_popc]
    have := popc_more (k := n) hw (10 - n)
    rw [show n + (10 - n) = 10 by omega] at this
    rw [this]
  have hle : ∀ X, Sep (adj es) X x y → (∀ u, X u = true → u < n) → (popc 10 best : Int) ≤ szB n X := fun X hX hr => by
    have hbit : (wdP X n).testBit = X := by
      funext u
      rw [wdP_bit]
      by_cases hu : u < n
      · simp [hu]
      · cases e : X u
        · simp
        · exact absurd (hr u e) hu
    have hin : InW n x y (wdP X n) := fun j hj => by
      rw [hbit] at hj
      refine ⟨hr j hj, ?_, ?_⟩
      · rintro rfl; rw [hX.fa] at hj; cases hj
      · rintro rfl; rw [hX.fb] at hj; cases hj
    have := hb.end_ h10 hx hy hin (by rw [hnb, hbit]; exact hX)
    have h5 := hsz (wdP X n) (wdP_lt _ _)
    rw [hbit] at h5
    omega
  have hbl := inW_lt hb.sub
  have hKge : (K : Int) ≤ popc 10 best := by rw [← hsz best hbl]; exact h1.hn.wall_ge h1.fl hx hy hsep
  have hKge' : (K' : Int) ≤ popc 10 best := by rw [← hsz best hbl]; exact h3.hn.wall_ge h3.fl hy hx (hsep.symm hsy)
  have hKle : (popc 10 best : Int) ≤ K := by
    obtain ⟨S, s1, s2, s3⟩ := h2
    obtain ⟨X, x1, x2, x3⟩ := h1.hn.wall_le hx s1 s2 hxy hna hy
    have := hle X x1 x3
    omega
  have hKle' : (popc 10 best : Int) ≤ K' := by
    obtain ⟨S, s1, s2, s3⟩ := h4
    have hna' : adj es y x = false := by
      cases e : adj es y x
      · rfl
      · rw [hsy y x e] at hna; cases hna
    obtain ⟨X, x1, x2, x3⟩ := h3.hn.wall_le hy s1 s2 (Ne.symm hxy) hna' hx
    have := hle X (x1.symm hsy) x3
    omega
  have hdeg : ∀ i, i < n → szB n (adj es i) = (degE es i : Int) := fun i hi => by
    have e1 : adj es i = ((nearW n es).getD i 0).testBit := by rw [← hnb]; rfl
    rw [e1, hsz _ (hgr.lt i)]
    have := deg_near h10 es hok hd i hi es.length (Nat.le_refl _)
    rw [List.take_of_length_le (Nat.le_refl _)] at this
    rw [this]
  have hd1 : (K : Int) ≤ degE es x := by rw [← hdeg x hx]; exact h1.hn.wall_ge h1.fl hx hy (Sep.near hxy hna (hirr x))
  have hd2 : (K : Int) ≤ degE es y := by
    have hna' : adj es y x = false := by
      cases e : adj es y x
      · rfl
      · rw [hsy y x e] at hna; cases hna
    rw [← hdeg y hy]
    exact h1.hn.wall_ge h1.fl hx hy ((Sep.near (Ne.symm hxy) hna' (hirr y)).symm hsy)
  exact ⟨by omega, by omega, by omega, by omega, parted_sep hok hxy hsep, hsep.fa, hsep.fb⟩
end Go.Proofs.YteadceghjfaekaaDoor

namespace Go.Proofs.YteadceghjfaekaaDoor
open Go.RowKit Go.Shelf
attribute [local go_sem] Oper.semAt_some

set_option maxHeartbeats 1600000 in
set_option maxRecDepth 100000 in
theorem lanesFew_bad (N : Int) (A : Option Addr) (len cap : Nat) (es : List E) (a b : Int) (w : World) (hr : Rd w A len 3 (ps3 .i64 .i64 .i64 es)) (hcap : len ≤ cap) (hlen : len ≤ 9223372036854775807) (h : lwr N es a b ≠ 0) (h' : lwr N es b a ≠ 0) :
    Calls Tryd.prog 3 #[.agg #[.int .i64 N, .slice A len cap], .int .i64 a, .int .i64 b] w fun e w' => e = .returned (.bool true) ∧ Below w.heap.size w w' := by
  have gb := (Below.refl _ w).alloc (Nat.le_refl _) (.cells #[.int .i64 N, .slice A len cap] 24)
  have bG := Blk.new w 24 #[.int .i64 N, .slice A len cap]
  have hsw : w.heap.size < (w.alloc (.cells #[.int .i64 N, .slice A len cap] 24)).heap.size := by simp
  have g0 := bG.cell (j := 0) (v := .int .i64 N) rfl; have g1 := bG.cell (j := 1) (v := .slice A len cap) rfl
  have H1 := Lib.hid (fun W (hb : Below w.heap.size w W) => apart_bad N A len cap es a b W (hr.later hb) hlen h)
  have H2 := Lib.hid (fun W (hb : Below w.heap.size w W) => apart_bad N A len cap es b a W (hr.later hb) hlen h')
  have H3 := Lib.hid (fun W (hb : Below w.heap.size w W) => wall_bad N A len cap es a b W (hr.later hb) hlen h)
  have H4 := Lib.hid (fun W (hb : Below w.heap.size w W) => waysCheck_any N A len cap es a b W (hr.later hb) hcap hlen)
  obtain ⟨c, hc⟩ : ∃ c, lwr N es a b = c := ⟨_, rfl⟩
  obtain ⟨d, hd⟩ : ∃ d, lwr N es b a = d := ⟨_, rfl⟩
  rw [hc] at H1 H3 H4 h; rw [hd] at H2 h'
  have hcn : (c != 0) = true := bne_iff_ne.2 h
  have hdn : (d != 0) = true := bne_iff_ne.2 h'
  have gbH := Lib.hid gb; have bGH := Lib.hid bG
  have H1 := Lib.hid (H1.out _ gb)
  clear hr hc hd h h' gb bG
  go_enter Tryd.func3, Tryd.ntmps3
  go_wp2_with fail
  refine H1.out.mono ?_
  rintro _ w1 ⟨rfl, hb⟩
  have b1 := Lib.hid (bGH.out.below hb hsw); have hb1 := Lib.hid (gbH.out.trans (hb.mono gbH.out.size))
  have g0 := b1.out.cell (j := 0) (v := .int .i64 N) rfl; have g1 := b1.out.cell (j := 1) (v := .slice A len cap) rfl
  have H2 := Lib.hid (H2.out _ hb1.out)
  clear hb H1
  go_wp2_with fail
  refine H2.out.mono ?_
  rintro _ w2 ⟨rfl, hb⟩
  have b2 := Lib.hid (b1.out.below hb b1.out.lt); have hb2 := Lib.hid (hb1.out.trans (hb.mono hb1.out.size))
  have g0 := b2.out.cell (j := 0) (v := .int .i64 N) rfl; have g1 := b2.out.cell (j := 1) (v := .slice A len cap) rfl
  have H3 := Lib.hid (H3.out _ hb2.out)
  clear hb H2
  go_wp2_with fail
  refine H3.out.mono ?_
  rintro _ w3 ⟨rfl, hb⟩
  have b3 := Lib.hid (b2.out.below hb b2.out.lt); have hb3 := Lib.hid (hb2.out.trans (hb.mono hb2.out.size))
  have g0 := b3.out.cell (j := 0) (v := .int .i64 N) rfl; have g1 := b3.out.cell (j := 1) (v := .slice A len cap) rfl
  have H4 := Lib.hid (H4.out _ hb3.out)
  clear hb H3
  go_wp2_with fail
  refine H4.out.mono ?_
  rintro _ w4 ⟨rfl, hb⟩
  have hb4 := Lib.hid (hb3.out.trans (hb.mono hb3.out.size))
  clear hb H4
  go_wp2
  go_ret
  exact ⟨rfl, hb4.out⟩
set_option maxHeartbeats 3200000 in
set_option maxRecDepth 100000 in
theorem lanesFew_ok (n x y : Nat) (A : Option Addr) (len cap : Nat) (es : List E) (w : World) (hr : Rd w A len 3 (ps3 .i64 .i64 .i64 es)) (hcap : len ≤ cap) (hlen : len ≤ 9223372036854775807) (htb : Tb w) (htl : 0 < w.heap.size) (h : gchk n es = 0) (hx : x < n) (hy : y < n) (hxy : x ≠ y) (hna : adj es x y = false) (hna' : adj es y x = false) (hw : lwr n es x y = 0) :
    Calls Tryd.prog 3 #[.agg #[.int .i64 (n : Int), .slice A len cap], .int .i64 (x : Int), .int .i64 (y : Int)] w fun e w' => e = .returned (.bool true) ∧ Below w.heap.size w w' := by
  obtain ⟨_, h10, hl45, hok, _⟩ := gchk_ok h
  rw [Int.toNat_natCast] at hok
  rw [ps3_len hr] at hl45
  have gb := (Below.refl _ w).alloc (Nat.le_refl _) (.cells #[.int .i64 (n : Int), .slice A len cap] 24)
  have bG := Blk.new w 24 #[.int .i64 (n : Int), .slice A len cap]
  have hsw : w.heap.size < (w.alloc (.cells #[.int .i64 (n : Int), .slice A len cap] 24)).heap.size := by simp
  have g0 := bG.cell (j := 0) (v := .int .i64 (n : Int)) rfl; have g1 := bG.cell (j := 1) (v := .slice A len cap) rfl
  have H1 := Lib.hid (fun W (hb : Below w.heap.size w W) => apart_ok n x y A len cap es W (hr.later hb) hlen h hx hy hxy hna)
  have H2 := Lib.hid (fun W (hb : Below w.heap.size w W) => apart_ok n y x A len cap es W (hr.later hb) hlen h hy hx (Ne.symm hxy) hna')
  have H3 := Lib.hid (fun W (hb : Below w.heap.size w W) => wall_ok n x y A len cap es W (hr.later hb) hlen (htb.below htl hb) (Nat.lt_of_lt_of_le htl hb.size) h hx hy hxy hna)
  have H4 := Lib.hid (fun W (hb : Below w.heap.size w W) => waysCheck_any n A len cap es x y W (hr.later hb) hcap hlen)
  rw [hw] at H4
  have H5 := Lib.hid (fun i W (hb : Below w.heap.size w W) => degree_any n i A len cap es W (hr.later hb) hl45 hok)
  have H6 := Lib.hid (fun m W (hb : Below w.heap.size w W) hm => parted_any n x y m A len cap es W (hr.later hb) hl45 (by omega) hok hm hx hy)
  have hlaw := Lib.hid (fun K K' best f f' => lanes_law (K := K) (K' := K') (best := best) (f := f) (f' := f') h hxy hna)
  have hp := Nat.pow_le_pow_right (n := 2) (by omega) (show n ≤ 10 by omega)
  have gbH := Lib.hid gb; have bGH := Lib.hid bG
  have H1 := Lib.hid (H1.out _ gb)
  clear hr hw h hna hna' gb bG hok htb
  go_enter Tryd.func3, Tryd.ntmps3
  go_wp2_with fail
  refine H1.out.mono ?_
  rintro _ w1 ⟨A1, K, c1, f1, rfl, hF1, hS1, hb⟩
  have hF1H := Lib.hid (And.intro hF1 hS1)
  have b1 := Lib.hid (bGH.out.below hb hsw); have hb1 := Lib.hid (gbH.out.trans (hb.mono gbH.out.size))
  have g0 := b1.out.cell (j := 0) (v := .int .i64 (n : Int)) rfl; have g1 := b1.out.cell (j := 1) (v := .slice A len cap) rfl
  have H2 := Lib.hid (H2.out _ hb1.out)
  clear hb H1 hF1 hS1
  go_wp2_with fail
  refine H2.out.mono ?_
  rintro _ w2 ⟨A2, K2, c2, f2, rfl, hF2, hS2, hb⟩
  have hF2H := Lib.hid (And.intro hF2 hS2)
  have b2 := Lib.hid (b1.out.below hb b1.out.lt); have hb2 := Lib.hid (hb1.out.trans (hb.mono hb1.out.size))
  have g0 := b2.out.cell (j := 0) (v := .int .i64 (n : Int)) rfl; have g1 := b2.out.cell (j := 1) (v := .slice A len cap) rfl
  have H3 := Lib.hid (H3.out _ hb2.out)
  clear hb H2 hF2 hS2
  go_wp2_with fail
  refine H3.out.mono ?_
  rintro _ w3 ⟨best, rfl, hbn, hWI, hb⟩
  have b3 := Lib.hid (b2.out.below hb b2.out.lt); have hb3 := Lib.hid (hb2.out.trans (hb.mono hb2.out.size))
  have g0 := b3.out.cell (j := 0) (v := .int .i64 (n : Int)) rfl; have g1 := b3.out.cell (j := 1) (v := .slice A len cap) rfl
  obtain ⟨rfl, hd1, hd2, hK, hpt, hbx, hby⟩ := hlaw.out K K2 best f1 f2 hF1H.out.1 hF1H.out.2 hF2H.out.1 hF2H.out.2 hWI
  have H4 := Lib.hid (H4.out _ hb3.out)
  have H6a := Lib.hid (fun W (hb : Below w.heap.size w W) => H6.out best W hb (by omega))
  rw [decide_eq_true hpt] at H6a
  have H7 := Lib.hid (fun W => size_any best W (by omega))
  rw [← hK] at H7
  have H8 := Lib.hid (fun W => bit_any best x W (by omega) (by omega))
  rw [hbx] at H8
  have H9 := Lib.hid (fun W => bit_any best y W (by omega) (by omega))
  rw [hby] at H9
  have H5a := Lib.hid (H5.out x); have H5b := Lib.hid (H5.out y)
  have hd1I : (K : Int) ≤ degE es x := by omega
  have hd2I : (K : Int) ≤ degE es y := by omega
  generalize degE es x = D1 at *
  generalize degE es y = D2 at *
  clear hb H3 hWI hF1H hF2H hlaw hpt hbx hby hK H5 H6 hd1 hd2
  go_wp2_with fail
  refine H4.out.mono ?_
  rintro _ w4 ⟨rfl, hb⟩
  have b4 := Lib.hid (b3.out.below hb b3.out.lt); have hb4 := Lib.hid (hb3.out.trans (hb.mono hb3.out.size))
  have g0 := b4.out.cell (j := 0) (v := .int .i64 (n : Int)) rfl; have g1 := b4.out.cell (j := 1) (v := .slice A len cap) rfl
  have H5a := Lib.hid (H5a.out _ hb4.out)
  clear hb H4
  go_wp2_with fail
  refine H5a.out.mono ?_
  rintro _ w5 ⟨rfl, hb⟩
  have b5 := Lib.hid (b4.out.below hb b4.out.lt); have hb5 := Lib.hid (hb4.out.trans (hb.mono hb4.out.size))
  have g0 := b5.out.cell (j := 0) (v := .int .i64 (n : Int)) rfl; have g1 := b5.out.cell (j := 1) (v := .slice A len cap) rfl
  have H5b := Lib.hid (H5b.out _ hb5.out)
  clear hb H5a
  go_wp2_with fail
  refine H5b.out.mono ?_
  rintro _ w6 ⟨rfl, hb⟩
  have b6 := Lib.hid (b5.out.below hb b5.out.lt); have hb6 := Lib.hid (hb5.out.trans (hb.mono hb5.out.size))
  have g0 := b6.out.cell (j := 0) (v := .int .i64 (n : Int)) rfl; have g1 := b6.out.cell (j := 1) (v := .slice A len cap) rfl
  clear hb H5b
  go_wp2_with fail
  refine (H7.out _).mono ?_
  rintro _ _ ⟨rfl, rfl⟩
  have H6b := Lib.hid (H6a.out _ hb6.out)
  clear H7 H6a
  go_wp2_with fail
  refine H6b.out.mono ?_
  rintro _ w8 ⟨rfl, hb⟩
  have hb8 := Lib.hid (hb6.out.trans (hb.mono hb6.out.size))
  clear hb H6b
  go_wp2_with fail
  refine (H8.out _).mono ?_
  rintro _ _ ⟨rfl, rfl⟩
  go_wp2_with fail
  refine (H9.out _).mono ?_
  rintro _ _ ⟨rfl, rfl⟩
  go_wp2
  go_ret
  exact ⟨rfl, hb8.out⟩
theorem lwr_symm {N a b : Int} {es : List E} (h : lwr N es a b = 0) : lwr N es b a = 0 := by
  obtain ⟨h0, n, x, y, rfl, rfl, rfl, hx, hy, hxy, hna⟩ := lwr_zero h
  have hl : ¬ lbad n y x := by unfold lbad; omega
  unfold lwr
  rw [if_neg (by simp [h0]), if_neg hl, Int.toNat_natCast, Int.toNat_natCast, adj_symm es y x, hna]; rfl
theorem lanesFew_any (N : Int) (A : Option Addr) (len cap : Nat) (es : List E) (a b : Int) (w : World) (hr : Rd w A len 3 (ps3 .i64 .i64 .i64 es)) (hcap : len ≤ cap) (hlen : len ≤ 9223372036854775807) (htb : Tb w) (htl : 0 < w.heap.size) :
    Calls Tryd.prog 3 #[.agg #[.int .i64 N, .slice A len cap], .int .i64 a, .int .i64 b] w fun e w' => e = .returned (.bool true) ∧ Below w.heap.size w w' := by
  by_cases h : lwr N es a b = 0
  · have h9 := h
    obtain ⟨h0, n, x, y, rfl, rfl, rfl, hx, hy, hxy, hna⟩ := lwr_zero h
    exact lanesFew_ok n x y A len cap es w hr hcap hlen htb htl h0 hx hy hxy hna (by rw [adj_symm es y x]; exact hna) h9
  · exact lanesFew_bad N A len cap es a b w hr hcap hlen h fun h' => h (lwr_symm h')
end Go.Proofs.YteadceghjfaekaaDoor
