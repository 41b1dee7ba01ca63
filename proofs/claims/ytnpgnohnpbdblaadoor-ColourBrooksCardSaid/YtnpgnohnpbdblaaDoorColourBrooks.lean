/- ColourBrooks: the walk. -/
import Derived.Test.YtnpgnohnpbdblaaDoorBrooksOne
import Derived.Test.YtnpgnohnpbdblaaDoorGood
import Derived.Test.YtnpgnohnpbdblaaDoorPaintD
import Derived.Test.YtnpgnohnpbdblaaDoorDegree
import Derived.Test.YtnpgnohnpbdblaaDoorRefParts
import Derived.Test.YtnpgnohnpbdblaaDoorUnlike
namespace Go.Proofs.YtnpgnohnpbdblaaDoor
open Go.RowKit Go.Shelf

theorem own_capB {w : World} {b e s n c : Nat} {A : Option Addr} {xs : List Value} (h : w.ownsRow b e s (.slice A n c) n xs) : n ≤ c := by
  rcases h.2 with ⟨h, h0⟩ | ⟨g, cap, cur, h, _, _, hc, _⟩
  · cases h; omega
  · cases h; exact hc
theorem mxK_le {es : List E} : ∀ k, mxK es k ≤ es.length
  | 0 => Nat.zero_le _
  | k + 1 => by
    have := mxK_le (es := es) k
    have h2 : degE es k ≤ es.length := List.length_filter_le _ _
    unfold mxK
    split <;> omega
theorem half_in (N : Nat) (hN : N ≤ 10) (h1 : 0 < N) : IntKind.i64.wrap ((N : Int) - 1) = ((N - 1 : Nat) : Int) ∧ IntKind.i64.wrap ((N : Int) * ((N - 1 : Nat) : Int)) = ((N * (N - 1) : Nat) : Int) ∧ wrap64 (((N * (N - 1) : Nat) : Int) / 2) = ((N * (N - 1) / 2 : Nat) : Int) ∧ ((N : Int) % 2 == 1) = (N % 2 == 1) := by
  have : N = 1 ∨ N = 2 ∨ N = 3 ∨ N = 4 ∨ N = 5 ∨ N = 6 ∨ N = 7 ∨ N = 8 ∨ N = 9 ∨ N = 10 := by omega
  rcases this with rfl | rfl | rfl | rfl | rfl | rfl | rfl | rfl | rfl | rfl <;> exact ⟨by decide, by decide, by unfold wrap64; omega, by decide⟩
set_option maxHeartbeats 3200000 in
set_option maxRecDepth 100000 in
theorem brooks_walk (N : Int) (A : Option Addr) (len cap : Nat) (es : List E) (w : World) (hr : Rd w A len 3 (ps3 .i64 .i64 .i64 es)) (hlen : len ≤ 9223372036854775807) (hcap : len ≤ cap) (htb : Tb w) (hgt : 0 < w.heap.size) :
    Calls Tryd.prog 6 #[.agg #[.int .i64 N, .slice A len cap]] w fun e w' => e = .returned (.bool true) ∧ Below w.heap.size w w' := by
  have hel : es.length = len := ps3_len hr
  have gb := (Below.refl _ w).alloc (Nat.le_refl _) (.cells #[.int .i64 N, .slice A len cap] 24)
  have hK := Blk.new w 24 #[.int .i64 (N : Int), .slice A len cap]
  have g0 := hK.cell (j := 0) rfl
  have g1 := hK.cell (j := 1) rfl
  by_cases hok : gchk N es = 0
  · obtain ⟨h0, h10, h45, hokE, _⟩ := gchk_ok hok
    obtain ⟨n, rfl⟩ := Int.eq_ofNat_of_zero_le h0
    rw [Int.toNat_natCast] at hokE
    have hn10 : n ≤ 10 := by omega
    have hl45 : len ≤ 45 := by omega
    have HT := Lib.hid (least_ok n A len cap es _ (hr.later gb) hl45 hok (htb.below hgt gb) (by simp))
    have HG := Lib.hid (fun W (h : Below w.heap.size w W) => good_any n A len cap es W (hr.later h) hlen hcap)
    rw [hok] at HG
    have HD := Lib.hid (fun i W (h : Below w.heap.size w W) => degree_any n i A len cap es W (hr.later h) hl45 hokE)
    have HP := Lib.hid (fun W (h : Below w.heap.size w W) => refParts_any n A len cap es W (hr.later h) hn10 hl45 hokE)
    have hlaw := Lib.hid (fun k (hk : IsChi (nearW n es) n k) => brooks_law hok hk)
    have gbH := Lib.hid gb; have hKH := Lib.hid hK; have helH := Lib.hid hel
    clear hr gb hK hok hokE htb h0 h10 h45
    go_enter Tryd.func6, Tryd.ntmps6
    go_wp2_with fail
    refine HT.out.mono ?_
    rintro _ w1 ⟨k, gl, L, rfl, -, -, hchi, hkn, hb1⟩
    obtain ⟨hA, hB, hC, hD⟩ := hlaw.out k hchi
    have hbw := gbH.out.trans (hb1.mono (by simp))
    have hK1 := hKH.out.below hb1 hKH.out.lt
    have q0 := hK1.cell (j := 0) rfl
    have q1 := hK1.cell (j := 1) rfl
    have HG1 := Lib.hid (HG.out w1 hbw)
    have hAH := Lib.hid hA; have hBH := Lib.hid hB; have hCH := Lib.hid hC; have hDH := Lib.hid hD
    have hbwH := Lib.hid hbw; have hK1H := Lib.hid hK1
    clear hb1 hbw hK1 g0 g1 HT hA hB hC hD hlaw hchi
    go_wp2_with fail
    refine HG1.out.mono ?_
    rintro _ w2 ⟨rfl, hb2⟩
    have hbw2 := Lib.hid (hbwH.out.trans (hb2.mono hbwH.out.size))
    have hK2 := Lib.hid (hK1H.out.below hb2 hK1H.out.lt)
    have q0 := hK2.out.cell (j := 0) rfl
    have q1 := hK2.out.cell (j := 1) rfl
    have hS2 : w.heap.size < w2.heap.size := hK2.out.lt
    have hk1 : 0 < n → decide ((k : Int) < 1) = false := fun h => decide_eq_false (by have := hBH.out h; omega)
    clear hb2 HG1 hbwH hK1H HG
    by_cases hn0 : 0 < n
    · have hk1' := hk1 hn0
      have hn0' : decide (0 < (n : Int)) = true := decide_eq_true (by omega)
      have hn0e : ((n : Int) == 0) = false := by simp; omega
      obtain ⟨hw1, hw2, hw3, hw4⟩ := half_in n hn10 hn0
      have hCn := Lib.hid (hCH.out hn0); have hDn := Lib.hid (hDH.out hn0)
      clear hk1 hBH hCH hDH
      have hw1H := Lib.hid hw1; have hw2H := Lib.hid hw2; have hw3H := Lib.hid hw3; have hw4H := Lib.hid hw4
      have hn0eH := Lib.hid hn0e
      clear hw1 hw2 hw3 hw4 hn0e
      go_wp2
      go_loopw [6, 7, 8] (fun m r iv wr => ∃ i : Nat, i ≤ n ∧ iv = .int .i64 (i : Int) ∧ m = .int .i64 ((mxK es i : Nat) : Int) ∧ r = .bool (rgK es i) ∧ Below w2.heap.size w2 wr) (fun _ _ x _ => n - (intOf x).toNat)
      case atStart => exact ⟨0, Nat.zero_le _, rfl, rfl, rfl, Below.refl _ _⟩
      case round =>
        obtain ⟨i, hi, rfl, rfl, rfl, hb⟩ := hrel
        have hKr := hK2.out.below hb hS2
        have q0 := hKr.cell (j := 0) rfl
        have q1 := hKr.cell (j := 1) rfl
        have hbH := Lib.hid hb
        have hbwr := Lib.hid (hbw2.out.trans (hb.mono (by omega)))
        have hmle := mxK_le (es := es) i
        rw [helH.out] at hmle
        by_cases hlt : i < n
        · have hlt' : (i : Int) < n := by omega
          have HDu := Lib.hid (HD.out i wr hbwr.out)
          have hm1 := Lib.hid (show mxK es (i + 1) = if mxK es i < degE es i then degE es i else mxK es i from rfl)
          have hr1 := Lib.hid (rgK_succ es i)
          have hdle : degE es i ≤ es.length := List.length_filter_le _ _
          rw [helH.out] at hdle
          clear hb hKr hn0'
          generalize mxK es i = mx at *
          generalize degE es i = d at *
          generalize rgK es i = rb at *
          obtain ⟨b2, hb2⟩ : ∃ b2, ((d : Int) == 2) = b2 := ⟨_, rfl⟩
          have hb2' := Lib.hid (show (d == 2) = b2 by rw [← hb2, Bool.eq_iff_iff, beq_iff_eq, beq_iff_eq]; omega)
          rw [hb2'.out] at hr1
          by_cases hdm : mx < d
          · have hdm' : decide ((mx : Int) < (d : Int)) = true := decide_eq_true (by omega)
            rw [if_pos hdm] at hm1
            cases rb
            · go_wp2_with fail
              refine HDu.out.mono ?_
              rintro _ w4 ⟨rfl, hb4⟩
              have hb4H := Lib.hid (hbH.out.trans (hb4.mono hbH.out.size))
              clear hb4
              go_wp2
              go_roundw
              case rel => exact ⟨i + 1, by omega, by go_num, by rw [hm1.out], by rw [hr1.out]; rfl, hb4H.out⟩
              case measure => simp [intOf]; omega
            · go_wp2_with fail
              refine HDu.out.mono ?_
              rintro _ w4 ⟨rfl, hb4⟩
              have hb4H := Lib.hid (hbH.out.trans (hb4.mono hbH.out.size))
              clear hb4
              go_wp2
              go_roundw
              case rel => exact ⟨i + 1, by omega, by go_num, by rw [hm1.out], by rw [hr1.out]; rfl, hb4H.out⟩
              case measure => simp [intOf]; omega
          · have hdm' : decide ((mx : Int) < (d : Int)) = false := decide_eq_false (by omega)
            rw [if_neg hdm] at hm1
            cases rb
            · go_wp2_with fail
              refine HDu.out.mono ?_
              rintro _ w4 ⟨rfl, hb4⟩
              have hb4H := Lib.hid (hbH.out.trans (hb4.mono hbH.out.size))
              clear hb4
              go_wp2
              go_roundw
              case rel => exact ⟨i + 1, by omega, by go_num, by rw [hm1.out], by rw [hr1.out]; rfl, hb4H.out⟩
              case measure => simp [intOf]; omega
            · go_wp2_with fail
              refine HDu.out.mono ?_
              rintro _ w4 ⟨rfl, hb4⟩
              have hb4H := Lib.hid (hbH.out.trans (hb4.mono hbH.out.size))
              clear hb4
              go_wp2
              go_roundw
              case rel => exact ⟨i + 1, by omega, by go_num, by rw [hm1.out], by rw [hr1.out]; rfl, hb4H.out⟩
              case measure => simp [intOf]; omega
        · obtain rfl : n = i := by omega
          have HPu := Lib.hid (HP.out wr hbwr.out)
          have hSr : w.heap.size < wr.heap.size := hKr.lt
          have hKrH := Lib.hid hKr
          have hn0e := hn0eH.out
          clear hb hKr HD HP hn0'
          have hAH2 := hAH.out
          have hAd : decide ((k : Int) ≤ ((mxK es n : Nat) : Int) + 1) = true := decide_eq_true (by omega)
          have hAdH := Lib.hid hAd
          clear hAH hAH2 hAd
          go_wp2_with fail
          refine HPu.out.mono ?_
          rintro _ w4 ⟨v, p, rfl, hown, hpart, hb4⟩
          obtain ⟨B, cB, rfl⟩ := own_slice hown
          have hpl := own_capB hown
          have hbF := Lib.hid (hbwr.out.trans (hb4.mono hbwr.out.size))
          have hK4 := hKrH.out.below hb4 hSr
          have q0 := hK4.cell (j := 0) rfl
          have q1 := hK4.cell (j := 1) rfl
          have HU := Lib.hid (unlike_any B n cB ((List.range n).map fun i => ((p i : Nat) : Int)) w4 (by
            rw [show ints .i64 ((List.range n).map fun i => ((p i : Nat) : Int)) = row n (fun i => ((p i : Nat) : Int)) by simp [row, ints]]
            exact Rd.of_own hown) (by omega) hpl)
          have hlk := Lib.hid (fun h => lkd_of hpart h)
          clear hown hpart hb4 hK4 hKrH HPu
          generalize unl ((List.range n).map fun i => ((p i : Nat) : Int)) = u at *
          obtain ⟨mx, hmx⟩ : ∃ mx, mxK es n = mx := ⟨_, rfl⟩
          obtain ⟨rb, hrb⟩ : ∃ rb, rgK es n = rb := ⟨_, rfl⟩
          rw [hmx] at hCn hDn hAdH hmle
          rw [hrb] at hCn hDn
          rw [hmx, hrb]
          by_cases hu1 : u = 1
          · subst hu1
            have hL := hlk.out rfl
            have hDn2 := Lib.hid (hDn.out hL)
            have hw1 := hw1H.out; have hw2 := hw2H.out; have hw3 := hw3H.out; have hw4 := hw4H.out
            have hCn2 := Lib.hid hCn.out
            rw [helH.out] at hCn2 hDn2
            clear hL hlk hDn hCn hw1H hw2H hw3H hw4H hmx hrb
            generalize n * (n - 1) / 2 = hf at *
            generalize n * (n - 1) = n2 at *
            generalize n - 1 = n1 at *
            by_cases hfe : len = hf
            · have hfe' : ((len : Int) == (hf : Int)) = true := by simp; omega
              have hkk := hCn2.out (Or.inl hfe)
              have hkk' : ((k : Int) == (mx : Int) + 1) = true := by simp; omega
              clear hfe
              go_wp2_with fail
              refine HU.out.mono ?_
              rintro _ w5 ⟨rfl, rfl⟩
              go_wp2
              go_ret
              exact ⟨rfl, hbF.out⟩
            · have hfe' : ((len : Int) == (hf : Int)) = false := by simp; omega
              by_cases ho : rb = true ∧ n % 2 = 1
              · have hkk := hCn2.out (Or.inr ho)
                have hkk' : ((k : Int) == (mx : Int) + 1) = true := by simp; omega
                obtain ⟨rfl, ho2⟩ := ho
                rw [ho2] at hw4
                have hw4' : ((n : Int) % 2 == 1) = true := hw4
                clear hfe hw4 hCn2 hDn2 ho2
                go_wp2_with fail
                refine HU.out.mono ?_
                rintro _ w5 ⟨rfl, rfl⟩
                go_wp2
                go_ret
                exact ⟨rfl, hbF.out⟩
              · have hkk := hDn2.out (by rintro (h | h); exact hfe h; exact ho h)
                have hkk' : decide ((k : Int) ≤ (mx : Int)) = true := decide_eq_true (by omega)
                cases rb
                · clear hfe hw4 hCn2 hDn2 ho
                  go_wp2_with fail
                  refine HU.out.mono ?_
                  rintro _ w5 ⟨rfl, rfl⟩
                  go_wp2
                  go_ret
                  exact ⟨rfl, hbF.out⟩
                · have ho2 : (n % 2 == 1) = false := by
                    rw [beq_eq_false_iff_ne]; exact fun h => ho ⟨rfl, h⟩
                  rw [ho2] at hw4
                  clear hfe hCn2 hDn2 ho
                  go_wp2_with fail
                  refine HU.out.mono ?_
                  rintro _ w5 ⟨rfl, rfl⟩
                  go_wp2
                  go_ret
                  exact ⟨rfl, hbF.out⟩
          · have hu1' : ((u : Int) != 1) = true := by simp; omega
            have hAd := hAdH.out
            clear hCn hDn hlk hw1H hw2H hw3H hw4H
            go_wp2_with fail
            refine HU.out.mono ?_
            rintro _ w5 ⟨rfl, rfl⟩
            go_wp2
            go_ret
            exact ⟨rfl, hbF.out⟩
    · obtain rfl : n = 0 := by omega
      have hAH2 := hAH.out
      have hAd : decide ((k : Int) ≤ 1) = true := decide_eq_true (by have : mxK es 0 = 0 := rfl; omega)
      clear hk1 hBH hCH hDH hAH hAH2 hn0 HD HP
      obtain ⟨wo, hwo⟩ : ∃ wo : World, wo = w2 := ⟨_, rfl⟩
      go_wp2
      go_loopw [6, 7, 8] (fun m r iv wr => m = .int .i64 0 ∧ iv = .int .i64 0 ∧ r = .bool true ∧ wr = wo) (fun _ _ _ _ => 0)
      case atStart => exact ⟨rfl, rfl, rfl, hwo.symm⟩
      case round =>
        obtain ⟨rfl, rfl, rfl, rfl⟩ := hrel
        subst hwo
        go_wp2
        go_ret
        exact ⟨rfl, hbw2.out⟩
  · have HT := Lib.hid (least_bad N A len cap es _ (hr.later gb) hlen (by simpa using hok))
    have HG := Lib.hid (fun W (h : Below w.heap.size w W) => good_any N A len cap es W (hr.later h) hlen hcap)
    have e1 : (gchk N es == 0) = false := by simpa using hok
    rw [e1] at HG
    have gbH := Lib.hid gb; have hKH := Lib.hid hK
    clear hr gb hK hok htb
    generalize gchk N es = q at *
    go_enter Tryd.func6, Tryd.ntmps6
    go_wp2_with fail
    refine HT.out.mono ?_
    rintro _ w1 ⟨z, rfl, hz, hb1⟩
    have hbw := gbH.out.trans (hb1.mono (by simp))
    have hK1 := hKH.out.below hb1 hKH.out.lt
    have q0 := hK1.cell (j := 0) rfl
    have q1 := hK1.cell (j := 1) rfl
    have HG1 := Lib.hid (HG.out w1 hbw)
    have hbwH := Lib.hid hbw; have hK1H := Lib.hid hK1
    clear hb1 hbw hK1 g0 g1 HT
    go_wp2_with fail
    refine HG1.out.mono ?_
    rintro _ w2 ⟨rfl, hb2⟩
    have hbw2 := hbwH.out.trans (hb2.mono hbwH.out.size)
    go_wp2
    go_ret
    exact ⟨rfl, hbw2⟩
theorem colourBrooks_any (N : Int) (A : Option Addr) (len cap : Nat) (es : List E) (w : World) (_ : (Lit.int .i64 N).wf = true) (hr : Rd w A len 3 (ps3 .i64 .i64 .i64 es)) (hlen : len ≤ maxLen) (hcap : len ≤ cap) (_ : ∀ a ∈ es, (Lit.int .i64 a.1).wf = true ∧ (Lit.int .i64 a.2.1).wf = true ∧ (Lit.int .i64 a.2.2).wf = true)
    (htb : Tb w) (hg : 0 < w.heap.size) :
    Calls Tryd.prog 6 #[.agg #[.int .i64 N, .slice A len cap]] w fun e w' => e = .returned (.bool true) ∧ Below w.heap.size w w' := by
  unfold maxLen at hlen
  exact brooks_walk N A len cap es w hr (by omega) hcap htb hg
end Go.Proofs.YtnpgnohnpbdblaaDoor
