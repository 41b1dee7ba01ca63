/- NewsBack: the walk. -/
import Derived.Test.YtmcijljadcfpmaaLawB
import Derived.Test.YtmcijljadcfpmaaWf
namespace Go.Proofs.Ytmcijljadcfpmaa
open Go.RowKit

theorem rev_drop (cs : List (Int × Int)) (j : Nat) (h : j < cs.length) : (cs.drop j).reverse = (cs.drop (j + 1)).reverse ++ [cs.getD j (0, 0)] := by
  rw [List.drop_eq_getElem_cons h, List.reverse_cons]; simp [List.getD, h]

set_option maxRecDepth 100000 in
set_option maxHeartbeats 800000 in
theorem back_any (n : Int) (A : Option Addr) (len cap : Nat) (cs : List (Int × Int)) (w : World) (hr : Rd w A len 2 (ps2 .i64 .i64 cs)) (hlen : len * 16 ≤ 140737488351232) :
    Calls Try.prog 4 #[.int .i64 n, .slice A len cap] w fun e w' => e = .returned (.bool true) ∧ Below w.heap.size w w' := by
  have hcl := Lib.hid (ps2_len hr)
  have hrH := Lib.hid hr; clear hr
  go_enter Try.func4, Try.ntmps4
  go_wp2_with fail
  refine (know_any n A len cap cs _ hrH.out (by omega)).mono ?_
  rintro e w1 ⟨v1, rfl, hk1, hb1⟩
  have hr1 := Lib.hid (hrH.out.later hb1)
  go_wp2
  go_loopw [7, 8] (fun v i wr => ∃ k : Nat, k ≤ len ∧ i = .int .i64 ((k : Int) - 1) ∧ wr.ownsRow w1.heap.size 24 2 v (len - k) (ps2 .i64 .i64 (cs.drop k).reverse) ∧ Below w1.heap.size w1 wr) (fun _ i _ => ((intOf i) + 1).toNat)
  case atStart => exact ⟨len, Nat.le_refl _, rfl, by rw [Nat.sub_self, List.drop_of_length_le (by rw [hcl.out]; exact Nat.le_refl _)]; exact World.ownsRow_nil _ _ _ _, Below.refl _ _⟩
  case round =>
    obtain ⟨k, hk, rfl, hown, hb⟩ := hrel
    by_cases h0 : k = 0
    · subst h0
      rw [Nat.sub_zero, List.drop_zero] at hown
      obtain ⟨A2, c2, rfl⟩ := own_slice hown
      have hr2 := Lib.hid (Rd.of_own hown)
      have hb2 := hb1.trans (hb.mono hb1.size)
      clear hown
      go_wp2_with fail
      refine (know_any n A2 len c2 cs.reverse _ hr2.out (by omega)).mono ?_
      rintro e w2 ⟨v2, rfl, hk2, hb3⟩
      have hbc := hb.trans (hb3.mono hb.size)
      rw [chk_reverse n cs]
      rw [KRes, chk_reverse] at hk2
      have hck := Lib.hid (callsCheck_any n A len cap cs w2 (hr1.out.later hbc) (by omega))
      have hbw := hb1.trans (hbc.mono hb1.size)
      go_wp2_with fail
      refine hck.out.mono ?_
      rintro e w3 ⟨rfl, hb4⟩
      have hb5 := hbw.trans (hb4.mono hbw.size)
      by_cases hc0 : chk n cs = 0
      · have hc0b : (chk n cs != 0) = false := by rw [hc0]; rfl
        have hc0H := Lib.hid hc0
        obtain ⟨hn1, hn8, hl64, hokc⟩ := chk_ok hc0
        obtain ⟨m, rfl⟩ := Int.eq_ofNat_of_zero_le (show 0 ≤ n by omega)
        rw [Int.toNat_natCast] at hokc
        have hokH := Lib.hid hokc; clear hokc
        rw [KRes, if_pos hc0] at hk1
        rw [if_pos hc0] at hk2
        obtain ⟨g1, cap1, rfl, _, _⟩ := hk1.form (by omega)
        obtain ⟨g2, cap2, rfl, _, _⟩ := hk2.form (by omega)
        rw [Int.toNat_natCast] at hk1 hk2
        have hrl : Rd w3 (some ⟨g1, 0, none⟩) m 1 (wds (know m cs)) := (((Rd.of_own hk1).later hbc).later hb4)
        have hrm : Rd w3 (some ⟨g2, 0, none⟩) m 1 (wds (know m cs.reverse)) := ((Rd.of_own hk2).later hb4)
        have hrlH := Lib.hid hrl; clear hrl hk1
        have hrmH := Lib.hid hrm; clear hrm hk2 hc0 hb1 hb hb2 hb3 hbc hbw hb4 hk
        go_wp2
        go_loopw [11] (fun i wr => ∃ k d : Nat, k ≤ m ∧ i = .int .i64 k ∧ wr = w3.drewN d) (fun i _ => m - (intOf i).toNat)
        case atStart => exact ⟨0, 0, Nat.zero_le _, rfl, rfl⟩
        case round =>
          obtain ⟨k, d, hk, rfl, rfl⟩ := hrel
          by_cases hlt : k < m
          · go_wp2
            go_loopw [12] (fun i wr => ∃ j d : Nat, j ≤ m ∧ i = .int .i64 j ∧ wr = w3.drewN d) (fun i _ => m - (intOf i).toNat)
            case atStart => exact ⟨0, d, Nat.zero_le _, rfl, rfl⟩
            case round =>
              obtain ⟨j, d, hj, rfl, rfl⟩ := hrel
              by_cases hlt2 : j < m
              · have hKK := K_reverse cs hokH.out k j hlt hlt2
                unfold K at hKK
                obtain ⟨_, _, hA, _, hcl⟩ := hrlH.out.wd hlt
                injection hA with hA; injection hA with hA hA2 _
                subst hA; subst hA2
                obtain ⟨_, _, hA, _, hcm⟩ := hrmH.out.wd hlt2
                injection hA with hA; injection hA with hA hA2 _
                subst hA; subst hA2
                rw [Nat.zero_add] at hcl hcm
                have hp := getD_lt (know_lt (n := m) (by omega) cs) k
                have hq := getD_lt (know_lt (n := m) (by omega) cs.reverse) j
                generalize (know m cs).getD k 0 = p at *
                generalize (know m cs.reverse).getD j 0 = q at *
                have hB1 : (decide (0 ≤ (j : Int)) && decide ((j : Int) < 32) && p.testBit (j : Int).toNat) = p.testBit j := by
                  rw [Int.toNat_natCast, decide_eq_true (show 0 ≤ (j : Int) by omega), decide_eq_true (show (j : Int) < 32 by omega)]; rfl
                have hB2 : (decide (0 ≤ (k : Int)) && decide ((k : Int) < 32) && q.testBit (k : Int).toNat) = p.testBit j := by
                  rw [Int.toNat_natCast, decide_eq_true (show 0 ≤ (k : Int) by omega), decide_eq_true (show (k : Int) < 32 by omega), hKK]; rfl
                have C1 := fun W => bit_any p (j : Int) W (by omega)
                have C2 := fun W => bit_any q (k : Int) W (by omega)
                rw [hB1] at C1
                rw [hB2] at C2
                have C1H := Lib.hid C1; have C2H := Lib.hid C2
                clear C1 C2 hB1 hB2 hKK hp hq
                generalize p.testBit j = bb at *
                have hk0 : 0 ≤ (k : Int) := by omega
                have hk1 : (k : Int) < m := by omega
                have hj0 : 0 ≤ (j : Int) := by omega
                have hj1 : (j : Int) < m := by omega
                go_wp2
                go_quiet ((go_at_call 8; first | (with_reducible exact quiet_add_left (C1H.out _)) | (with_reducible exact quiet_add_left (C2H.out _)) | (with_reducible exact quiet_left (C1H.out _)) | (with_reducible exact quiet_left (C2H.out _))))
                go_wp2
                go_roundw
                case rel => exact ⟨j + 1, _, by omega, by go_num, rfl⟩
                case measure => simp [intOf]; omega
              · go_wp2
                go_roundw
                case rel => exact ⟨k + 1, _, by omega, by go_num, rfl⟩
                case measure => simp [intOf]; omega
          · go_wp2
            go_ret
            exact ⟨rfl, below_drewN hb5 _⟩
      · have hc0b : (chk n cs != 0) = true := by simpa using hc0
        have hc0H := Lib.hid hc0; clear hc0
        go_wp2
        go_ret
        exact ⟨rfl, hb5⟩
    · obtain ⟨j, rfl⟩ : ∃ j, k = j + 1 := ⟨k - 1, by omega⟩
      rw [show ((j + 1 : Nat) : Int) - 1 = (j : Int) by omega]
      have hlt : j < len := by omega
      obtain ⟨b, o, rfl, _, hc1, hc2⟩ := (hr1.out.later hb).pair hlt
      have hownH := Lib.hid hown
      have hsn := Lib.hid (rev_drop cs j (by rw [hcl.out]; exact hlt))
      clear h0 hown
      generalize cs.getD j (0, 0) = c at *
      obtain ⟨a, b'⟩ := c
      dsimp only at hc1 hc2
      go_wp2_with (at_builtin; refine wpList_app (s := .tmp 26) (x := .tmp 31) _ ti22 (hownH.out.alloc _) (rd_new2 wr (.int .i64 a) (.int .i64 b') 24) (ps2_one (l := [(a, b')])) (by omega) (by omega) (hb.alloc hb.size _).size rfl rfl rfl rfl ?_)
      intro v' w2 hown' hg hat
      have hb' : Below w1.heap.size w1 w2 := (hb.alloc hb.size _).grown hg (hb.alloc hb.size _).size (fun g hg' => (hownH.out.lt g hg').1)
      clear hg hat
      go_wp2
      go_roundw
      case rel =>
        refine ⟨j, by omega, rfl, ?_, hb'⟩
        rw [hsn.out, show len - j = len - (j + 1) + 1 by omega]
        rw [show ps2 IntKind.i64 IntKind.i64 ((List.drop (j + 1) cs).reverse ++ [(a, b')]) = ps2 .i64 .i64 (List.drop (j + 1) cs).reverse ++ [.int .i64 a, .int .i64 b'] by simp [ps2]]
        exact hown'
      case measure => simp [intOf]
end Go.Proofs.Ytmcijljadcfpmaa
