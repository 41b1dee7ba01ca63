/- BeatsKing: the walk. -/
import Derived.Test.YtnlgmjigadgneaaDoorKingLaw
namespace Go.Proofs.YtnlgmjigadgneaaDoor
open Go.RowKit Go.Shelf

theorem any_range_next (p : Nat → Bool) (k : Nat) : (List.range (k + 1)).any p = ((List.range k).any p || p k) := by simp [List.range_succ]
open Classical in
set_option maxHeartbeats 3200000 in
set_option maxRecDepth 100000 in
theorem beatsKing_any (A : Option Addr) (len cap : Nat) (ts : List Nat) (w : World) (hr : Rd w A len 1 (wds ts)) (hl : len ≤ 9223372036854775807) (hwf : ∀ x ∈ ts, x < 4294967296) (htb : Tb w) (hg : 0 < w.heap.size) :
    Calls Tryd.prog 3 #[.slice A len cap] w fun e w' => e = .returned (.bool true) ∧ Below w.heap.size w w' := by
  by_cases hT : Tour ts
  · have hel : ts.length = len := by simpa [wds] using hr.1
    have hlen : len ≤ 8 := by rw [← hel]; exact hT.len
    have HK := Lib.hid (kings_ok A len cap ts w hr hwf hT htb hg)
    have hrH := Lib.hid hr; have helH := Lib.hid hel; have hTH := Lib.hid hT; have hwfH := Lib.hid hwf
    have hltH := Lib.hid (fun i (hi : i < len) => show ts.getD i 0 < 1024 by
      have := hT.lt i (by rw [hel]; exact hi)
      have h2 : 2 ^ ts.length ≤ 2 ^ 8 := Nat.pow_le_pow_right (by omega) hT.len
      omega)
    have hwl := kingsW_lt ts len
    have hp8 : 2 ^ len ≤ 2 ^ 8 := Nat.pow_le_pow_right (by omega) hlen
    have hone := two_pow_u32 len (by omega)
    have hw0 : 0 < len → kingsW ts len ≠ 0 := fun h0 => by
      obtain ⟨i, hi, _, hmax⟩ := most_of (fun k => popc 10 (ts.getD k 0)) (fun _ => True) ts.length ⟨0, by rw [hel]; exact h0, trivial⟩
      have hk := landau hT hi (fun k hk => hmax k hk trivial)
      intro hz
      have := kingsW_bit (ts := ts) len i
      rw [hz, Nat.zero_testBit, hk] at this
      simp at this
      omega
    have hz0 : len = 0 → kingsW ts len = 0 := fun h => by rw [h]; rfl
    have hbitH := Lib.hid (fun i (hi : i < len) => show (kingsW ts len).testBit i = isK ts i by rw [kingsW_bit]; simp [hi])
    have hlanH := Lib.hid (fun i (hi : i < len) => landau hT (i := i) (by rw [hel]; exact hi))
    have hmauH := Lib.hid (fun i j (hi : i < len) (hj : j < len) => maurer hT (i := i) (j := j) (by rw [hel]; exact hi) (by rw [hel]; exact hj))
    clear hr hwf htb hel hT
    generalize hkw : kingsW ts len = kw at *
    generalize hP : 2 ^ len = P at *
    clear hkw hP
    go_enter Tryd.func3, Tryd.ntmps3
    go_wp2_with fail
    refine HK.out.mono ?_
    rintro e w1 ⟨rfl, hb1⟩
    have HP := Lib.hid (players_any A len cap ts w1 (hrH.out.later hb1) hl hwfH.out)
    rw [decide_eq_true hTH.out] at HP
    go_wp2_with fail
    refine HP.out.mono ?_
    rintro e w2 ⟨rfl, hb2⟩
    have hbb := hb1.trans (hb2.mono hb1.size)
    have hr2 := Lib.hid (hrH.out.later hbb)
    clear HK HP hb1 hb2
    obtain ⟨W, rfl⟩ : ∃ W : World, W = w2 := ⟨_, rfl⟩
    go_wp2
    go_loop [5, 7, 25] (fun m _ i => ∃ (k mo : Nat), k ≤ len ∧ i = .int .i64 k ∧ m = .int .i64 mo ∧ mo ≤ 10 ∧ (∀ q, q < k → popc 10 (ts.getD q 0) ≤ mo)) (fun _ _ i => len - (intOf i).toNat)
    case atStart => exact ⟨0, 0, Nat.zero_le _, rfl, rfl, by omega, fun q hq => absurd hq (by omega)⟩
    case round =>
      obtain ⟨k, mo, hk, rfl, rfl, hmo, hmax⟩ := hrel
      have hmaxH := Lib.hid hmax
      clear hmax
      by_cases hlt : k < len
      · obtain ⟨b, o, rfl, hab, hc⟩ := hr2.out.wd hlt
        have hS := Lib.hid (size_any (ts.getD k 0) W (hltH.out k hlt))
        have hple := popc_le 10 (ts.getD k 0)
        have hnx := Lib.hid (fun (mm : Nat) (h1 : mo ≤ mm) (h2 : popc 10 (ts.getD k 0) ≤ mm) q (hq : q < k + 1) => show popc 10 (ts.getD q 0) ≤ mm by
          by_cases he : q = k
          · subst he; exact h2
          · have := hmaxH.out q (by omega); omega)
        generalize popc 10 (ts.getD k 0) = p at *
        generalize ts.getD k 0 = x at *
        go_wp2_with fail
        refine hS.out.mono ?_
        rintro e w3 ⟨rfl, rfl⟩
        by_cases hgt : mo < p
        · have hgi : (mo : Int) < p := by omega
          go_wp2_with fail
          refine hS.out.mono ?_
          rintro e w3 ⟨rfl, rfl⟩
          go_wp2
          go_round
          case rel => exact ⟨k + 1, p, by omega, by go_num, rfl, hple, hnx.out p (by omega) (Nat.le_refl _)⟩
          case measure => simp [intOf]; omega
        · have hgi : (p : Int) ≤ mo := by omega
          go_wp2
          go_round
          case rel => exact ⟨k + 1, mo, by omega, by go_num, rfl, hmo, hnx.out mo (Nat.le_refl _) (by omega)⟩
          case measure => simp [intOf]; omega
      · obtain rfl : k = len := by omega
        go_wp2
        go_loop [8, 9, 10, 11, 12, 38] (fun _ _ _ _ _ i => ∃ q : Nat, q ≤ k ∧ i = .int .i64 q) (fun _ _ _ _ _ i => k - (intOf i).toNat)
        case atStart => exact ⟨0, Nat.zero_le _, rfl⟩
        case round =>
          obtain ⟨q, hq, rfl⟩ := hrel
          by_cases hlt2 : q < k
          · obtain ⟨b, o, rfl, hab, hc⟩ := hr2.out.wd hlt2
            have hx := hltH.out q hlt2
            have hS := Lib.hid (size_any (ts.getD q 0) W hx)
            have hB := Lib.hid (bit_any kw q W (by omega) (by omega))
            rw [hbitH.out q hlt2] at hB
            have hple := popc_le 10 (ts.getD q 0)
            have hlan := Lib.hid (fun (h : popc 10 (ts.getD q 0) = mo) => hlanH.out q hlt2 (fun m hm => by rw [h]; exact hmaxH.out m (by rw [helH.out] at hm; exact hm)))
            generalize popc 10 (ts.getD q 0) = p at *
            generalize ts.getD q 0 = x at hc hx hS
            have hmx := Lib.hid (show ((List.range k).any fun m => bt ts m q) = true → ((List.range k).any fun m => bt ts m q && isK ts m) = true from fun h => by
              obtain ⟨j, hj, hbj⟩ := List.any_eq_true.1 h
              obtain ⟨m, hm, h1, h2⟩ := hmauH.out q j hlt2 (by simpa using hj) hbj
              exact List.any_eq_true.2 ⟨m, by rw [helH.out] at hm; simpa using hm, by rw [h1, h2]; rfl⟩)
            go_wp2_with fail
            refine hS.out.mono ?_
            rintro e w3 ⟨rfl, rfl⟩
            by_cases hpe : p = mo
            case' pos =>
              have hpi : ((p : Int) == (mo : Int)) = true := by simp [hpe]
              rw [hlan.out hpe] at hB
              clear hlan hpe
              go_wp2_with fail
              refine hB.out.mono ?_
              rintro e w3 ⟨rfl, rfl⟩
              go_wp2
            case' neg =>
              have hpi : ((p : Int) == (mo : Int)) = false := by simp; omega
              clear hlan hpe
              go_wp2
            all_goals
              go_loop [10, 11, 12] (fun be bk j => ∃ y : Nat, y ≤ k ∧ j = .int .i64 y ∧ be = .bool ((List.range y).any fun m => bt ts m q) ∧ bk = .bool ((List.range y).any fun m => bt ts m q && isK ts m)) (fun _ _ j => k - (intOf j).toNat)
              case atStart => exact ⟨0, Nat.zero_le _, rfl, rfl, rfl⟩
              case round =>
                clear hB hS
                obtain ⟨y, hy, rfl, rfl, rfl⟩ := hrel
                by_cases hlt3 : y < k
                · obtain ⟨_, _, hA, _, hc2⟩ := hr2.out.wd hlt3
                  injection hA with hA
                  injection hA with q1 q2 _
                  subst q1 q2
                  have hz := hltH.out y hlt3
                  have n1 := Lib.hid (any_range_next (fun m => bt ts m q) y)
                  have n2 := Lib.hid (any_range_next (fun m => bt ts m q && isK ts m) y)
                  have B1 := Lib.hid (show Calls _ _ _ _ (fun e w' => e = .returned (.bool (bt ts y q)) ∧ W = w') from bit_any (ts.getD y 0) q W (by omega) (by omega))
                  have B2 := Lib.hid (bit_any kw y W (by omega) (by omega))
                  rw [hbitH.out y hlt3] at B2
                  generalize (List.range y).any (fun m => bt ts m q) = b1 at *
                  generalize (List.range y).any (fun m => bt ts m q && isK ts m) = b2 at *
                  generalize bt ts y q = c at *
                  generalize isK ts y = d at *
                  generalize ts.getD y 0 = z at hc2 hz B1
                  clear hz
                  cases b1 <;> cases b2 <;> cases c <;> cases d
                  all_goals
                    go_wp2_with (go_at_call 9; first | ((with_reducible refine B1.out.mono ?_); rintro e w3 ⟨rfl, rfl⟩) | ((with_reducible refine B2.out.mono ?_); rintro e w3 ⟨rfl, rfl⟩))
                    go_round
                    case rel => exact ⟨y + 1, by omega, by go_num, by rw [n1.out]; rfl, by rw [n2.out]; rfl⟩
                    case measure => simp [intOf]; omega
                · obtain rfl : y = k := by omega
                  have hm2 := hmx.out
                  clear hmx
                  generalize (List.range y).any (fun m => bt ts m q) = b1 at *
                  generalize (List.range y).any (fun m => bt ts m q && isK ts m) = b2 at *
                  cases b1
                  · clear hm2
                    go_wp2
                    go_round
                    case rel => exact ⟨q + 1, by omega, by go_num⟩
                    case measure => simp [intOf]; omega
                  · obtain rfl := hm2 rfl
                    go_wp2
                    go_round
                    case rel => exact ⟨q + 1, by omega, by go_num⟩
                    case measure => simp [intOf]; omega
          · obtain rfl : q = k := by omega
            have hbbH := Lib.hid hbb
            have hkP : (kw : Int) < P := by omega
            clear hbb
            by_cases hq0 : q = 0
            · subst hq0
              obtain rfl := hz0 rfl
              go_wp2
              go_ret
              exact ⟨rfl, hbbH.out⟩
            · have hq1 : ((q : Int) == 0) = false := by simp; omega
              have hkn : ((kw : Int) != 0) = true := by have := hw0 (by omega); simp; omega
              go_wp2
              go_ret
              exact ⟨rfl, hbbH.out⟩
  · have HK := Lib.hid (kings_bad A len cap ts w hr hl hwf hT)
    have hrH := Lib.hid hr; have hTH := Lib.hid hT; have hwfH := Lib.hid hwf
    clear hr hwf hT htb
    go_enter Tryd.func3, Tryd.ntmps3
    go_wp2_with fail
    refine HK.out.mono ?_
    rintro e w1 ⟨⟨c, hc, rfl⟩, hb1⟩
    have HP := Lib.hid (players_any A len cap ts w1 (hrH.out.later hb1) hl hwfH.out)
    rw [decide_eq_false hTH.out] at HP
    have hcb : (c != 0) = true := by simpa using hc
    go_wp2_with fail
    refine HP.out.mono ?_
    rintro e w2 ⟨rfl, hb2⟩
    go_wp2
    go_ret
    exact ⟨rfl, hb1.trans (hb2.mono hb1.size)⟩
end Go.Proofs.YtnlgmjigadgneaaDoor
