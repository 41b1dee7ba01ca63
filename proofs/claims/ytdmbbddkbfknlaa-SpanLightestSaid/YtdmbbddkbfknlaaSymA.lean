/- slices.symMergeCmpFunc at ints: one ahead of the others. -/
import Derived.Test.YtdmbbddkbfknlaaInsertF
namespace Go.Proofs.Ytdmbbddkbfknlaa
open Go.RowKit

theorem half_sum {i j : Nat} (h : i ≤ j) (hj : j ≤ 90) : IntKind.i64.wrap ((i : Int) + (j : Int)) = ((i + j : Nat) : Int) ∧ IntKind.u64.wrap ((i + j : Nat) : Int) = ((i + j : Nat) : Int) ∧ IntKind.i64.wrap (((i + j) / 2 : Nat) : Int) = (((i + j) / 2 : Nat) : Int) := by
  refine ⟨?_, ?_, ?_⟩
  · rw [IntWalk.i64_in _ (by omega)]; omega
  · rw [IntKind.wrap_u64]; omega
  · rw [IntWalk.i64_in _ (by omega)]
theorem up_sw (a k : Nat) (F : Nat → Nat) : (fun p => if p = k + 1 then upF a k F k else if p = k then upF a k F (k + 1) else upF a k F p) = fun p => upF a k F (swR k (k + 1) 1 p) := by
  funext p
  unfold swR
  by_cases e2 : p = k + 1
  · rw [if_pos e2, if_neg (by omega), if_pos (by omega)]; congr 1; omega
  · rw [if_neg e2]
    by_cases e1 : p = k
    · rw [if_pos e1, if_pos (by omega)]; congr 1; omega
    · rw [if_neg e1, if_neg (by omega), if_neg (by omega)]
set_option maxHeartbeats 3200000 in
set_option maxRecDepth 100000 in
theorem symA (f : FuncId) (env : Array Value) (C : Nat → Nat → Int) (K : Nat → Int) (A : Option Addr) (n c B a b : Nat) (F : Nat → Nat) (w : World) (hown : w.ownsRow B 3 1 (.slice A n c) n (rowN n F)) (hF : Fu n F) (hab : a + 1 < b) (hbn : b ≤ n) (hn : n ≤ 45)
    (hent : ∀ args w, (callFunc f args).run Try.prog w = .ok (.enter f args) w) (hcmp : CmpF Try.prog f env C K n B w) (hS : Sr K (a + 1) b F) :
    Calls Try.prog 33 #[.slice A n c, .int .i64 (a : Int), .int .i64 ((a + 1 : Nat) : Int), .int .i64 (b : Int), .func (.func f) #[] env] w fun e w' => e = .returned (.tuple #[]) ∧ ∃ G, Sh a b F G ∧ Sr K a b G ∧ w'.ownsRow B 3 1 (.slice A n c) n (rowN n G) ∧ Below B w w' := by
  have hcmpH := Lib.hid hcmp; have hFH := Lib.hid hF; have hSH := Lib.hid hS
  have hw0 : IntKind.i64.wrap (((a + 1 : Nat) : Int) - (a : Int)) = 1 := by rw [IntWalk.i64_in _ (by omega)]; omega
  obtain ⟨m, hm⟩ : ∃ m, a + 1 = m := ⟨_, rfl⟩
  have hmH := Lib.hid hm
  rw [hm] at hw0 hSH ⊢
  clear hcmp hF hS hm
  go_enter Try.func33, Try.ntmps33
  go_wp2
  clear hw0
  have hownH := Lib.hid hown; clear hown
  go_loopw [10, 11, 12] (fun q r _ wr => ∃ i j : Nat, a + 1 ≤ i ∧ i ≤ j ∧ j ≤ b ∧ q = .int .i64 i ∧ r = .int .i64 j ∧ (∀ x, m ≤ x → x < i → K (F x) ≤ K (F a)) ∧ (∀ x, j ≤ x → x < b → K (F a) ≤ K (F x)) ∧ wr.ownsRow B 3 1 (.slice A n c) n (rowN n F) ∧ Below B w wr) (fun q r _ _ => (intOf r).toNat - (intOf q).toNat)
  case atStart => exact ⟨m, b, by have := hmH.out; omega, by have := hmH.out; omega, Nat.le_refl _, rfl, rfl, fun x h1 h2 => by omega, fun x h1 h2 => by omega, hownH.out, Below.refl _ _⟩
  case round =>
    clear hownH
    obtain ⟨i, j, hai, hij, hjb, rfl, rfl, hlo, hhi, hown, hb⟩ := hrel
    by_cases hlt : i < j
    · obtain ⟨q1, q2, q3⟩ := half_sum hij (by omega)
      obtain ⟨h, hh⟩ : ∃ h, (i + j) / 2 = h := ⟨_, rfl⟩
      have hh1 : i ≤ h ∧ h < j := by omega
      have hhn : h < n := by omega
      have han : a < n := by omega
      rw [hh] at q3
      obtain ⟨g, rfl, hBg, hgl, hch⟩ := own_atN hown (show h < n by omega)
      obtain ⟨_, hA, _, _, hca⟩ := own_atN hown (show a < n by omega)
      cases hA
      obtain ⟨cc, hC, hQ⟩ := hcmpH.out.at (hFH.out.1 h (by omega)) (hFH.out.1 a (by omega)) hb
      have hw1 : IntKind.i64.wrap ((h : Int) + 1) = ((h + 1 : Nat) : Int) := by rw [IntWalk.i64_in _ (by omega)]; omega
      have hQ1 := Lib.hid hQ; have hCH := Lib.hid hC; have hloH := Lib.hid hlo; have hhiH := Lib.hid hhi
      have hownH := Lib.hid hown; have hbH := Lib.hid hb; have hh1H := Lib.hid hh1; have haiH := Lib.hid hai; have hijH := Lib.hid hij; have hjbH := Lib.hid hjb
      have hh2 : ((i + j : Nat) : Int) / 2 = (h : Int) := by omega
      clear hown hb hQ hC hlo hhi hh1 hai hij hjb
      generalize hs : i + j = s at *
      by_cases hlt2 : cc < 0
      · have hd : decide (cc < 0) = true := decide_eq_true hlt2
        have hlo2 := Lib.hid (fun x (h1 : m ≤ x) (h2 : x < h + 1) => show K (F x) ≤ K (F a) from by
          have := hCH.out.1 hlt2
          by_cases e : x = h
          · rw [e]; omega
          · have := hSH.out x h h1 (by omega) (by have := hh1H.out; have := hjbH.out; omega); omega)
        clear hlt2 hs hh
        generalize hX : F h = X at *
        generalize hY : F a = Y at *
        go_wp2
        go_quiet ((with_reducible exact (hQ1.out _)))
        go_wp2
        go_roundw
        case rel => exact ⟨h + 1, j, by have := hh1H.out; have := haiH.out; omega, by have := hh1H.out; omega, hjbH.out, by go_num, rfl, hlo2.out, hhiH.out, own_drewN hownH.out _, below_drewN hbH.out _⟩
        case measure => have := hh1H.out; simp [intOf]; omega
      · have hd : decide (cc < 0) = false := decide_eq_false hlt2
        have hhi2 := Lib.hid (fun x (h1 : h ≤ x) (h2 : x < b) => show K (F a) ≤ K (F x) from by
          have : K (F a) ≤ K (F h) := Int.not_lt.1 fun h => hlt2 (hCH.out.2 h)
          by_cases e : x = h
          · rw [e]; omega
          · have := hSH.out h x (by have := hh1H.out; have := haiH.out; have := hmH.out; omega) (by omega) h2; omega)
        clear hlt2 hs hh
        generalize hX : F h = X at *
        generalize hY : F a = Y at *
        go_wp2
        go_quiet ((with_reducible exact (hQ1.out _)))
        go_wp2
        go_roundw
        case rel => exact ⟨i, h, haiH.out, hh1H.out.1, by have := hh1H.out; have := hjbH.out; omega, rfl, rfl, hloH.out, hhi2.out, own_drewN hownH.out _, below_drewN hbH.out _⟩
        case measure => have := hh1H.out; simp [intOf]; omega
    · obtain rfl : i = j := by omega
      have hSr := Lib.hid (Sr.up (i := i) (by have := hSH.out; have e := hmH.out; rw [← e] at this; exact this) hai hjb (by rw [hmH.out]; exact hlo) hhi)
      have hownH := Lib.hid hown; have hbH := Lib.hid hb
      obtain ⟨z, hz⟩ : ∃ z, i = z + 1 := ⟨i - 1, by omega⟩
      have hw1 : IntKind.i64.wrap ((i : Int) - 1) = ((z : Nat) : Int) := by rw [IntWalk.i64_in _ (by omega)]; omega
      have haz : a ≤ z := by omega
      have hzb : z + 1 ≤ b := by omega
      rw [show i - 1 = z by omega] at hSr
      clear hown hb hlo hhi hlt hz hai hij hjb
      go_wp2
      go_loopw [13] (fun q wx => ∃ k : Nat, a ≤ k ∧ k ≤ z ∧ q = .int .i64 k ∧ Sh a b F (upF a k F) ∧ wx.ownsRow B 3 1 (.slice A n c) n (rowN n (upF a k F)) ∧ Below B w wx) (fun q _ => z - (intOf q).toNat)
      case atStart => exact ⟨a, Nat.le_refl _, haz, rfl, by rw [upF_start]; exact Sh.refl _ _ _, by rw [upF_start]; exact hownH.out, hbH.out⟩
      case round =>
        clear hownH hbH
        obtain ⟨k, hak, hkz, rfl, hsh, hown, hb⟩ := hrel
        by_cases hlt : k < z
        · obtain ⟨g, rfl, hBg, hgl, hc1⟩ := own_atN hown (show k < n by omega)
          obtain ⟨_, hA, _, _, hc2⟩ := own_atN hown (show k + 1 < n by omega)
          cases hA
          have hw2 : IntKind.i64.wrap ((k : Int) + 1) = ((k + 1 : Nat) : Int) := by rw [IntWalk.i64_in _ (by omega)]; omega
          have hk1 : k + 1 < n := by omega
          have hf1 := hown.frozenAt k
          have hf2 := hown.frozenAt (k + 1)
          have hst := (hown.stored k (.int .i64 ((upF a k F (k + 1) : Nat) : Int))).1
          have hst2 := (hst.stored (k + 1) (.int .i64 ((upF a k F k : Nat) : Int))).1
          have hbs := (hb.setCell (p := ⟨g, k, none⟩) hBg (.int .i64 ((upF a k F (k + 1) : Nat) : Int))).setCell (p := ⟨g, k + 1, none⟩) hBg (.int .i64 ((upF a k F k : Nat) : Int))
          rw [rowN_set2, up_sw, upF_succ hak] at hst2
          have hsh2 := Lib.hid (hsh.trans (Sh.sw (a := k) (b := k + 1) (k := 1) (lo := a) (hi := b) (by omega) (by omega) (by omega) (upF a k F)))
          rw [upF_succ hak] at hsh2
          have hst2H := Lib.hid hst2; have hbsH := Lib.hid hbs
          clear hst hst2 hbs hown hb hsh
          generalize upF a k F (k + 1) = X at *
          generalize upF a k F k = Y at *
          have hkk : k ≠ k + 1 := by omega
          go_wp2
          go_region
          go_wp2
          go_roundw
          case rel => exact ⟨k + 1, by omega, by omega, by go_num, hsh2.out, hst2H.out, below_drewN hbsH.out 1⟩
          case measure => simp [intOf]; omega
        · obtain rfl : k = z := by omega
          have hownH := Lib.hid hown; have hbH := Lib.hid hb; have hshH := Lib.hid hsh
          clear hown hb hsh
          go_wp2
          (try simp only [Exit.inBlock, Exit.then]); refine bodyPost_ret (results_none rfl _ _ _) rfl ?_
          exact ⟨rfl, _, hshH.out, hSr.out, hownH.out, hbH.out⟩
end Go.Proofs.Ytdmbbddkbfknlaa
