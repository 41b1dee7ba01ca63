/- slices.symMergeCmpFunc at ints: one behind the others. -/
import Derived.Test.YtdmbbddkbfknlaaSymA
namespace Go.Proofs.Ytdmbbddkbfknlaa
open Go.RowKit

theorem dn_sw (m k : Nat) (F : Nat → Nat) : (fun p => if p = k then dnF m (k + 1) F (k + 1) else if p = k + 1 then dnF m (k + 1) F k else dnF m (k + 1) F p) = fun p => dnF m (k + 1) F (swR k (k + 1) 1 p) := by
  funext p
  unfold swR
  by_cases e1 : p = k
  · rw [if_pos e1, if_pos (by omega)]; congr 1; omega
  · rw [if_neg e1]
    by_cases e2 : p = k + 1
    · rw [if_pos e2, if_neg (by omega), if_pos (by omega)]; congr 1; omega
    · rw [if_neg e2, if_neg (by omega), if_neg (by omega)]
set_option maxHeartbeats 3200000 in
set_option maxRecDepth 100000 in
theorem symB (f : FuncId) (env : Array Value) (C : Nat → Nat → Int) (K : Nat → Int) (A : Option Addr) (n c B a m : Nat) (F : Nat → Nat) (w : World) (hown : w.ownsRow B 3 1 (.slice A n c) n (rowN n F)) (hF : Fu n F) (hab : a + 1 < m) (hbn : m + 1 ≤ n) (hn : n ≤ 45)
    (hent : ∀ args w, (callFunc f args).run Try.prog w = .ok (.enter f args) w) (hcmp : CmpF Try.prog f env C K n B w) (hS : Sr K a m F) :
    Calls Try.prog 33 #[.slice A n c, .int .i64 (a : Int), .int .i64 (m : Int), .int .i64 ((m + 1 : Nat) : Int), .func (.func f) #[] env] w fun e w' => e = .returned (.tuple #[]) ∧ ∃ G, Sh a (m + 1) F G ∧ Sr K a (m + 1) G ∧ w'.ownsRow B 3 1 (.slice A n c) n (rowN n G) ∧ Below B w w' := by
  have hcmpH := Lib.hid hcmp; have hFH := Lib.hid hF; have hSH := Lib.hid hS
  have hw0 : IntKind.i64.wrap (((m + 1 : Nat) : Int) - (m : Int)) = 1 := by rw [IntWalk.i64_in _ (by omega)]; omega
  have hwa : IntKind.i64.wrap ((m : Int) - (a : Int)) = ((m - a : Nat) : Int) := by rw [IntWalk.i64_in _ (by omega)]; omega
  have hma : (((m - a : Nat) : Int) == 1) = false := by simp; omega
  obtain ⟨b, hm⟩ : ∃ b, m + 1 = b := ⟨_, rfl⟩
  have hmH := Lib.hid hm
  rw [hm] at hw0 ⊢
  have hmn : m < n := by omega
  clear hcmp hF hS hm
  go_enter Try.func33, Try.ntmps33
  go_wp2
  clear hw0 hwa hma
  have hownH := Lib.hid hown; clear hown
  go_loopw [14, 15, 16] (fun q r _ wr => ∃ i j : Nat, a ≤ i ∧ i ≤ j ∧ j ≤ m ∧ q = .int .i64 i ∧ r = .int .i64 j ∧ (∀ x, a ≤ x → x < i → K (F x) ≤ K (F m)) ∧ (∀ x, j ≤ x → x < m → K (F m) ≤ K (F x)) ∧ wr.ownsRow B 3 1 (.slice A n c) n (rowN n F) ∧ Below B w wr) (fun q r _ _ => (intOf r).toNat - (intOf q).toNat)
  case atStart => exact ⟨a, m, Nat.le_refl _, by omega, Nat.le_refl _, rfl, rfl, fun x h1 h2 => by omega, fun x h1 h2 => by omega, hownH.out, Below.refl _ _⟩
  case round =>
    clear hownH
    obtain ⟨i, j, hai, hij, hjb, rfl, rfl, hlo, hhi, hown, hb⟩ := hrel
    by_cases hlt : i < j
    · obtain ⟨q1, q2, q3⟩ := half_sum hij (by omega)
      obtain ⟨h, hh⟩ : ∃ h, (i + j) / 2 = h := ⟨_, rfl⟩
      have hh1 : i ≤ h ∧ h < j := by omega
      have hhn : h < n := by omega
      rw [hh] at q3
      obtain ⟨g, rfl, hBg, hgl, hch⟩ := own_atN hown (show h < n by omega)
      obtain ⟨_, hA, _, _, hca⟩ := own_atN hown (show m < n by omega)
      cases hA
      obtain ⟨cc, hC, hQ⟩ := hcmpH.out.at (hFH.out.1 m (by omega)) (hFH.out.1 h (by omega)) hb
      have hw1 : IntKind.i64.wrap ((h : Int) + 1) = ((h + 1 : Nat) : Int) := by rw [IntWalk.i64_in _ (by omega)]; omega
      have hQ1 := Lib.hid hQ; have hCH := Lib.hid hC; have hloH := Lib.hid hlo; have hhiH := Lib.hid hhi
      have hownH := Lib.hid hown; have hbH := Lib.hid hb; have hh1H := Lib.hid hh1; have haiH := Lib.hid hai; have hijH := Lib.hid hij; have hjbH := Lib.hid hjb
      have hh2 : ((i + j : Nat) : Int) / 2 = (h : Int) := by omega
      clear hown hb hQ hC hlo hhi hh1 hai hij hjb
      generalize hs : i + j = s at *
      by_cases hlt2 : cc < 0
      · have hd : decide (cc < 0) = true := decide_eq_true hlt2
        have hhi2 := Lib.hid (fun x (h1 : h ≤ x) (h2 : x < m) => show K (F m) ≤ K (F x) from by
          have := hCH.out.1 hlt2
          by_cases e : x = h
          · rw [e]; omega
          · have := hSH.out h x (by have := hh1H.out; have := haiH.out; omega) (by omega) h2; omega)
        clear hlt2 hs hh
        generalize hX : F h = X at *
        generalize hY : F m = Y at *
        go_wp2
        go_quiet ((with_reducible exact (hQ1.out _)))
        go_wp2
        go_roundw
        case rel => exact ⟨i, h, haiH.out, hh1H.out.1, by have := hh1H.out; have := hjbH.out; omega, rfl, rfl, hloH.out, hhi2.out, own_drewN hownH.out _, below_drewN hbH.out _⟩
        case measure => have := hh1H.out; simp [intOf]; omega
      · have hd : decide (cc < 0) = false := decide_eq_false hlt2
        have hlo2 := Lib.hid (fun x (h1 : a ≤ x) (h2 : x < h + 1) => show K (F x) ≤ K (F m) from by
          have : K (F h) ≤ K (F m) := Int.not_lt.1 fun h => hlt2 (hCH.out.2 h)
          by_cases e : x = h
          · rw [e]; omega
          · have := hSH.out x h h1 (by omega) (by have := hh1H.out; have := hjbH.out; omega); omega)
        clear hlt2 hs hh
        generalize hX : F h = X at *
        generalize hY : F m = Y at *
        go_wp2
        go_quiet ((with_reducible exact (hQ1.out _)))
        go_wp2
        go_roundw
        case rel => exact ⟨h + 1, j, by have := hh1H.out; have := haiH.out; omega, by have := hh1H.out; omega, hjbH.out, by go_num, rfl, hlo2.out, hhiH.out, own_drewN hownH.out _, below_drewN hbH.out _⟩
        case measure => have := hh1H.out; simp [intOf]; omega
    · obtain rfl : i = j := by omega
      have hSr := Lib.hid (Sr.dn (i := i) hSH.out hai hjb hlo hhi)
      rw [hmH.out] at hSr
      have hownH := Lib.hid hown; have hbH := Lib.hid hb
      have hmb : m + 1 ≤ b := by have := hmH.out; omega
      clear hown hb hlo hhi hlt hij
      go_wp2
      go_loopw [17] (fun q wx => ∃ k : Nat, i ≤ k ∧ k ≤ m ∧ q = .int .i64 k ∧ Sh a b F (dnF m k F) ∧ wx.ownsRow B 3 1 (.slice A n c) n (rowN n (dnF m k F)) ∧ Below B w wx) (fun q _ => (intOf q).toNat)
      case atStart => exact ⟨m, hjb, Nat.le_refl _, rfl, by rw [dnF_start]; exact Sh.refl _ _ _, by rw [dnF_start]; exact hownH.out, hbH.out⟩
      case round =>
        clear hownH hbH
        obtain ⟨k0, hak, hkz, rfl, hsh, hown, hb⟩ := hrel
        by_cases hlt : i < k0
        · obtain ⟨k, hk0⟩ : ∃ k, k0 = k + 1 := ⟨k0 - 1, by omega⟩
          subst hk0
          obtain ⟨g, rfl, hBg, hgl, hc1⟩ := own_atN hown (show k < n by omega)
          obtain ⟨_, hA, _, _, hc2⟩ := own_atN hown (show k + 1 < n by omega)
          cases hA
          have hf1 := hown.frozenAt k
          have hf2 := hown.frozenAt (k + 1)
          have hst := (hown.stored (k + 1) (.int .i64 ((dnF m (k + 1) F k : Nat) : Int))).1
          have hst2 := (hst.stored k (.int .i64 ((dnF m (k + 1) F (k + 1) : Nat) : Int))).1
          have hbs := (hb.setCell (p := ⟨g, k + 1, none⟩) hBg (.int .i64 ((dnF m (k + 1) F k : Nat) : Int))).setCell (p := ⟨g, k, none⟩) hBg (.int .i64 ((dnF m (k + 1) F (k + 1) : Nat) : Int))
          rw [rowN_set2, dn_sw, dnF_pred hkz] at hst2
          have hsh2 := Lib.hid (hsh.trans (Sh.sw (a := k) (b := k + 1) (k := 1) (lo := a) (hi := b) (by omega) (by omega) (by omega) (dnF m (k + 1) F)))
          rw [dnF_pred hkz] at hsh2
          have hst2H := Lib.hid hst2; have hbsH := Lib.hid hbs
          clear hst hst2 hbs hown hb hsh
          generalize dnF m (k + 1) F (k + 1) = X at *
          generalize dnF m (k + 1) F k = Y at *
          have hw2 : IntKind.i64.wrap (((k + 1 : Nat) : Int) - 1) = (k : Int) := by rw [IntWalk.i64_in _ (by omega)]; omega
          have hkn : k < n := by omega
          have hik : i ≤ k := by omega
          have hkm : k ≤ m := by omega
          generalize hk1 : k + 1 = k1 at *
          have hkk : k1 ≠ k := by omega
          have hk1n : k1 < n := by omega
          have hk1H := Lib.hid hk1
          clear hk1
          go_wp2
          go_region
          go_wp2
          go_roundw
          case rel => exact ⟨k, hik, hkm, by go_num, hsh2.out, hst2H.out, below_drewN hbsH.out 1⟩
          case measure => have := hk1H.out; simp [intOf]; omega
        · obtain rfl : k0 = i := by omega
          have hownH := Lib.hid hown; have hbH := Lib.hid hb; have hshH := Lib.hid hsh
          clear hown hb hsh
          go_wp2
          (try simp only [Exit.inBlock, Exit.then]); refine bodyPost_ret (results_none rfl _ _ _) rfl ?_
          exact ⟨rfl, _, hshH.out, hSr.out, hownH.out, hbH.out⟩
end Go.Proofs.Ytdmbbddkbfknlaa
