/- FeeDual: the walk. -/
import Derived.Test.YtfedkcnofbhlgaaFeeB
import Derived.Test.YtfedkcnofbhlgaaOnce
import Derived.Test.YtfedkcnofbhlgaaInside
namespace Go.Proofs.Ytfedkcnofbhlgaa
open Go.RowKit

theorem own_capF {w : World} {b e s n c m : Nat} {A : Option Addr} {xs : List Value} (h : w.ownsRow b e s (.slice A n c) m xs) : n ≤ c := by
  rcases h.2 with ⟨h1, _⟩ | ⟨g, cap, cur, h1, _, _, hnc, _⟩
  · injection h1 with _ h1 h2
    omega
  · injection h1 with _ h1 h2
    omega
theorem row_ints (n : Nat) (F : Nat → Int) : row n F = ints .i64 ((List.range n).map F) := by simp [row, ints]
theorem sumN_in {g : Nat → Int} : ∀ m, (∀ i, i < m → -1048576 ≤ g i ∧ g i ≤ 1048576) → -(m * 1048576 : Int) ≤ sumN g m ∧ sumN g m ≤ m * 1048576
  | 0, _ => by simp [sumN]
  | m + 1, h => by
    have := sumN_in m fun i hi => h i (by omega)
    have := h m (by omega)
    simp only [sumN]
    omega
theorem insideB_of {n : Nat} {F : Nat → Nat} (h : ∀ i, i < n → F i < n) : insideB (n : Int) ((List.range n).map fun i => ((F i : Nat) : Int)) = true := by
  unfold insideB
  rw [List.all_eq_true]
  intro x hx
  simp only [List.mem_map, List.mem_range] at hx
  obtain ⟨i, hi, rfl⟩ := hx
  have := h i hi
  unfold inB
  simp
  omega
def inM (x : Int) : Prop := -1048576 ≤ x ∧ x ≤ 1048576

theorem feeDual_bad (A : Option Addr) (len cap : Nat) (l : List Rw) (u v : Value) (w : World) (hr : RdR w A len l) (hl : len ≤ 9223372036854775807) (hc : fchk len l ≠ 0) :
    Calls Try.prog 3 #[.slice A len cap, u, v] w fun e w' => e = .returned (.bool true) ∧ Below w.heap.size w w' := by
  have HA := Lib.hid (assign_bad A len cap l w hr hl hc)
  have hcb : (fchk len l != 0) = true := by simpa using hc
  have hrH := Lib.hid hr
  clear hr hc
  go_enter Try.func3, Try.ntmps3
  go_wp2_with fail
  refine HA.out.mono ?_
  rintro e w1 ⟨rfl, hb⟩
  have HF := Lib.hid (feesCheck_any A len cap l w1 (hrH.out.later hb) hl)
  go_wp2_with fail
  refine HF.out.mono ?_
  rintro e w2 ⟨rfl, rfl⟩
  go_wp2
  go_ret
  exact ⟨rfl, hb⟩
set_option maxHeartbeats 6400000 in
set_option maxRecDepth 100000 in
theorem feeDual_ok (A : Option Addr) (n cap : Nat) (l : List Rw) (U : Option Addr) (lu cu : Nat) (zu : List Int) (V : Option Addr) (lv cv : Nat) (zv : List Int) (w : World) (hr : RdR w A n l) (hU : Rd w U lu 1 (ints .i64 zu)) (hV : Rd w V lv 1 (ints .i64 zv)) (hc : fchk n l = 0) :
    Calls Try.prog 3 #[.slice A n cap, .slice U lu cu, .slice V lv cv] w fun e w' => e = .returned (.bool true) ∧ Below w.heap.size w w' := by
  obtain ⟨h8, hlen, hin⟩ := fchk_ok hr.1 hc hr.zl
  have HA := Lib.hid (assign_ok A n cap l w hr hc)
  have hcb : (fchk n l != 0) = false := by simp [hc]
  have hcz := Lib.hid hc
  have hrH := Lib.hid hr; have hlenH := Lib.hid hlen; have hinH := Lib.hid hin
  have hUH := Lib.hid hU; have hVH := Lib.hid hV
  clear hr hc hlen hin hU hV
  go_enter Try.func3, Try.ntmps3
  go_wp2_with fail
  refine HA.out.mono ?_
  rintro e w1 ⟨vp, rfl, hpo, hb1⟩
  obtain ⟨Ap, cp, rfl⟩ := own_slice hpo
  have hpl := own_capF hpo
  have hpr := Rd.of_own hpo
  have hprow := Lib.hid hpr
  rw [row_ints] at hpr
  have hpH := Lib.hid hpr
  have HF := Lib.hid (feesCheck_any A n cap l w1 (hrH.out.later hb1) (by omega))
  rw [hcz.out] at HF
  have HO := Lib.hid (once_any Ap n cp _ w1 hpr (by omega) hpl)
  rw [onceB_of (fun i k hik hk => by have := jAt_once h8 hinH.out hik hk; omega)] at HO
  have HI := Lib.hid (inside_any n Ap n cp _ w1 hpr (by omega))
  rw [insideB_of (fun i hi => (jAt_ok h8 hinH.out hi).1)] at HI
  have hbH := Lib.hid hb1
  have hnn : ((n : Int) != (n : Int)) = false := by simp
  clear HA hpr hpo hb1
  go_wp2_with fail
  refine HF.out.mono ?_
  rintro e w2 ⟨rfl, rfl⟩
  go_wp2_with fail
  refine HO.out.mono ?_
  rintro e w2 ⟨rfl, rfl⟩
  go_wp2_with fail
  refine HI.out.mono ?_
  rintro e w2 ⟨rfl, rfl⟩
  clear HF HO HI
  have hca := Lib.hid (cost_all h8 hinH.out)
  have hfb := Lib.hid (fun k (hk : k < n) => hinH.out k (jAt (feeF l) n k) hk (jAt_ok h8 hinH.out hk).1)
  have hsb := Lib.hid (fun k (hk : k ≤ n) => sumN_in (g := fun i => feeF l i (jAt (feeF l) n i)) k fun i hi => hfb.out i (by omega))
  have hdual := Lib.hid (fun (h : ∀ i j, i < n → j < n → zu.getD i 0 + zv.getD j 0 ≤ feeF l i j) => dual_all h8 hinH.out (u := fun i => zu.getD i 0) (v := fun i => zv.getD i 0) h)
  go_wp2
  go_loop [10, 50] (fun c i => ∃ k : Nat, k ≤ n ∧ i = .int .i64 k ∧ c = .int .i64 (sumN (fun i => feeF l i (jAt (feeF l) n i)) k)) (fun _ i => n - (intOf i).toNat)
  case atStart => exact ⟨0, Nat.zero_le _, rfl, rfl⟩
  case round =>
    obtain ⟨k, hk, rfl, rfl⟩ := hrel
    by_cases hlt : k < n
    · have hj := (jAt_ok h8 hinH.out hlt).1
      have hfit := hrH.out.2.2 _ (rat_mem (l := l) (k := k) (by rw [hrH.out.1]; exact hlt))
      obtain ⟨bf, of, rfl, hbf, hcf, _⟩ := (hrH.out.later hbH.out).at hlt
      obtain ⟨bp, op, rfl, hbp, hcp⟩ := hprow.out.row hlt
      have hfl := hlenH.out k hlt
      have hfitc := hfit.2.2
      have hzz : (rat l k).zs.getD (jAt (feeF l) n k) 0 = feeF l k (jAt (feeF l) n k) := rfl
      obtain ⟨b2, o2, hA2, hb2l, hc2⟩ := (hfit.1.later hbH.out).int (show jAt (feeF l) n k < (rat l k).len by omega)
      rw [hzz] at hc2
      have hs0 := hsb.out k (by omega)
      have hf0 := hfb.out k hlt
      have hsn := Lib.hid (show sumN (fun i => feeF l i (jAt (feeF l) n i)) (k + 1) = sumN (fun i => feeF l i (jAt (feeF l) n i)) k + feeF l k (jAt (feeF l) n k) from rfl)
      clear hfit hzz
      generalize rat l k = ra at *
      obtain ⟨A', l', c', zs⟩ := ra
      simp only at hfl hfitc hA2
      obtain ⟨hl1, hl2⟩ := hfl
      have hl1 := hl1.symm
      subst hl1 hA2
      generalize sumN (fun i => feeF l i (jAt (feeF l) n i)) k = su at *
      generalize feeF l k (jAt (feeF l) n k) = z at *
      generalize jAt (feeF l) n k = j at *
      have hk0 : (0 : Int) ≤ k := by omega
      have hkn : (k : Int) < n := by omega
      have hj0 : (0 : Int) ≤ j := by omega
      have hjn : (j : Int) < n := by omega
      have hadd : IntKind.i64.wrap (su + z) = su + z := IntWalk.i64_in _ (by omega)
      go_wp2
      go_round
      case rel => exact ⟨k + 1, by omega, by go_num, by rw [hsn.out]⟩
      case measure => simp [intOf]; omega
    · obtain rfl : n = k := by omega
      have hcc := hca.out
      rw [hcc]
      have hcs : (bst (feeF l) n n 0 != bst (feeF l) n n 0) = false := by simp
      have hbst := bst_in h8 hinH.out n (Nat.le_refl _) 0 (by simp [popc_zero])
      clear hlt hk hca hsb hfb hcc hprow hpH
      generalize bst (feeF l) n n 0 = B at *
      by_cases h1 : n = lu
      · subst h1
        by_cases h2 : n = lv
        · subst h2
          have hs1 := hbH.out.size
          go_wp2
          go_loopw [13, 14] (fun s i wr => ∃ k : Nat, k ≤ n ∧ i = .int .i64 k ∧ s = .int .i64 (sumN (fun i => zu.getD i 0) k + sumN (fun i => zv.getD i 0) k) ∧ (∀ i, i < k → inM (zu.getD i 0) ∧ inM (zv.getD i 0)) ∧ (∀ i j, i < k → j < n → IntKind.i64.wrap (zu.getD i 0 + zv.getD j 0) ≤ feeF l i j) ∧ Below w.heap.size w wr) (fun _ i _ => n - (intOf i).toNat)
          case atStart => exact ⟨0, Nat.zero_le _, rfl, rfl, fun i hi => absurd hi (by omega), fun i j hi => absurd hi (by omega), hbH.out⟩
          case round =>
            obtain ⟨k, hk, rfl, rfl, hM, hle, hb⟩ := hrel
            have hMH := Lib.hid hM; have hleH := Lib.hid hle; have hbkH := Lib.hid hb
            by_cases hlt : k < n
            · have hsu := sumN_in (g := fun i => zu.getD i 0) k fun i hi => (hM i hi).1
              have hsv := sumN_in (g := fun i => zv.getD i 0) k fun i hi => (hM i hi).2
              have hsn := Lib.hid (show sumN (fun i => zu.getD i 0) (k + 1) + sumN (fun i => zv.getD i 0) (k + 1) = sumN (fun i => zu.getD i 0) k + zu.getD k 0 + (sumN (fun i => zv.getD i 0) k + zv.getD k 0) from rfl)
              have hM1 : inM (zu.getD k 0) → inM (zv.getD k 0) → ∀ i, i < k + 1 → inM (zu.getD i 0) ∧ inM (zv.getD i 0) := fun a b i hi => by
                by_cases hik : i = k
                · subst hik; exact ⟨a, b⟩
                · exact hMH.out i (by omega)
              have hM1 := Lib.hid hM1
              have hle1 : (∀ j, j < n → IntKind.i64.wrap (zu.getD k 0 + zv.getD j 0) ≤ feeF l k j) → ∀ i j, i < k + 1 → j < n → IntKind.i64.wrap (zu.getD i 0 + zv.getD j 0) ≤ feeF l i j := fun a i j hi hj => by
                by_cases hik : i = k
                · subst hik; exact a j hj
                · exact hleH.out i j (by omega) hj
              have hle1 := Lib.hid hle1
              have hfit := hrH.out.2.2 _ (rat_mem (l := l) (k := k) (by rw [hrH.out.1]; exact hlt))
              have hrr := Lib.hid (fun W (hb : Below w.heap.size w W) => (hrH.out.later hb).at hlt)
              have hfl := hlenH.out k hlt
              have hzz := Lib.hid (show ∀ j, (rat l k).zs.getD j 0 = feeF l k j from fun j => rfl)
              have hfitc := hfit.2.2
              have hfitH := Lib.hid hfit.1
              obtain ⟨bu, ou, hAu, hbu, hcu⟩ := (hUH.out.later hb).int hlt
              obtain ⟨bv, ov, hAv, hbv, hcv⟩ := (hVH.out.later hb).int hlt
              have hUk := Lib.hid (fun W (hb : Below w.heap.size w W) => (hUH.out.later hb).int hlt)
              have hVj := Lib.hid (fun W (hb : Below w.heap.size w W) j (hj : j < n) => (hVH.out.later hb).int hj)
              clear hM hle hfit hb
              subst hAu hAv
              generalize rat l k = ra at *
              obtain ⟨A', l', c', zs⟩ := ra
              simp only at hfl hfitc
              obtain ⟨hl1, hl2⟩ := hfl
              have hl1 := hl1.symm
              subst hl1
              have hk0 : (0 : Int) ≤ k := by omega
              have hkn : (k : Int) < n := by omega
              obtain ⟨xu, hxu⟩ : ∃ xu, xu = zu.getD k 0 := ⟨_, rfl⟩
              obtain ⟨xv, hxv⟩ : ∃ xv, xv = zv.getD k 0 := ⟨_, rfl⟩
              rw [← hxu] at hcu hsn hM1 hle1 hUk
              rw [← hxv] at hcv hsn hM1
              generalize sumN (fun i => zu.getD i 0) k = su at *
              generalize sumN (fun i => zv.getD i 0) k = sv at *
              clear hxu hxv
              by_cases a1 : xu < -1048576
              · go_wp2
                go_ret
                exact ⟨rfl, hbkH.out⟩
              by_cases a2 : 1048576 < xu
              · go_wp2
                go_ret
                exact ⟨rfl, hbkH.out⟩
              by_cases a3 : xv < -1048576
              · go_wp2
                go_ret
                exact ⟨rfl, hbkH.out⟩
              by_cases a4 : 1048576 < xv
              · go_wp2
                go_ret
                exact ⟨rfl, hbkH.out⟩
              have hM2 := Lib.hid (hM1.out ⟨by omega, by omega⟩ ⟨by omega, by omega⟩)
              have hw1 : IntKind.i64.wrap (su + sv + xu) = su + sv + xu := IntWalk.i64_in _ (by omega)
              have hw2 : IntKind.i64.wrap (su + sv + xu + xv) = su + sv + xu + xv := IntWalk.i64_in _ (by omega)
              have hsn2 := Lib.hid (show su + sv + xu + xv = sumN (fun i => zu.getD i 0) (k + 1) + sumN (fun i => zv.getD i 0) (k + 1) by rw [hsn.out]; omega)
              clear hsu hsv hM1 hsn
              go_wp2
              go_quiet (fail)
              have hbq := Lib.hid (below_drewN hbkH.out nq)
              generalize wr.drewN nq = wq at *
              clear hcu hcv a1 a2 a3 a4 hw1 hw2
              go_wp2
              go_loopw [15] (fun jv ws => ∃ m : Nat, m ≤ n ∧ jv = .int .i64 m ∧ (∀ j, j < m → IntKind.i64.wrap (xu + zv.getD j 0) ≤ feeF l k j) ∧ Below w.heap.size w ws) (fun jv _ => n - (intOf jv).toNat)
              case atStart => exact ⟨0, Nat.zero_le _, rfl, fun j hj => absurd hj (by omega), hbq.out⟩
              case round =>
                obtain ⟨m, hm, rfl, hj, hb⟩ := hrel
                have hjH := Lib.hid hj; have hbmH := Lib.hid hb
                by_cases hlt2 : m < n
                · obtain ⟨_, _, hA, _, hcu⟩ := hUk.out _ hb
                  injection hA with hA; injection hA with q1 q2 _; subst q1 q2
                  obtain ⟨_, _, hA, _, hcv⟩ := hVj.out _ hb m hlt2
                  injection hA with hA; injection hA with q1 q2 _; subst q1 q2
                  obtain ⟨bf, of, rfl, hbf, hcf, _⟩ := hrr.out _ hb
                  obtain ⟨b2, o2, rfl, hb2l, hc2⟩ := (hfitH.out.later hb).int hlt2
                  rw [hzz.out] at hc2
                  have hj1 : IntKind.i64.wrap (xu + zv.getD m 0) ≤ feeF l k m → ∀ j, j < m + 1 → IntKind.i64.wrap (xu + zv.getD j 0) ≤ feeF l k j := fun a j hj => by
                    by_cases hjm : j = m
                    · subst hjm; exact a
                    · exact hjH.out j (by omega)
                  have hj1 := Lib.hid hj1
                  have hm0 : (0 : Int) ≤ m := by omega
                  have hmn : (m : Int) < n := by omega
                  clear hj hb
                  generalize zv.getD m 0 = y at *
                  generalize feeF l k m = z at *
                  obtain ⟨s, hs⟩ : ∃ s, IntKind.i64.wrap (xu + y) = s := ⟨_, rfl⟩
                  rw [hs] at hj1
                  by_cases hgt : z < s
                  · have hd : decide (z < s) = true := by simp [hgt]
                    clear hj1
                    go_wp2
                    go_quiet (fail)
                    go_wp2
                    go_ret
                    exact ⟨rfl, below_drewN hbmH.out nq⟩
                  · have hd : decide (z < s) = false := by simp; omega
                    have hj2 := Lib.hid (hj1.out (by omega))
                    clear hj1 hgt
                    go_wp2
                    go_quiet (fail)
                    go_wp2
                    go_roundw
                    case rel => exact ⟨m + 1, by omega, by go_num, hj2.out, below_drewN hbmH.out nq⟩
                    case measure => simp [intOf]; omega
                · have hle2 := Lib.hid (hle1.out fun j hj' => hj j (by omega))
                  clear hj
                  go_wp2
                  go_roundw
                  case rel => exact ⟨k + 1, by omega, by go_num, by rw [hsn2.out], hM2.out, hle2.out, hb⟩
                  case measure => simp [intOf]; omega
            · obtain rfl : n = k := by omega
              have hd := hdual.out fun i j hi hj => by
                have h1 := hle i j hi hj
                have h2 := (hM i hi).1
                have h3 := (hM j hj).2
                unfold inM at h2 h3
                rwa [IntWalk.i64_in _ (by omega)] at h1
              clear hM hle
              generalize sumN (fun i => zu.getD i 0) n + sumN (fun i => zv.getD i 0) n = su at *
              go_wp2
              go_ret
              exact ⟨by simp, hb⟩
        · have hn2 : ((lv : Int) != (n : Int)) = true := by simp; omega
          go_wp2
          go_ret
          exact ⟨by simp, hbH.out⟩
      · have hn2 : ((lu : Int) != (n : Int)) = true := by simp; omega
        go_wp2
        go_ret
        exact ⟨by simp, hbH.out⟩
theorem feeDual_any (A : Option Addr) (len cap : Nat) (l : List Rw) (U : Option Addr) (lu cu : Nat) (zu : List Int) (V : Option Addr) (lv cv : Nat) (zv : List Int) (w : World) (hr : RdR w A len l) (hl : len ≤ maxLen) (_ : len ≤ cap) (_ : ∀ r ∈ l, ∀ z ∈ r.zs, (Lit.int .i64 z).wf = true)
    (hU : Rd w U lu 1 (ints .i64 zu)) (_ : lu ≤ maxLen) (_ : lu ≤ cu) (_ : ∀ z ∈ zu, (Lit.int .i64 z).wf = true) (hV : Rd w V lv 1 (ints .i64 zv)) (_ : lv ≤ maxLen) (_ : lv ≤ cv) (_ : ∀ z ∈ zv, (Lit.int .i64 z).wf = true) :
    Calls Try.prog 3 #[.slice A len cap, .slice U lu cu, .slice V lv cv] w fun e w' => e = .returned (.bool true) ∧ Below w.heap.size w w' := by
  unfold maxLen at hl
  by_cases hc : fchk len l = 0
  · exact feeDual_ok A len cap l U lu cu zu V lv cv zv w hr hU hV hc
  · exact feeDual_bad A len cap l _ _ w hr (by omega) hc
end Go.Proofs.Ytfedkcnofbhlgaa
