/- FeeShifts: the walk. -/
import Derived.Test.YtfedkcnofbhlgaaFeeDual
import Derived.Test.YtfedkcnofbhlgaaIntsEq
namespace Go.Proofs.Ytfedkcnofbhlgaa
open Go.RowKit

theorem tiRL : TI Try.prog 22 23 (.slice none 0 0) 1 24 := TI.mk' Try.underlying22 (by kernel_rfl) rfl (by decide)
theorem own_neF {w : World} {b b' e e' n n' : Nat} {v v' : Value} {xs xs' : List Value} (h : w.ownsRow b e 1 v n xs) (h' : w.ownsRow b' e' 1 v' n' xs') (he : e ≠ e') : v.ownBlock = none ∨ v.ownBlock ≠ v'.ownBlock := by
  rcases h.2 with ⟨rfl, _⟩ | ⟨g, cap, cur, rfl, _, hg, _⟩
  · exact .inl rfl
  · rcases h'.2 with ⟨rfl, _⟩ | ⟨g', cap', cur', rfl, _, hg', _⟩
    · right; simp [Value.ownBlock]
    · right
      intro e2
      obtain rfl : g = g' := by simpa [Value.ownBlock] using e2
      rw [hg] at hg'
      simp at hg'
      exact he hg'.2
/-- the first k rows of what is made -/
def shR (n : Nat) (F : Nat → Nat → Int) (G : Nat → Option Addr × Nat) (k : Nat) : List Rw := (List.range k).map fun i => ⟨(G i).1, n, (G i).2, (List.range n).map (F i)⟩
theorem shR_length (n : Nat) (F : Nat → Nat → Int) (G : Nat → Option Addr × Nat) (k : Nat) : (shR n F G k).length = k := by simp [shR]
theorem shR_at {n : Nat} {F : Nat → Nat → Int} {G : Nat → Option Addr × Nat} {k i : Nat} (h : i < k) : rat (shR n F G k) i = ⟨(G i).1, n, (G i).2, (List.range n).map (F i)⟩ := by simp [rat, shR, List.getD, h]
theorem shR_fee {n : Nat} {F : Nat → Nat → Int} {G : Nat → Option Addr × Nat} {k i j : Nat} (h : i < k) (hj : j < n) : feeF (shR n F G k) i j = F i j := by
  unfold feeF
  rw [shR_at h]
  simp [List.getD, hj]
theorem shR_mem {n : Nat} {F : Nat → Nat → Int} {G : Nat → Option Addr × Nat} {k : Nat} {r : Rw} (h : r ∈ shR n F G k) : ∃ i, i < k ∧ r = ⟨(G i).1, n, (G i).2, (List.range n).map (F i)⟩ := by
  simp only [shR, List.mem_map, List.mem_range] at h
  obtain ⟨i, hi, rfl⟩ := h
  exact ⟨i, hi, rfl⟩
theorem shR_snoc (n : Nat) (F : Nat → Nat → Int) (G : Nat → Option Addr × Nat) (k : Nat) : shR n F G (k + 1) = shR n F G k ++ [⟨(G k).1, n, (G k).2, (List.range n).map (F k)⟩] := by simp [shR, List.range_succ]
theorem shR_congr {n : Nat} {F : Nat → Nat → Int} {G G' : Nat → Option Addr × Nat} {k : Nat} (h : ∀ i, i < k → G i = G' i) : shR n F G k = shR n F G' k := List.map_congr_left fun i hi => by rw [h i (by simpa using hi)]
def shF (f : Nat → Nat → Int) (r : Nat) (b : Int) (i j : Nat) : Int := if i = r then f i j + b else f i j

theorem feeShifts_bad (A : Option Addr) (len cap : Nat) (l : List Rw) (k by' : Int) (w : World) (hr : RdR w A len l) (hl : len ≤ 9223372036854775807) (hc : fchk len l ≠ 0) :
    Calls Try.prog 4 #[.slice A len cap, .int .u8 k, .int .i16 by'] w fun e w' => e = .returned (.bool true) ∧ Below w.heap.size w w' := by
  have HA := Lib.hid (assign_bad A len cap l w hr hl hc)
  have hcb : (fchk len l != 0) = true := by simpa using hc
  have hrH := Lib.hid hr
  clear hr hc
  go_enter Try.func4, Try.ntmps4
  go_wp2_with fail
  refine HA.out.mono ?_
  rintro e w1 ⟨rfl, hb⟩
  have HF := Lib.hid (feesCheck_any A len cap l w1 (hrH.out.later hb) hl)
  go_wp2_with fail
  refine HF.out.mono ?_
  rintro e w2 ⟨rfl, rfl⟩
  go_wp2
  go_ret
  exact ⟨rfl, hb⟩
set_option maxHeartbeats 6400000 in
set_option maxRecDepth 100000 in
theorem feeShifts_ok (A : Option Addr) (n cap : Nat) (l : List Rw) (kk by' : Int) (w : World) (hr : RdR w A n l) (hc : fchk n l = 0) (hk0 : 0 ≤ kk) (hk1 : kk < 256) (hy0 : -32768 ≤ by') (hy1 : by' ≤ 32767) :
    Calls Try.prog 4 #[.slice A n cap, .int .u8 kk, .int .i16 by'] w fun e w' => e = .returned (.bool true) ∧ Below w.heap.size w w' := by
  obtain ⟨h8, hlen, hin⟩ := fchk_ok hr.1 hc hr.zl
  have HA := Lib.hid (assign_ok A n cap l w hr hc)
  have hcb : (fchk n l != 0) = false := by simp [hc]
  have hcz := Lib.hid hc
  have hrH := Lib.hid hr; have hlenH := Lib.hid hlen; have hinH := Lib.hid hin
  clear hr hc hlen hin
  go_enter Try.func4, Try.ntmps4
  go_wp2_with fail
  refine HA.out.mono ?_
  rintro e w1 ⟨vp, rfl, hpo, hb1⟩
  obtain ⟨Ap, cp, rfl⟩ := own_slice hpo
  have hpr := Rd.of_own hpo
  rw [row_ints] at hpr
  have hpH := Lib.hid hpr
  have HF := Lib.hid (feesCheck_any A n cap l w1 (hrH.out.later hb1) (by omega))
  rw [hcz.out] at HF
  have hbH := Lib.hid hb1
  have hs1 := hb1.size
  clear HA hpr hpo hb1
  go_wp2_with fail
  refine HF.out.mono ?_
  rintro e w2 ⟨rfl, rfl⟩
  clear HF
  by_cases hn0 : n = 0
  · subst hn0
    have hb0 : bst (feeF l) 0 0 0 = 0 := rfl
    go_wp2
    go_ret
    exact ⟨rfl, hbH.out⟩
  · have hn0' : ((n : Int) == 0) = false := by rw [beq_eq_false_iff_ne]; omega
    obtain ⟨r, hr⟩ : ∃ r : Nat, (r : Int) = kk % (n : Int) := ⟨(kk % (n : Int)).toNat, by have := Int.emod_nonneg kk (show (n : Int) ≠ 0 by omega); omega⟩
    have hrn : r < n := by have := Int.emod_lt_of_pos kk (show (0 : Int) < n by omega); omega
    have hrH2 := Lib.hid hr
    clear hr
    go_wp2
    go_loopw [10, 41] (fun v i wr => ∃ (k : Nat) (G : Nat → Option Addr × Nat), k ≤ n ∧ i = .int .i64 k ∧ wr.ownsRow w1.heap.size 23 1 v k ((shR n (shF (feeF l) r by') G k).map rv) ∧ (∀ i, i < k → wr.ownsRow w1.heap.size 2 1 (.slice (G i).1 n (G i).2) n (row n (shF (feeF l) r by' i))) ∧ Below w1.heap.size w1 wr) (fun _ i _ => n - (intOf i).toNat)
    case atStart => exact ⟨0, fun _ => (none, 0), Nat.zero_le _, rfl, World.ownsRow_nil _ _ _ _, fun i hi => absurd hi (by omega), Below.refl _ _⟩
    case round =>
      obtain ⟨k, G, hk, rfl, hown, hrows, hb⟩ := hrel
      have hownH := Lib.hid hown; have hrowsH := Lib.hid hrows; have hbkH := Lib.hid hb
      have hsk := hb.size
      clear hown hrows
      by_cases hlt : k < n
      · have hfit := hrH.out.2.2 _ (rat_mem (l := l) (k := k) (by rw [hrH.out.1]; exact hlt))
        obtain ⟨bf, of, rfl, hbf, hcf, _⟩ := (hrH.out.later (hbH.out.trans (hb.mono hs1))).at hlt
        have hfl := hlenH.out k hlt
        have hzz := Lib.hid (show ∀ j, (rat l k).zs.getD j 0 = feeF l k j from fun j => rfl)
        have hfitc := hfit.2.2
        have hfitH := Lib.hid hfit.1
        clear hfit hb
        generalize rat l k = ra at *
        obtain ⟨A', l', c', zs⟩ := ra
        simp only at hfl hfitc
        obtain ⟨hl1, hl2⟩ := hfl
        have hl1 := hl1.symm
        subst hl1
        have hk00 : (0 : Int) ≤ k := by omega
        have hkn : (k : Int) < n := by omega
        go_wp2
        generalize wr = wo at *
        go_loopw [13, 48] (fun v i ws => ∃ m : Nat, m ≤ n ∧ i = .int .i64 m ∧ ws.ownsRow wo.heap.size 2 1 v m (row m (shF (feeF l) r by' k)) ∧ Below wo.heap.size wo ws) (fun _ i _ => n - (intOf i).toNat)
        case atStart => exact ⟨0, Nat.zero_le _, rfl, World.ownsRow_nil _ _ _ _, Below.refl _ _⟩
        case round =>
          obtain ⟨m, hm, rfl, hrow, hbm⟩ := hrel
          have hrowH := Lib.hid hrow; have hbmH := Lib.hid hbm
          clear hrow
          by_cases hlt2 : m < n
          · obtain ⟨b2, o2, rfl, hb2l, hc2⟩ := (hfitH.out.later (hbH.out.trans ((hbkH.out.mono hs1).trans (hbm.mono (by omega))))).int hlt2
            rw [hzz.out] at hc2
            have hz := hinH.out k m hlt hlt2
            have hsn := Lib.hid (row_snoc m (shF (feeF l) r by' k))
            have hsF := Lib.hid (show shF (feeF l) r by' k m = if k = r then feeF l k m + by' else feeF l k m from rfl)
            generalize feeF l k m = z at *
            have hadd : IntKind.i64.wrap (z + by') = z + by' := IntWalk.i64_in _ (by omega)
            have hkw : IntKind.i64.wrap kk = kk := IntWalk.i64_in _ (by omega)
            have hyw : IntKind.i64.wrap by' = by' := IntWalk.i64_in _ (by omega)
            clear hbm hz
            by_cases hkr : k = r
            · have hsv := Lib.hid (show shF (feeF l) r by' k m = z + by' by rw [hsF.out, if_pos hkr])
              have hki : ((k : Int) == kk % (n : Int)) = true := by rw [beq_iff_eq, hkr]; exact hrH2.out
              clear hkr hsF
              go_wp2_with (at_builtin; refine wpList_app (s := .tmp 63) (x := .tmp 65) _ tiL (hrowH.out.alloc _) (rd_new1 wr (.int .i64 (z + by')) 2) (ints_one (l := [z + by'])) (by omega) (by omega) (hbmH.out.alloc hbmH.out.size _).size rfl rfl rfl rfl ?_)
              intro v' w5 hown5 hg5 _
              have hb5 : Below wo.heap.size wo w5 := (hbmH.out.alloc hbmH.out.size _).grown hg5 (hbmH.out.alloc hbmH.out.size _).size (fun g hg' => (hrowH.out.lt g hg').1)
              clear hg5
              go_wp2
              go_roundw
              case rel => exact ⟨m + 1, by omega, by go_num, by rw [hsn.out, hsv.out]; exact hown5, hb5⟩
              case measure => simp [intOf]; omega
            · have hsv := Lib.hid (show shF (feeF l) r by' k m = z by rw [hsF.out, if_neg hkr])
              have hki : ((k : Int) == kk % (n : Int)) = false := by rw [beq_eq_false_iff_ne, ← hrH2.out]; omega
              clear hkr hsF
              go_wp2_with (at_builtin; refine wpList_app (s := .tmp 63) (x := .tmp 65) _ tiL (hrowH.out.alloc _) (rd_new1 wr (.int .i64 z) 2) (ints_one (l := [z])) (by omega) (by omega) (hbmH.out.alloc hbmH.out.size _).size rfl rfl rfl rfl ?_)
              intro v' w5 hown5 hg5 _
              have hb5 : Below wo.heap.size wo w5 := (hbmH.out.alloc hbmH.out.size _).grown hg5 (hbmH.out.alloc hbmH.out.size _).size (fun g hg' => (hrowH.out.lt g hg').1)
              clear hg5
              go_wp2
              go_roundw
              case rel => exact ⟨m + 1, by omega, by go_num, by rw [hsn.out, hsv.out]; exact hown5, hb5⟩
              case measure => simp [intOf]; omega
          · obtain rfl : n = m := by omega
            obtain ⟨Av, cv, rfl⟩ := own_slice hrowH.out
            have hout := own_below hownH.out hbm
            have hsm := hbm.size
            go_wp2_with (at_builtin; refine wpList_app (s := .tmp 68) (x := .tmp 70) _ tiRL (hout.alloc _) (rd_new1 wr (.slice Av n cv) 23) (fun u hu => by simp at hu; subst hu; rfl) (by omega) (by omega) (by simp; omega) rfl rfl rfl rfl ?_)
            intro v' w7 hown7 hg7 _
            have hb7 : Below w1.heap.size wr w7 := ((Below.refl _ _).alloc (by omega) _).grown hg7 (by simp; omega) (fun g hg' => (hout.lt g hg').1)
            have hnew := (own_base (b' := w1.heap.size) (by omega) (hrowH.out.alloc (.cells #[.slice Av n cv] 23))).kept hg7 (own_neF (hrowH.out.alloc (.cells #[.slice Av n cv] 23)) (hout.alloc (.cells #[.slice Av n cv] 23)) (by decide))
            have holds : ∀ i, i < k → w7.ownsRow w1.heap.size 2 1 (.slice (G i).1 n (G i).2) n (row n (shF (feeF l) r by' i)) := fun i hi => by
              have h1 := (own_below (hrowsH.out i hi) hbm).alloc (.cells #[.slice Av n cv] 23)
              exact h1.kept hg7 (own_neF h1 (hout.alloc _) (by decide))
            have holdsH := Lib.hid holds; have hnewH := Lib.hid hnew
            have hbF := Lib.hid (hbkH.out.trans ((hbm.mono hsk).trans hb7))
            clear hg7 holds hnew hb7 hout hbm
            go_wp2
            go_roundw
            case rel =>
              refine ⟨k + 1, fun i => if i = k then (Av, cv) else G i, by omega, by go_num, ?_, fun i hi => ?_, hbF.out⟩
              · rw [shR_snoc, List.map_append, shR_congr (G' := G) (fun i hi => if_neg (by omega)), if_pos rfl]
                exact hown7
              · by_cases hik : i = k
                · subst hik
                  simp only [if_true]
                  exact hnewH.out
                · simp only [if_neg hik]
                  exact holdsH.out i (by omega)
            case measure => simp [intOf]; omega
      · obtain rfl : n = k := by omega
        obtain ⟨Ao, co, rfl⟩ := own_slice hownH.out
        have hocap := own_capF hownH.out
        have hoR : RdR wr Ao n (shR n (shF (feeF l) r by') G n) := ⟨shR_length _ _ _ _, Rd.of_own hownH.out, fun rr hrr => by
          obtain ⟨i, hi, rfl⟩ := shR_mem hrr
          have h1 := hrowsH.out i hi
          refine ⟨?_, by unfold maxLen; simp only; omega, own_capF h1⟩
          have := Rd.of_own h1
          rw [row_ints] at this
          exact this⟩
        have hfee := Lib.hid (show ∀ i j, i < n → j < n → feeF (shR n (shF (feeF l) r by') G n) i j = shF (feeF l) r by' i j from fun i j hi hj => shR_fee hi hj)
        have hoH := Lib.hid hoR
        clear hoR
        generalize shR n (shF (feeF l) r by') G n = ot at *
        by_cases hc2 : fchk n ot = 0
        · obtain ⟨_, _, hin2⟩ := fchk_ok hoH.out.1 hc2 hoH.out.zl
          have hsh : IsShift (feeF l) (feeF ot) n r by' := fun i j hi hj => by rw [hfee.out i j hi hj]; rfl
          have hcost := shift_cost h8 hinH.out hin2 hsh hrn
          have HB := Lib.hid (assign_ok Ao n co ot wr hoH.out hc2)
          rw [hcost, row_congr (G := fun i => ((jAt (feeF l) n i : Nat) : Int)) (fun i hi => by rw [shift_jAt h8 hinH.out hin2 hsh hi])] at HB
          have HC := Lib.hid (fun W hb => feesCheck_any Ao n co ot W (hoH.out.later hb) (by omega))
          rw [hc2] at HC
          have hbst := bst_in h8 hinH.out n (Nat.le_refl _) 0 (by simp [popc_zero])
          generalize bst (feeF l) n n 0 = B at *
          have hadd : IntKind.i64.wrap (B + by') = B + by' := IntWalk.i64_in _ (by omega)
          have hyw : IntKind.i64.wrap by' = by' := IntWalk.i64_in _ (by omega)
          have hpw := Lib.hid (hpH.out.later hb)
          clear hc2 hin2 hsh hcost hownH hrowsH
          go_wp2_with fail
          refine HB.out.mono ?_
          rintro e w4 ⟨vq, rfl, hqo, hb4⟩
          obtain ⟨Aq, cq, rfl⟩ := own_slice hqo
          have hqr := Rd.of_own hqo
          rw [row_ints] at hqr
          have HE := Lib.hid (ints_any Ap n cp _ Aq n cq _ w4 (hpw.out.later hb4) (by omega) hqr)
          have hb4H := Lib.hid hb4
          rw [decide_eq_true rfl] at HE
          clear hqo hqr
          go_wp2_with fail
          refine (HC.out w4 hb4).mono ?_
          rintro e w5 ⟨rfl, rfl⟩
          clear HC HB hb4
          go_wp2_with fail
          refine HE.out.mono ?_
          rintro e w6 ⟨rfl, hb6⟩
          have hbe := Lib.hid (hbH.out.trans ((hbkH.out.mono hs1).trans ((hb4H.out.mono (by omega)).trans (hb6.mono (by have := hb4H.out.size; omega)))))
          clear HE hb6 hb4H
          go_wp2
          go_ret
          exact ⟨rfl, hbe.out⟩
        · have HB := Lib.hid (assign_bad Ao n co ot wr hoH.out (by omega) hc2)
          have HC := Lib.hid (fun W hb => feesCheck_any Ao n co ot W (hoH.out.later hb) (by omega))
          have hcb2 : (fchk n ot != 0) = true := by simpa using hc2
          clear hc2 hownH hrowsH
          go_wp2_with fail
          refine HB.out.mono ?_
          rintro e w4 ⟨rfl, hb4⟩
          have hb4H := Lib.hid hb4
          go_wp2_with fail
          refine (HC.out w4 hb4).mono ?_
          rintro e w5 ⟨rfl, rfl⟩
          have hbe := Lib.hid (hbH.out.trans ((hbkH.out.mono hs1).trans (hb4H.out.mono (by omega))))
          clear HC HB hb4 hb4H
          go_wp2
          go_ret
          exact ⟨rfl, hbe.out⟩
theorem feeShifts_any (A : Option Addr) (len cap : Nat) (l : List Rw) (kk by' : Int) (w : World) (hr : RdR w A len l) (hl : len ≤ maxLen) (_ : len ≤ cap) (_ : ∀ r ∈ l, ∀ z ∈ r.zs, (Lit.int .i64 z).wf = true) (hk : (Lit.int .u8 kk).wf = true) (hy : (Lit.int .i16 by').wf = true) :
    Calls Try.prog 4 #[.slice A len cap, .int .u8 kk, .int .i16 by'] w fun e w' => e = .returned (.bool true) ∧ Below w.heap.size w w' := by
  unfold maxLen at hl
  by_cases hc : fchk len l = 0
  · have h1 : 0 ≤ kk ∧ kk < 256 := by
      have h : IntKind.u8.min ≤ kk ∧ kk ≤ IntKind.u8.max := by simpa [Lit.wf] using hk
      rw [show IntKind.u8.min = 0 from rfl, show IntKind.u8.max = 255 from rfl] at h
      omega
    have h2 : -32768 ≤ by' ∧ by' ≤ 32767 := by
      have h : IntKind.i16.min ≤ by' ∧ by' ≤ IntKind.i16.max := by simpa [Lit.wf] using hy
      rw [show IntKind.i16.min = -32768 from rfl, show IntKind.i16.max = 32767 from rfl] at h
      omega
    exact feeShifts_ok A len cap l kk by' w hr hc h1.1 h1.2 h2.1 h2.2
  · exact feeShifts_bad A len cap l kk by' w hr (by omega) hc
end Go.Proofs.Ytfedkcnofbhlgaa
