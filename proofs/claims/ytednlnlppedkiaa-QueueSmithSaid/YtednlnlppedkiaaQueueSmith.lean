/- QueueSmith: SMITH: for any jobs and any order in which no job has more time for what it is worth than the next one: that costs what the best one does. -/
import Derived.Test.YtednlnlppedkiaaWeighC
namespace Go.Proofs.Ytednlnlppedkiaa
open Go.RowKit

def srB (l : List Jb) (i j : Nat) : Bool := decide ((jat l i).time * (jat l j).worth ≤ (jat l j).time * (jat l i).worth)
/-- all pairs of the first k stand well -/
def prB (l : List Jb) (y : List Nat) (k : Nat) : Prop := (y.take k).Pairwise (SR l)
theorem prB_succ {l : List Jb} {y : List Nat} {k : Nat} (hk : k < y.length) (h : prB l y k) (h2 : ∀ m, m < k → SR l (y.getD m 0) (y.getD k 0)) : prB l y (k + 1) := by
  unfold prB
  rw [take_succ_getD' y 0 k hk, List.pairwise_append]
  refine ⟨h, by simp, fun a ha b hb => ?_⟩
  simp only [List.mem_singleton] at hb
  subst hb
  obtain ⟨m, hm, rfl⟩ := List.mem_take_iff_getElem.1 ha
  have := h2 m (by omega)
  simpa [List.getD, show m < y.length by omega] using this
theorem natI_at {y : List Nat} {k : Nat} (hk : k < y.length) : (natI y).getD k 0 = ((y.getD k 0 : Nat) : Int) := by
  simp [natI, List.getD, hk]
set_option maxHeartbeats 1600000 in
theorem queueSmith_walk (A A3 : Option Addr) (len cap len3 cap3 : Nat) (l : List Jb) (o : List Int) (w : World) (hr : RdJ w A len l) (hr3 : Rd w A3 len3 1 (ints .i64 o))
    (hl : len ≤ 9223372036854775807) (hl3 : len3 ≤ 9223372036854775807) (hcap3 : len3 ≤ cap3) :
    Calls Try.prog 5 #[.slice A len cap, .slice A3 len3 cap3] w fun e w' => e = .returned (.bool true) ∧ Below w.heap.size w w' := by
  have hel := hr.1
  have hel3 : o.length = len3 := by simpa [ints] using hr3.1
  have HJ := Lib.hid (fun W (h : Below w.heap.size w W) => jobsOk_any 0 (by omega) A len cap l W (hr.later h) hl)
  cases hq : qchk 0 l == 0
  · have HT := Lib.hid (worth_bad A len cap l w hr hl hq)
    rw [hq] at HJ
    clear hr hr3 hel hel3 hq
    go_enter Try.func5, Try.ntmps5
    go_wp2_with fail
    refine HT.out.mono ?_
    rintro _ w1 ⟨z, rfl, hz, hb⟩
    have HJ1 := Lib.hid (HJ.out w1 hb)
    have hs1 := hb.size
    go_wp2_with fail
    refine HJ1.out.mono ?_
    rintro _ w2 ⟨rfl, hb2⟩
    go_wp2
    go_ret
    exact ⟨rfl, hb.trans (hb2.mono hs1)⟩
  · have hok : qchk 0 l = 0 := by simpa using hq
    rw [hq] at HJ
    obtain ⟨h7, hbt, hbf⟩ := qchk_zero hok
    rw [hel] at h7
    have HT := Lib.hid (worth_ok A len cap l w hr hok)
    have HE3 := Lib.hid (fun W (h : Below w.heap.size w W) => each_any (len : Int) A3 len3 cap3 o W (hr3.later h) hl3 hcap3)
    have HF := Lib.hid (fun W (h : Below w.heap.size w W) A' m c zs (hR : Rd W A' m 1 (ints .i64 zs)) h1 h2 => weighs0_any A A' len cap m c l zs W (hr.later h) hR h7 h1 hbt hbf h2)
    have hrH := Lib.hid hr; have hr3H := Lib.hid hr3; have hbtH := Lib.hid hbt; have hbfH := Lib.hid hbf
    clear hr hr3 hok hq hbt hbf
    go_enter Try.func5, Try.ntmps5
    go_wp2_with fail
    refine HT.out.mono ?_
    rintro _ w1 ⟨x, g, c, rfl, hp, hown, hmin, hb⟩
    have hRx := Rd.of_own hown
    have hnc := own_cap hown
    have HJ1 := Lib.hid (HJ.out w1 hb)
    have hs1 := hb.size
    clear hown
    have hpH := Lib.hid hp; have hminH := Lib.hid hmin
    clear hp hmin
    obtain ⟨v, hv⟩ : ∃ v, (wfold l (natI x)).2 = v := ⟨_, rfl⟩
    have hvH := Lib.hid hv
    simp only [hv]
    clear hv
    go_wp2_with fail
    refine HJ1.out.mono ?_
    rintro _ w2 ⟨rfl, hb2⟩
    have hb12 := hb.trans (hb2.mono hs1)
    have hb12H := Lib.hid hb12
    have hR2 := hRx.later hb2
    have hE1 := each_any (len : Int) (some ⟨g, 0, none⟩) len c (natI x) w2 hR2 (by omega) hnc
    rw [(eachB_iff len (natI x)).2 ⟨x, hpH.out, rfl⟩] at hE1
    have HE1 := Lib.hid hE1
    have HF1 := HF.out w2 hb12 (some ⟨g, 0, none⟩) len c (natI x) hR2 h7 (natI_getD hpH.out)
    rw [hvH.out] at HF1
    have HF1 := Lib.hid HF1
    have HE2 := Lib.hid (HE3.out w2 hb12)
    clear hRx hR2 hE1 hnc hb hb2 hs1 hb12
    cases he : eachB len o
    · rw [he] at HE2
      clear he hel hel3
      go_wp2_with fail
      refine HE1.out.mono ?_
      rintro _ w3 ⟨rfl, rfl⟩
      go_wp2_with fail
      refine HF1.out.mono ?_
      rintro _ w3 ⟨rfl, rfl⟩
      go_wp2_with fail
      refine HE2.out.mono ?_
      rintro _ w3 ⟨rfl, rfl⟩
      go_wp2
      go_ret
      exact ⟨rfl, hb12H.out⟩
    · rw [he] at HE2
      obtain ⟨y, hpy, rfl⟩ := (eachB_iff len o).1 he
      have hly : len3 = len := by have := hpy.length_eq; simp [natI] at hel3 this; omega
      have hle2 := hminH.out y hpy
      rw [hvH.out] at hle2
      subst hly
      have hyl : y.length = len3 := by simpa using hpy.length_eq
      have hylH := Lib.hid hyl
      have hin := Lib.hid (natI_getD hpy)
      have HF2 := Lib.hid (fun W (hW : Below w.heap.size w W) => HF.out W hW A3 len3 cap3 (natI y) (hr3H.out.later hW) h7 (natI_getD hpy))
      have hgood := Lib.hid (fun (h : prB l y len3) => show (wfold l (natI y)).2 = v from by
        have h1 : y.take len3 = y := List.take_of_length_le (by omega)
        unfold prB at h
        rw [h1] at h
        have := smith_best h (hpH.out.trans hpy.symm)
        rw [hvH.out] at this
        omega)
      have hat := Lib.hid (fun k (hk : k < len3) => (show ∃ m : Nat, m < len3 ∧ (natI y).getD k 0 = (m : Int) ∧ y.getD k 0 = m from by
        have h1 := hin.out k hk
        have h2 := natI_at (y := y) (k := k) (by omega)
        exact ⟨y.getD k 0, by omega, h2, rfl⟩))
      have hstep := Lib.hid (fun (k : Nat) h1 h2 h3 => @prB_succ l y k h1 h2 h3)
      generalize (wfold l (natI y)).2 = v2 at *
      generalize natI y = o at *
      clear he hel hel3 hpy hyl hpH hminH HE3 HT HJ HJ1
      go_wp2_with fail
      refine HE1.out.mono ?_
      rintro _ w3 ⟨rfl, rfl⟩
      go_wp2_with fail
      refine HF1.out.mono ?_
      rintro _ w3 ⟨rfl, rfl⟩
      go_wp2_with fail
      refine HE2.out.mono ?_
      rintro _ w3 ⟨rfl, rfl⟩
      go_wp2
      go_loopw [8, 9, 11, 46] (fun _ _ _ i wr => ∃ k : Nat, k ≤ len3 ∧ i = .int .i64 k ∧ prB l y k ∧ Below w.heap.size w wr) (fun _ _ _ i _ => len3 - (intOf i).toNat)
      case atStart => exact ⟨0, Nat.zero_le _, rfl, by simp [prB], hb12H.out⟩
      case round =>
        clear hb12H
        obtain ⟨k, hk, rfl, hpr, hb⟩ := hrel
        have hprH := Lib.hid hpr; clear hpr
        by_cases hlt : k < len3
        · obtain ⟨b3, o3, rfl, hab3, hc3⟩ := (hr3H.out.later hb).int hlt
          obtain ⟨m, hm1, hm2, hm3⟩ := hat.out k hlt
          rw [hm2] at hc3
          obtain ⟨b, oo, rfl, hab, _⟩ := (hrH.out.later hb).at hm1
          have hmi : (m : Int) < len3 := by omega
          have hkc : k ≤ cap3 := by omega
          obtain ⟨tk, htk⟩ : ∃ z, (jat l m).time = z := ⟨_, rfl⟩
          obtain ⟨ok, hok⟩ : ∃ z, (jat l m).worth = z := ⟨_, rfl⟩
          have htkH := Lib.hid htk; have hokH := Lib.hid hok
          have hstep2 := Lib.hid (hstep.out k (by rw [hylH.out]; exact hlt) hprH.out)
          have hB1 := hbtH.out m
          have hB2 := hbfH.out m
          simp only [fld, reduceIte, show ¬ (0 = 1) by omega] at hB2
          rw [htk] at hB1
          rw [hok] at hB2
          obtain ⟨hB1, hB3⟩ := hB1
          obtain ⟨hB2, hB4⟩ := hB2
          have hm3H := Lib.hid hm3
          clear htk hok hm2 hm3
          go_wp2
          go_loopw [11, 55] (fun _ i wr => ∃ j : Nat, j ≤ k ∧ i = .int .i64 j ∧ (∀ m, m < j → SR l (y.getD m 0) (y.getD k 0)) ∧ Below w.heap.size w wr) (fun _ i _ => k - (intOf i).toNat)
          case atStart => exact ⟨0, Nat.zero_le _, rfl, fun _ h => absurd h (by omega), hb⟩
          case round =>
            clear hb hab hab3 hc3
            obtain ⟨j, hj, rfl, hall, hb⟩ := hrel
            have hallH := Lib.hid hall; clear hall
            by_cases hjk : j < k
            · obtain ⟨_, _, hA, hab4, hc4⟩ := (hr3H.out.later hb).int (show j < len3 by omega)
              cases hA
              obtain ⟨m4, hn1, hn2, hn3⟩ := hat.out j (by omega)
              rw [hn2] at hc4
              obtain ⟨_, _, hA, hab5, hd0, _, _, hd3, _⟩ := (hrH.out.later hb).at hm1
              cases hA
              obtain ⟨_, _, hA, hab6, hf0, _, _, hf3, _⟩ := (hrH.out.later hb).at hn1
              cases hA
              have hmi2 : (m4 : Int) < len3 := by omega
              obtain ⟨tj, htj⟩ : ∃ z, (jat l m4).time = z := ⟨_, rfl⟩
              obtain ⟨oj, hoj⟩ : ∃ z, (jat l m4).worth = z := ⟨_, rfl⟩
              have hsr := Lib.hid (show SR l m4 m ↔ tj * ok ≤ tk * oj by unfold SR; rw [htj, hoj, htkH.out, hokH.out])
              have hC1 := hbtH.out m4
              have hC2 := hbfH.out m4
              simp only [fld, reduceIte, show ¬ (0 = 1) by omega] at hC2
              rw [htj] at hC1 hf0
              rw [hoj] at hC2 hf3
              rw [htkH.out] at hd0
              rw [hokH.out] at hd3
              obtain ⟨hC1, hC3⟩ := hC1
              obtain ⟨hC2, hC4⟩ := hC2
              clear htj hoj
              obtain ⟨p1, hp1⟩ : ∃ z, tj * ok = z := ⟨_, rfl⟩
              obtain ⟨p2, hp2⟩ : ∃ z, tk * oj = z := ⟨_, rfl⟩
              have hb1 := mul_bd hC1 hC3 hB2 hB4
              have hb2 := mul_bd hB1 hB3 hC2 hC4
              rw [hp1] at hb1 hsr
              rw [hp2] at hb2 hsr
              obtain ⟨hb1, hb3⟩ := hb1
              obtain ⟨hb2, hb4⟩ := hb2
              have hn3H := Lib.hid hn3
              clear hn2 hn3
              have hbH := Lib.hid hb
              clear hb
              by_cases hgt : p2 < p1
              · go_wp2
                go_quiet (fail)
                have HFq := Lib.hid (HF2.out _ (below_drewN hbH.out nq))
                go_wp2_with fail
                refine HFq.out.mono ?_
                rintro _ w5 ⟨rfl, rfl⟩
                go_wp2
                go_ret
                exact ⟨rfl, below_drewN hbH.out nq⟩
              · have hsr2 := Lib.hid (show SR l (y.getD j 0) (y.getD k 0) by rw [hn3H.out, hm3H.out]; exact hsr.out.2 (by omega))
                go_wp2
                go_quiet (fail)
                go_wp2
                go_roundw
                case rel => exact ⟨j + 1, by omega, by go_num, fun m hm => by
                  rcases Nat.lt_or_ge m j with h | h
                  · exact hallH.out m h
                  · obtain rfl : m = j := by omega
                    exact hsr2.out, below_drewN hbH.out nq⟩
                case measure => simp [intOf]; omega
            · obtain rfl : j = k := by omega
              go_wp2
              go_roundw
              case rel => exact ⟨j + 1, by omega, by go_num, hstep2.out hallH.out, hb⟩
              case measure => simp [intOf]; omega
        · obtain rfl : k = len3 := by omega
          have hv2 := hgood.out hprH.out
          have HFq := HF2.out _ hb
          rw [hv2] at HFq
          have HFq := Lib.hid HFq
          clear hv2 hgood
          go_wp2_with fail
          refine HFq.out.mono ?_
          rintro _ w5 ⟨rfl, rfl⟩
          go_wp2
          go_ret
          exact ⟨rfl, hb⟩
theorem queueSmith_any (A : Option Addr) (len cap : Nat) (l : List Jb) (A3 : Option Addr) (len3 cap3 : Nat) (o : List Int) (w : World) (hr : RdJ w A len l) (hl : len ≤ maxLen) (_ : len ≤ cap)
    (_ : ∀ j ∈ l, (∀ z ∈ j.after, (Lit.int .i64 z).wf = true) ∧ (Lit.int .i64 j.time).wf = true ∧ (Lit.int .i64 j.due).wf = true ∧ (Lit.int .i64 j.worth).wf = true)
    (hr3 : Rd w A3 len3 1 (ints .i64 o)) (hl3 : len3 ≤ maxLen) (hcap3 : len3 ≤ cap3) (_ : ∀ z ∈ o, (Lit.int .i64 z).wf = true) :
    Calls Try.prog 5 #[.slice A len cap, .slice A3 len3 cap3] w fun e w' => e = .returned (.bool true) ∧ Below w.heap.size w w' := by
  unfold maxLen at hl hl3
  exact queueSmith_walk A A3 len cap len3 cap3 l o w hr hr3 (by omega) (by omega) hcap3
end Go.Proofs.Ytednlnlppedkiaa
