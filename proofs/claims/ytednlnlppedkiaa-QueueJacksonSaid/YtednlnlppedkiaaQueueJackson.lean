/- QueueJackson: JACKSON: for any jobs and any order in which none is due later than the next one: the latest one is as late as in the best one. -/
import Derived.Test.YtednlnlppedkiaaQueueSmith
namespace Go.Proofs.Ytednlnlppedkiaa
open Go.RowKit

/-- none of the first k is due later than the next one -/
theorem sorted_pw {l : List Jb} {y : List Nat} (h : ∀ k, 0 < k → k < y.length → (jat l (y.getD (k - 1) 0)).due ≤ (jat l (y.getD k 0)).due) : y.Pairwise fun i j => (jat l i).due ≤ (jat l j).due := by
  rw [List.pairwise_iff_getElem]
  intro i j hi hj hij
  have hst : ∀ d, i + d < y.length → (jat l (y.getD i 0)).due ≤ (jat l (y.getD (i + d) 0)).due := by
    intro d
    induction d with
    | zero => intro _; exact Int.le_refl _
    | succ d ih =>
      intro hd
      exact Int.le_trans (ih (by omega)) (by have := h (i + d + 1) (by omega) (by omega); rwa [Nat.add_sub_cancel] at this)
  have := hst (j - i) (by omega)
  rw [show i + (j - i) = j by omega] at this
  simpa [List.getD, hi, hj] using this
theorem lw_eq {l : List Jb} {o : List Int} {n : Nat} (hl : o.length = n) (h : (n == 0) = false) : lw l o o.length = (lfold l o).2 := by
  unfold lw
  rw [if_neg (by simp at h; omega), List.take_of_length_le (Nat.le_refl _)]
set_option maxHeartbeats 1600000 in
theorem queueJackson_walk (A A3 : Option Addr) (len cap len3 cap3 : Nat) (l : List Jb) (o : List Int) (w : World) (hr : RdJ w A len l) (hr3 : Rd w A3 len3 1 (ints .i64 o))
    (hl : len ≤ 9223372036854775807) (hl3 : len3 ≤ 9223372036854775807) (hcap3 : len3 ≤ cap3) :
    Calls Try.prog 6 #[.slice A len cap, .slice A3 len3 cap3] w fun e w' => e = .returned (.bool true) ∧ Below w.heap.size w w' := by
  have hel := hr.1
  have hel3 : o.length = len3 := by simpa [ints] using hr3.1
  have HJ := Lib.hid (fun W (h : Below w.heap.size w W) => jobsOk_any 1 (by omega) A len cap l W (hr.later h) hl)
  cases hq : qchk 1 l == 0
  · have HT := Lib.hid (late_bad A len cap l w hr hl hq)
    rw [hq] at HJ
    clear hr hr3 hel hel3 hq
    go_enter Try.func6, Try.ntmps6
    go_wp2_with fail
    refine HT.out.mono ?_
    rintro _ w1 ⟨z, rfl, hz, hb⟩
    have HJ1 := Lib.hid (HJ.out w1 hb)
    have hs1 := hb.size
    go_wp2_with fail
    refine HJ1.out.mono ?_
    rintro _ w2 ⟨rfl, hb2⟩
    go_wp2
    go_ret
    exact ⟨rfl, hb.trans (hb2.mono hs1)⟩
  · have hok : qchk 1 l = 0 := by simpa using hq
    rw [hq] at HJ
    obtain ⟨h7, hbt, hbf⟩ := qchk_zero hok
    rw [hel] at h7
    have HE3 := Lib.hid (fun W (h : Below w.heap.size w W) => each_any (len : Int) A3 len3 cap3 o W (hr3.later h) hl3 hcap3)
    have HF := Lib.hid (fun W (h : Below w.heap.size w W) A' m c zs (hR : Rd W A' m 1 (ints .i64 zs)) h1 h2 => weighs1_any A A' len cap m c l zs W (hr.later h) hR h7 h1 hbt hbf h2)
    have hrH := Lib.hid hr; have hr3H := Lib.hid hr3; have hbtH := Lib.hid hbt; have hbfH := Lib.hid hbf
    cases hz : len == 0
    · have HT := Lib.hid (late_ok A len cap l w hz hr hok)
      clear hr hr3 hok hq hbt hbf
      have hzH := Lib.hid hz; clear hz
      go_enter Try.func6, Try.ntmps6
      go_wp2_with fail
      refine HT.out.mono ?_
      rintro _ w1 ⟨x, g, c, rfl, hp, hown, hmin, hb⟩
      have hRx := Rd.of_own hown
      have hnc := own_cap hown
      have HJ1 := Lib.hid (HJ.out w1 hb)
      have hs1 := hb.size
      clear hown
      have hpH := Lib.hid hp; have hminH := Lib.hid hmin
      clear hp hmin
      obtain ⟨v, hv⟩ : ∃ v, (lfold l (natI x)).2 = v := ⟨_, rfl⟩
      have hvH := Lib.hid hv
      simp only [hv]
      clear hv
      go_wp2_with fail
      refine HJ1.out.mono ?_
      rintro _ w2 ⟨rfl, hb2⟩
      have hb12 := hb.trans (hb2.mono hs1)
      have hb12H := Lib.hid hb12
      have hR2 := hRx.later hb2
      have hE1 := each_any (len : Int) (some ⟨g, 0, none⟩) len c (natI x) w2 hR2 (by omega) hnc
      rw [(eachB_iff len (natI x)).2 ⟨x, hpH.out, rfl⟩] at hE1
      have HE1 := Lib.hid hE1
      have HF1 := HF.out w2 hb12 (some ⟨g, 0, none⟩) len c (natI x) hR2 h7 (natI_getD hpH.out)
      rw [lw_eq (n := len) (by simpa [natI] using hpH.out.length_eq) hzH.out, hvH.out] at HF1
      have HF1 := Lib.hid HF1
      have HE2 := Lib.hid (HE3.out w2 hb12)
      clear hRx hR2 hE1 hnc hb hb2 hs1 hb12
      cases he : eachB len o
      · rw [he] at HE2
        clear he hel hel3
        go_wp2_with fail
        refine HE1.out.mono ?_
        rintro _ w3 ⟨rfl, rfl⟩
        go_wp2_with fail
        refine HF1.out.mono ?_
        rintro _ w3 ⟨rfl, rfl⟩
        go_wp2_with fail
        refine HE2.out.mono ?_
        rintro _ w3 ⟨rfl, rfl⟩
        go_wp2
        go_ret
        exact ⟨rfl, hb12H.out⟩
      · rw [he] at HE2
        obtain ⟨y, hpy, rfl⟩ := (eachB_iff len o).1 he
        have hly : len3 = len := by have := hpy.length_eq; simp [natI] at hel3 this; omega
        have hle2 := hminH.out y hpy
        rw [hvH.out] at hle2
        subst hly
        have hyl : y.length = len3 := by simpa using hpy.length_eq
        have HF2 := Lib.hid (fun W (hW : Below w.heap.size w W) => HF.out W hW A3 len3 cap3 (natI y) (hr3H.out.later hW) h7 (natI_getD hpy))
        rw [lw_eq (n := len3) hel3 hzH.out] at HF2
        have hgood := Lib.hid (fun (h : ∀ k, 0 < k → k < len3 → (jat l (y.getD (k - 1) 0)).due ≤ (jat l (y.getD k 0)).due) => show (lfold l (natI y)).2 = v from by
          have := jackson_best hbtH.out (sorted_pw (l := l) (y := y) (by rw [hyl]; exact h)) (hpH.out.trans hpy.symm)
          rw [hvH.out] at this
          omega)
        have hin := Lib.hid (natI_getD hpy)
        have hat := Lib.hid (fun k (hk : k < len3) => (show ∃ m : Nat, m < len3 ∧ (natI y).getD k 0 = (m : Int) ∧ y.getD k 0 = m from by
          have h1 := hin.out k hk
          have h2 := natI_at (y := y) (k := k) (by omega)
          exact ⟨y.getD k 0, by omega, h2, rfl⟩))
        generalize (lfold l (natI y)).2 = v2 at *
        generalize natI y = o at *
        have hl1 : 1 ≤ len3 := by have := hzH.out; simp at this; omega
        clear he hel hel3 hpy hyl hpH hminH HE3 HT HJ HJ1 hzH
        go_wp2_with fail
        refine HE1.out.mono ?_
        rintro _ w3 ⟨rfl, rfl⟩
        go_wp2_with fail
        refine HF1.out.mono ?_
        rintro _ w3 ⟨rfl, rfl⟩
        go_wp2_with fail
        refine HE2.out.mono ?_
        rintro _ w3 ⟨rfl, rfl⟩
        go_wp2
        go_loopw [8] (fun i wr => ∃ k : Nat, k + 1 ≤ len3 ∧ i = .int .i64 (k + 1) ∧ (∀ m, 0 < m → m < k + 1 → (jat l (y.getD (m - 1) 0)).due ≤ (jat l (y.getD m 0)).due) ∧ Below w.heap.size w wr) (fun i _ => len3 - (intOf i).toNat)
        case atStart => exact ⟨0, hl1, rfl, fun m _ _ => by omega, hb12H.out⟩
        case round =>
          clear hb12H
          obtain ⟨k, hk, rfl, hpr, hb⟩ := hrel
          have hprH := Lib.hid hpr; clear hpr
          by_cases hlt : k + 1 < len3
          · obtain ⟨b3, o3, rfl, hab3, hc3⟩ := (hr3H.out.later hb).int hlt
            obtain ⟨_, _, hA, hab4, hc4⟩ := (hr3H.out.later hb).int (show k < len3 by omega)
            cases hA
            obtain ⟨m, hm1, hm2, hm3⟩ := hat.out (k + 1) hlt
            obtain ⟨m4, hn1, hn2, hn3⟩ := hat.out k (by omega)
            rw [hm2] at hc3
            rw [hn2] at hc4
            obtain ⟨b, oo, rfl, hab, _, _, hd2, _⟩ := (hrH.out.later hb).at hm1
            obtain ⟨_, _, hA, hab6, _, _, hf2, _⟩ := (hrH.out.later hb).at hn1
            cases hA
            have hmi : (m : Int) < len3 := by omega
            have hmi2 : (m4 : Int) < len3 := by omega
            have hki : (k : Int) + 1 < len3 := by omega
            have hki2 : (k : Int) < len3 := by omega
            have hki0 : (0 : Int) ≤ k := by omega
            have hkw : IntKind.i64.wrap ((k : Int) + 1 - 1) = k := by rw [show (k : Int) + 1 - 1 = k by omega]; exact IntWalk.i64_in _ (by omega)
            have hk1t : ((k : Int) + 1).toNat = k + 1 := by omega
            obtain ⟨dk, hdk⟩ : ∃ z, (jat l m).due = z := ⟨_, rfl⟩
            obtain ⟨dj, hdj⟩ : ∃ z, (jat l m4).due = z := ⟨_, rfl⟩
            rw [hdk] at hd2
            rw [hdj] at hf2
            have hdkH := Lib.hid hdk; have hdjH := Lib.hid hdj
            have hm3H := Lib.hid hm3; have hn3H := Lib.hid hn3
            have hbH := Lib.hid hb
            clear hdk hdj hm2 hm3 hn2 hn3 hb
            by_cases hgt : dk < dj
            · go_wp2
              go_quiet (fail)
              have HFq := Lib.hid (HF2.out _ (below_drewN hbH.out nq))
              go_wp2_with fail
              refine HFq.out.mono ?_
              rintro _ w5 ⟨rfl, rfl⟩
              go_wp2
              go_ret
              exact ⟨rfl, below_drewN hbH.out nq⟩
            · go_wp2
              go_quiet (fail)
              go_wp2
              go_roundw
              case rel => exact ⟨k + 1, by omega, by go_num, fun m5 hm0 hm => by
                rcases Nat.lt_or_ge m5 (k + 1) with h | h
                · exact hprH.out m5 hm0 h
                · obtain rfl : m5 = k + 1 := by omega
                  rw [hm3H.out, Nat.add_sub_cancel, hn3H.out, hdkH.out, hdjH.out]
                  omega, below_drewN hbH.out nq⟩
              case measure => simp [intOf]; omega
          · obtain rfl : k + 1 = len3 := by omega
            have hv2 := hgood.out hprH.out
            have HFq := HF2.out _ hb
            rw [hv2] at HFq
            have HFq := Lib.hid HFq
            clear hv2 hgood
            go_wp2_with fail
            refine HFq.out.mono ?_
            rintro _ w5 ⟨rfl, rfl⟩
            go_wp2
            go_ret
            exact ⟨rfl, hb⟩
    · obtain rfl : len = 0 := by simpa using hz
      have HT := Lib.hid (late_none A cap l w hr hok)
      clear hr hr3 hok hq hbt hbf hz
      have hrdE : ∀ W, Rd W none 0 1 (ints .i64 []) := fun W => ⟨rfl, fun h => absurd h (by omega)⟩
      have hrdEH := Lib.hid hrdE; clear hrdE
      go_enter Try.func6, Try.ntmps6
      go_wp2_with fail
      refine HT.out.mono ?_
      rintro _ w1 ⟨rfl, hb⟩
      have HJ1 := Lib.hid (HJ.out w1 hb)
      have hs1 := hb.size
      go_wp2_with fail
      refine HJ1.out.mono ?_
      rintro _ w2 ⟨rfl, hb2⟩
      have hb12 := hb.trans (hb2.mono hs1)
      have hb12H := Lib.hid hb12
      have HE1 := Lib.hid (each_any ((0 : Nat) : Int) none 0 0 [] w2 (hrdEH.out w2) (by omega) (by omega))
      rw [show eachB ((0 : Nat) : Int) [] = true from rfl] at HE1
      have HF1 := Lib.hid (HF.out w2 hb12 none 0 0 [] (hrdEH.out w2) (by omega) (fun k hk => absurd hk (by omega)))
      rw [show lw l [] ([] : List Int).length = 0 from rfl] at HF1
      have HE2 := Lib.hid (HE3.out w2 hb12)
      clear hb hb2 hs1 hb12
      cases he : eachB ((0 : Nat) : Int) o
      · rw [he] at HE2
        clear he hel hel3
        go_wp2_with fail
        refine HE1.out.mono ?_
        rintro _ w3 ⟨rfl, rfl⟩
        go_wp2_with fail
        refine HF1.out.mono ?_
        rintro _ w3 ⟨rfl, rfl⟩
        go_wp2_with fail
        refine HE2.out.mono ?_
        rintro _ w3 ⟨rfl, rfl⟩
        go_wp2
        go_ret
        exact ⟨rfl, hb12H.out⟩
      · rw [he] at HE2
        obtain ⟨y, hpy, rfl⟩ := (eachB_iff 0 o).1 he
        obtain rfl : y = [] := by simpa using hpy
        obtain rfl : len3 = 0 := by simpa [natI] using hel3.symm
        have HF2 := Lib.hid (HF.out w2 hb12H.out A3 0 cap3 (natI []) (hr3H.out.later hb12H.out) (by omega) (fun k hk => absurd hk (by omega)))
        rw [show lw l (natI []) (natI []).length = 0 from rfl] at HF2
        clear he hel hel3 hpy
        go_wp2_with fail
        refine HE1.out.mono ?_
        rintro _ w3 ⟨rfl, rfl⟩
        go_wp2_with fail
        refine HF1.out.mono ?_
        rintro _ w3 ⟨rfl, rfl⟩
        go_wp2_with fail
        refine HE2.out.mono ?_
        rintro _ w3 ⟨rfl, rfl⟩
        go_wp2
        go_loop [8] (fun i => i = .int .i64 1) (fun _ => 0)
        case atStart => rfl
        case round =>
          obtain rfl := hrel
          go_wp2_with fail
          refine HF2.out.mono ?_
          rintro _ w5 ⟨rfl, rfl⟩
          go_wp2
          go_ret
          exact ⟨rfl, hb12H.out⟩
theorem queueJackson_any (A : Option Addr) (len cap : Nat) (l : List Jb) (A3 : Option Addr) (len3 cap3 : Nat) (o : List Int) (w : World) (hr : RdJ w A len l) (hl : len ≤ maxLen) (_ : len ≤ cap)
    (_ : ∀ j ∈ l, (∀ z ∈ j.after, (Lit.int .i64 z).wf = true) ∧ (Lit.int .i64 j.time).wf = true ∧ (Lit.int .i64 j.due).wf = true ∧ (Lit.int .i64 j.worth).wf = true)
    (hr3 : Rd w A3 len3 1 (ints .i64 o)) (hl3 : len3 ≤ maxLen) (hcap3 : len3 ≤ cap3) (_ : ∀ z ∈ o, (Lit.int .i64 z).wf = true) :
    Calls Try.prog 6 #[.slice A len cap, .slice A3 len3 cap3] w fun e w' => e = .returned (.bool true) ∧ Below w.heap.size w w' := by
  unfold maxLen at hl hl3
  exact queueJackson_walk A A3 len cap len3 cap3 l o w hr hr3 (by omega) (by omega) hcap3
end Go.Proofs.Ytednlnlppedkiaa
