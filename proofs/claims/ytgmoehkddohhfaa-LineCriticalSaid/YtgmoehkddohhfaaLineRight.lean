/- LineRight: the walk. -/
import Derived.Test.YtgmoehkddohhfaaLineF
namespace Go.Proofs.Ytgmoehkddohhfaa
open Go.RowKit

def Good (js : List Jb) (q : List Int) : Prop := ∀ k, k < q.length → badE js.length q k = false ∧ ∃ m : Nat, m < js.length ∧ q.getD k 0 = m ∧ ∀ z ∈ (jat js m).after, hasB (q.take k) z = true
theorem Good.nil (js : List Jb) : Good js [] := fun k hk => absurd hk (by simp)
theorem Good.snoc {js : List Jb} {q : List Int} (h : Good js q) {k : Nat} (hk : k < js.length) (hr : rdy js q k = true) : Good js (q ++ [(k : Int)]) := by
  intro i hi
  by_cases hq : i < q.length
  · obtain ⟨h1, m, h2, h3, h4⟩ := h i hq
    have e1 : (q ++ [(k : Int)]).getD i 0 = q.getD i 0 := by simp [List.getD, List.getElem?_append_left hq]
    have e2 : (q ++ [(k : Int)]).take i = q.take i := by rw [List.take_append_of_le_length (by omega)]
    unfold badE at h1 ⊢
    rw [e1, e2]
    exact ⟨h1, m, h2, h3, h4⟩
  · obtain rfl : i = q.length := by simp at hi; omega
    have e1 : (q ++ [(k : Int)]).getD q.length 0 = k := by simp [List.getD]
    have e2 : (q ++ [(k : Int)]).take q.length = q := by rw [List.take_append_of_le_length (by omega), List.take_length]
    rw [rdy_eq] at hr
    simp only [Bool.and_eq_true, Bool.not_eq_true'] at hr
    unfold badE
    rw [e1, e2, hr.1]
    refine ⟨by simp; omega, k, hk, rfl, fun z hz => ?_⟩
    have := List.any_eq_false.1 hr.2 z hz
    simpa using this
theorem kahn_good (js : List Jb) : ∀ (f : Nat) (q r : List Int), Good js q → kahn js f q = some r → Good js r ∧ r.length = q.length + f
  | 0, q, r, h, hk => by
    simp only [kahn, Option.some.injEq] at hk
    subst hk
    exact ⟨h, rfl⟩
  | f + 1, q, r, h, hk => by
    rw [kahn] at hk
    rcases nx_cases js q with ⟨h1, _⟩ | ⟨k, h1, h2, h3⟩
    · rw [h1, if_pos (by omega)] at hk; cases hk
    · rw [h1, if_neg (by omega)] at hk
      obtain ⟨h4, h5⟩ := kahn_good js f _ r (h.snoc h2 h3) hk
      exact ⟨h4, by simp at h5; omega⟩
theorem good_each {js : List Jb} {q : List Int} (h : Good js q) (hl : q.length = js.length) : eachB js.length q = true := by
  unfold eachB
  rw [Bool.and_eq_true]
  refine ⟨?_, by simp [hl]⟩
  rw [Bool.not_eq_true', List.any_eq_false]
  intro k hk
  simpa using (h k (by simpa using hk)).1
theorem own_slice_cap {w : World} {b e s n : Nat} {v : Value} {xs : List Value} (h : w.ownsRow b e s v n xs) : ∃ A c, v = .slice A n c ∧ n ≤ c := by
  rcases h.2 with ⟨rfl, rfl⟩ | ⟨g, cap, cur, rfl, _, _, hc, _⟩
  · exact ⟨none, 0, rfl, Nat.le_refl _⟩
  · exact ⟨_, cap, rfl, hc⟩
set_option maxHeartbeats 3200000 in
theorem lineRight_any (A : Option Addr) (len cap : Nat) (l : List Jb) (w : World) (hr : RdJ w A len l) (hl : len ≤ maxLen) (_ : len ≤ cap) (hwf0 : ∀ j ∈ l, (∀ z ∈ j.after, (Lit.int .i64 z).wf = true) ∧ (Lit.int .i64 j.time).wf = true ∧ (Lit.int .i64 j.due).wf = true ∧ (Lit.int .i64 j.worth).wf = true) :
    Calls Try.prog 3 #[.slice A len cap] w fun e w' => e = .returned (.bool true) ∧ Below w.heap.size w w' := by
  have hwf : ∀ j ∈ l, ∀ z ∈ j.after, (Lit.int .i64 z).wf = true := fun j hj => (hwf0 j hj).1
  clear hwf0
  unfold maxLen at hl
  have hel := hr.1
  by_cases hc : jchk l = 0
  · have hlen := jchk_len hc
    rw [hel] at hlen
    have HO := Lib.hid (order_ok A len cap l w hr hwf hc)
    have hrH := Lib.hid hr; have helH := Lib.hid hel; have hcH := Lib.hid hc
    clear hr hel hwf hc
    go_enter Try.func3, Try.ntmps3
    go_wp2_with fail
    refine HO.out.mono ?_
    rintro e w1 ⟨hb1, hcase⟩
    have HC := Lib.hid (jobsCheck_any A len cap l w1 (hrH.out.later hb1) hl)
    rw [hcH.out] at HC
    rcases hcase with ⟨hk, rfl⟩ | ⟨q, v, hk, rfl, hown⟩
    · have hkH := Lib.hid (show (kahn l l.length []).isSome = false by rw [hk]; rfl)
      clear hk
      go_wp2_with fail
      refine HC.out.mono ?_
      rintro e w2 ⟨rfl, hb2⟩
      have hbb := hb1.trans (hb2.mono hb1.size)
      have HR := Lib.hid (refOrder_any A len cap l w2 (hrH.out.later hbb) hlen)
      go_wp2_with fail
      refine HR.out.mono ?_
      rintro e w3 ⟨hb3, v3, rfl⟩
      rw [hkH.out]
      have hbe := hbb.trans (hb3.mono hbb.size)
      go_wp2
      go_ret
      exact ⟨rfl, hbe⟩
    · have hkH := Lib.hid (show (kahn l l.length []).isSome = true by rw [hk]; rfl)
      obtain ⟨hgood, hql⟩ := kahn_good l l.length [] q (Good.nil l) hk
      rw [helH.out] at hql
      have hql' : q.length = len := by simpa using hql
      obtain ⟨Aq, cq, rfl, hcap⟩ := own_slice_cap hown
      rw [hql'] at hown hcap
      have heach := Lib.hid (good_each hgood (by rw [helH.out]; exact hql'))
      have hgoodH := Lib.hid hgood
      have hqr := Rd.of_own hown
      rw [hql']
      have hqrH := Lib.hid hqr; have hqlH := Lib.hid hql'
      clear hk hown hgood hql hqr hql'
      go_wp2_with fail
      refine HC.out.mono ?_
      rintro e w2 ⟨rfl, hb2⟩
      have hbb := hb1.trans (hb2.mono hb1.size)
      have HR := Lib.hid (refOrder_any A len cap l w2 (hrH.out.later hbb) hlen)
      go_wp2_with fail
      refine HR.out.mono ?_
      rintro e w3 ⟨hb3, v3, rfl⟩
      rw [hkH.out]
      have hbe := hbb.trans (hb3.mono hbb.size)
      have hq3 := Lib.hid ((hqrH.out.later hb2).later hb3)
      have HE := Lib.hid (each_any len Aq len cq q w3 hq3.out (by omega) hcap)
      rw [show ((len : Nat) : Int) = (l.length : Int) by rw [helH.out], heach.out] at HE
      have HE2 := Lib.hid (show Calls Try.prog 8 #[.int .i64 (len : Int), .slice Aq len cq] w3 _ by have := HE.out; rw [helH.out] at this; exact this)
      have hbeH := Lib.hid hbe
      have hr3 := Lib.hid (hrH.out.later hbe)
      clear HE hbe hb3 hbb hb2 hb1 HR HC HO hqrH
      go_wp2_with fail
      refine HE2.out.mono ?_
      rintro e w4 ⟨rfl, rfl⟩
      go_wp2
      go_loop [7, 8, 42, 10, 51, 52, 53] (fun _ _ i _ _ _ _ => ∃ k : Nat, k ≤ len ∧ i = .int .i64 k) (fun _ _ i _ _ _ _ => len - (intOf i).toNat)
      case atStart => exact ⟨0, Nat.zero_le _, rfl⟩
      case round =>
        obtain ⟨k, hk, rfl⟩ := hrel
        by_cases hlt : k < len
        · obtain ⟨_, m, hm, he, ha⟩ := hgoodH.out k (by rw [hqlH.out]; exact hlt)
          obtain ⟨bq, oq, rfl, hab, hcq⟩ := hq3.out.int hlt
          rw [he] at hcq
          rw [helH.out] at hm
          obtain ⟨bb, o, rfl, hab2, hc0, hc1, hc2, hc3, hfit⟩ := hr3.out.at hm
          have hl' := hfit.2.1
          unfold maxLen at hl'
          have hafH := Lib.hid hfit.1
          have haH := Lib.hid ha
          have hqk := Lib.hid (hq3.out.takeI (Nat.le_of_lt hlt))
          have hkc : k ≤ cq := by omega
          generalize jat l m = a at *
          obtain ⟨t, A', l', c', du, wo', af⟩ := a
          clear hfit ha he
          simp only at *
          go_wp2
          go_loop [10, 53] (fun _ i => ∃ j : Nat, j ≤ l' ∧ i = .int .i64 j) (fun _ i => l' - (intOf i).toNat)
          case atStart => exact ⟨0, Nat.zero_le _, rfl⟩
          case round =>
            obtain ⟨j, hj, rfl⟩ := hrel
            by_cases hjl : j < l'
            · obtain ⟨b2, o2, rfl, hab2, hc5⟩ := hafH.out.int hjl
              have hz := haH.out (af.getD j 0) (by
                have : af.length = l' := by have := hafH.out.1; simpa [ints] using this
                simp [List.getD, show j < af.length by omega])
              have HK := Lib.hid (has_any (af.getD j 0) (some ⟨bq, oq, none⟩) k cq (q.take k) w3 hqk.out (by omega))
              rw [hz] at HK
              clear hz
              generalize af.getD j 0 = z at *
              go_wp2_with fail
              refine HK.out.mono ?_
              rintro e w2 ⟨rfl, rfl⟩
              go_wp2
              go_round
              case rel => exact ⟨j + 1, by omega, by go_num⟩
              case measure => simp [intOf]; omega
            · go_wp2
              go_round
              case rel => exact ⟨k + 1, by omega, by go_num⟩
              case measure => simp [intOf]; omega
        · go_wp2
          go_ret
          exact ⟨rfl, hbeH.out⟩
  · have HO := Lib.hid (order_bad A len cap l w hr hl hc)
    have hrH := Lib.hid hr
    have hcb : (jchk l != 0) = true := by simpa using hc
    have hcbH := Lib.hid hcb
    clear hr hwf hc hcb
    go_enter Try.func3, Try.ntmps3
    go_wp2_with fail
    refine HO.out.mono ?_
    rintro e w1 ⟨rfl, hb1⟩
    have HC := Lib.hid (jobsCheck_any A len cap l w1 (hrH.out.later hb1) hl)
    have hcb := hcbH.out
    go_wp2_with fail
    refine HC.out.mono ?_
    rintro e w2 ⟨rfl, hb2⟩
    go_wp2
    go_ret
    exact ⟨rfl, hb1.trans (hb2.mono hb1.size)⟩
end Go.Proofs.Ytgmoehkddohhfaa
