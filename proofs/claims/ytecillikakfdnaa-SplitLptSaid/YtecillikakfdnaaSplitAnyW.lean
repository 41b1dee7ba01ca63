/- SplitAny: the walk. -/
import Derived.Test.YtecillikakfdnaaSplitAny
namespace Go.Proofs.Ytecillikakfdnaa
open Go.RowKit

theorem schk_ok {ts : List Int} {h : Int} (hok : schk ts h = 0) : ts.length ≤ 8 ∧ 1 ≤ h ∧ h ≤ 4 ∧ ∀ i, 0 ≤ ts.getD i 0 ∧ ts.getD i 0 ≤ 1048576 := by
  have hf : ts.length ≤ 8 ∧ 1 ≤ h ∧ h ≤ 4 ∧ ts.any badT = false := by
    unfold schk at hok
    split at hok
    · omega
    · split at hok
      · omega
      · split at hok
        · omega
        · rename_i h1 h2 h3
          exact ⟨by omega, by omega, by omega, by simpa using h3⟩
  refine ⟨hf.1, hf.2.1, hf.2.2.1, fun i => ?_⟩
  by_cases hi : i < ts.length
  · have := List.any_eq_false.1 hf.2.2.2 ts[i] (List.getElem_mem _)
    simp [badT] at this
    simp [List.getD, hi]
    omega
  · simp [List.getD, hi]
set_option maxHeartbeats 1600000 in
set_option maxRecDepth 100000 in
theorem splitAny_any (A A2 : Option Addr) (len cap len2 cap2 : Nat) (ts l : List Int) (h : Int) (w : World) (hr : Rd w A len 1 (ints .i64 ts)) (hr2 : Rd w A2 len2 1 (ints .i64 l)) (hl : len ≤ 9223372036854775807) (hl2 : len2 ≤ 9223372036854775807) :
    Calls Try.prog 3 #[.slice A len cap, .int .i64 h, .slice A2 len2 cap2] w fun e w' => e = .returned (.bool true) ∧ Below w.heap.size w w' := by
  have hel : ts.length = len := by simpa [ints] using hr.1
  have hel2 : l.length = len2 := by simpa [ints] using hr2.1
  by_cases hok : schk ts h = 0
  · obtain ⟨h8, h1, h4, hb⟩ := schk_ok hok
    obtain ⟨n, rfl⟩ := Int.eq_ofNat_of_zero_le (show 0 ≤ h by omega)
    have HB := Lib.hid (best_ok A len cap ts n w hr hok)
    have hrH := Lib.hid hr; have hr2H := Lib.hid hr2; have hbH := Lib.hid hb; have helH := Lib.hid hel; have hokH := Lib.hid hok
    have hokb : (schk ts n == 0) = true := by rw [hok]; rfl
    have hokbH := Lib.hid hokb
    have hel2H := Lib.hid hel2
    clear hr hr2 hb hok hokb
    go_enter Try.func3, Try.ntmps3
    go_wp2_with fail
    refine HB.out.mono ?_
    rintro e w1 ⟨x, rfl, hopt, hb1⟩
    have hwk := Lib.hid (work_any A len cap ts n w1 (hrH.out.later hb1) hl)
    go_wp2_with fail
    refine hwk.out.mono ?_
    rw [hokbH.out]
    rintro e w2 ⟨rfl, rfl⟩
    have ht0 := fun i => (hbH.out i).1
    rw [← helH.out] at hopt
    have hsum := opt_sum hopt
    have hxs := opt_le_sum ht0 (by omega) hopt
    rw [← psum_full] at hsum hxs
    have hpb := psum_bound hbH.out ts.length
    have heach := Lib.hid (opt_each ht0 hopt)
    have hend : l.length = ts.length → insideB n l = true → x ≤ endTo ts l n := fun a b => any_le hopt a b (by omega)
    have hee : endsF ts l n = -1 ∨ x ≤ endsF ts l n := by
      unfold endsF
      split
      · rename_i hc; exact .inr (hend hc.1 hc.2)
      · exact .inl rfl
    have hends := Lib.hid (ends_any A A2 len cap len2 cap2 ts l n w1 (hrH.out.later hb1) (hr2H.out.later hb1) (by omega) hl2 hbH.out (by omega))
    have hrw := Lib.hid (hrH.out.later hb1)
    rw [helH.out] at hsum hxs hpb
    have hsumH := Lib.hid hsum
    clear hend hopt hwk HB hsum
    go_wp2
    go_loop [9, 27] (fun s i => ∃ k : Nat, k ≤ len ∧ i = .int .i64 k ∧ s = .int .i64 (psum ts k)) (fun _ i => len - (intOf i).toNat)
    case atStart => exact ⟨0, Nat.zero_le _, rfl, rfl⟩
    case round =>
      obtain ⟨k, hk, rfl, rfl⟩ := hrel
      have hpk := psum_bound hbH.out k
      by_cases hlt : k < len
      · obtain ⟨b, o, rfl, _, hc1⟩ := hrw.out.int hlt
        have hs := Lib.hid (psum_succ ts k)
        have htk := hbH.out k
        have hle := heach.out k (by rw [helH.out]; exact hlt)
        generalize ts.getD k 0 = t at *
        generalize psum ts k = s at *
        obtain ⟨hp0, hp1⟩ := hpk
        obtain ⟨htk0, htk1⟩ := htk
        clear hpb hxs hee
        go_wp2
        go_round
        case rel => exact ⟨k + 1, by omega, by go_num, by rw [hs.out]⟩
        case measure => simp [intOf]; omega
      · obtain rfl : k = len := by omega
        go_wp2_with fail
        refine hends.out.mono ?_
        rintro e w3 ⟨rfl, rfl⟩
        have hsum := hsumH.out
        generalize endsF ts l n = y at *
        generalize psum ts k = s at *
        obtain ⟨hp0, hp1⟩ := hpb
        clear hpk
        have hn : n = 1 ∨ n = 2 ∨ n = 3 ∨ n = 4 := by omega
        rcases hn with rfl | rfl | rfl | rfl
        all_goals
          rcases hee with rfl | hee
          all_goals
            simp only [Int.natCast_one, Int.one_mul] at *
            go_wp2
            go_ret
            exact ⟨rfl, hb1⟩
  · have HB := Lib.hid (best_bad A len cap ts h w hr hl hok)
    have hrH := Lib.hid hr
    have hokb : (schk ts h == 0) = false := by simpa using hok
    have hokn : (schk ts h != 0) = true := by simpa using hok
    have hokbH := Lib.hid hokb
    clear hr hr2 hok hokb
    go_enter Try.func3, Try.ntmps3
    go_wp2_with fail
    refine HB.out.mono ?_
    rintro e w1 ⟨rfl, hb1⟩
    have hwk := Lib.hid (work_any A len cap ts h w1 (hrH.out.later hb1) hl)
    go_wp2_with fail
    refine hwk.out.mono ?_
    rw [hokbH.out]
    rintro e w2 ⟨rfl, rfl⟩
    go_wp2
    go_ret
    exact ⟨rfl, hb1⟩
end Go.Proofs.Ytecillikakfdnaa
