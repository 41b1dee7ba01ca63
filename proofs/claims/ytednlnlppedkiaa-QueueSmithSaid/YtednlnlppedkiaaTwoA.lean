/- Two who work: the checks; when an order ends. -/
import Derived.Test.YtednlnlppedkiaaContainsInt64
import Derived.Test.YtednlnlppedkiaaEach
namespace Go.Proofs.Ytednlnlppedkiaa
open Go.RowKit

def badT (x : Int) : Bool := decide (x < 0) || decide (1048576 < x)
def tchk (fs ss : List Int) : Int := if 7 < fs.length ∨ 7 < ss.length then 1 else if fs.length ≠ ss.length then 3 else if fs.any badT = true ∨ ss.any badT = true then 4 else 0
theorem out_any (x : Int) (w : World) : Calls Try.prog 17 #[.int .i64 x] w fun e w' => e = .returned (.bool (badT x)) ∧ w = w' := by
  by_cases h : x < 0
  · go_enter Try.func17, Try.ntmps17
    go_wp2
    go_ret
    exact ⟨by simp [badT, h], rfl⟩
  · go_enter Try.func17, Try.ntmps17
    go_wp2
    go_ret
    exact ⟨by simp [badT]; omega, rfl⟩
theorem entOut (args : Array Value) (w : World) : (callFunc 17 args).run Try.prog w = .ok (.enter 17 args) w := by go_simp
theorem contains_out (A : Option Addr) (len cap : Nat) (ts : List Int) (w : World) (hr : Rd w A len 1 (ints .i64 ts)) (hl : len ≤ 9223372036854775807) :
    Calls Try.prog 16 #[.slice A len cap, .func (.func 17) #[] #[]] w fun e w' => e = .returned (.bool (ts.any badT)) ∧ Below w.heap.size w w' := by
  refine containsFuncL A len cap ts 17 #[] badT w hr hl entOut ?_
  intro a w' _ _
  rw [show #[Value.int IntKind.i64 a] ++ #[] = #[Value.int IntKind.i64 a] from rfl]
  exact (out_any a w').mono fun e w'' ⟨h1, h2⟩ => ⟨h1, h2 ▸ Below.refl _ _⟩
theorem tchk_zero {fs ss : List Int} (h : tchk fs ss = 0) : fs.length ≤ 7 ∧ fs.length = ss.length ∧ (∀ i, 0 ≤ fs.getD i 0 ∧ fs.getD i 0 ≤ 1048576) ∧ ∀ i, 0 ≤ ss.getD i 0 ∧ ss.getD i 0 ≤ 1048576 := by
  unfold tchk at h
  split at h
  · simp at h
  · split at h
    · simp at h
    · split at h
      · simp at h
      · rename_i h1 h2 h3
        have hb : ∀ l : List Int, ¬ l.any badT = true → ∀ i, 0 ≤ l.getD i 0 ∧ l.getD i 0 ≤ 1048576 := fun l hl i => by
          by_cases hi : i < l.length
          · by_cases hb : badT (l.getD i 0) = true
            · exact absurd (any_of_getD' badT 0 l i hi hb) hl
            · simp only [badT, Bool.or_eq_true, decide_eq_true_eq] at hb; omega
          · simp [List.getD, hi]
        exact ⟨by omega, by omega, hb fs (fun h => h3 (.inl h)), hb ss (fun h => h3 (.inr h))⟩
set_option maxHeartbeats 800000 in
theorem twoCheck_any (A A2 : Option Addr) (len cap len2 cap2 : Nat) (fs ss : List Int) (w : World) (hr : Rd w A len 1 (ints .i64 fs)) (hr2 : Rd w A2 len2 1 (ints .i64 ss)) (hl : len ≤ 9223372036854775807) (hl2 : len2 ≤ 9223372036854775807) :
    Calls Try.prog 8 #[.slice A len cap, .slice A2 len2 cap2] w fun e w' => e = .returned (.int .i64 (tchk fs ss)) ∧ w = w' := by
  have hel : fs.length = len := by simpa [ints] using hr.1
  have hel2 : ss.length = len2 := by simpa [ints] using hr2.1
  by_cases h8 : 7 < len
  · have hv := Lib.hid (show tchk fs ss = 1 by rw [tchk, if_pos (by omega)])
    clear hr hr2
    go_enter Try.func8, Try.ntmps8
    go_wp2
    go_ret
    exact ⟨by rw [hv.out]; rfl, rfl⟩
  · by_cases h82 : 7 < len2
    · have hv := Lib.hid (show tchk fs ss = 1 by rw [tchk, if_pos (by omega)])
      clear hr hr2
      go_enter Try.func8, Try.ntmps8
      go_wp2
      go_ret
      exact ⟨by rw [hv.out]; rfl, rfl⟩
    · cases heq : ((len : Int) != (len2 : Int))
      · have hll : len = len2 := by simp at heq; omega
        have hv : tchk fs ss = if fs.any badT = true ∨ ss.any badT = true then 4 else 0 := by rw [tchk, if_neg (by omega), if_neg (by omega)]
        have hvH := Lib.hid hv; have hrH := Lib.hid hr; have hr2H := Lib.hid hr2; have helH := Lib.hid hel; have hel2H := Lib.hid hel2; have hllH := Lib.hid hll
        clear hr hr2 hv hel hel2 hll
        go_enter Try.func8, Try.ntmps8
        go_wp2
        go_loop [5] (fun i => ∃ k : Nat, k ≤ len ∧ i = .int .i64 k ∧ (fs.take k).any badT = false ∧ (ss.take k).any badT = false) (fun i => len - (intOf i).toNat)
        case atStart => exact ⟨0, Nat.zero_le _, rfl, rfl, rfl⟩
        case round =>
          obtain ⟨k, hk, rfl, hp, hp2⟩ := hrel
          have hpH := Lib.hid hp; have hp2H := Lib.hid hp2; clear hp hp2
          by_cases hlt : k < len
          · obtain ⟨b, o, rfl, hab, hc⟩ := hrH.out.int hlt
            obtain ⟨b2, o2, rfl, hab2, hc2⟩ := hr2H.out.int (show k < len2 by rw [← hllH.out]; exact hlt)
            have hlt2 : (k : Int) < len2 := by have := hllH.out; omega
            have hy := Lib.hid (any_take_succ' badT 0 fs k (by rw [helH.out]; exact hlt) hpH.out)
            have hno := Lib.hid (any_of_getD' badT 0 fs k (by rw [helH.out]; exact hlt))
            have hy2 := Lib.hid (any_take_succ' badT 0 ss k (by rw [hel2H.out, ← hllH.out]; exact hlt) hp2H.out)
            have hno2 := Lib.hid (any_of_getD' badT 0 ss k (by rw [hel2H.out, ← hllH.out]; exact hlt))
            generalize fs.getD k 0 = a at *
            generalize ss.getD k 0 = a2 at *
            by_cases h0 : 0 ≤ a ∧ a ≤ 1048576
            · have hq := Lib.hid (show badT a = false by simp [badT]; omega)
              by_cases h02 : 0 ≤ a2 ∧ a2 ≤ 1048576
              · have hq2 := Lib.hid (show badT a2 = false by simp [badT]; omega)
                obtain ⟨h1, h2⟩ := h0
                obtain ⟨h3, h4⟩ := h02
                go_wp2
                go_round
                case rel => exact ⟨k + 1, by omega, by go_num, hy.out hq.out, hy2.out hq2.out⟩
                case measure => simp [intOf]; omega
              · have hq2 := Lib.hid (show badT a2 = true by simp [badT]; omega)
                have hr := Lib.hid (show tchk fs ss = 4 by rw [hvH.out, if_pos (.inr (hno2.out hq2.out))])
                obtain ⟨h1, h2⟩ := h0
                by_cases h3 : a2 < 0
                · go_wp2
                  go_ret
                  exact ⟨by rw [hr.out]; rfl, rfl⟩
                · have h4 : 1048576 < a2 := by omega
                  go_wp2
                  go_ret
                  exact ⟨by rw [hr.out]; rfl, rfl⟩
            · have hq := Lib.hid (show badT a = true by simp [badT]; omega)
              have hr := Lib.hid (show tchk fs ss = 4 by rw [hvH.out, if_pos (.inl (hno.out hq.out))])
              by_cases h3 : a < 0
              · go_wp2
                go_ret
                exact ⟨by rw [hr.out]; rfl, rfl⟩
              · have h4 : 1048576 < a := by omega
                go_wp2
                go_ret
                exact ⟨by rw [hr.out]; rfl, rfl⟩
          · have hr := Lib.hid (show tchk fs ss = 0 by
              have h1 := hpH.out
              have h2 := hp2H.out
              rw [List.take_of_length_le (by rw [helH.out]; omega)] at h1
              rw [List.take_of_length_le (by rw [hel2H.out, ← hllH.out]; omega)] at h2
              rw [hvH.out, if_neg (by simp [h1, h2])])
            go_wp2
            go_ret
            exact ⟨by rw [hr.out]; rfl, rfl⟩
      · have hv := Lib.hid (show tchk fs ss = 3 by rw [tchk, if_neg (by omega), if_pos (by simp at heq; omega)])
        clear hr hr2
        go_enter Try.func8, Try.ntmps8
        go_wp2
        go_ret
        exact ⟨by rw [hv.out]; rfl, rfl⟩
/-- when an order ends: both who work -/
def tstep (fs ss : List Int) (p : Int × Int) (i : Int) : Int × Int := (p.1 + fs.getD i.toNat 0, (if p.2 < p.1 + fs.getD i.toNat 0 then p.1 + fs.getD i.toNat 0 else p.2) + ss.getD i.toNat 0)
def tfold (fs ss l : List Int) : Int × Int := l.foldl (tstep fs ss) (0, 0)
def tend (fs ss l : List Int) : Int := (tfold fs ss l).2
def BdL (fs : List Int) : Prop := ∀ i, 0 ≤ fs.getD i 0 ∧ fs.getD i 0 ≤ 1048576
theorem tfold_succ (fs ss l : List Int) {k : Nat} (hk : k < l.length) : tfold fs ss (l.take (k + 1)) = tstep fs ss (tfold fs ss (l.take k)) (l.getD k 0) := by
  rw [take_succ_getD' l 0 k hk, tfold, List.foldl_append]; rfl
theorem tfold_bd {fs ss : List Int} (h1 : BdL fs) (h2 : BdL ss) (l : List Int) : ∀ k, 0 ≤ (tfold fs ss (l.take k)).1 ∧ (tfold fs ss (l.take k)).1 ≤ 1048576 * k ∧ 0 ≤ (tfold fs ss (l.take k)).2 ∧ (tfold fs ss (l.take k)).2 ≤ 2097152 * k
  | 0 => by simp [tfold]
  | k + 1 => by
    obtain ⟨a1, a2, a3, a4⟩ := tfold_bd h1 h2 l k
    by_cases hk : k < l.length
    · rw [tfold_succ fs ss l hk]
      have b1 := h1 (l.getD k 0).toNat
      have b2 := h2 (l.getD k 0).toNat
      generalize tfold fs ss (l.take k) = p at *
      simp only [tstep]
      split <;> omega
    · rw [List.take_of_length_le (by omega)] at *
      omega
set_option maxHeartbeats 800000 in
theorem twoEnd_any (A A2 A3 : Option Addr) (len cap len2 cap2 len3 cap3 : Nat) (fs ss l : List Int) (w : World) (hr : Rd w A len 1 (ints .i64 fs)) (hr2 : Rd w A2 len2 1 (ints .i64 ss)) (hr3 : Rd w A3 len3 1 (ints .i64 l))
    (_hl : len ≤ 7) (hll : len = len2) (hl3 : len3 ≤ 7) (h1 : BdL fs) (h2 : BdL ss) (hin : ∀ k, k < len3 → 0 ≤ l.getD k 0 ∧ l.getD k 0 < len) :
    Calls Try.prog 10 #[.slice A len cap, .slice A2 len2 cap2, .slice A3 len3 cap3] w fun e w' => e = .returned (.int .i64 (tend fs ss l)) ∧ w = w' := by
  subst hll
  have hel3 : l.length = len3 := by simpa [ints] using hr3.1
  have hrH := Lib.hid hr; have hr2H := Lib.hid hr2; have hr3H := Lib.hid hr3; have h1H := Lib.hid h1; have h2H := Lib.hid h2; have hinH := Lib.hid hin; have hel3H := Lib.hid hel3
  clear hr hr2 hr3 h1 h2 hin hel3
  go_enter Try.func10, Try.ntmps10
  go_wp2
  go_loop [7, 8, 10, 13] (fun a b _ i => ∃ k : Nat, k ≤ len3 ∧ i = .int .i64 k ∧ a = .int .i64 (tfold fs ss (l.take k)).1 ∧ b = .int .i64 (tfold fs ss (l.take k)).2) (fun _ _ _ i => len3 - (intOf i).toNat)
  case atStart => exact ⟨0, Nat.zero_le _, rfl, rfl, rfl⟩
  case round =>
    obtain ⟨k, hk, rfl, rfl, rfl⟩ := hrel
    by_cases hlt : k < len3
    · obtain ⟨b3, o3, rfl, hab3, hc3⟩ := hr3H.out.int hlt
      obtain ⟨m, hm⟩ := Int.eq_ofNat_of_zero_le (hinH.out k hlt).1
      have hml : m < len := by have := (hinH.out k hlt).2; omega
      rw [hm] at hc3
      obtain ⟨b, o, rfl, hab, hc⟩ := hrH.out.int hml
      obtain ⟨b2, o2, rfl, hab2, hd2⟩ := hr2H.out.int hml
      have hmi : (m : Int) < len := by omega
      have hsc := Lib.hid (tfold_succ fs ss l (k := k) (by rw [hel3H.out]; exact hlt))
      rw [hm] at hsc
      obtain ⟨q1, q2, q3, q4⟩ := tfold_bd h1H.out h2H.out l k
      obtain ⟨g1, g2⟩ := h1H.out m
      obtain ⟨g3, g4⟩ := h2H.out m
      clear hm
      generalize tfold fs ss (l.take k) = p at *
      obtain ⟨pa, pb⟩ := p
      dsimp only at q1 q2 q3 q4 ⊢
      have hsc2 := Lib.hid (show tfold fs ss (l.take (k + 1)) = (pa + fs.getD m 0, (if pb < pa + fs.getD m 0 then pa + fs.getD m 0 else pb) + ss.getD m 0) from hsc.out)
      clear hsc
      generalize fs.getD m 0 = x at *
      generalize ss.getD m 0 = y at *
      by_cases hgt : pb < pa + x
      · go_wp2
        go_round
        case rel => exact ⟨k + 1, by omega, by go_num, by rw [hsc2.out], by rw [hsc2.out, if_pos hgt]⟩
        case measure => simp [intOf]; omega
      · go_wp2
        go_round
        case rel => exact ⟨k + 1, by omega, by go_num, by rw [hsc2.out], by rw [hsc2.out, if_neg hgt]⟩
        case measure => simp [intOf]; omega
    · have hv := Lib.hid (show (tfold fs ss (l.take k)).2 = tend fs ss l by rw [List.take_of_length_le (by rw [hel3H.out]; omega)]; rfl)
      go_wp2
      go_ret
      exact ⟨by rw [← hv.out]; rfl, rfl⟩
set_option maxHeartbeats 800000 in
theorem two1_any (A A2 A3 : Option Addr) (len cap len2 cap2 len3 cap3 p1 p2 : Nat) (fs ss l : List Int) (w : World) (hc1 : w.cell? ⟨p1, 0, none⟩ = some (.slice A len cap)) (hc2 : w.cell? ⟨p2, 0, none⟩ = some (.slice A2 len2 cap2))
    (hr : Rd w A len 1 (ints .i64 fs)) (hr2 : Rd w A2 len2 1 (ints .i64 ss)) (hr3 : Rd w A3 len3 1 (ints .i64 l))
    (_hl : len ≤ 7) (hll : len = len2) (hl3 : len3 ≤ 7) (h1 : BdL fs) (h2 : BdL ss) (hin : ∀ k, k < len3 → 0 ≤ l.getD k 0 ∧ l.getD k 0 < len) :
    Calls Try.prog 19 #[.slice A3 len3 cap3, .pointer (some ⟨p1, 0, none⟩), .pointer (some ⟨p2, 0, none⟩)] w fun e w' => e = .returned (.int .i64 (tend fs ss l)) ∧ w = w' := by
  subst hll
  have hel3 : l.length = len3 := by simpa [ints] using hr3.1
  have hrH := Lib.hid hr; have hr2H := Lib.hid hr2; have hr3H := Lib.hid hr3; have h1H := Lib.hid h1; have h2H := Lib.hid h2; have hinH := Lib.hid hin; have hel3H := Lib.hid hel3
  clear hr hr2 hr3 h1 h2 hin hel3
  go_enter Try.func19, Try.ntmps19
  go_wp2
  go_loop [5, 6, 8, 11] (fun a b _ i => ∃ k : Nat, k ≤ len3 ∧ i = .int .i64 k ∧ a = .int .i64 (tfold fs ss (l.take k)).1 ∧ b = .int .i64 (tfold fs ss (l.take k)).2) (fun _ _ _ i => len3 - (intOf i).toNat)
  case atStart => exact ⟨0, Nat.zero_le _, rfl, rfl, rfl⟩
  case round =>
    obtain ⟨k, hk, rfl, rfl, rfl⟩ := hrel
    by_cases hlt : k < len3
    · obtain ⟨b3, o3, rfl, hab3, hc3⟩ := hr3H.out.int hlt
      obtain ⟨m, hm⟩ := Int.eq_ofNat_of_zero_le (hinH.out k hlt).1
      have hml : m < len := by have := (hinH.out k hlt).2; omega
      rw [hm] at hc3
      obtain ⟨b, o, rfl, hab, hc⟩ := hrH.out.int hml
      obtain ⟨b2, o2, rfl, hab2, hd2⟩ := hr2H.out.int hml
      have hmi : (m : Int) < len := by omega
      have hsc := Lib.hid (tfold_succ fs ss l (k := k) (by rw [hel3H.out]; exact hlt))
      rw [hm] at hsc
      obtain ⟨q1, q2, q3, q4⟩ := tfold_bd h1H.out h2H.out l k
      obtain ⟨g1, g2⟩ := h1H.out m
      obtain ⟨g3, g4⟩ := h2H.out m
      clear hm
      generalize tfold fs ss (l.take k) = p at *
      obtain ⟨pa, pb⟩ := p
      dsimp only at q1 q2 q3 q4 ⊢
      have hsc2 := Lib.hid (show tfold fs ss (l.take (k + 1)) = (pa + fs.getD m 0, (if pb < pa + fs.getD m 0 then pa + fs.getD m 0 else pb) + ss.getD m 0) from hsc.out)
      clear hsc
      generalize fs.getD m 0 = x at *
      generalize ss.getD m 0 = y at *
      by_cases hgt : pb < pa + x
      · go_wp2
        go_round
        case rel => exact ⟨k + 1, by omega, by go_num, by rw [hsc2.out], by rw [hsc2.out, if_pos hgt]⟩
        case measure => simp [intOf]; omega
      · go_wp2
        go_round
        case rel => exact ⟨k + 1, by omega, by go_num, by rw [hsc2.out], by rw [hsc2.out, if_neg hgt]; congr 1; split <;> omega⟩
        case measure => simp [intOf]; omega
    · have hv := Lib.hid (show (tfold fs ss (l.take k)).2 = tend fs ss l by rw [List.take_of_length_le (by rw [hel3H.out]; omega)]; rfl)
      go_wp2
      go_ret
      exact ⟨by rw [← hv.out]; rfl, rfl⟩
end Go.Proofs.Ytednlnlppedkiaa
