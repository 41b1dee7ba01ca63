/- flow: Ends; ref: EndsCheck. -/
import Derived.Test.YtgengjneccpaiaaFlowA
import Derived.Test.YtgengjneccpaiaaNetCheck
namespace Go.Proofs.Ytgengjneccpaiaa
open Go.RowKit Go.Shelf

def ebad (n s t : Int) : Prop := s < 0 ∨ n ≤ s ∨ t < 0 ∨ n ≤ t ∨ s = t
instance (n s t : Int) : Decidable (ebad n s t) := by unfold ebad; infer_instance
def echk (n : Int) (l : List Arc) (s t : Int) : Int := if nchk n l ≠ 0 then nchk n l else if ebad n s t then 2 else 0
theorem echk_ok {n : Int} {l : List Arc} {s t : Int} (h : echk n l s t = 0) : nchk n l = 0 ∧ 0 ≤ s ∧ s < n ∧ 0 ≤ t ∧ t < n ∧ s ≠ t := by
  unfold echk at h
  split at h
  · omega
  · split at h
    · omega
    · rename_i h1 h2
      unfold ebad at h2
      refine ⟨by omega, ?_⟩
      omega
section
variable (n : Int) (A : Option Addr) (len cap : Nat) (l : List Arc) (s t : Int) (w : World)
set_option maxHeartbeats 1600000 in
theorem ends_any (hr : Rd w A len 4 (arcs l)) (hlen : len ≤ 9223372036854775807) :
    Calls Try.prog 18 #[.agg #[.int .i64 n, .slice A len cap], .int .i64 s, .int .i64 t] w fun e w' => e = .returned (.int .i64 (echk n l s t)) ∧ Below w.heap.size w w' := by
  have hb0 := (Below.refl _ w).alloc (Nat.le_refl _) (.cells #[.int .i64 n, .slice A len cap] 24)
  have HC := Lib.hid (flowCheck_any n A len cap l _ (hr.later hb0) hlen)
  have hK := Blk.new w 24 #[.int .i64 n, .slice A len cap]
  have k0 := hK.cell (j := 0) rfl
  have k1 := hK.cell (j := 1) rfl
  have hKH := Lib.hid hK; have hb0H := Lib.hid hb0
  have hE := Lib.hid (show echk n l s t = if nchk n l ≠ 0 then nchk n l else if ebad n s t then 2 else 0 from rfl)
  clear hr hK hb0
  generalize nchk n l = c at *
  go_enter Try.func18, Try.ntmps18
  go_wp2_with fail
  refine HC.out.mono ?_
  rintro e w1 ⟨rfl, hb1⟩
  have hbb := hb0H.out.trans (hb1.mono hb0H.out.size)
  have hK1 : Blk w1 w.heap.size 24 #[.int .i64 n, .slice A len cap] := (hb1.block _ hKH.out.lt).trans hKH.out
  have q0 := hK1.cell (j := 0) rfl
  have hbH := Lib.hid hbb
  clear hb1 hbb hK1 k0 k1 HC
  by_cases hc : c = 0
  · subst hc
    have hE' := hE.out
    rw [if_neg (by simp)] at hE'
    have hEH := Lib.hid hE'
    clear hE hE'
    obtain ⟨mn, hmn⟩ : ∃ mn, (if t < s then t else s) = mn := ⟨_, rfl⟩
    obtain ⟨mx, hmx⟩ : ∃ mx, (if s < t then t else s) = mx := ⟨_, rfl⟩
    have hmin : mn < 0 ↔ s < 0 ∨ t < 0 := by rw [← hmn]; split <;> omega
    have hmax : n ≤ mx ↔ n ≤ s ∨ n ≤ t := by rw [← hmx]; split <;> omega
    have hminH := Lib.hid hmin; have hmaxH := Lib.hid hmax
    clear hmin hmax
    by_cases h1 : mn < 0
    · have hr2 := Lib.hid (show echk n l s t = 2 by rw [hEH.out, if_pos]; unfold ebad; have := hminH.out.1 h1; omega)
      go_wp2
      go_ret
      exact ⟨by rw [hr2.out]; rfl, hbH.out⟩
    · have h1d : decide (mn < 0) = false := decide_eq_false h1
      by_cases h2 : n ≤ mx
      · have hr2 := Lib.hid (show echk n l s t = 2 by rw [hEH.out, if_pos]; unfold ebad; have := hmaxH.out.1 h2; omega)
        go_wp2
        go_ret
        exact ⟨by rw [hr2.out]; rfl, hbH.out⟩
      · have h2d : decide (n ≤ mx) = false := decide_eq_false h2
        by_cases h3 : s = t
        · have hr2 := Lib.hid (show echk n l s t = 2 by rw [hEH.out, if_pos]; unfold ebad; omega)
          have e3 : (s == t) = true := by simp [h3]
          clear h3
          go_wp2
          go_ret
          exact ⟨by rw [hr2.out]; rfl, hbH.out⟩
        · have hr2 := Lib.hid (show echk n l s t = 0 by
            rw [hEH.out, if_neg]
            unfold ebad
            have g1 := hminH.out; have g2 := hmaxH.out
            intro h
            rcases h with h | h | h | h | h
            · exact h1 (g1.2 (.inl h))
            · exact h2 (g2.2 (.inl h))
            · exact h1 (g1.2 (.inr h))
            · exact h2 (g2.2 (.inr h))
            · exact h3 h)
          have e3 : (s == t) = false := by simp [h3]
          clear h3
          go_wp2
          go_ret
          exact ⟨by rw [hr2.out]; rfl, hbH.out⟩
  · have hr2 := Lib.hid (show echk n l s t = c by rw [hE.out, if_pos hc])
    have e1 : (c != 0) = true := by simpa using hc
    clear hc hE
    go_wp2
    go_ret
    exact ⟨by rw [hr2.out]; rfl, hbH.out⟩
set_option maxHeartbeats 1600000 in
theorem endsCheck_any (hr : Rd w A len 4 (arcs l)) (hlen : len ≤ 9223372036854775807) :
    Calls Try.prog 6 #[.agg #[.int .i64 n, .slice A len cap], .int .i64 s, .int .i64 t] w fun e w' => e = .returned (.int .i64 (echk n l s t)) ∧ Below w.heap.size w w' := by
  have hb0 := (Below.refl _ w).alloc (Nat.le_refl _) (.cells #[.int .i64 n, .slice A len cap] 24)
  have HC := Lib.hid (netCheck_any n A len cap l _ (hr.later hb0) hlen)
  have hK := Blk.new w 24 #[.int .i64 n, .slice A len cap]
  have k0 := hK.cell (j := 0) rfl
  have k1 := hK.cell (j := 1) rfl
  have hKH := Lib.hid hK; have hb0H := Lib.hid hb0
  have hE := Lib.hid (show echk n l s t = if nchk n l ≠ 0 then nchk n l else if ebad n s t then 2 else 0 from rfl)
  clear hr hK hb0
  generalize nchk n l = c at *
  go_enter Try.func6, Try.ntmps6
  go_wp2_with fail
  refine HC.out.mono ?_
  rintro e w1 ⟨rfl, hb1⟩
  have hbb := hb0H.out.trans (hb1.mono hb0H.out.size)
  have hK1 : Blk w1 w.heap.size 24 #[.int .i64 n, .slice A len cap] := (hb1.block _ hKH.out.lt).trans hKH.out
  have q0 := hK1.cell (j := 0) rfl
  have hbH := Lib.hid hbb
  clear hb1 hbb hK1 k0 k1 HC
  by_cases hc : c = 0
  · subst hc
    have hE' := hE.out
    rw [if_neg (by simp)] at hE'
    have hEH := Lib.hid hE'
    have e0 : ((0 : Int) == 0) = true := rfl
    clear hE hE'
    have bad := Lib.hid (fun (h : ebad n s t) => show echk n l s t = 2 by rw [hEH.out, if_pos h])
    by_cases h1 : s < 0
    · have hr2 := Lib.hid (bad.out (.inl h1))
      go_wp2
      go_ret
      exact ⟨by rw [hr2.out]; rfl, hbH.out⟩
    · have d1 : decide (s < 0) = false := decide_eq_false h1
      by_cases h2 : n ≤ s
      · have hr2 := Lib.hid (bad.out (.inr (.inl h2)))
        go_wp2
        go_ret
        exact ⟨by rw [hr2.out]; rfl, hbH.out⟩
      · have d2 : decide (n ≤ s) = false := decide_eq_false h2
        by_cases h3 : t < 0
        · have hr2 := Lib.hid (bad.out (.inr (.inr (.inl h3))))
          go_wp2
          go_ret
          exact ⟨by rw [hr2.out]; rfl, hbH.out⟩
        · have d3 : decide (t < 0) = false := decide_eq_false h3
          by_cases h4 : n ≤ t
          · have hr2 := Lib.hid (bad.out (.inr (.inr (.inr (.inl h4)))))
            go_wp2
            go_ret
            exact ⟨by rw [hr2.out]; rfl, hbH.out⟩
          · have d4 : decide (n ≤ t) = false := decide_eq_false h4
            by_cases h5 : s = t
            · have hr2 := Lib.hid (bad.out (.inr (.inr (.inr (.inr h5)))))
              have e5 : (s == t) = true := by simp [h5]
              clear h5
              go_wp2
              go_ret
              exact ⟨by rw [hr2.out]; rfl, hbH.out⟩
            · have hr2 := Lib.hid (show echk n l s t = 0 by
                rw [hEH.out, if_neg]
                unfold ebad
                omega)
              have e5 : (s == t) = false := by simp [h5]
              clear h5
              go_wp2
              go_ret
              exact ⟨by rw [hr2.out]; rfl, hbH.out⟩
  · have hr2 := Lib.hid (show echk n l s t = c by rw [hE.out, if_pos hc])
    have e1 : (c == 0) = false := by simpa using hc
    clear hc hE
    go_wp2
    go_ret
    exact ⟨by rw [hr2.out]; rfl, hbH.out⟩
end
end Go.Proofs.Ytgengjneccpaiaa
