/- A placing stays one with more room and more things. -/
import Derived.Test.YtgbkpjiefaejiaaPlaceAnyLaw
namespace Go.Proofs.Ytgbkpjiefaejiaa
open Go.RowKit Go.Shelf

theorem plg_more {ws ws' : List (Int × Int)} {ts : List Nat} {l : List Int} (hl : ws'.length = ws.length) (hr : ∀ j, j < ws.length → rms ws j ≤ rms ws' j) (hts : ∀ i, ts.getD i 0 < 4294967296) (hm : ∀ j, j < ws.length → ∀ t : Nat, t < 4294967296 → mayI (wat ws j).2 t = true → mayI (wat ws' j).2 t = true) (h : PlG ws ts l) : PlG ws' ts l := by
  obtain ⟨h0, h1, h2⟩ := h
  refine ⟨h0, fun i hi => ?_, fun j hj => ?_⟩
  · rcases h1 i hi with h | ⟨h3, h4, h5⟩
    · exact .inl h
    · have h4' : l.getD i 0 < ws.length := h4
      refine .inr ⟨h3, ?_, hm _ (by omega) _ (hts i) h5⟩
      show l.getD i 0 < ws'.length
      rw [hl]; exact h4'
  · have hj' : j < ws.length := by
      have : j < ws'.length := hj
      omega
    exact Int.le_trans (h2 j hj') (hr j hj')
theorem mayI_or {h g t : Nat} (hh : h < 4294967296) (hg : g < 4294967296) (ht : t < 4294967296) (hm : mayI (h : Int) (t : Int) = true) : mayI ((h ||| g : Nat) : Int) (t : Int) = true := by
  have ho : h ||| g < 4294967296 := Nat.or_lt_two_pow (n := 32) hh hg
  rw [← mayI_eq h t hh ht, u32_and_nat t h ht hh, beq_iff_eq] at hm
  rw [← mayI_eq _ t ho ht, u32_and_nat t _ ht ho, beq_iff_eq]
  have e : t &&& h = t := by exact_mod_cast hm
  have : t &&& (h ||| g) = t := by
    refine Nat.eq_of_testBit_eq fun i => ?_
    have e1 := congrArg (fun x => Nat.testBit x i) e
    simp only [Nat.testBit_and] at e1
    rw [Nat.testBit_and, Nat.testBit_or]
    revert e1
    cases t.testBit i <;> cases h.testBit i <;> simp
  rw [this]
end Go.Proofs.Ytgbkpjiefaejiaa
