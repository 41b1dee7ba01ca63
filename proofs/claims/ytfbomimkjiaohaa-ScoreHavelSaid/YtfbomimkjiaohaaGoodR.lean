/- GraphCheck, good, and when a graph may be, for seats without graph.Check (split off XNear, XGood, XOkL). -/
import Derived.Test.YtfbomimkjiaohaaGCheck
namespace Go.Proofs.Ytfbomimkjiaohaa
open Go.RowKit

/-- an edge between two of n nodes -/
def okE (n : Nat) (e : E) : Prop := ∃ (x y : Nat), e.1 = (x : Int) ∧ e.2.1 = (y : Int) ∧ x < n ∧ y < n ∧ x ≠ y
/-- what a graph with nothing wrong is -/
theorem gchk_ok {N : Int} {es : List E} (h : gchk N es = 0) : 0 ≤ N ∧ N ≤ 10 ∧ es.length ≤ 45 ∧ (∀ e ∈ es, okE N.toNat e) ∧ (∀ j, j < es.length → echkAt N es j = 0) := by
  have hL : glarge N es.length = false := by
    cases hl : glarge N es.length
    · rfl
    · rw [gchk_large hl] at h; omega
  have h1 := glarge_false hL
  rw [gchk_small hL] at h
  have h2 := gscan_zero h
  refine ⟨h1.1, h1.2.1, h1.2.2, fun e he => ?_, h2⟩
  obtain ⟨j, hj, rfl⟩ := List.mem_iff_getElem.1 he
  have := h2 j hj
  rw [echkAt, show es.getD j (0, 0, 0) = es[j] by simp [List.getD, hj]] at this
  generalize es[j] = e at this
  obtain ⟨a, b, c⟩ := e
  unfold echk at this
  split at this
  · omega
  · rename_i ho
    split at this
    · omega
    · rename_i hne
      simp [outE] at ho
      simp at hne
      refine ⟨a.toNat, b.toNat, ?_, ?_, by omega, by omega, by omega⟩ <;> simp only <;> omega

theorem graphCheck_any (N : Int) (A : Option Addr) (len cap : Nat) (es : List E) (w : World) (hr : Rd w A len 3 (ps3 .i64 .i64 .i64 es)) (hlen : len ≤ 9223372036854775807) (hcap : len ≤ cap) :
    Calls Try.prog 16 #[.agg #[.int .i64 N, .slice A len cap]] w fun e w' => e = .returned (.int .i64 (gchk N es)) ∧ Below w.heap.size w w' := by
  have hel := ps3_len hr
  cases hL : glarge N len
  · obtain ⟨h1, h2, h3⟩ := glarge_false hL
    obtain ⟨n, rfl⟩ := Int.eq_ofNat_of_zero_le h1
    rw [gchk_small (by rw [hel]; exact hL)]
    exact graphCheck_small n A len cap es w hr (by omega) h3 hcap
  · rw [gchk_large (by rw [hel]; exact hL)]
    exact graphCheck_large N A len cap w hlen hL
theorem good_any (N : Int) (A : Option Addr) (len cap : Nat) (es : List E) (w : World) (hr : Rd w A len 3 (ps3 .i64 .i64 .i64 es)) (hlen : len ≤ 9223372036854775807) (hcap : len ≤ cap) :
    Calls Try.prog 9 #[.agg #[.int .i64 N, .slice A len cap]] w fun e w' => e = .returned (.bool (gchk N es == 0)) ∧ Below w.heap.size w w' := by
  have hrH := Lib.hid hr; clear hr
  go_enter Try.func9, Try.ntmps9
  go_wp2_with fail
  refine (graphCheck_any N A len cap es _ (hrH.out.alloc _) hlen hcap).mono ?_
  rintro e w1 ⟨rfl, hb⟩
  go_wp2
  go_ret
  exact ⟨rfl, ((Below.refl _ _).alloc (Nat.le_refl _) _).trans (hb.mono (by simp))⟩

structure OkL (N : Int) (es : List E) : Prop where
  each : ∀ e ∈ es, outE N e = false ∧ e.1 ≠ e.2.1 ∧ heavyE e = false
  two : es.Pairwise fun f e => sameE e f = false
theorem echk_zero {N : Int} {pre : List E} {e : E} : echk N pre e = 0 ↔ (outE N e = false ∧ e.1 ≠ e.2.1 ∧ heavyE e = false) ∧ ∀ f ∈ pre, sameE e f = false := by
  unfold echk
  cases h1 : outE N e
  · by_cases h2 : e.1 = e.2.1
    · simp [h2]
    · cases h3 : pre.any (sameE e)
      · rw [List.any_eq_false] at h3
        cases h4 : heavyE e
        · simp [h2]; exact fun a b c hm => by simpa using h3 _ hm
        · simp [h2]
      · obtain ⟨f, hf, hs⟩ := List.any_eq_true.1 h3
        simp [h2]
        exact fun _ => ⟨f.1, f.2.1, f.2.2, hf, hs⟩
  · simp
theorem okL_iff {N : Int} {es : List E} : OkL N es ↔ ∀ j, j < es.length → echkAt N es j = 0 := by
  constructor
  · intro h j hj
    refine echk_zero.2 ⟨h.each _ (by rw [List.getD, List.getElem?_eq_getElem hj]; exact List.getElem_mem _), fun f hf => ?_⟩
    obtain ⟨i, hi, rfl⟩ := List.getElem_of_mem hf
    have hij : i < j := by simp at hi; omega
    have := List.pairwise_iff_getElem.1 h.two i j (by omega) hj hij
    rw [List.getD, List.getElem?_eq_getElem hj]
    simpa using this
  · intro h
    refine ⟨fun e he => ?_, List.pairwise_iff_getElem.2 fun i j hi hj hij => ?_⟩
    · obtain ⟨j, hj, rfl⟩ := List.getElem_of_mem he
      have := (echk_zero.1 (h j hj)).1
      rwa [List.getD, List.getElem?_eq_getElem hj] at this
    · have := (echk_zero.1 (h j hj)).2 es[i] (List.mem_take_iff_getElem.2 ⟨i, by omega, rfl⟩)
      rwa [List.getD, List.getElem?_eq_getElem hj] at this
theorem gchk_iff {N : Int} {es : List E} : gchk N es = 0 ↔ glarge N es.length = false ∧ OkL N es := by
  rw [okL_iff]
  constructor
  · intro h
    have hL : glarge N es.length = false := by
      cases hl : glarge N es.length
      · rfl
      · rw [gchk_large hl] at h; omega
    exact ⟨hL, (gchk_ok h).2.2.2.2⟩
  · rintro ⟨h1, h2⟩
    rw [gchk_small h1, gscan_none h2]
theorem OkL.ok {n : Nat} {es : List E} (h : OkL n es) : ∀ e ∈ es, okE n e := fun e he => by
  obtain ⟨h1, h2, _⟩ := h.each e he
  simp [outE] at h1
  exact ⟨e.1.toNat, e.2.1.toNat, by omega, by omega, by omega, by omega, by omega⟩
end Go.Proofs.Ytfbomimkjiaohaa
