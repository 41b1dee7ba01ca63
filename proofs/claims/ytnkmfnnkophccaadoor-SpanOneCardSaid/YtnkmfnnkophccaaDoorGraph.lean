/- Graphs as plain data: when a graph may be (the code of the first thing that is wrong). No program in sight. -/
import Derived.Test.YtnkmfnnkophccaaDoorBase
namespace Go.Proofs.YtnkmfnnkophccaaDoor

abbrev E := Int × Int × Int
def e0 : E := (0, 0, 0)
def outE (N : Int) (e : E) : Bool := decide (e.1 < 0) || decide (N ≤ e.1) || decide (e.2.1 < 0) || decide (N ≤ e.2.1)
def sameE (e f : E) : Bool := (f.1 == e.1 && f.2.1 == e.2.1) || (f.1 == e.2.1 && f.2.1 == e.1)
def heavyE (e : E) : Bool := decide (e.2.2 < -1048576) || decide (1048576 < e.2.2)
def echk (N : Int) (pre : List E) (e : E) : Int :=
  if outE N e then 2 else if e.1 == e.2.1 then 3 else if pre.any (sameE e) then 3 else if heavyE e then 4 else 0
def echkAt (N : Int) (es : List E) (k : Nat) : Int := echk N (es.take k) (es.getD k (0, 0, 0))
def gscan (N : Int) (es : List E) : Int :=
  match (List.range es.length).find? (fun k => echkAt N es k != 0) with
  | some k => echkAt N es k
  | none => 0
def glarge (N : Int) (len : Nat) : Bool := decide (N < 0) || decide (10 < N) || decide (45 < len)
/-- the code of what is wrong with a graph; 0: nothing is -/
def gchk (N : Int) (es : List E) : Int := if glarge N es.length then 1 else gscan N es

theorem gscan_none {N : Int} {es : List E} (h : ∀ j, j < es.length → echkAt N es j = 0) : gscan N es = 0 := by
  unfold gscan
  rw [List.find?_eq_none.2 (by intro k hk; simp [h k (by simpa using hk)])]
theorem gscan_some {N : Int} {es : List E} {k : Nat} (hk : k < es.length) (h : ∀ j, j < k → echkAt N es j = 0) (hne : echkAt N es k ≠ 0) : gscan N es = echkAt N es k := by
  unfold gscan
  have : (List.range es.length).find? (fun k => echkAt N es k != 0) = some k := by
    rw [List.find?_eq_some_iff_getElem]
    refine ⟨by simpa using hne, k, by simpa using hk, by simp, fun j hj => ?_⟩
    simp [h j hj]
  rw [this]
theorem gscan_zero {N : Int} {es : List E} (h : gscan N es = 0) : ∀ j, j < es.length → echkAt N es j = 0 := by
  intro j
  induction j using Nat.strongRecOn with
  | _ j ih =>
    intro hj
    apply Classical.byContradiction
    intro hne
    rw [gscan_some hj (fun i hi => ih i hi (by omega)) hne] at h
    exact hne h
theorem glarge_false {N : Int} {len : Nat} (h : glarge N len = false) : 0 ≤ N ∧ N ≤ 10 ∧ len ≤ 45 := by simp [glarge] at h; omega
theorem gchk_large {N : Int} {es : List E} (h : glarge N es.length = true) : gchk N es = 1 := by rw [gchk, if_pos h]
theorem gchk_small {N : Int} {es : List E} (h : glarge N es.length = false) : gchk N es = gscan N es := by rw [gchk, if_neg (by simp [h])]
theorem echk_range (N : Int) (pre : List E) (e : E) : 0 ≤ echk N pre e ∧ echk N pre e ≤ 4 := by
  unfold echk; split <;> (try split) <;> (try split) <;> (try split) <;> omega
theorem gscan_range (N : Int) (es : List E) : 0 ≤ gscan N es ∧ gscan N es ≤ 4 := by
  unfold gscan
  split
  · exact echk_range _ _ _
  · omega
theorem gchk_range (N : Int) (es : List E) : 0 ≤ gchk N es ∧ gchk N es ≤ 4 := by
  unfold gchk
  split
  · omega
  · exact gscan_range N es
end Go.Proofs.YtnkmfnnkophccaaDoor
