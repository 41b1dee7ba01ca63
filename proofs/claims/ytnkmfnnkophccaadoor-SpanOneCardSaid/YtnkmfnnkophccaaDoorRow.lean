/- Arrays as functions: rows of integers, of bools. -/
import Derived.Test.YtnkmfnnkophccaaDoorBase
namespace Go.Proofs.YtnkmfnnkophccaaDoor
open Go.RowKit

def row (n : Nat) (F : Nat → Int) : List Value := (List.range n).map fun i => .int .i64 (F i)
def brow (n : Nat) (T : Nat → Bool) : List Value := (List.range n).map fun i => .bool (T i)
theorem row_length (n : Nat) (F : Nat → Int) : (row n F).length = n := by simp [row]
theorem brow_length (n : Nat) (T : Nat → Bool) : (brow n T).length = n := by simp [brow]
theorem row_get {n : Nat} {F : Nat → Int} {j : Nat} (h : j < n) : (row n F)[j]? = some (.int .i64 (F j)) := by simp [row, h]
theorem brow_get {n : Nat} {T : Nat → Bool} {j : Nat} (h : j < n) : (brow n T)[j]? = some (.bool (T j)) := by simp [brow, h]
theorem row_set (n : Nat) (F : Nat → Int) (j : Nat) (v : Int) : (row n F).set j (.int .i64 v) = row n (fun i => if i = j then v else F i) := by
  apply List.ext_getElem?
  intro i
  rw [List.getElem?_set]
  by_cases hi : i < n
  · by_cases h : j = i
    · subst h; simp [row, hi]
    · have : ¬ i = j := fun e => h e.symm
      simp [row, hi, h, this]
  · simp [row, hi]
    intro h; omega
theorem brow_set (n : Nat) (T : Nat → Bool) (j : Nat) (v : Bool) : (brow n T).set j (.bool v) = brow n (fun i => if i = j then v else T i) := by
  apply List.ext_getElem?
  intro i
  rw [List.getElem?_set]
  by_cases hi : i < n
  · by_cases h : j = i
    · subst h; simp [brow, hi]
    · have : ¬ i = j := fun e => h e.symm
      simp [brow, hi, h, this]
  · simp [brow, hi]
    intro h; omega
theorem row_snoc (n : Nat) (F : Nat → Int) : row (n + 1) F = row n F ++ [.int .i64 (F n)] := by simp [row, List.range_succ]
theorem row_congr {n : Nat} {F G : Nat → Int} (h : ∀ i, i < n → F i = G i) : row n F = row n G := by
  unfold row
  exact List.map_congr_left fun i hi => by rw [h i (by simpa using hi)]
theorem row_one {n : Nat} {F : Nat → Int} : ∀ u ∈ row n F, u.oneCell' = true := by
  intro u hu
  simp only [row, List.mem_map] at hu
  obtain ⟨c, _, rfl⟩ := hu
  rfl
theorem row_replicate (n : Nat) : List.replicate n (Value.int .i64 0) = row n fun _ => 0 := (List.eq_replicate_iff.2 ⟨by simp [row], by simp [row]⟩).symm
theorem brow_replicate (n : Nat) : List.replicate n (Value.bool false) = brow n fun _ => false := (List.eq_replicate_iff.2 ⟨by simp [brow], by simp [brow]⟩).symm
section
variable {w : World} {A : Option Addr} {n : Nat}
theorem Rd.row {F : Nat → Int} (h : Rd w A n 1 (row n F)) {j : Nat} (hj : j < n) : ∃ b o, A = some ⟨b, o, none⟩ ∧ b < w.heap.size ∧ w.cell? ⟨b, o + j, none⟩ = some (.int .i64 (F j)) := by
  obtain ⟨b, o, rfl, hlt, hc⟩ := h.cell (j := 0) hj (by omega)
  exact ⟨b, o, rfl, hlt, by simpa [row_get hj] using hc⟩
theorem Rd.brow {T : Nat → Bool} (h : Rd w A n 1 (brow n T)) {j : Nat} (hj : j < n) : ∃ b o, A = some ⟨b, o, none⟩ ∧ b < w.heap.size ∧ w.cell? ⟨b, o + j, none⟩ = some (.bool (T j)) := by
  obtain ⟨b, o, rfl, hlt, hc⟩ := h.cell (j := 0) hj (by omega)
  exact ⟨b, o, rfl, hlt, by simpa [brow_get hj] using hc⟩
end
/-- a store elsewhere -/
theorem own_set_other {w : World} {b e s n : Nat} {v : Value} {xs : List Value} (h : w.ownsRow b e s v n xs) {a : Addr} (ha : v.ownBlock ≠ some a.block) (u : Value) : (w.setCell a u).ownsRow b e s v n xs :=
  h.kept (row := some a.block) ⟨rfl, rfl, rfl, by simp, fun k _ hk => heap_setCell_other w a k u (fun e => hk (by simp [e]))⟩ (.inr ha)
theorem cell_set_other {w : World} {g j b i : Nat} {v : Value} {u : Option Value} (h : b ≠ g) (hc : w.cell? ⟨b, i, none⟩ = u) : (w.setCell ⟨g, j, none⟩ v).cell? ⟨b, i, none⟩ = u :=
  (World.cell?_setCell_other _ _ _ _ (by intro e; injection e with e; exact h e.symm)).trans hc
end Go.Proofs.YtnkmfnnkophccaaDoor
