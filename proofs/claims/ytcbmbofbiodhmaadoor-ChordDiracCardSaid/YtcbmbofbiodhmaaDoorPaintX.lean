/- Small words that the colour seat's texts hold (XPaintLaw, A, B, C), for seats without its painter. -/
import Derived.Test.YtcbmbofbiodhmaaDoorDistLaw
import Derived.Test.YtcbmbofbiodhmaaDoorEachBits
import Derived.Test.YtcbmbofbiodhmaaDoorMarks
import Derived.Test.YtcbmbofbiodhmaaDoorCalm
import Derived.Test.YtcbmbofbiodhmaaDoorLast
import Derived.Test.YtcbmbofbiodhmaaDoorRow
namespace Go.Proofs.YtcbmbofbiodhmaaDoor
open Go.RowKit

theorem tb_pow' (i j : Nat) : (2 ^ i).testBit j = decide (i = j) := by rw [Nat.testBit_two_pow]
theorem not_bit {x i : Nat} (hx : x < 4294967296) (hi : i < 32) : (4294967295 - x).testBit i = !x.testBit i := by
  have h : 4294967295 - x = 2 ^ 32 - (x + 1) := by omega
  rw [h, Nat.testBit_two_pow_sub_succ (by simpa using hx)]
  simp [hi]
theorem pow_lt32 {i : Nat} (hi : i < 32) : 2 ^ i < 4294967296 := by
  have : 2 ^ i < 2 ^ 32 := Nat.pow_lt_pow_right (by omega) hi
  simpa using this
theorem row_at' {w : World} {B g n c : Nat} {F : Nat → Int} (h : w.ownsRow B 3 1 (.slice (some ⟨g, 0, none⟩) n c) n (row n F)) {j : Nat} (hj : j < n) : g < w.heap.size ∧ w.cell? ⟨g, j, none⟩ = some (.int .i64 (F j)) :=
  ⟨(h.lt g rfl).2, (h.cellAt j (by omega)).trans (row_get hj)⟩
def unA {x : Nat} (l : List (Bt x)) : List Nat := l.map (·.1)
theorem unA_snoc {x : Nat} (l : List (Bt x)) (y : Bt x) : unA (l ++ [y]) = unA l ++ [y.1] := by simp [unA]
theorem grown_trans {a b c : World} {r : Option Nat} (h : a.grownBy b r) (h' : b.grownBy c r) : a.grownBy c r :=
  ⟨h'.os.trans h.os, h'.tape.trans h.tape, h'.output.trans h.output, Nat.le_trans h.size h'.size, fun k hk hr => (h'.block k (Nat.lt_of_lt_of_le hk h.size) hr).trans (h.block k hk hr)⟩
theorem grown_of_below {a b : World} (r : Option Nat) (h : Below a.heap.size a b) : a.grownBy b r := ⟨h.os, h.tape, h.output, h.size, fun k hk _ => h.block k hk⟩
theorem grown_drewN (a : World) (k : Nat) (r : Option Nat) : a.grownBy (a.drewN k) r := ⟨rfl, rfl, rfl, Nat.le_refl _, fun _ _ _ => rfl⟩
theorem grown_set (a : World) (g i : Nat) (v : Value) : a.grownBy (a.setCell ⟨g, i, none⟩ v) (some g) :=
  ⟨rfl, rfl, rfl, by simp, fun k _ hk => heap_setCell_other a ⟨g, i, none⟩ k v (fun e => hk (by simp [e]))⟩
theorem tb_grown {w w' : World} {r : Nat} (h : Tb w) (hg : w.grownBy w' (some r)) (hr : 0 < r) : Tb w' := fun j hj => by
  have := h j hj
  exact hg.cell this (fun e => by simp at e; omega)
theorem ne' {a b : Nat} (h : a ≠ b) : some a ≠ some b := fun e => h (by simpa using e)
theorem rdx_lit1 {w : World} {b : Nat} (hb : b = w.heap.size) (v : Value) (t : TypeId) : Rd (w.alloc (.cells #[v] t)) (some ⟨b, 0, none⟩) 1 1 [v] := by
  subst hb
  exact ⟨rfl, fun _ => ⟨w.heap.size, 0, rfl, by simp, fun j hj => by
    obtain rfl : j = 0 := by omega
    go_simp⟩⟩
theorem cell_allocx {w : World} {o : Obj} {b i : Nat} {v : Value} (hb : b < w.heap.size) (h : w.cell? ⟨b, i, none⟩ = some v) : (w.alloc o).cell? ⟨b, i, none⟩ = some v := by
  rw [((Below.refl w.heap.size w).alloc (Nat.le_refl _) o).cell (p := ⟨b, i, none⟩) hb]; exact h
theorem row_const (n : Nat) (x : Int) : List.replicate n (Value.int .i64 x) = row n fun _ => x := by
  apply List.ext_getElem
  · simp [row]
  · intro i h1 h2; simp [row]
end Go.Proofs.YtcbmbofbiodhmaaDoor
