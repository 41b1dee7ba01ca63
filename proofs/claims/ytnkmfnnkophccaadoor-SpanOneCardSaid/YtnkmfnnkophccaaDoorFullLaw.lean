/- CAYLEY: plain: a graph with all edges; the steps of the determinant, in closed form. -/
import Derived.Test.YtnkmfnnkophccaaDoorNearGr
import Derived.Test.YtnkmfnnkophccaaDoorSpreadLaw
namespace Go.Proofs.YtnkmfnnkophccaaDoor
open Go.RowKit

def fullE (n : Nat) : List E := (List.range n).flatMap fun (i : Nat) => (List.range i).map fun (j : Nat) => ((j : Int), (i : Int), (0 : Int))
/-- how many edges two nodes have -/
def cntE (es : List E) (a b : Nat) : Nat := es.countP fun e => (e.1 == (a : Int) && e.2.1 == (b : Int)) || (e.1 == (b : Int) && e.2.1 == (a : Int))
def fullOk (n : Nat) : Bool := gchk n (fullE n) == 0 && (List.range n).all (fun m => m == 0 || nb (nearW n (fullE n)) 0 m) && (List.range n).all fun a => (List.range n).all fun b => cntE (fullE n) a b == if a == b then 0 else 1
theorem full_all : (List.range 11).all (fun n => decide (n < 2) || fullOk n) = true := by decide +kernel
theorem full_ok {n : Nat} (h2 : 2 ≤ n) (h10 : n ≤ 10) : fullOk n = true := by
  have := List.all_eq_true.1 full_all n (List.mem_range.2 (by omega))
  rw [decide_eq_false (by omega)] at this
  simpa using this
theorem full_chk {n : Nat} (h2 : 2 ≤ n) (h10 : n ≤ 10) : gchk n (fullE n) = 0 := by
  have := full_ok h2 h10
  unfold fullOk at this
  simp only [Bool.and_eq_true, beq_iff_eq] at this
  exact this.1.1
theorem full_nb {n : Nat} (h2 : 2 ≤ n) (h10 : n ≤ 10) {m : Nat} (h0 : m ≠ 0) (hm : m < n) : nb (nearW n (fullE n)) 0 m = true := by
  have := full_ok h2 h10
  unfold fullOk at this
  simp only [Bool.and_eq_true, beq_iff_eq] at this
  have := List.all_eq_true.1 this.1.2 m (List.mem_range.2 hm)
  simpa [h0] using this
theorem full_cnt {n : Nat} (h2 : 2 ≤ n) (h10 : n ≤ 10) {a b : Nat} (ha : a < n) (hb : b < n) : cntE (fullE n) a b = if a = b then 0 else 1 := by
  have := full_ok h2 h10
  unfold fullOk at this
  simp only [Bool.and_eq_true, beq_iff_eq] at this
  have := List.all_eq_true.1 this.2 a (List.mem_range.2 ha)
  have := List.all_eq_true.1 this b (List.mem_range.2 hb)
  simpa using this
theorem full_spread {n : Nat} (h2 : 2 ≤ n) (h10 : n ≤ 10) {R : Nat} (h : IsSpread (nearW n (fullE n)) (2 ^ n - 1) 1 R) : R = 2 ^ n - 1 := by
  have g := nearGr (full_chk h2 h10)
  have hb : ∀ m, (2 ^ n - 1).testBit m = decide (m < n) := fun m => Nat.testBit_two_pow_sub_one n m
  have h1 : ∀ m, Nat.testBit 1 m = decide (m = 0) := fun m => by
    have := Nat.testBit_two_pow (n := 0) (m := m)
    rw [Nat.pow_zero] at this
    rw [this]
    exact decide_eq_decide.2 eq_comm
  refine h.same ⟨fun m hm => ?_, fun j m _ hjm _ => ?_, fun S hS hc m hm => ?_⟩
  · rw [h1] at hm; rw [hb]; have := of_decide_eq_true hm; exact decide_eq_true (by omega)
  · rw [hb]; exact decide_eq_true (g.ok j m hjm).2.1
  · rw [hb] at hm
    have hm := of_decide_eq_true hm
    by_cases h0 : m = 0
    · exact hS m (by rw [h1]; exact decide_eq_true h0)
    · exact hc 0 m (hS 0 (by rw [h1]; rfl)) (full_nb h2 h10 h0 hm) (by rw [hb]; exact decide_eq_true hm)
/-- the number at a place after s steps -/
def Vn (n s i j : Nat) : Int := if i = j then (n : Int) ^ s * ((n : Int) - 1 - s) else - (n : Int) ^ s
def lastV (n s : Nat) : Int := if s = 0 then 1 else Vn n (s - 1) (s - 1) (s - 1)
def rngB (x : Int) : Bool := decide (-9223372036854775808 ≤ x) && decide (x ≤ 9223372036854775807)
/-- one step, without the turning over of numbers -/
def stepOk (n s i j : Nat) : Bool :=
  let a := Vn n s i j * Vn n s s s
  let b := Vn n s i s * Vn n s s j
  rngB a && rngB b && rngB (a - b) && rngB ((a - b).tdiv (lastV n s)) && (lastV n s != 0) && ((a - b).tdiv (lastV n s) == Vn n (s + 1) i j)
theorem step_all : (List.range 11).all (fun n => (List.range n).all fun s => (List.range n).all fun i => (List.range n).all fun j => decide (i ≤ s) || decide (j ≤ s) || decide (n ≤ i + 1) || decide (n ≤ j + 1) || stepOk n s i j) = true := by decide +kernel
theorem step_ok {n s i j : Nat} (h10 : n ≤ 10) (hi : s < i) (hj : s < j) (hi2 : i + 1 < n) (hj2 : j + 1 < n) : stepOk n s i j = true := by
  have h1 := List.all_eq_true.1 step_all n (List.mem_range.2 (by omega))
  have h2 := List.all_eq_true.1 h1 s (List.mem_range.2 (by omega))
  have h3 := List.all_eq_true.1 h2 i (List.mem_range.2 (by omega))
  have h4 := List.all_eq_true.1 h3 j (List.mem_range.2 (by omega))
  rw [decide_eq_false (by omega), decide_eq_false (by omega), decide_eq_false (by omega), decide_eq_false (by omega)] at h4
  simpa using h4
def powOk (n k : Nat) : Bool := rngB ((n : Int) ^ k * n) && ((n : Int) ^ k * n == (n : Int) ^ (k + 1))
theorem pow_all : (List.range 11).all (fun n => (List.range 9).all fun k => powOk n k) = true := by decide +kernel
theorem last_end : (List.range 11).all (fun n => decide (n < 2) || (lastV n (n - 1) == (n : Int) ^ (n - 2) && rngB (lastV n (n - 1)))) = true := by decide +kernel
end Go.Proofs.YtnkmfnnkophccaaDoor
