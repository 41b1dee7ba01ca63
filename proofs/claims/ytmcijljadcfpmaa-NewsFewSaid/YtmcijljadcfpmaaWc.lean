/- Contract of Know. -/
import Derived.Test.YtmcijljadcfpmaaWb
import Derived.Laws.EntriesVeiled
namespace Go.Proofs.Ytmcijljadcfpmaa
open Go.RowKit

def outB (n : Int) (c : Int × Int) : Bool := !isB n c.1 || !isB n c.2
def eqB (c : Int × Int) : Bool := c.1 == c.2
def large (n : Int) (len : Nat) : Bool := decide (n < 1) || decide (8 < n) || decide (64 < len)
def chk (n : Int) (cs : List (Int × Int)) : Int :=
  if large n cs.length then 1 else if cs.any (outB n) then 2 else if cs.any eqB then 3 else 0

set_option maxHeartbeats 400000 in
theorem know_large (n : Int) (A : Option Addr) (len cap : Nat) (w : World) (hlen : len ≤ 9223372036854775807) (h : large n len = true) :
    Calls Try.prog 6 #[.int .i64 n, .slice A len cap] w fun e w' => e = .returned (.tuple #[.slice none 0 0, .int .i64 1]) ∧ Below w.heap.size w w' := by
  by_cases h1 : n < 1
  · go_enter Try.func6, Try.ntmps6
    go_wp2
    go_ret2
    exact ⟨rfl, (Below.refl _ _).alloc (Nat.le_refl _) _⟩
  · by_cases h2 : 8 < n
    · go_enter Try.func6, Try.ntmps6
      go_wp2
      go_ret2
      exact ⟨rfl, (Below.refl _ _).alloc (Nat.le_refl _) _⟩
    · have h3 : 64 < len := by simp [large] at h; omega
      clear h
      go_enter Try.func6, Try.ntmps6
      go_wp2
      go_ret2
      exact ⟨rfl, (Below.refl _ _).alloc (Nat.le_refl _) _⟩

theorem contains_out (n : Int) (A : Option Addr) (len cap : Nat) (cs : List (Int × Int)) (q p : Addr) (w : World) (hp : Pairs w A len cs) (hl : len ≤ 64)
    (hq : w.cell? q = some (.func (.func 11) #[] #[.pointer (some p)])) (hqb : q.block < w.heap.size) (hpb : p.block < w.heap.size) (hc : w.cell? p = some (.int .i64 n)) :
    Calls Try.prog 12 #[.slice A len cap, .func (.func 13) #[] #[.pointer (some q)]] w fun e w' => e = .returned (.bool (cs.any (outB n))) ∧ Below w.heap.size w w' := by
  refine containsFunc_any A len cap cs 13 _ (outB n) w hp (by omega) ent13 ?_
  intro a b w' hb
  rw [show #[Value.agg #[Value.int IntKind.i64 a, Value.int IntKind.i64 b]] ++ #[Value.pointer (some q)] = #[Value.agg #[Value.int IntKind.i64 a, Value.int IntKind.i64 b], Value.pointer (some q)] from rfl]
  exact out_any n a b q p w' (by rw [hb.cell hqb]; exact hq) (Nat.lt_of_lt_of_le hqb hb.size) (Nat.lt_of_lt_of_le hpb hb.size) (by rw [hb.cell hpb]; exact hc)
theorem contains_eq (A : Option Addr) (len cap : Nat) (cs : List (Int × Int)) (w : World) (hp : Pairs w A len cs) (hl : len ≤ 64) :
    Calls Try.prog 12 #[.slice A len cap, .func (.func 14) #[] #[]] w fun e w' => e = .returned (.bool (cs.any eqB)) ∧ Below w.heap.size w w' := by
  refine containsFunc_any A len cap cs 14 _ eqB w hp (by omega) ent14 ?_
  intro a b w' hb
  rw [show #[Value.agg #[Value.int IntKind.i64 a, Value.int IntKind.i64 b]] ++ #[] = #[Value.agg #[Value.int IntKind.i64 a, Value.int IntKind.i64 b]] from rfl]
  exact eq_any a b w'
theorem u32_info : (Try.prog.info? 30).map (fun i => (i.zero, i.size, i.bytes)) = some (some (.int .u32 0), 1, 4) := by kernel_rfl
def ones (k : Nat) : List Value := (List.range k).map fun i => .int .u32 ((2 ^ i : Nat) : Int)

set_option maxHeartbeats 800000 in
theorem know_bad (n : Nat) (A : Option Addr) (len cap : Nat) (cs : List (Int × Int)) (w : World) (hp : Pairs w A len cs) (hn1 : 1 ≤ n) (hn8 : n ≤ 8) (hl : len ≤ 64) (hbad : chk n cs ≠ 0) :
    Calls Try.prog 6 #[.int .i64 n, .slice A len cap] w fun e w' => e = .returned (.tuple #[.slice none 0 0, .int .i64 (chk n cs)]) ∧ Below w.heap.size w w' := by
  have hmf : ∀ (fn : Fn) (first cap : Array Value) (w : World), (Instr.makeFunc fn first cap).run Try.prog w = .ok (.func fn first cap) w := fun _ _ _ _ => rfl
  have hlarge : large n cs.length = false := by simp [large, hp.1]; omega
  have H1 := fun w1 h => Lib.hid (contains_out n A len cap cs ⟨w.heap.size + 1, 0, none⟩ ⟨w.heap.size, 0, none⟩ w1 h hl)
  have H2 := fun w1 h => Lib.hid (contains_eq A len cap cs w1 h hl)
  have H1H := Lib.hid H1; have H2H := Lib.hid H2; clear H1 H2
  have hpH := Lib.hid hp; clear hp
  have hbadH := Lib.hid hbad; clear hbad
  have hlargeH := Lib.hid hlarge; clear hlarge
  go_enter Try.func6, Try.ntmps6
  go_wp2_with fail
  have b1 : Below w.heap.size w ((w.alloc (Obj.cells #[Value.int IntKind.i64 ↑n] 3)).alloc (Obj.cells #[Value.func (Fn.func 11) #[] #[Value.pointer (some { block := w.heap.size, off := 0 })]] 38)) := ((Below.refl _ _).alloc (Nat.le_refl _) _).alloc (by simp) _
  refine ((H1H.out _ (hpH.out.below (Nat.le_refl _) b1)).out ?_ ?_ ?_ ?_).mono ?_
  · go_simp
  · simp
  · simp; omega
  · go_simp
  rintro e w1 ⟨rfl, hb1⟩
  have hb2 := b1.trans (hb1.mono (by simp; omega))
  cases hany : cs.any (outB n)
  · go_wp2_with fail
    refine ((H2H.out _ (hpH.out.below (Nat.le_refl _) hb2)).out).mono ?_
    rintro e w2 ⟨rfl, hb3⟩
    cases hany2 : cs.any eqB
    · exact absurd (by simp [chk, hlargeH.out, hany, hany2]) hbadH.out
    · have hres : chk n cs = 3 := by simp [chk, hlargeH.out, hany, hany2]
      have hresH := Lib.hid hres; clear hres
      go_wp2
      go_ret2
      exact ⟨by rw [hresH.out]; rfl, hb2.trans (hb3.mono hb2.size)⟩
  · have hres : chk n cs = 2 := by simp [chk, hlargeH.out, hany]
    have hresH := Lib.hid hres; clear hres
    go_wp2
    go_ret2
    exact ⟨by rw [hresH.out]; rfl, hb2⟩
end Go.Proofs.Ytmcijljadcfpmaa
