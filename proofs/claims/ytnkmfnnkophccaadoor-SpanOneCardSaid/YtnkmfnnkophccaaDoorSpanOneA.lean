/- SpanOne: what it calls. -/
import Derived.Test.YtnkmfnnkophccaaDoorSpanManyB
import Derived.Test.YtnkmfnnkophccaaDoorRefParts
import Derived.Test.YtnkmfnnkophccaaDoorUnlike
import Derived.Test.YtnkmfnnkophccaaDoorFewerB
namespace Go.Proofs.YtnkmfnnkophccaaDoor
open Go.RowKit

set_option maxHeartbeats 800000 in
theorem many_bad (N : Int) (A : Option Addr) (len cap : Nat) (es : List E) (w : World) (hr : Rd w A len 3 (ps3 .i64 .i64 .i64 es)) (hlen : len ≤ 9223372036854775807) (hq : (gchk N es == 0) = false) :
    Calls Tryd.prog 5 #[.agg #[.int .i64 N, .slice A len cap]] w fun e w' => e = .returned (.tuple #[.int .i64 0, .int .i64 (gchk N es)]) ∧ Below w.heap.size w w' := by
  have hbG := (Below.refl _ w).alloc (Nat.le_refl _) (.cells #[.int .i64 N, .slice A len cap] 27)
  have bG := Blk.new w 27 #[.int .i64 N, .slice A len cap]
  have HC := Lib.hid (check_any N A len cap es _ (hr.later hbG) hlen)
  have hne : (gchk N es != 0) = true := by rw [bne, hq]; rfl
  have c0 := bG.cell (j := 0) (v := .int .i64 N) rfl
  have c1 := bG.cell (j := 1) (v := .slice A len cap) rfl
  have hbGH := Lib.hid hbG
  clear hr hbG bG hq
  generalize gchk N es = z at *
  go_enter Tryd.func5, Tryd.ntmps5
  go_wp2_with fail
  refine HC.out.mono ?_
  rintro _ w1 ⟨rfl, hb1⟩
  have hfin := Lib.hid (hbGH.out.trans (hb1.mono (by simp)))
  clear hb1 c0 c1 HC hbGH
  go_wp2
  go_ret2
  exact ⟨rfl, hfin.out⟩
theorem part_row {N : Nat} {es : List E} (hok : ∀ e ∈ es, okE N e) {p : Nat → Nat} (hp : ∀ i, i < N → IsPart es N i (p i)) : (List.range N).map (fun i => (p i : Int)) = (List.range N).map fun i => ((lab es i : Nat) : Int) :=
  List.map_congr_left fun i hi => by rw [isPart_lab hok (List.mem_range.1 hi) (hp i (List.mem_range.1 hi))]
/-- the labels, as numbers -/
def labs (N : Nat) (es : List E) : List Int := (List.range N).map fun i => ((lab es i : Nat) : Int)
theorem partsL_any (N : Nat) (A : Option Addr) (len cap : Nat) (es : List E) (w : World) (hr : Rd w A len 3 (ps3 .i64 .i64 .i64 es)) (hN : N ≤ 10) (hl : len ≤ 45) (hok : ∀ e ∈ es, okE N e) :
    Calls Tryd.prog 9 #[.agg #[.int .i64 N, .slice A len cap]] w fun e w' => (∃ A' c', e = .returned (.slice A' N c') ∧ Rd w' A' N 1 (ints .i64 (labs N es)) ∧ N ≤ c') ∧ Below w.heap.size w w' :=
  (refParts_any N A len cap es w hr hN hl hok).mono fun _ _ ⟨v, p, he, ho, hp, hb⟩ => ⟨by
    obtain ⟨A', c', rfl⟩ := own_slice ho
    rw [show row N (fun i => (p i : Int)) = ints .i64 (labs N es) from by
      unfold labs; rw [← part_row hok hp]; simp [row, ints]] at ho
    exact ⟨A', c', he, Rd.of_own ho, own_cap ho⟩, hb⟩
theorem unlikeL_any (N : Nat) (A : Option Addr) (cap : Nat) (es : List E) (w : World) (hz : Rd w A N 1 (ints .i64 (labs N es))) (hN : N ≤ 10) (hcap : N ≤ cap) :
    Calls Tryd.prog 8 #[.slice A N cap] w fun e w' => e = .returned (.int .i64 ((rts N es : Nat) : Int)) ∧ w = w' := by
  have h := unlike_any A N cap (labs N es) w hz (by omega) hcap
  rwa [show unl (labs N es) = rts N es from unl_lab N es] at h
end Go.Proofs.YtnkmfnnkophccaaDoor
