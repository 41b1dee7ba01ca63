/- crowd.Most, crowd.Apart. -/
import Derived.Test.YtnpgnohnpbdblaaDoorCrowd
namespace Go.Proofs.YtnpgnohnpbdblaaDoor
open Go.RowKit

def WBad (c : Int) (w : World) (e : Ending) (w' : World) : Prop := e = .returned (.tuple #[.int .u32 0, .int .i64 c]) ∧ Below w.heap.size w w'
def WPost (L : List Nat) (N : Nat) (w : World) (e : Ending) (w' : World) : Prop := ∃ b : Nat, e = .returned (.tuple #[.int .u32 (b : Int), .int .i64 0]) ∧ b < 1024 ∧ MaxCl L N b ∧ Below w.heap.size w w'
theorem most_bad (N : Int) (A : Option Addr) (len cap : Nat) (es : List E) (w : World) (hr : Rd w A len 3 (ps3 .i64 .i64 .i64 es)) (hlen : len ≤ 9223372036854775807) (hc : gchk N es ≠ 0) :
    Calls Tryd.prog 28 #[.agg #[.int .i64 N, .slice A len cap]] w (WBad (gchk N es) w) := by
  have hcb : (gchk N es != 0) = true := by simpa using hc
  have HC := Lib.hid (check_any N A len cap es _ (hr.alloc (.cells #[.int .i64 N, .slice A len cap] 24)) hlen)
  clear hr hc
  go_enter Tryd.func28, Tryd.ntmps28
  go_wp2_with fail
  refine HC.out.mono ?_
  rintro e w1 ⟨rfl, hb⟩
  go_wp2
  go_ret2
  exact ⟨rfl, ((Below.refl _ _).alloc (Nat.le_refl _) _).trans (hb.mono (by simp))⟩
theorem most_ok (N : Nat) (A : Option Addr) (len cap : Nat) (es : List E) (w : World) (hr : Rd w A len 3 (ps3 .i64 .i64 .i64 es)) (hN : N ≤ 10) (hl : len ≤ 45) (hok : ∀ e ∈ es, okE N e) (hc : gchk N es = 0) :
    Calls Tryd.prog 28 #[.agg #[.int .i64 N, .slice A len cap]] w (WPost (nearW N es) N w) := by
  have HC := Lib.hid (check_any N A len cap es _ (hr.alloc (.cells #[.int .i64 N, .slice A len cap] 24)) (by omega))
  rw [hc] at HC
  have hlt := Lib.hid (nearW_lt hN hok)
  have g0 : (w.alloc (Obj.cells #[Value.int IntKind.i64 (N : Int), Value.slice A len cap] 24)).cell? ⟨w.heap.size, 0, none⟩ = some (.int .i64 N) := by go_simp
  have g1 : (w.alloc (Obj.cells #[Value.int IntKind.i64 (N : Int), Value.slice A len cap] 24)).cell? ⟨w.heap.size, 1, none⟩ = some (.slice A len cap) := by go_simp
  have hrH := Lib.hid hr; have hokH := Lib.hid hok
  clear hr hc hok
  go_enter Tryd.func28, Tryd.ntmps28
  go_wp2_with fail
  refine HC.out.mono ?_
  rintro e w1 ⟨rfl, hb⟩
  have q0 := below_cell hb (by simp) g0
  have q1 := below_cell hb (by simp) g1
  have hbw := ((Below.refl w.heap.size w).alloc (Nat.le_refl _) (.cells #[.int .i64 N, .slice A len cap] 24)).trans (hb.mono (by simp))
  have HN := Lib.hid (near_any N A len cap es w1 (hrH.out.later hbw) hN hl hokH.out)
  clear g0 g1 HC hb
  go_wp2_with fail
  refine HN.out.mono ?_
  rintro e w2 ⟨g, rfl, hown, hb2⟩
  have hbw2 := hbw.trans (hb2.mono hbw.size)
  have hg : g < w2.heap.size := (hown.lt _ rfl).2
  have HL := Lib.hid (largest_any (some ⟨g, 0, none⟩) N N (nearW N es) w2 hN hlt.out (Rd.of_own hown) (fun b o h => by injection h with h; injection h with h; omega))
  clear hown HN hb2
  go_wp2_with fail
  refine HL.out.mono ?_
  rintro e w3 ⟨b, rfl, hb3, hm, hbl⟩
  have hmH := Lib.hid hm
  clear hm
  go_wp2
  go_ret2
  exact ⟨b, rfl, hb3, hmH.out, hbw2.trans (hbl.mono hbw2.size)⟩
theorem apart_bad (N : Int) (A : Option Addr) (len cap : Nat) (es : List E) (w : World) (hr : Rd w A len 3 (ps3 .i64 .i64 .i64 es)) (hlen : len ≤ 9223372036854775807) (hc : gchk N es ≠ 0) :
    Calls Tryd.prog 29 #[.agg #[.int .i64 N, .slice A len cap]] w (WBad (gchk N es) w) := by
  have hcb : (gchk N es != 0) = true := by simpa using hc
  have HC := Lib.hid (check_any N A len cap es _ (hr.alloc (.cells #[.int .i64 N, .slice A len cap] 24)) hlen)
  clear hr hc
  go_enter Tryd.func29, Tryd.ntmps29
  go_wp2_with fail
  refine HC.out.mono ?_
  rintro e w1 ⟨rfl, hb⟩
  go_wp2
  go_ret2
  exact ⟨rfl, ((Below.refl _ _).alloc (Nat.le_refl _) _).trans (hb.mono (by simp))⟩
theorem apart_ok (N : Nat) (A : Option Addr) (len cap : Nat) (es : List E) (w : World) (hr : Rd w A len 3 (ps3 .i64 .i64 .i64 es)) (hN : N ≤ 10) (hl : len ≤ 45) (hok : ∀ e ∈ es, okE N e) (hc : gchk N es = 0) :
    Calls Tryd.prog 29 #[.agg #[.int .i64 N, .slice A len cap]] w (WPost (othW N es) N w) := by
  have HC := Lib.hid (check_any N A len cap es _ (hr.alloc (.cells #[.int .i64 N, .slice A len cap] 24)) (by omega))
  rw [hc] at HC
  have hlt := Lib.hid (othW_lt hN es)
  have g0 : (w.alloc (Obj.cells #[Value.int IntKind.i64 (N : Int), Value.slice A len cap] 24)).cell? ⟨w.heap.size, 0, none⟩ = some (.int .i64 N) := by go_simp
  have g1 : (w.alloc (Obj.cells #[Value.int IntKind.i64 (N : Int), Value.slice A len cap] 24)).cell? ⟨w.heap.size, 1, none⟩ = some (.slice A len cap) := by go_simp
  have hrH := Lib.hid hr; have hokH := Lib.hid hok
  clear hr hc hok
  go_enter Tryd.func29, Tryd.ntmps29
  go_wp2_with fail
  refine HC.out.mono ?_
  rintro e w1 ⟨rfl, hb⟩
  have q0 := below_cell hb (by simp) g0
  have q1 := below_cell hb (by simp) g1
  have hbw := ((Below.refl w.heap.size w).alloc (Nat.le_refl _) (.cells #[.int .i64 N, .slice A len cap] 24)).trans (hb.mono (by simp))
  have HN := Lib.hid (others_any N A len cap es w1 (hrH.out.later hbw) hN hl hokH.out)
  clear g0 g1 HC hb
  go_wp2_with fail
  refine HN.out.mono ?_
  rintro e w2 ⟨g, rfl, hown, hb2⟩
  have hbw2 := hbw.trans (hb2.mono hbw.size)
  have hg : g < w2.heap.size := (hown.lt _ rfl).2
  have HL := Lib.hid (largest_any (some ⟨g, 0, none⟩) N N (othW N es) w2 hN hlt.out (Rd.of_own hown) (fun b o h => by injection h with h; injection h with h; omega))
  clear hown HN hb2
  go_wp2_with fail
  refine HL.out.mono ?_
  rintro e w3 ⟨b, rfl, hb3, hm, hbl⟩
  have hmH := Lib.hid hm
  clear hm
  go_wp2
  go_ret2
  exact ⟨b, rfl, hb3, hmH.out, hbw2.trans (hbl.mono hbw2.size)⟩
end Go.Proofs.YtnpgnohnpbdblaaDoor
