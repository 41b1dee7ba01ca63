/- colour.fresh: a painter who has painted nothing. -/
import Derived.Test.YtnpgnohnpbdblaaDoorPaintA
import Derived.Test.YtnpgnohnpbdblaaDoorRepeat
import Derived.Test.YtnpgnohnpbdblaaDoorNear
namespace Go.Proofs.YtnpgnohnpbdblaaDoor
open Go.RowKit Go.Shelf

theorem rdx_lit1 {w : World} {b : Nat} (hb : b = w.heap.size) (v : Value) (t : TypeId) : Rd (w.alloc (.cells #[v] t)) (some ⟨b, 0, none⟩) 1 1 [v] := by
  subst hb
  exact ⟨rfl, fun _ => ⟨w.heap.size, 0, rfl, by simp, fun j hj => by
    obtain rfl : j = 0 := by omega
    go_simp⟩⟩
theorem cell_allocx {w : World} {o : Obj} {b i : Nat} {v : Value} (hb : b < w.heap.size) (h : w.cell? ⟨b, i, none⟩ = some v) : (w.alloc o).cell? ⟨b, i, none⟩ = some v := by
  rw [((Below.refl w.heap.size w).alloc (Nat.le_refl _) o).cell (p := ⟨b, i, none⟩) hb]; exact h
theorem row_const (n : Nat) (x : Int) : List.replicate n (Value.int .i64 x) = row n fun _ => x := by
  apply List.ext_getElem
  · simp [row]
  · intro i h1 h2; simp [row]
theorem ps_new {B n g r : Nat} {ns : List Nat} {w : World} (hg : w.ownsRow B 29 1 (.slice (some ⟨g, 0, none⟩) n n) n (wds ns)) (hr : w.ownsRow B 3 1 (.slice (some ⟨r, 0, none⟩) n n) n (row n fun _ => -1)) (hne : r ≠ g) (_hB : B ≤ w.heap.size) :
    PS B n ns w.heap.size g r (w.alloc (.cells #[.slice (some ⟨g, 0, none⟩) n n, .slice (some ⟨r, 0, none⟩) n n] 67)) fun _ => -1 :=
  ⟨by go_simp, by go_simp, Rd.of_own (hg.alloc _), hr.alloc _, ⟨by have := (hr.lt r rfl).2; omega, hne⟩, Nat.lt_of_lt_of_le (hg.lt g rfl).2 (by simp)⟩
set_option maxHeartbeats 1600000 in
theorem fresh_any (N : Nat) (A : Option Addr) (len cap : Nat) (es : List E) (w : World) (hr : Rd w A len 3 (ps3 .i64 .i64 .i64 es)) (hN : N ≤ 10) (hl : len ≤ 45) (hok : ∀ e ∈ es, okE N e) :
    Calls Tryd.prog 38 #[.agg #[.int .i64 N, .slice A len cap]] w fun e w' => ∃ p ga gl, e = .returned (.pointer (some ⟨p, 0, none⟩)) ∧ PS w.heap.size N (nearW N es) p ga gl w' (fun _ => -1) ∧ Below w.heap.size w w' := by
  have HN := Lib.hid (fun W (h : Below w.heap.size w W) => near_any N A len cap es W (hr.later h) hN hl hok)
  have HR := Lib.hid (fun W b c1 (h : Rd W (some ⟨b, 0, none⟩) 1 1 (ints .i64 [-1])) => repeat_one b c1 (-1) N W h (by omega))
  have g0 : (w.alloc (.cells #[.int .i64 N, .slice A len cap] 24)).cell? ⟨w.heap.size, 0, none⟩ = some (.int .i64 N) := by go_simp
  have g1 : (w.alloc (.cells #[.int .i64 N, .slice A len cap] 24)).cell? ⟨w.heap.size, 1, none⟩ = some (.slice A len cap) := by go_simp
  have gb := (Below.refl _ w).alloc (Nat.le_refl _) (.cells #[.int .i64 N, .slice A len cap] 24)
  have gs : (w.alloc (.cells #[.int .i64 N, .slice A len cap] 24)).heap.size = w.heap.size + 1 := by simp
  clear hr hok
  go_enter Tryd.func38, Tryd.ntmps38
  go_wp2_with fail
  generalize w.alloc (.cells #[.int .i64 N, .slice A len cap] 24) = wg at *
  have hlt0 : w.heap.size < wg.heap.size := by omega
  have g0l := cell_allocx (o := .cells #[.int .i64 (-1)] 3) hlt0 g0
  have g1l := cell_allocx (o := .cells #[.int .i64 (-1)] 3) hlt0 g1
  have gbl := (gb.alloc (by omega) (.cells #[.int .i64 (-1)] 3)).drew
  have hsl : (wg.alloc (.cells #[.int .i64 (-1)] 3)).drew.heap.size = w.heap.size + 2 := by simp; omega
  have hltl : w.heap.size < (wg.alloc (.cells #[.int .i64 (-1)] 3)).drew.heap.size := by omega
  go_region_held3 (fun w' => w'.cell? ⟨w.heap.size, 0, none⟩ = some (.int .i64 N) ∧ w'.cell? ⟨w.heap.size, 1, none⟩ = some (.slice A len cap)) (first
    | go_keep
    | (have k0 := below_cell bA hlt0 g0
       have k1 := below_cell bA hlt0 g1
       first
       | exact ⟨k0, k1⟩
       | exact ⟨cell_allocx hltA k0, cell_allocx hltA k1⟩
       | exact ⟨below_cell bR hltB (cell_allocx hltA k0), below_cell bR hltB (cell_allocx hltA k1)⟩
       | fail)
    | (have k0 := below_cell bA hltl g0l
       have k1 := below_cell bA hltl g1l
       first
       | exact ⟨k0, k1⟩
       | exact ⟨below_cell bR hltA k0, below_cell bR hltA k1⟩
       | fail)
    | fail) ((first
    | (go_at_call 33
       (with_reducible refine (HN.out wg.drew gb.drew).mono ?_)
       rintro e wA ⟨ga, rfl, ownA, bA⟩
       have hsA := bA.size
       have hltA : w.heap.size < wA.heap.size := Nat.lt_of_lt_of_le hlt0 hsA)
    | (go_at_call 33
       (with_reducible refine (HN.out _ gbl).mono ?_)
       rintro e wA ⟨ga, rfl, ownA, bA⟩
       have hsA := bA.size
       have hltA : w.heap.size < wA.heap.size := Nat.lt_of_lt_of_le hltl hsA)
    | (go_at_call 54
       have hltB : w.heap.size < (wA.alloc (.cells #[.int .i64 (-1)] 3)).heap.size := by simp; omega
       (with_reducible refine (HR.out _ _ _ (rdx_lit1 rfl (.int .i64 (-1)) 3)).mono ?_)
       rintro e wR ⟨rfl, ownR, bR⟩)
    | (go_at_call 54
       (with_reducible refine (HR.out _ _ _ (((rdx_lit1 (w := wg) gs.symm (.int .i64 (-1)) 3).drew).later bA)).mono ?_)
       rintro e wR ⟨rfl, ownR, bR⟩)
    | fail))
  · go_wp2_with fail
    go_ret
    have hbw : Below w.heap.size w wR := ((gb.drew).trans (bA.mono (by simp; omega))).trans (((Below.refl _ _).alloc (Nat.le_refl _) _).trans (bR.mono (by simp)) |>.mono (by omega))
    have s1 := own_below (ownA.alloc (.cells #[.int .i64 (-1)] 3)) bR
    have hga := (ownA.lt ga rfl).2
    rw [row_const] at ownR
    simp only [World.size_alloc] at ownR
    have hlr : wA.heap.size + 1 < wR.heap.size := (ownR.lt _ rfl).2
    exact ⟨_, _, _, rfl, ps_new (own_base (by simp; omega) s1) (own_base (by omega) ownR) (by omega) (by omega), hbw.alloc (by omega) _⟩
  · go_wp2_with fail
    go_ret
    have hbw : Below w.heap.size w wR := (gbl.trans (bA.mono (by omega))).trans (bR.mono (by omega))
    have s1 := own_below ownA bR
    have hga := (ownA.lt ga rfl).2
    rw [row_const] at ownR
    have hlr : wA.heap.size < wR.heap.size := (ownR.lt _ rfl).2
    exact ⟨_, _, _, rfl, ps_new (own_base (by omega) s1) (own_base (by omega) ownR) (by omega) (by omega), hbw.alloc (by omega) _⟩
end Go.Proofs.YtnpgnohnpbdblaaDoor
