/- The program's graph.Near: of each node the nodes that it has edges with, as words. -/
import Derived.Test.YtnkmfnnkophccaaDoorCheck
namespace Go.Proofs.YtnkmfnnkophccaaDoor
open Go.RowKit

def orAt (l : List Nat) (i j : Nat) : List Nat := l.set i (l.getD i 0 ||| 2 ^ j)
def nstep (l : List Nat) (e : E) : List Nat := orAt (orAt l e.1.toNat e.2.1.toNat) e.2.1.toNat e.1.toNat
def nearW (n : Nat) (es : List E) : List Nat := es.foldl nstep (List.replicate n 0)
theorem orAt_length (l : List Nat) (i j : Nat) : (orAt l i j).length = l.length := by simp [orAt]
theorem nearW_length (n : Nat) (es : List E) : (nearW n es).length = n := by
  have : ∀ l : List Nat, (es.foldl nstep l).length = l.length := by
    induction es with
    | nil => simp
    | cons e es ih => intro l; simp [ih, nstep, orAt_length]
  simp [nearW, this]
theorem nearW_snoc (n : Nat) (es : List E) (e : E) : nearW n (es ++ [e]) = nstep (nearW n es) e := by simp [nearW]
theorem orAt_lt {l : List Nat} {i j : Nat} (h : ∀ x ∈ l, x < 1024) (hj : j < 10) : ∀ x ∈ orAt l i j, x < 1024 := by
  intro x hx
  rcases List.mem_or_eq_of_mem_set hx with hx | rfl
  · exact h x hx
  · have hg : l.getD i 0 < 1024 := by
      by_cases hi : i < l.length
      · simpa [List.getD, hi] using h _ (List.getElem_mem hi)
      · simp [List.getD, hi]
    exact Nat.or_lt_two_pow (n := 10) hg (Nat.pow_lt_pow_right (by omega) hj)
theorem getD_lt1024 {l : List Nat} (h : ∀ x ∈ l, x < 1024) (i : Nat) : l.getD i 0 < 1024 := by
  by_cases hi : i < l.length
  · simpa [List.getD, hi] using h _ (List.getElem_mem hi)
  · simp [List.getD, hi]
/-- an edge between two of n nodes -/
def okE (n : Nat) (e : E) : Prop := ∃ (x y : Nat), e.1 = (x : Int) ∧ e.2.1 = (y : Int) ∧ x < n ∧ y < n ∧ x ≠ y
theorem nearW_lt {n : Nat} (hn : n ≤ 10) {es : List E} (h : ∀ e ∈ es, okE n e) : ∀ x ∈ nearW n es, x < 1024 := by
  have : ∀ l : List Nat, (∀ x ∈ l, x < 1024) → ∀ x ∈ es.foldl nstep l, x < 1024 := by
    induction es with
    | nil => intro l h; simpa using h
    | cons e es ih =>
      intro l hl
      obtain ⟨x, y, hx, hy, hx', hy', _⟩ := h e (by simp)
      refine ih (fun e' he' => h e' (List.mem_cons_of_mem _ he')) _ ?_
      unfold nstep
      rw [hx, hy, Int.toNat_natCast, Int.toNat_natCast]
      exact orAt_lt (orAt_lt hl (by omega)) (by omega)
  exact this _ (fun x hx => by rw [List.mem_replicate] at hx; omega)
/-- what a graph with nothing wrong is -/
theorem gchk_ok {N : Int} {es : List E} (h : gchk N es = 0) : 0 ≤ N ∧ N ≤ 10 ∧ es.length ≤ 45 ∧ (∀ e ∈ es, okE N.toNat e) ∧ (∀ j, j < es.length → echkAt N es j = 0) := by
  have hL : glarge N es.length = false := by
    cases hl : glarge N es.length
    · rfl
    · rw [gchk_large hl] at h; omega
  have h1 := glarge_false hL
  rw [gchk_small hL] at h
  have h2 := gscan_zero h
  refine ⟨h1.1, h1.2.1, h1.2.2, fun e he => ?_, h2⟩
  obtain ⟨j, hj, rfl⟩ := List.mem_iff_getElem.1 he
  have := h2 j hj
  rw [echkAt, show es.getD j (0, 0, 0) = es[j] by simp [List.getD, hj]] at this
  generalize es[j] = e at this
  obtain ⟨a, b, c⟩ := e
  unfold echk at this
  split at this
  · omega
  · rename_i ho
    split at this
    · omega
    · rename_i hne
      simp [outE] at ho
      simp at hne
      refine ⟨a.toNat, b.toNat, ?_, ?_, by omega, by omega, by omega⟩ <;> simp only <;> omega

theorem ti31 : TI Tryd.prog 41 43 (.int .u32 0) 1 4 := TI.mk' Tryd.underlying41 (by kernel_rfl) rfl (by decide)
theorem own_replicate (n : Nat) : List.replicate n (Value.int .u32 0) = wds (List.replicate n 0) := by simp [wds]
theorem wds_orAt (l : List Nat) (i j : Nat) (v : Value) (h : v = .int .u32 ((l.getD i 0 ||| 2 ^ j : Nat) : Int)) : (wds l).set i v = wds (orAt l i j) := by
  subst h; simp [wds, orAt, List.map_set]

set_option maxHeartbeats 3200000 in
set_option maxRecDepth 100000 in
theorem near_any (N : Nat) (A : Option Addr) (len cap : Nat) (es : List E) (w : World) (hr : Rd w A len 3 (ps3 .i64 .i64 .i64 es)) (hN : N ≤ 10) (hl : len ≤ 45) (hok : ∀ e ∈ es, okE N e) :
    Calls Tryd.prog 12 #[.agg #[.int .i64 N, .slice A len cap]] w fun e w' => ∃ g, e = .returned (.slice (some ⟨g, 0, none⟩) N N) ∧ w'.ownsRow w.heap.size 43 1 (.slice (some ⟨g, 0, none⟩) N N) N (wds (nearW N es)) ∧ Below w.heap.size w w' := by
  have hel := Lib.hid (ps3_len hr)
  have hrH := Lib.hid hr; clear hr
  have hokH := Lib.hid hok; clear hok
  go_enter Tryd.func12, Tryd.ntmps12
  go_wp2_with (at_make; refine wpList_mk1 _ ti31 w.heap.size N (by omega) (by omega) (by simp) rfl rfl rfl rfl rfl rfl rfl ?_)
  intro w1 hown hg
  rw [own_replicate] at hown
  have hbox : Below w.heap.size w (w.alloc (Obj.cells #[Value.int IntKind.i64 ↑N, Value.slice A len cap] 27)) := (Below.refl _ _).alloc (Nat.le_refl _) _
  have hb1 : Below w.heap.size w w1 := hbox.trans ((below_grown hg).mono (by simp))
  have g0 : w1.cell? ⟨w.heap.size, 0, none⟩ = some (.int .i64 N) := below_cell (below_grown hg) (by simp) (by go_simp)
  have g1 : w1.cell? ⟨w.heap.size, 1, none⟩ = some (.slice A len cap) := below_cell (below_grown hg) (by simp) (by go_simp)
  have hS1 : w.heap.size + 1 ≤ w1.heap.size := by have := hg.size; simp at this; omega
  clear hg hbox
  go_wp2
  go_loopw [12] (fun i wr => ∃ k : Nat, k ≤ len ∧ i = .int .i64 k ∧ wr.ownsRow w.heap.size 43 1 (.slice (some ⟨w.heap.size + 1, 0, none⟩) N N) N (wds (nearW N (es.take k))) ∧ Below w.heap.size w wr) (fun i _ => len - (intOf i).toNat)
  case atStart => exact ⟨0, Nat.zero_le _, rfl, hown, hb1⟩
  case round =>
    clear hown hb1
    obtain ⟨k, hk, rfl, hown, hb⟩ := hrel
    by_cases hlt : k < len
    · obtain ⟨bb, oo, rfl, hab, hc1, hc2, hc3⟩ := (hrH.out.later hb).triple hlt
      have hke : k < es.length := by rw [hel.out]; exact hlt
      have htk := take_succ_getD' es (0, 0, 0) k hke
      obtain ⟨x, y, hx, hy, hxN, hyN, hne⟩ := hokH.out (es.getD k (0, 0, 0)) (by simp [List.getD, hke])
      have hlen := nearW_length N (es.take k)
      have hw := nearW_lt hN (es := es.take k) (fun e he => hokH.out e (List.mem_of_mem_take he))
      have hsn := nearW_snoc N (es.take k) (es.getD k (0, 0, 0))
      rw [← htk] at hsn
      unfold nstep at hsn
      rw [hx, hy, Int.toNat_natCast, Int.toNat_natCast] at hsn
      rw [hx] at hc1
      rw [hy] at hc2
      generalize (es.getD k (0, 0, 0)).2.2 = c at *
      generalize nearW N (es.take k) = l at *
      have hsnH := Lib.hid hsn; have htkH := Lib.hid htk; clear hsn htk hx hy hke
      have hga := (hown.cellAt x (by omega)).trans (wds_get (by omega))
      have hgb := (hown.cellAt y (by omega)).trans (wds_get (by omega))
      have hfa := hown.frozenAt x
      have hfb := hown.frozenAt y
      have hgS := (hown.lt _ rfl).2
      have hownH := Lib.hid hown; clear hown
      have hl2 : l.length = N := hlen
      have hlenH := Lib.hid hlen; clear hlen
      have hp := getD_lt1024 hw x
      have hq := getD_lt1024 hw y
      have hwH := Lib.hid hw; clear hw
      have hor1 : (Value.int .u32 (bits .or .u32 ((l.getD x 0 : Nat) : Int) ((2 : Int) ^ y % 4294967296))) = .int .u32 ((l.getD x 0 ||| 2 ^ y : Nat) : Int) := by
        rw [two_pow_u32 y (by omega), u32_or_nat _ _ (by omega) (Nat.lt_of_lt_of_le (Nat.pow_lt_pow_right (by omega) (show y < 10 by omega)) (by omega))]
      have hor2 : (Value.int .u32 (bits .or .u32 ((l.getD y 0 : Nat) : Int) ((2 : Int) ^ x % 4294967296))) = .int .u32 ((l.getD y 0 ||| 2 ^ x : Nat) : Int) := by
        rw [two_pow_u32 x (by omega), u32_or_nat _ _ (by omega) (Nat.lt_of_lt_of_le (Nat.pow_lt_pow_right (by omega) (show x < 10 by omega)) (by omega))]
      have hset : ((wds l).set x (.int .u32 ((l.getD x 0 ||| 2 ^ y : Nat) : Int))).set y (.int .u32 ((l.getD y 0 ||| 2 ^ x : Nat) : Int)) = wds (orAt (orAt l x y) y x) := by
        rw [wds_orAt l x y _ rfl, wds_orAt (orAt l x y) y x _ ?_]
        unfold orAt
        simp [List.getD, hne]
      have h1H := Lib.hid hor1; have h2H := Lib.hid hor2; have hsetH := Lib.hid hset; clear hor1 hor2 hset
      have hyx : ¬ y = x := fun h => hne h.symm
      have hxi : (x : Int) < N := by omega
      have hyi : (y : Int) < N := by omega
      have hx0 : 0 ≤ (x : Int) := by omega
      have hy0 : 0 ≤ (y : Int) := by omega
      generalize l.getD x 0 = p at *
      generalize l.getD y 0 = q at *
      go_wp2
      go_region
      go_wp2
      go_region
      go_wp2
      go_roundw
      case rel =>
        refine ⟨k + 1, by omega, by go_num, ?_, (((hb.setCell (p := ⟨w.heap.size + 1, x, none⟩) (by simp) _).setCell (p := ⟨w.heap.size + 1, y, none⟩) (by simp) _).alloc (by simpa using hb.size) _).drew.drew⟩
        rw [hsnH.out, ← hsetH.out, ← h1H.out, ← h2H.out]
        exact own_drew (own_drew (((hownH.out.stored x _).1.stored y _).1.alloc _))
      case measure => simp [intOf]; omega
    · obtain rfl : k = len := by omega
      rw [List.take_of_length_le (by rw [hel.out]; exact Nat.le_refl _)] at hown
      go_wp2
      go_ret
      exact ⟨_, rfl, hown, hb⟩
end Go.Proofs.YtnkmfnnkophccaaDoor
