/- graph.Dist: what its walk leans on. -/
import Derived.Test.YtfeihakciioheaaDoorBfs
import Derived.Test.YtfeihakciioheaaDoorEachBits
import Derived.Test.YtfeihakciioheaaDoorMarks
import Derived.Test.YtfeihakciioheaaDoorCalm
import Derived.Test.YtfeihakciioheaaDoorLast
import Derived.Test.YtfeihakciioheaaDoorRow
import Derived.Test.YtfeihakciioheaaDoorGood
import Derived.Test.YtfeihakciioheaaDoorAdj
namespace Go.Proofs.YtfeihakciioheaaDoor
open Go.RowKit Go.Shelf
attribute [local go_sem] Oper.semAt_some

theorem tiR : TI Tryd.prog 33 25 (.slice none 0 0) 1 24 := TI.mk' Tryd.underlying33 (by kernel_rfl) rfl (by decide)
theorem tiI : TI Tryd.prog 25 3 (.int .i64 0) 1 8 := TI.mk' Tryd.underlying25 (by kernel_rfl) rfl (by decide)
def rowsV (N : Nat) (G : Nat → Nat) (k : Nat) : List Value := (List.range k).map fun m => .slice (some ⟨G m, 0, none⟩) N N
theorem rowsV_snoc (N : Nat) (G : Nat → Nat) (k : Nat) : rowsV N G (k + 1) = rowsV N G k ++ [.slice (some ⟨G k, 0, none⟩) N N] := by simp [rowsV, List.range_succ]
theorem rowsV_congr {N k : Nat} {G G' : Nat → Nat} (h : ∀ m, m < k → G m = G' m) : rowsV N G k = rowsV N G' k := List.map_congr_left fun m hm => by rw [h m (by simpa using hm)]
theorem rowsV_one {N k : Nat} {G : Nat → Nat} : ∀ u ∈ rowsV N G k, u.oneCell' = true := by
  intro u hu
  simp only [rowsV, List.mem_map] at hu
  obtain ⟨m, _, rfl⟩ := hu
  rfl
/-- what is set before the loops: the graph's box, the box of the words, the words -/
structure Gd (B bn gn N : Nat) (A : Option Addr) (len cap : Nat) (ns : List Nat) (W0 wr : World) : Prop where
  c0 : wr.cell? ⟨B, 0, none⟩ = some (.int .i64 (N : Int))
  c1 : wr.cell? ⟨B, 1, none⟩ = some (.slice A len cap)
  cn : wr.cell? ⟨bn, 0, none⟩ = some (.slice (some ⟨gn, 0, none⟩) N N)
  rn : ∀ j, j < N → wr.cell? ⟨gn, j, none⟩ = some (.int .u32 ((ns.getD j 0 : Nat) : Int))
  b : Below B W0 wr
  l0 : B < wr.heap.size
  l1 : bn < wr.heap.size
  l2 : 0 < N → gn < wr.heap.size
theorem Gd.keep {B bn gn N B1 : Nat} {A : Option Addr} {len cap : Nat} {ns : List Nat} {W0 w w' : World} (h : Gd B bn gn N A len cap ns W0 w) (h0 : B < B1) (h1 : bn < B1) (h2 : 0 < N → gn < B1) (hb : Below B1 w w') : Gd B bn gn N A len cap ns W0 w' :=
  ⟨below_cell hb h0 h.c0, below_cell hb h0 h.c1, below_cell hb h1 h.cn, fun j hj => below_cell hb (h2 (by omega)) (h.rn j hj), h.b.trans (hb.mono (by omega)), Nat.lt_of_lt_of_le h.l0 hb.size, Nat.lt_of_lt_of_le h.l1 hb.size, fun hN => Nat.lt_of_lt_of_le (h.l2 hN) hb.size⟩
theorem Gd.later {B bn gn N : Nat} {A : Option Addr} {len cap : Nat} {ns : List Nat} {W0 w w' : World} (h : Gd B bn gn N A len cap ns W0 w) (hB : B ≤ W0.heap.size) (hb : Below w.heap.size w w') : Gd B bn gn N A len cap ns W0 w' :=
  ⟨below_cell hb h.l0 h.c0, below_cell hb h.l0 h.c1, below_cell hb h.l1 h.cn, fun j hj => below_cell hb (h.l2 (by omega)) (h.rn j hj), h.b.trans (hb.mono (Nat.le_trans hB h.b.size)), Nat.lt_of_lt_of_le h.l0 hb.size, Nat.lt_of_lt_of_le h.l1 hb.size, fun hN => Nat.lt_of_lt_of_le (h.l2 hN) hb.size⟩
theorem near_gr {N : Nat} {es : List E} (h : gchk N es = 0) : Gr N (nearW N es) := by
  obtain ⟨_, h10, _, hok, hall⟩ := gchk_ok h
  rw [Int.toNat_natCast] at hok
  have h10 : N ≤ 10 := by omega
  have hlt : ∀ i, (nearW N es).getD i 0 < 1024 := fun i => getD_lt1024 (nearW_lt h10 hok) i
  have hok2 : ∀ i j, nb (nearW N es) i j = true → i < N ∧ j < N ∧ nb (nearW N es) j i = true ∧ i ≠ j := fun i j hij => by
    have hi : i < N := Nat.lt_of_not_le fun hle => by
      unfold nb at hij
      rw [show (nearW N es).getD i 0 = 0 by simp [List.getD, show (nearW N es)[i]? = none by rw [List.getElem?_eq_none_iff, nearW_length]; exact hle]] at hij
      simp at hij
    have ha : adj es i j = true := by rw [← nearW_bit es hok i j hi]; exact hij
    obtain ⟨e, he, hae⟩ := List.any_eq_true.1 ha
    obtain ⟨x, y, ex, ey, hx, hy, hxy⟩ := hok e he
    unfold adjE at hae
    rw [ex, ey] at hae
    simp at hae
    have hj : j < N := by omega
    refine ⟨hi, hj, ?_, by omega⟩
    show ((nearW N es).getD j 0).testBit i = true
    rw [nearW_bit es hok j i hj]
    refine List.any_eq_true.2 ⟨e, he, ?_⟩
    unfold adjE
    rw [ex, ey]
    simp
    omega
  refine ⟨h10, fun i => Nat.lt_pow_two_of_testBit _ fun m hm => ?_, hok2⟩
  cases hb : ((nearW N es).getD i 0).testBit m
  · rfl
  · have := (hok2 i m hb).2.1; omega
theorem dist_bad (N : Int) (A : Option Addr) (len cap : Nat) (es : List E) (w : World) (hr : Rd w A len 3 (ps3 .i64 .i64 .i64 es)) (hl : len ≤ 9223372036854775807) (hc : gchk N es ≠ 0) :
    Calls Tryd.prog 8 #[.agg #[.int .i64 N, .slice A len cap]] w fun e w' => e = .returned (.tuple #[.slice none 0 0, .int .i64 (gchk N es)]) ∧ Below w.heap.size w w' := by
  have HC := Lib.hid (check_any N A len cap es _ (hr.alloc (.cells #[.int .i64 N, .slice A len cap] 24)) hl)
  have hcb : (gchk N es != 0) = true := by simpa using hc
  clear hr hc
  go_enter Tryd.func8, Tryd.ntmps8
  go_wp2_with fail
  refine HC.out.mono ?_
  rintro e w1 ⟨rfl, hb⟩
  have hbb := ((Below.refl _ w).alloc (Nat.le_refl _) (.cells #[.int .i64 N, .slice A len cap] 24)).trans (hb.mono (by simp))
  clear HC hb
  go_wp2
  go_ret2
  exact ⟨rfl, hbb⟩
theorem own_ne {w : World} {b b' e e' n n' : Nat} {v v' : Value} {xs xs' : List Value} (h : w.ownsRow b e 1 v n xs) (h' : w.ownsRow b' e' 1 v' n' xs') (he : e ≠ e') : v.ownBlock = none ∨ v.ownBlock ≠ v'.ownBlock := by
  rcases h.2 with ⟨rfl, _⟩ | ⟨g, cap, cur, rfl, _, hg, _⟩
  · exact .inl rfl
  · rcases h'.2 with ⟨rfl, _⟩ | ⟨g', cap', cur', rfl, _, hg', _⟩
    · right; simp [Value.ownBlock]
    · right
      intro e2
      obtain rfl : g = g' := by simpa [Value.ownBlock] using e2
      rw [hg] at hg'
      simp at hg'
      exact he hg'.2
theorem own_cells {w : World} {b e n : Nat} {v : Value} {xs : List Value} (h : w.ownsRow b e 1 v n xs) {g : Nat} (hv : v.ownBlock = some g) : ∃ o : Obj, w.heap[g]? = some o ∧ o.isCells = true := by
  rcases h.2 with ⟨rfl, _⟩ | ⟨g', cap, cur, rfl, _, hg, _⟩
  · simp [Value.ownBlock] at hv
  · obtain rfl : g' = g := by simpa [Value.ownBlock] using hv
    exact ⟨_, hg, rfl⟩
theorem marks_app {w w' : World} {b e n B T : Nat} {v : Value} {xs : List Value} {ds : List Deferred} (hm : Marks B T ds w) (h : w.ownsRow b e 1 v n xs) (hg : w.grownBy w' v.ownBlock) : Marks B T ds w' :=
  hm.keep fun kk o _ hk ho => (hg.block kk (Array.getElem?_eq_some_iff.1 hk).1 (fun e2 => by
    obtain ⟨o', h1, h2⟩ := own_cells h e2.symm
    rw [hk] at h1; cases h1; rw [ho] at h2; cases h2)).trans hk
theorem own_ownFrom {β : Type} {B' b gl e n : Nat} {N : Nat} (f : β → List Value) (hlt : gl < B') : OwnFrom B' (fun (s : β) W => W.ownsRow b e 1 (.slice (some ⟨gl, 0, none⟩) N N) n (f s)) := fun _ _ _ row hs hg hr => hs.kept hg (.inr (by
  cases row with
  | none => simp [Value.ownBlock]
  | some r => have := (hr r rfl).1; simp [Value.ownBlock]; omega))
theorem own_boxy {β : Type} {Bs b gl e n : Nat} {N : Nat} (f : β → List Value) (hne : gl ≠ Bs) : Boxy Bs (fun (s : β) W => W.ownsRow b e 1 (.slice (some ⟨gl, 0, none⟩) N N) n (f s)) := fun _ _ _ row hs hg hr => hs.kept hg (.inr (by
  cases row with
  | none => simp [Value.ownBlock]
  | some r => have := hr r rfl; simp [Value.ownBlock]; omega))
/-- the row while the nodes of one step are written -/
def wrF (ns : List Nat) (i d : Nat) (pre : List Nat) (j : Nat) : Int := if j ∈ pre then (d : Int) else first ns i j d
theorem wrF_snoc (ns : List Nat) (i d : Nat) (pre : List Nat) (y : Nat) : (fun j => if j = y then (d : Int) else wrF ns i d pre j) = wrF ns i d (pre ++ [y]) := by
  funext j
  unfold wrF
  by_cases h : j = y
  · subst h; simp
  · simp [h]
end Go.Proofs.YtfeihakciioheaaDoor
