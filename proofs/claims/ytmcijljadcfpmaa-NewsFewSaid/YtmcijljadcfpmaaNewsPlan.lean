/- news.Plan; slices.Grow of nothing, slices.Concat of three, at Call. -/
import Derived.Test.YtmcijljadcfpmaaWf
import Derived.Lib.AppendZeros
import Derived.Test.YtmcijljadcfpmaaBlk
namespace Go.Proofs.Ytmcijljadcfpmaa
open Go.RowKit

set_option maxHeartbeats 800000 in
theorem grow_nil (n : Nat) (w : World) (h0 : 0 < n) (hn : n ≤ 100) :
    Calls Try.prog 17 #[.slice none 0 0, .int .i64 (n : Int)] w fun e w' => ∃ v, e = .returned v ∧ w'.ownsRow w.heap.size 24 2 v 0 [] ∧ Below w.heap.size w w' := by
  obtain ⟨i0, hi0, hz0, hs0, hb0⟩ := ti22.hi
  have hrz := fun ty => Lib.run_append_nil_zeros (P := Try.prog) w 22 3 ty 24 i0 (.agg #[.int .i64 0, .int .i64 0]) .i64 .i64 Try.underlying22 Try.underlying3 hi0 hz0 n h0 (by rw [hs0]; omega) (by omega) (by rw [hb0]; omega)
  have hG1 := grownCap_ge w n 0 24
  have hG2 := grownCap_le_maxLen w n 0 24 (by unfold maxLen; omega)
  have hown : (w.drew.alloc (.cells (Builtin.zeroCells (Value.agg #[.int .i64 0, .int .i64 0]).cells n ++ Builtin.zeroCells (Value.agg #[.int .i64 0, .int .i64 0]).cells (grownCap w n 0 24 - n)) 24)).ownsRow w.heap.size 24 2 (.slice (some ⟨w.heap.size, 0, none⟩) 0 (grownCap w n 0 24)) 0 [] := by
    refine ⟨rfl, .inr ⟨w.heap.size, _, _, rfl, Nat.le_refl _, World.alloc_heap_new w.drew _, Nat.zero_le _, hG2, ?_, by simp⟩⟩
    simp [Builtin.zeroCells, Value.cells]
    omega
  have hb := ((Below.refl w.heap.size w).drew).alloc (by exact Nat.le_refl _) (.cells (Builtin.zeroCells (Value.agg #[.int .i64 0, .int .i64 0]).cells n ++ Builtin.zeroCells (Value.agg #[.int .i64 0, .int .i64 0]).cells (grownCap w n 0 24 - n)) 24)
  have hrzH := Lib.hid hrz; have hownH := Lib.hid hown; have hbH := Lib.hid hb
  have hw : IntKind.i64.wrap (n : Int) = n := IntWalk.i64_in _ (by omega)
  have hpos : (0 : Int) < n := by omega
  have hnn : ¬ ((n : Int) < 0) := by omega
  have hG63 : grownCap w n 0 24 ≤ 9223372036854775807 := by unfold maxLen at hG2; omega
  clear hrz hown hb
  generalize grownCap w n 0 24 = G at *
  go_enter Try.func17, Try.ntmps17
  go_wp2_with (at_builtin; refine Lib.wpList_append_run _ rfl _ _ _ _ rfl _ _ rfl rfl _ _ (hrzH.out _) ?_)
  all_goals
    go_ret
    exact ⟨_, rfl, hownH.out, hbH.out⟩
abbrev PL := List (Int × Int)
def upto3 (x y z : PL) : Nat → PL
  | 0 => []
  | 1 => x
  | 2 => x ++ y
  | _ => x ++ y ++ z
set_option maxHeartbeats 3200000 in
set_option maxRecDepth 100000 in
theorem concat3 (b c0 : Nat) (A1 A2 A3 : Option Addr) (l1 l2 l3 c1 c2 c3 : Nat) (x y z : PL) (w : World)
    (h0 : w.cell? ⟨b, 0, none⟩ = some (.slice A1 l1 c1)) (h1 : w.cell? ⟨b, 1, none⟩ = some (.slice A2 l2 c2)) (h2 : w.cell? ⟨b, 2, none⟩ = some (.slice A3 l3 c3))
    (hx : Rd w A1 l1 2 (ps2 .i64 .i64 x)) (hy : Rd w A2 l2 2 (ps2 .i64 .i64 y)) (hz : Rd w A3 l3 2 (ps2 .i64 .i64 z)) (hl : l1 ≤ 20 ∧ l2 ≤ 20 ∧ l3 ≤ 20) (hp : 0 < l2) :
    Calls Try.prog 15 #[.slice (some ⟨b, 0, none⟩) 3 c0] w fun e w' => ∃ v, e = .returned v ∧ w'.ownsRow w.heap.size 24 2 v (l1 + l2 + l3) (ps2 .i64 .i64 (x ++ y ++ z)) ∧ Below w.heap.size w w' := by
  have hbl := World.block_lt_of_cell? w _ h0
  have ex : x.length = l1 := ps2_len hx
  have ey : y.length = l2 := ps2_len hy
  have ez : z.length = l3 := ps2_len hz
  have hxH := Lib.hid hx; have hyH := Lib.hid hy; have hzH := Lib.hid hz; have exH := Lib.hid ex; have eyH := Lib.hid ey; have ezH := Lib.hid ez
  have HG := Lib.hid (fun W => grow_nil (l1 + l2 + l3) W (by omega) (by omega))
  clear hx hy hz ex ey ez
  go_enter Try.func15, Try.ntmps15
  go_wp2
  go_loopw [3, 11] (fun s i wr => ∃ (k : Nat) (s' : Int), i = .int .i64 k ∧ s = .int .i64 s' ∧ (k = 0 ∧ s' = 0 ∨ k = 1 ∧ s' = l1 ∨ k = 2 ∧ s' = (l1 : Int) + l2 ∨ k = 3 ∧ s' = ((l1 + l2 + l3 : Nat) : Int)) ∧ wr = w) (fun _ i _ => 3 - (intOf i).toNat)
  case atStart => exact ⟨0, 0, rfl, rfl, .inl ⟨rfl, rfl⟩, rfl⟩
  case round =>
    obtain ⟨k, s', rfl, rfl, hk, rfl⟩ := hrel
    rcases hk with ⟨rfl, rfl⟩ | ⟨rfl, rfl⟩ | ⟨rfl, rfl⟩ | ⟨rfl, rfl⟩
    · have hw1 : IntKind.i64.wrap (0 + (l1 : Int)) = l1 := by rw [Int.zero_add]; exact IntWalk.i64_in _ (by omega)
      go_wp2
      go_roundw
      case rel => exact ⟨1, _, by go_num, rfl, .inr (.inl ⟨rfl, rfl⟩), by trivial⟩
      case measure => simp [intOf]
    · have hw1 : IntKind.i64.wrap ((l1 : Int) + (l2 : Int)) = (l1 : Int) + l2 := IntWalk.i64_in _ (by omega)
      go_wp2
      go_roundw
      case rel => exact ⟨2, _, by go_num, rfl, .inr (.inr (.inl ⟨rfl, rfl⟩)), by trivial⟩
      case measure => simp [intOf]
    · have hw1 : IntKind.i64.wrap ((l1 : Int) + l2 + (l3 : Int)) = (l1 : Int) + l2 + l3 := IntWalk.i64_in _ (by omega)
      go_wp2
      go_roundw
      case rel => exact ⟨3, _, by go_num, rfl, .inr (.inr (.inr ⟨rfl, by omega⟩)), by trivial⟩
      case measure => simp [intOf]
    · obtain ⟨wa, rfl⟩ : ∃ wa : World, wa = wr := ⟨_, rfl⟩
      obtain ⟨L, hL⟩ : ∃ L, l1 + l2 + l3 = L := ⟨_, rfl⟩
      rw [hL] at HG ⊢
      have hLH := Lib.hid hL
      clear hL
      go_wp2_with fail
      refine (HG.out wa).mono ?_
      rintro _ w1 ⟨v1, rfl, hown1, hb1⟩
      have hown1H := Lib.hid hown1; have hb1H := Lib.hid hb1
      have hcH := Lib.hid (And.intro h0 (And.intro h1 h2))
      have hs1 := hb1.size
      clear hown1 hb1 HG h0 h1 h2
      obtain ⟨A0, c00, rfl⟩ := own_slice hown1H.out
      go_wp2
      go_loopw [6, 27] (fun v i wr => ∃ (k : Nat) (n : Nat) (xs : PL), i = .int .i64 k ∧ (k = 0 ∧ 0 = n ∧ [] = xs ∨ k = 1 ∧ l1 = n ∧ x = xs ∨ k = 2 ∧ l1 + l2 = n ∧ x ++ y = xs ∨ k = 3 ∧ L = n ∧ x ++ y ++ z = xs) ∧ wr.ownsRow wa.heap.size 24 2 v n (ps2 .i64 .i64 xs) ∧ Below wa.heap.size wa wr) (fun _ i _ => 3 - (intOf i).toNat)
      case atStart => exact ⟨0, 0, [], rfl, .inl ⟨rfl, rfl, rfl⟩, hown1H.out, hb1H.out⟩
      case round =>
        clear hown1H hb1H
        obtain ⟨k, n, xs, rfl, hk, hown, hb⟩ := hrel
        rcases hk with ⟨rfl, rfl, rfl⟩ | ⟨rfl, rfl, rfl⟩ | ⟨rfl, rfl, rfl⟩ | ⟨rfl, rfl, rfl⟩
        · have g0 := below_cell hb hbl hcH.out.1
          have hr := Lib.hid (hxH.out.later hb)
          obtain ⟨AX, cX, rfl⟩ := own_slice hown
          have hownH := Lib.hid hown; have hbH := Lib.hid hb
          have hsz := hb.size
          clear hown hb
          go_wp2_with (at_builtin; refine wpList_app (s := .tmp 31) (x := .tmp 32) _ ti22 hownH.out hr.out ps2_one (by omega) (by omega) hsz rfl rfl rfl rfl ?_)
          intro v' w2 hown2 hg2 _
          have hb2 := Lib.hid (hbH.out.grown hg2 hsz (fun g e => (hownH.out.lt g e).1))
          have hown2H := Lib.hid hown2
          clear hown2 hg2
          obtain ⟨AY, cY, rfl⟩ := own_slice hown2H.out
          go_wp2
          go_roundw
          case rel => exact ⟨1, 0 + l1, x, by go_num, .inr (.inl ⟨rfl, by omega, rfl⟩), by have := hown2H.out; simpa [ps2] using this, hb2.out⟩
          case measure => simp [intOf]
        · have g0 := below_cell hb hbl hcH.out.2.1
          have hr := Lib.hid (hyH.out.later hb)
          obtain ⟨AX, cX, rfl⟩ := own_slice hown
          have hownH := Lib.hid hown; have hbH := Lib.hid hb
          have hsz := hb.size
          clear hown hb
          go_wp2_with (at_builtin; refine wpList_app (s := .tmp 31) (x := .tmp 32) _ ti22 hownH.out hr.out ps2_one (by omega) (by omega) hsz rfl rfl rfl rfl ?_)
          intro v' w2 hown2 hg2 _
          have hb2 := Lib.hid (hbH.out.grown hg2 hsz (fun g e => (hownH.out.lt g e).1))
          have hown2H := Lib.hid hown2
          clear hown2 hg2
          obtain ⟨AY, cY, rfl⟩ := own_slice hown2H.out
          go_wp2
          go_roundw
          case rel => exact ⟨2, l1 + l2, x ++ y, by go_num, .inr (.inr (.inl ⟨rfl, rfl, rfl⟩)), by have := hown2H.out; simpa [ps2] using this, hb2.out⟩
          case measure => simp [intOf]
        · have g0 := below_cell hb hbl hcH.out.2.2
          have hr := Lib.hid (hzH.out.later hb)
          obtain ⟨AX, cX, rfl⟩ := own_slice hown
          have hownH := Lib.hid hown; have hbH := Lib.hid hb
          have hsz := hb.size
          clear hown hb
          go_wp2_with (at_builtin; refine wpList_app (s := .tmp 31) (x := .tmp 32) _ ti22 hownH.out hr.out ps2_one (by omega) (by omega) hsz rfl rfl rfl rfl ?_)
          intro v' w2 hown2 hg2 _
          have hb2 := Lib.hid (hbH.out.grown hg2 hsz (fun g e => (hownH.out.lt g e).1))
          have hown2H := Lib.hid hown2
          clear hown2 hg2
          obtain ⟨AY, cY, rfl⟩ := own_slice hown2H.out
          go_wp2
          go_roundw
          case rel => exact ⟨3, l1 + l2 + l3, x ++ y ++ z, by go_num, .inr (.inr (.inr ⟨rfl, hLH.out.symm, rfl⟩)), by have := hown2H.out; simpa [ps2] using this, hb2.out⟩
          case measure => simp [intOf]
        · obtain ⟨AX, cX, rfl⟩ := own_slice hown
          have hownH := Lib.hid hown; have hbH := Lib.hid hb
          clear hown hb
          go_wp2
          go_ret
          exact ⟨.slice AX L cX, rfl, by rw [hLH.out]; exact hownH.out, hbH.out⟩
def outer (n : Nat) : PL := (List.range (n - 4)).map fun i => (0, ((i + 4 : Nat) : Int))
def four : PL := [(0, 1), (2, 3), (0, 2), (1, 3)]
def planL : Nat → PL
  | 0 => []
  | 1 => []
  | 2 => [(0, 1)]
  | 3 => [(0, 1), (0, 2), (0, 1)]
  | n => outer n ++ four ++ outer n
def upO (k : Nat) : PL := (List.range k).map fun i => (0, ((i + 4 : Nat) : Int))
theorem upO_succ (k : Nat) : upO (k + 1) = upO k ++ [(0, ((k + 4 : Nat) : Int))] := by simp [upO, List.range_succ]
theorem upO_len (k : Nat) : (upO k).length = k := by simp [upO]
theorem rd_cells {w : World} {b n s : Nat} {xs : List Value} (hb : b < w.heap.size) (hl : xs.length = n * s) (hc : ∀ j v, xs[j]? = some v → w.cell? ⟨b, j, none⟩ = some v) : Rd w (some ⟨b, 0, none⟩) n s xs :=
  ⟨hl, fun _ => ⟨b, 0, rfl, hb, fun j hj => by
    rw [Nat.zero_add]
    have h := List.getElem?_eq_getElem (l := xs) (i := j) (by omega)
    rw [h]; exact hc j _ h⟩⟩
def PlanPost (n : Nat) (w : World) (e : Ending) (w' : World) : Prop :=
  ∃ (A : Option Addr) (len cap : Nat), e = .returned (.tuple #[.slice A len cap, .int .i64 0]) ∧ Rd w' A len 2 (ps2 .i64 .i64 (planL n)) ∧ Below w.heap.size w w'
theorem plan_large (n : Int) (w : World) (h : n < 1 ∨ 8 < n) :
    Calls Try.prog 10 #[.int .i64 n] w fun e w' => e = .returned (.tuple #[.slice none 0 0, .int .i64 1]) ∧ w = w' := by
  by_cases h1 : n < 1
  · have e1 : decide (n < 1) = true := decide_eq_true h1
    clear h
    go_enter Try.func10, Try.ntmps10
    go_wp2
    go_ret2
    exact ⟨rfl, rfl⟩
  · have e1 : decide (n < 1) = false := decide_eq_false h1
    have e2 : decide (8 < n) = true := decide_eq_true (by omega)
    clear h
    go_enter Try.func10, Try.ntmps10
    go_wp2
    go_ret2
    exact ⟨rfl, rfl⟩
theorem plan_1 (w : World) : Calls Try.prog 10 #[.int .i64 1] w (PlanPost 1 w) := by
  go_enter Try.func10, Try.ntmps10
  go_wp2
  go_ret2
  exact ⟨none, 0, 0, rfl, ⟨rfl, fun h => absurd h (by omega)⟩, Below.refl _ _⟩
theorem plan_2 (w : World) : Calls Try.prog 10 #[.int .i64 2] w (PlanPost 2 w) := by
  go_enter Try.func10, Try.ntmps10
  go_wp2
  go_ret2
  have hK := Blk.new w 24 #[.int .i64 0, .int .i64 1]
  exact ⟨some ⟨w.heap.size, 0, none⟩, 1, 1, rfl, rd_cells (by simp) rfl fun j v hj => hK.cell (j := j) (by simpa [planL, ps2] using hj), (Below.refl _ w).alloc (Nat.le_refl _) _⟩
theorem plan_3 (w : World) : Calls Try.prog 10 #[.int .i64 3] w (PlanPost 3 w) := by
  go_enter Try.func10, Try.ntmps10
  go_wp2
  go_ret2
  have hK := Blk.new w 24 #[.int .i64 0, .int .i64 1, .int .i64 0, .int .i64 2, .int .i64 0, .int .i64 1]
  exact ⟨some ⟨w.heap.size, 0, none⟩, 3, 3, rfl, rd_cells (by simp) rfl fun j v hj => hK.cell (j := j) (by simpa [planL, ps2] using hj), (Below.refl _ w).alloc (Nat.le_refl _) _⟩
set_option maxHeartbeats 1600000 in
set_option maxRecDepth 100000 in
theorem plan_more (n : Nat) (w : World) (h4 : 4 ≤ n) (h8 : n ≤ 8) : Calls Try.prog 10 #[.int .i64 (n : Int)] w (PlanPost n w) := by
  have hpl : planL n = upO (n - 4) ++ four ++ upO (n - 4) := by
    match n, h4 with
    | n + 4, _ => rfl
  have hplH := Lib.hid hpl
  have e1 : decide ((n : Int) < 1) = false := decide_eq_false (by omega)
  have e2 : decide (8 < (n : Int)) = false := decide_eq_false (by omega)
  have e3 : ((n : Int) == 1) = false := by simp; omega
  have e4 : ((n : Int) == 2) = false := by simp; omega
  have e5 : ((n : Int) == 3) = false := by simp; omega
  clear hpl
  go_enter Try.func10, Try.ntmps10
  go_wp2
  go_loopw [4, 5] (fun v i wr => ∃ k : Nat, k + 4 ≤ n ∧ i = .int .i64 ((k + 4 : Nat) : Int) ∧ wr.ownsRow w.heap.size 24 2 v k (ps2 .i64 .i64 (upO k)) ∧ Below w.heap.size w wr) (fun _ i _ => n - (intOf i).toNat)
  case atStart => exact ⟨0, by omega, rfl, ⟨rfl, .inl ⟨rfl, rfl⟩⟩, Below.refl _ _⟩
  case round =>
    obtain ⟨k, hk, rfl, hown, hb⟩ := hrel
    obtain ⟨AX, cX, rfl⟩ := own_slice hown
    have hsz := hb.size
    by_cases hlt : k + 4 < n
    · have hlt' : ((k + 4 : Nat) : Int) < n := by omega
      have hw1 : IntKind.i64.wrap (((k + 4 : Nat) : Int) + 1) = ((k + 1 + 4 : Nat) : Int) := (IntWalk.i64_in _ (by omega)).trans (by omega)
      have hownH := Lib.hid (hown.alloc (.cells #[.int .i64 0, .int .i64 ((k + 4 : Nat) : Int)] 24)); have hbH := Lib.hid (hb.alloc hsz (.cells #[.int .i64 0, .int .i64 ((k + 4 : Nat) : Int)] 24))
      have hrd := Lib.hid (rd_new2 wr (.int .i64 0) (.int .i64 ((k + 4 : Nat) : Int)) 24)
      have hs2 := hbH.out.size
      clear hown hb
      generalize hq : ((k + 4 : Nat) : Int) = q at *
      go_wp2_with (at_builtin; refine wpList_app (s := .tmp 34) (x := .tmp 37) _ ti22 hownH.out hrd.out (ps2_one (l := [(0, q)])) (by omega) (by omega) hs2 rfl rfl rfl rfl ?_)
      intro v' w2 hown2 hg2 _
      have hb2 := Lib.hid (hbH.out.grown hg2 hs2 (fun g e => (hownH.out.lt g e).1))
      have hown2H := Lib.hid hown2
      clear hown2 hg2
      obtain ⟨AY, cY, rfl⟩ := own_slice hown2H.out
      go_wp2
      go_roundw
      case rel => exact ⟨k + 1, by omega, rfl, by have := hown2H.out; rw [upO_succ, hq]; simpa [ps2] using this, hb2.out⟩
      case measure => subst hq; simp [intOf]; omega
    · obtain rfl : n = k + 4 := by omega
      have hownH := Lib.hid hown; have hbH := Lib.hid hb
      have b1 := hb.alloc hsz (.cells #[.int .i64 0, .int .i64 1, .int .i64 2, .int .i64 3, .int .i64 0, .int .i64 2, .int .i64 1, .int .i64 3] 42)
      have b2 := b1.alloc (by simp; omega) (.cells #[.slice AX k cX, .slice (some ⟨wr.heap.size, 0, none⟩) 4 4, .slice AX k cX] 22)
      have hK1 := (Blk.new wr 42 #[.int .i64 0, .int .i64 1, .int .i64 2, .int .i64 3, .int .i64 0, .int .i64 2, .int .i64 1, .int .i64 3]).alloc (.cells #[.slice AX k cX, .slice (some ⟨wr.heap.size, 0, none⟩) 4 4, .slice AX k cX] 22)
      have hK2 := Blk.new (wr.alloc (.cells #[.int .i64 0, .int .i64 1, .int .i64 2, .int .i64 3, .int .i64 0, .int .i64 2, .int .i64 1, .int .i64 3] 42)) 22 #[.slice AX k cX, .slice (some ⟨wr.heap.size, 0, none⟩) 4 4, .slice AX k cX]
      rw [World.size_alloc] at hK2
      have hrk := ((Rd.of_own hown).later ((Below.refl _ wr).alloc (Nat.le_refl _) (.cells #[.int .i64 0, .int .i64 1, .int .i64 2, .int .i64 3, .int .i64 0, .int .i64 2, .int .i64 1, .int .i64 3] 42)))
      have hrk2 := hrk.later ((Below.refl _ _).alloc (Nat.le_refl _) (.cells #[.slice AX k cX, .slice (some ⟨wr.heap.size, 0, none⟩) 4 4, .slice AX k cX] 22))
      have hr4 : Rd ((wr.alloc (.cells #[.int .i64 0, .int .i64 1, .int .i64 2, .int .i64 3, .int .i64 0, .int .i64 2, .int .i64 1, .int .i64 3] 42)).alloc (.cells #[.slice AX k cX, .slice (some ⟨wr.heap.size, 0, none⟩) 4 4, .slice AX k cX] 22)) (some ⟨wr.heap.size, 0, none⟩) 4 2 (ps2 .i64 .i64 four) :=
        rd_cells hK1.lt rfl fun j v hj => hK1.cell (j := j) (by simpa [four, ps2] using hj)
      have HC := Lib.hid (concat3 (wr.heap.size + 1) 3 AX (some ⟨wr.heap.size, 0, none⟩) AX k 4 k cX 4 cX (upO k) four (upO k) _ (hK2.cell (j := 0) rfl) (hK2.cell (j := 1) rfl) (hK2.cell (j := 2) rfl) hrk2 hr4 hrk2 (by omega) (by omega))
      have hb2H := Lib.hid b2
      clear hown hb b1 b2 hK1 hK2 hrk hrk2 hr4
      go_wp2_with fail
      refine HC.out.mono ?_
      rintro _ w5 ⟨v5, rfl, hown5, hb5⟩
      obtain ⟨A5, c5, rfl⟩ := own_slice hown5
      have hfin := Lib.hid (show Rd w5 A5 (k + 4 + k) 2 (ps2 .i64 .i64 (planL (k + 4))) ∧ Below w.heap.size w w5 from ⟨by rw [hplH.out, show k + 4 - 4 = k by omega]; exact Rd.of_own hown5, hb2H.out.trans (hb5.mono hb2H.out.size)⟩)
      clear hown5 hb5 HC
      go_wp2
      go_ret2
      exact ⟨A5, k + 4 + k, c5, rfl, hfin.out.1, hfin.out.2⟩
theorem plan_ok (n : Nat) (w : World) (h1 : 1 ≤ n) (h8 : n ≤ 8) : Calls Try.prog 10 #[.int .i64 (n : Int)] w (PlanPost n w) := by
  by_cases h : 4 ≤ n
  · exact plan_more n w h h8
  · have : n = 1 ∨ n = 2 ∨ n = 3 := by omega
    rcases this with rfl | rfl | rfl
    · exact plan_1 w
    · exact plan_2 w
    · exact plan_3 w
end Go.Proofs.Ytmcijljadcfpmaa
