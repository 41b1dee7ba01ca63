/- slices.Backward at ints: what it hands back goes through all places from the last one on. (back1_in, back_stops began as lines of the kit's GgSlicesIterAtTheDump.) -/
import Derived.RangeFuncNested
import Derived.RangeFuncBound
import Derived.RangeFuncCalls
import Derived.RangeFuncLeaves
import Derived.RangeFuncBox
import Derived.Shelf.Abstract
import Derived.Shelf.RegionOpen
import Derived.WalkKit
import Derived.OwnWalkIn
import Derived.TacticsInMore
import Derived.LoopNIn
import Derived.LoopIn
import Derived.Test.YtgmoehkddohhfaaBase
import Derived.Test.YtgmoehkddohhfaaRows
namespace Go.Proofs.Ytgmoehkddohhfaa
open Go.RowKit Go.Shelf
attribute [local go_sem] Oper.semAt_some

/-- how a function that holds a range over a function is left: it does not panic -/
def calmPost (n : Nat) (P : Program) (fn : Func) (R : Ending → World → Prop) : Exit → Act → World → Prop
  | .normal, a, w | .ret, a, w => LeavesInM Fence.wide n P fn a.tmps R a.defers .returning w
  | _, _, _ => False
theorem calls_of_wp_calm {P : Program} {f : FuncId} {fn : Func} {c : Code} {args : Array Value} {w : World} {R : Ending → World → Prop} (n : Nat) (hf : P.funcs[f]? = some fn) (hb : fn.body = some c)
    (h : c.wp P (calmPost n P fn R) { tmps := args ++ Array.replicate (fn.ntmps - args.size) undef, defers := [] } w) : Calls P f args w R :=
  (callsIn_wide (n := n)).1 (callsIn_of_wp_marks hf hb trivial (wpIn_wide.2 (wp_mono h fun e a w hq => by cases e <;> first | exact hq | exact hq.elim)) rfl)
def bkTo (n k : Nat) : List Nat := (List.range k).map fun j => n - 1 - j
theorem bkTo_succ (n k : Nat) : bkTo n (k + 1) = bkTo n k ++ [n - 1 - k] := by simp [bkTo, List.range_succ]
abbrev Pl (n : Nat) := {m : Nat // m < n}
/-- what a round must keep: what lay below n₀, and the iterator's box -/
def KpB (n₀ Bs : Nat) (W W' : World) : Prop := Below n₀ W W' ∧ ∀ c, W.cell? ⟨Bs, 0, none⟩ = some c → W'.cell? ⟨Bs, 0, none⟩ = some c
theorem KpB.trans {n₀ Bs : Nat} {A B C : World} (h : KpB n₀ Bs A B) (h' : KpB n₀ Bs B C) : KpB n₀ Bs A C := ⟨h.1.trans h'.1, fun c hc => h'.2 c (h.2 c hc)⟩
theorem KpB.refl (n₀ Bs : Nat) (A : World) : KpB n₀ Bs A A := ⟨Below.refl _ _, fun _ h => h⟩
theorem kpB_b {n₀ Bs : Nat} {w : World} (hn : n₀ ≤ w.heap.size) (W : World) (l : Nat) (o o' : Obj) (hl : w.heap.size ≤ l) (h : W.heap[l]? = some o) (hc : o.isCells = false) (hw : o.isWalk = false) : KpB n₀ Bs W (W.putObj l o') :=
  ⟨belowK_b hn W l o o' hl h hc hw, fun _ hcc => cell_kept hcc (grownBy_putObj' W l o') (fun r e => by cases e; exact ⟨o, h, hc⟩)⟩

set_option maxRecDepth 100000 in
set_option maxHeartbeats 2000000 in
theorem back1_in (n : Nat) (hn : 1 ≤ n) (l Bs n₀ : Nat) (A : Option Addr) (len cap : Nat) (zs : List Int) (wq : World) (hr : Rd wq A len 1 (ints .i64 zs)) (hq : wq.heap.size ≤ n₀) (hlen : len ≤ 100) (J Jx : List (Pl len) → World → Prop)
    (hY : ∀ pre x W, J pre W → pre.length < len → YieldAt Fence.wide (n - 1) Try.prog l #[.int .i64 (x.1 : Int), .int .i64 (zs[x.1]?.getD 0)] W fun e W' =>
      (e = .returned (.bool true) ∧ J (pre ++ [x]) W' ∧ KpB n₀ Bs W W') ∨ (e = .returned (.bool false) ∧ Jx (pre ++ [x]) W'))
    (W : World) (hB : Below n₀ wq W) (hBs : W.cell? ⟨Bs, 0, none⟩ = some (.slice A len cap)) (h0 : J [] W) :
    CallsIn Fence.wide n Try.prog 19 #[.func (.yield l) #[] #[], .pointer (some ⟨Bs, 0, none⟩)] W fun e W' => (∃ v, e = .returned v) ∧
      ((∃ ys, ys.map (·.1) = bkTo len len ∧ J ys W') ∨ (∃ pre, Jx pre W')) := by
  refine callsIn_of_wp Try.func19 rfl trivial ?_ rfl
  simp only [Try.ntmps19, List.size_toArray, List.length_cons, List.length_nil, Nat.reduceAdd, Nat.reduceSub, Array.replicate_succ, Array.replicate_zero, List.push_toArray, List.append_toArray, List.nil_append, List.cons_append]
  gi_wp2
  gi_loopw [3] (fun i wr => ∃ (k : Nat) (pre : List (Pl len)), k ≤ len ∧ i = .int .i64 ((len : Int) - 1 - k) ∧ pre.map (·.1) = bkTo len k ∧ pre.length = k ∧ J pre wr ∧ KpB n₀ Bs W wr)
    (fun i _ => (intOf i + 1).toNat)
  case atStart => exact ⟨0, [], Nat.zero_le _, by simp, rfl, rfl, h0, KpB.refl _ _ _⟩
  case round =>
    obtain ⟨k, pre, hk, rfl, hpre, hpl, hJs, hnx⟩ := hrel
    have hbox := hnx.2 _ hBs
    by_cases hlt : k < len
    · have hm : len - 1 - k < len := by omega
      obtain ⟨b, o, rfl, hab, hcz⟩ := (hr.below hq (hB.trans hnx.1)).int hm
      have hix : ((len : Int) - 1 - k) = ((len - 1 - k : Nat) : Int) := by omega
      obtain ⟨fn, tmps, assign, body, hy, hR⟩ := hY pre ⟨len - 1 - k, hm⟩ wr hJs (by omega)
      dsimp only at hy
      rw [List.getD_eq_getElem?_getD] at hcz
      rw [hix] at *
      have hm0 : (0 : Int) ≤ ((len - 1 - k : Nat) : Int) := by omega
      have hml : ((len - 1 - k : Nat) : Int) < (len : Int) := by omega
      gi_wp2
      refine hR.mono ?_
      rintro e W3 (⟨rfl, hJ3, hk3⟩ | ⟨rfl, hJx3⟩)
      · gi_wp2
        go_roundw
        case rel => exact ⟨k + 1, _, by omega, by go_num, by rw [List.map_append, hpre, bkTo_succ]; rfl, by simp [hpl], hJ3, hnx.trans hk3⟩
        case measure => simp [intOf] <;> omega
      · gi_wp2
        refine bodyPost_ret (results_none rfl _ _ _) rfl ?_
        exact ⟨⟨_, rfl⟩, .inr ⟨_, hJx3⟩⟩
    · obtain rfl : k = len := by omega
      have hneg : ((k : Int) - 1 - k) = -1 := by omega
      rw [hneg]
      gi_wp2
      go_end0
      exact ⟨⟨_, rfl⟩, .inl ⟨_, hpre, hJs⟩⟩

theorem back_any (A : Option Addr) (len cap : Nat) (w : World) :
    Calls Try.prog 13 #[.slice A len cap] w fun e w' => e = .returned (.func (.func 19) #[] #[.pointer (some ⟨w.heap.size, 0, none⟩)]) ∧ w' = w.alloc (.cells #[.slice A len cap] 23) := by
  go_enter Try.func13, Try.ntmps13
  go_wp2
  go_ret
  exact ⟨rfl, rfl⟩
theorem back_stops (n : Nat) (hn : 1 ≤ n) (Bs n₀ : Nat) (A : Option Addr) (len cap : Nat) (zs : List Int) (wq : World) (hr : Rd wq A len 1 (ints .i64 zs)) (hq : wq.heap.size ≤ n₀) (hlen : len ≤ 100) (w : World) (hB : Below n₀ wq w) (hn₀ : n₀ ≤ w.heap.size) (hlt : Bs < w.heap.size)
    (hc : w.cell? ⟨Bs, 0, none⟩ = some (.slice A len cap)) :
    SeqStopsK Fence.wide n Try.prog 19 #[.pointer (some ⟨Bs, 0, none⟩)] (fun x : Pl len => #[Value.int .i64 (x.1 : Int), .int .i64 (zs[x.1]?.getD 0)]) (KpB n₀ Bs) (fun ys => ys.map (·.1) = bkTo len len) (fun _ => True) len w := fun l J Jx W hW _ _ hY h0 => by
  refine (back1_in n hn l Bs n₀ A len cap zs wq hr hq hlen J Jx hY W (hB.trans (hW.mono hn₀)) ((hW.cell (p := ⟨Bs, 0, none⟩) hlt).trans hc) h0).mono ?_
  rintro e W' ⟨he, ⟨ys, h1, h2⟩ | ⟨pre, h⟩⟩
  · exact ⟨he, .inl ⟨ys, h1, h2⟩⟩
  · exact ⟨he, .inr ⟨pre, trivial, h⟩⟩
end Go.Proofs.Ytgmoehkddohhfaa
