/- graph.Each: the contract of its iterator. -/
import Derived.Test.YtnkmfnnkophccaaDoorTz
namespace Go.Proofs.YtnkmfnnkophccaaDoor
open Go.RowKit Go.Shelf
attribute [local go_sem] Oper.semAt_some

abbrev Bt (x : Nat) := {j : Nat // j < 32 ∧ x.testBit j = true}
/-- what a round keeps: what lay below n₀, and the iterator's box -/
def KpE (n₀ Bs : Nat) (W W' : World) : Prop := Below n₀ W W' ∧ W'.heap[Bs]? = W.heap[Bs]?
theorem KpE.trans {n₀ Bs : Nat} {A B C : World} (h : KpE n₀ Bs A B) (h' : KpE n₀ Bs B C) : KpE n₀ Bs A C := ⟨h.1.trans h'.1, h'.2.trans h.2⟩
theorem KpE.refl (n₀ Bs : Nat) (A : World) : KpE n₀ Bs A A := ⟨Below.refl _ _, rfl⟩
theorem kpE_b {n₀ Bs : Nat} {w : World} (hn : n₀ ≤ w.heap.size) (hBs : Bs < w.heap.size) (W : World) (l : Nat) (o o' : Obj) (hl : w.heap.size ≤ l) (h : W.heap[l]? = some o) (hc : o.isCells = false) (hw : o.isWalk = false) : KpE n₀ Bs W (W.putObj l o') :=
  ⟨belowK_b hn W l o o' hl h hc hw, World.putObj_heap_other (by omega)⟩
theorem KpE.set {n₀ Bs : Nat} {A B : World} (h : KpE n₀ Bs A B) {g i : Nat} (hg : n₀ ≤ g) (hne : Bs ≠ g) (v : Value) : KpE n₀ Bs A (B.setCell ⟨g, i, none⟩ v) :=
  ⟨h.1.setCell (p := ⟨g, i, none⟩) hg _, (heap_setCell_other B ⟨g, i, none⟩ Bs v (fun e => hne (by simpa using e))).trans h.2⟩
theorem KpE.drewN {n₀ Bs : Nat} {A B : World} (h : KpE n₀ Bs A B) (k : Nat) : KpE n₀ Bs A (B.drewN k) := ⟨below_drewN h.1 k, h.2⟩
theorem KpE.drew {n₀ Bs : Nat} {A B : World} (h : KpE n₀ Bs A B) : KpE n₀ Bs A B.drew := ⟨h.1.drew, h.2⟩
theorem KpE.alloc {n₀ Bs : Nat} {A B : World} (h : KpE n₀ Bs A B) (hn : n₀ ≤ B.heap.size) (hBs : Bs < B.heap.size) (o : Obj) : KpE n₀ Bs A (B.alloc o) := ⟨h.1.alloc hn o, by rw [Below.heap_alloc _ _ _ hBs]; exact h.2⟩
theorem KpE.below {n₀ Bs B' : Nat} {A B C : World} (h : KpE n₀ Bs A B) (hb : Below B' B C) (hn : n₀ ≤ B') (hBs : Bs < B') : KpE n₀ Bs A C := ⟨h.1.trans (hb.mono hn), (hb.block Bs hBs).trans h.2⟩
theorem and_pred (v : Nat) (hv : v < 4294967296) (h0 : v ≠ 0) : bits .and .u32 (v : Int) ((v : Int) - 1) = ((v &&& (v - 1) : Nat) : Int) := by
  rw [show (v : Int) - 1 = ((v - 1 : Nat) : Int) by omega]
  exact bits_and_u32_nat v (v - 1) hv (by omega)

set_option maxRecDepth 100000 in
set_option maxHeartbeats 2000000 in
theorem each1_in (n : Nat) (hn : 1 ≤ n) (l Bs n₀ x : Nat) (hx : x < 4294967296) (J Jx : List (Bt x) → World → Prop) (hJb : Boxy Bs J)
    (hY : ∀ pre y W, J pre W → pre.length < (bitsL x).length → YieldAt Fence.wide (n - 1) Tryd.prog l #[.int .i64 (y.1 : Int)] W fun e W' =>
      (e = .returned (.bool true) ∧ J (pre ++ [y]) W' ∧ KpE n₀ Bs W W') ∨ (e = .returned (.bool false) ∧ Jx (pre ++ [y]) W'))
    (W : World) (hT : Tb W) (hg : 0 < n₀) (hBs : Boxed W Bs 43 (.int .u32 x)) (hBn : Bs ≠ 0) (h0 : J [] W) :
    CallsIn Fence.wide n Tryd.prog 22 #[.func (.yield l) #[] #[], .pointer (some ⟨Bs, 0, none⟩)] W fun e W' => (∃ v, e = .returned v) ∧
      ((∃ ys, ys.map (·.1) = bitsL x ∧ J ys W') ∨ (∃ pre, Jx pre W')) := by
  refine callsIn_of_wp Tryd.func22 rfl trivial ?_ rfl
  simp only [Tryd.ntmps22, List.size_toArray, List.length_cons, List.length_nil, Nat.reduceAdd, Nat.reduceSub, Array.replicate_succ, Array.replicate_zero, List.push_toArray, List.append_toArray, List.nil_append, List.cons_append]
  gi_wp2
  gi_loopw [3] (fun _ wr => ∃ (v : Nat) (pre : List (Bt x)), v < 4294967296 ∧ Boxed wr Bs 43 (.int .u32 v) ∧ pre.map (·.1) ++ bitsL v = bitsL x ∧ J pre wr ∧ Tb wr)
    (fun _ wr => match wr.cell? ⟨Bs, 0, none⟩ with | some (.int _ z) => z.toNat | _ => 0)
  case atStart => exact ⟨x, [], hx, hBs, rfl, h0, hT⟩
  case round =>
    obtain ⟨v, pre, hv, hbx, hpre, hJs, hTr⟩ := hrel
    have hcell := hbx.cell
    by_cases hv0 : v = 0
    · subst hv0
      rw [bitsL_zero, List.append_nil] at hpre
      gi_wp2
      go_end0
      exact ⟨⟨_, rfl⟩, .inl ⟨pre, hpre, hJs⟩⟩
    · have hstep := bitsL_step v hv0 hv
      obtain ⟨hb1, _, _⟩ := low_bits v hv0 hv
      have hin : Lib.ctz 32 v ∈ bitsL x := by rw [← hpre, hstep]; simp
      have hin' := mem_bitsL.1 hin
      obtain ⟨fn, tmps, assign, body, hy, hR⟩ := hY pre ⟨Lib.ctz 32 v, hin'.1, hin'.2⟩ wr hJs (by
        have := congrArg List.length hpre
        rw [hstep] at this
        simp at this
        omega)
      dsimp only at hy
      have htz := Lib.hid (tz_any v hv hv0 wr hTr)
      have hne : ((v : Int) != 0) = true := by simp; omega
      have hand := and_pred v hv hv0
      have hvl : v &&& (v - 1) ≤ v - 1 := Nat.and_le_right
      have hstepH := Lib.hid hstep
      have hpreH := Lib.hid hpre
      have hv1 : (1 : Int) ≤ v := by omega
      have hv2 : (v : Int) ≤ 4294967295 := by omega
      clear hstep hpre hin hb1
      gi_wp2_with (refine ⟨trivial, ?_⟩; gi_at_call 23; refine (callsIn_wide.2 htz.out).mono ?_; rintro e w' ⟨rfl, rfl⟩)
      refine hR.mono ?_
      rintro e W3 (⟨rfl, hJ3, hk3⟩ | ⟨rfl, hJx3⟩)
      · have hbx3 : Boxed W3 Bs 43 (.int .u32 v) := hk3.2.trans hbx
        have hcell3 := hbx3.cell
        have hfr3 := hbx3.frozen
        have hT3 := hTr.below hg hk3.1
        gi_wp2
        go_roundw
        case rel =>
          refine ⟨v &&& (v - 1), _, by omega, hbx3.set _, ?_, hJb _ _ _ (some Bs) hJ3 (grownBy_setCell' W3 Bs _) (fun r e => by cases e; rfl), ?_⟩
          · have := hpreH.out
            rw [hstepH.out] at this
            simpa using this
          · exact fun j hj => (World.cell?_setCell_other _ _ _ _ (fun e => by injection e with e; exact hBn e)).trans (hT3 j hj)
        case measure =>
          rw [(hbx3.set _).cell, hcell]
          show ((v &&& (v - 1) : Nat) : Int).toNat < ((v : Nat) : Int).toNat
          rw [Int.toNat_natCast, Int.toNat_natCast]
          omega
      · gi_wp2
        refine bodyPost_ret (results_none rfl _ _ _) rfl ?_
        exact ⟨⟨_, rfl⟩, .inr ⟨_, hJx3⟩⟩
theorem each_any (x : Nat) (w : World) :
    Calls Tryd.prog 16 #[.int .u32 x] w fun e w' => e = .returned (.func (.func 22) #[] #[.pointer (some ⟨w.heap.size, 0, none⟩)]) ∧ w' = w.alloc (.cells #[.int .u32 x] 43) := by
  go_enter Tryd.func16, Tryd.ntmps16
  go_wp2
  go_ret
  exact ⟨rfl, rfl⟩
theorem each_stops (n : Nat) (hn : 1 ≤ n) (Bs n₀ x : Nat) (hx : x < 4294967296) (w : World) (hT : Tb w) (hg : 0 < n₀) (hn₀ : n₀ ≤ w.heap.size) (hBs : Boxed w Bs 43 (.int .u32 x)) (hBn : Bs ≠ 0) :
    SeqBox n Tryd.prog 22 #[.pointer (some ⟨Bs, 0, none⟩)] (fun y : Bt x => #[Value.int .i64 (y.1 : Int)]) Bs (KpE n₀ Bs) (fun ys => ys.map (·.1) = bitsL x) (fun _ => True) (bitsL x).length w := fun l J Jx W hW hJb _ hY h0 => by
  have hlt := hBs.lt
  refine (each1_in n hn l Bs n₀ x hx J Jx hJb hY W (hT.below (Nat.lt_of_lt_of_le hg hn₀) hW) hg ((hW.block Bs hlt).trans hBs) hBn h0).mono ?_
  rintro e W' ⟨he, ⟨ys, h1, h2⟩ | ⟨pre, h⟩⟩
  · exact ⟨he, .inl ⟨ys, h1, h2⟩⟩
  · exact ⟨he, .inr ⟨pre, trivial, h⟩⟩
end Go.Proofs.YtnkmfnnkophccaaDoor
