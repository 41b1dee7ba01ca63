/- SpanCayley: CAYLEY: with all edges there are as many trees as nodes, as often as there are nodes but two. -/
import Derived.Test.YtnkmfnnkophccaaDoorSpanMany
namespace Go.Proofs.YtnkmfnnkophccaaDoor
open Go.RowKit

theorem tiEf : TI Tryd.prog 25 40 (.agg #[.int .i64 0, .int .i64 0, .int .i64 0]) 3 24 := TI.mk' Tryd.underlying25 (by kernel_rfl) rfl (by decide)
/-- the edges so far: all among the first i, and j of the next one's -/
def fullP (i j : Nat) : List E := fullE i ++ (List.range j).map fun (b : Nat) => ((b : Int), (i : Int), (0 : Int))
theorem fullP_zero (i : Nat) : fullP i 0 = fullE i := by simp [fullP]
theorem fullP_next (i j : Nat) : fullP i (j + 1) = fullP i j ++ [((j : Int), (i : Int), (0 : Int))] := by simp [fullP, List.range_succ]
theorem fullP_end (i : Nat) : fullP i i = fullE (i + 1) := by simp [fullP, fullE, List.range_succ]
theorem fullP_all : (List.range 10).all (fun i => (List.range 10).all fun j => decide (i < j) || decide ((fullP i j).length ≤ 45)) = true := by decide +kernel
theorem fullP_le {i j : Nat} (hi : i < 10) (hj : j ≤ i) : (fullP i j).length ≤ 45 := by
  have := List.all_eq_true.1 (List.all_eq_true.1 fullP_all i (List.mem_range.2 hi)) j (List.mem_range.2 (by omega))
  rw [decide_eq_false (by omega)] at this
  simpa using this
set_option maxHeartbeats 1600000 in
theorem full_any (n : Nat) (h10 : n ≤ 10) (w : World) :
    Calls Tryd.prog 6 #[.int .i64 (n : Int)] w fun e w' => (∃ A len cap, e = .returned (.agg #[.int .i64 (n : Int), .slice A len cap]) ∧ Rd w' A len 3 (ps3 .i64 .i64 .i64 (fullE n))) ∧ Below w.heap.size w w' := by
  have b2 := (Blk.new w 27 #[.int .i64 0, .slice none 0 0]).alloc (.cells #[.int .i64 (n : Int), .slice none 0 0] 27)
  have b3 := Blk.new (w.alloc (.cells #[.int .i64 0, .slice none 0 0] 27)) 27 #[.int .i64 (n : Int), .slice none 0 0]
  rw [World.size_alloc] at b3
  have hb := ((Below.refl _ w).alloc (Nat.le_refl _) (.cells #[.int .i64 0, .slice none 0 0] 27)).alloc (by simp) (.cells #[.int .i64 (n : Int), .slice none 0 0] 27)
  have hsz : w.heap.size + 2 ≤ ((w.alloc (.cells #[.int .i64 0, .slice none 0 0] 27)).alloc (.cells #[.int .i64 (n : Int), .slice none 0 0] 27)).heap.size := by simp
  have b2H := Lib.hid b2; have b3H := Lib.hid b3; have hbH := Lib.hid hb
  have hszH := Lib.hid hsz
  clear b2 b3 hb hsz
  go_enter Tryd.func6, Tryd.ntmps6
  go_wp2
  generalize (w.alloc (.cells #[.int .i64 0, .slice none 0 0] 27)).alloc (.cells #[.int .i64 (n : Int), .slice none 0 0] 27) = w1 at *
  go_loopw [4, 5] (fun iv _ wr => ∃ (i : Nat) (v : Value), i ≤ n ∧ iv = .int .i64 i ∧ wr.ownsRow (w.heap.size + 2) 40 3 v (fullE i).length (ps3 .i64 .i64 .i64 (fullE i)) ∧ Blk wr w.heap.size 27 #[.int .i64 0, .slice none 0 0] ∧ Blk wr (w.heap.size + 1) 27 #[.int .i64 (n : Int), v] ∧ Below w.heap.size w wr ∧ w.heap.size + 2 ≤ wr.heap.size) (fun iv _ _ => n - (intOf iv).toNat)
  case atStart => exact ⟨0, _, by omega, rfl, World.ownsRow_nil _ _ _ _, b2H.out, b3H.out, hbH.out, hszH.out⟩
  case round =>
    clear b2H b3H hbH hszH
    obtain ⟨i, v, hi, rfl, hown, k2, k3, hb, hsz⟩ := hrel
    have hownH := Lib.hid (show wr.ownsRow (w.heap.size + 2) 40 3 v (fullP i 0).length (ps3 .i64 .i64 .i64 (fullP i 0)) by rw [fullP_zero]; exact hown)
    have k2H := Lib.hid k2; have k3H := Lib.hid k3; have hbH := Lib.hid hb; have hszH := Lib.hid hsz
    by_cases hin : i < n
    · clear hown k2 k3 hb hsz
      go_wp2
      go_loopw [5] (fun jv wr => ∃ (j : Nat) (v : Value), j ≤ i ∧ jv = .int .i64 j ∧ wr.ownsRow (w.heap.size + 2) 40 3 v (fullP i j).length (ps3 .i64 .i64 .i64 (fullP i j)) ∧ Blk wr w.heap.size 27 #[.int .i64 0, .slice none 0 0] ∧ Blk wr (w.heap.size + 1) 27 #[.int .i64 (n : Int), v] ∧ Below w.heap.size w wr ∧ w.heap.size + 2 ≤ wr.heap.size) (fun jv _ => i - (intOf jv).toNat)
      case atStart => exact ⟨0, v, by omega, rfl, hownH.out, k2H.out, k3H.out, hbH.out, hszH.out⟩
      case round =>
        clear hownH k2H k3H hbH hszH
        obtain ⟨j, v, hj, rfl, hown, k2, k3, hb, hsz⟩ := hrel
        obtain ⟨w2, rfl⟩ : ∃ w2 : World, w2 = wr := ⟨_, rfl⟩
        by_cases hji : j < i
        · have hle := fullP_le (show i < 10 by omega) (show j ≤ i by omega)
          have c1 := k3.cell (j := 1) (v := v) rfl
          have hownH := Lib.hid hown; have k2H := Lib.hid k2; have k3H := Lib.hid k3; have hbH := Lib.hid hb
          have hrd := Lib.hid (rd_new3 w2 (.int .i64 (j : Int)) (.int .i64 (i : Int)) (.int .i64 0) 40)
          obtain ⟨Lq, hLq⟩ : ∃ q, (fullP i j).length = q := ⟨_, rfl⟩
          rw [hLq] at hle hown hownH
          have hLqH := Lib.hid hLq
          clear hown k2 k3 hb hLq
          go_wp2_with (at_builtin; refine wpList_app (s := .tmp 19) (x := .tmp 23) _ tiEf (hownH.out.alloc _) hrd.out (ps3_one (l := [((j : Int), (i : Int), (0 : Int))])) (by omega) (by omega) (by simp; omega) rfl rfl rfl rfl ?_)
          intro v' w5 ownA gA atA
          obtain ⟨A', c', rfl⟩ := own_slice ownA
          obtain ⟨v', hv'⟩ : ∃ v', v' = Value.slice A' (Lq + 1) c' := ⟨_, rfl⟩
          rw [← hv'] at ownA
          have hn2 : some w.heap.size ≠ v.ownBlock := fun e => by have := (hownH.out.lt _ e.symm).1; omega
          have hn3 : some (w.heap.size + 1) ≠ v.ownBlock := fun e => by have := (hownH.out.lt _ e.symm).1; omega
          have m2 := (k2H.out.alloc (.cells #[.int .i64 (j : Int), .int .i64 (i : Int), .int .i64 0] 40)).kept gA hn2
          have m3 := (k3H.out.alloc (.cells #[.int .i64 (j : Int), .int .i64 (i : Int), .int .i64 0] 40)).kept gA hn3
          have hb5 := ((hbH.out.alloc (by omega) (.cells #[.int .i64 (j : Int), .int .i64 (i : Int), .int .i64 0] 40))).grown gA (by simp; omega) (fun r e => by have := (hownH.out.lt r e).1; omega)
          have s5 := gA.size
          simp only [World.size_alloc] at s5
          have d1 := m3.cell (j := 1) (v := v) rfl
          have f1 := m3.frozen 1
          have m2s := Lib.hid (m2.other (a := ⟨w.heap.size + 1, 1, none⟩) (by simp) v')
          have m3s := Lib.hid (m3.set 1 v')
          have hbs := Lib.hid (hb5.setCell (p := ⟨w.heap.size + 1, 1, none⟩) (by simp) v')
          have hne5 : v'.ownBlock ≠ some (w.heap.size + 1) := fun e => by have := (ownA.lt _ e).1; omega
          have owns := Lib.hid (show (w5.setCell ⟨w.heap.size + 1, 1, none⟩ v').ownsRow (w.heap.size + 2) 40 3 v' (fullP i (j + 1)).length (ps3 .i64 .i64 .i64 (fullP i (j + 1))) from by
            rw [fullP_next, List.length_append, hLqH.out, show ps3 .i64 .i64 .i64 (fullP i j ++ [((j : Int), (i : Int), (0 : Int))]) = ps3 .i64 .i64 .i64 (fullP i j) ++ ps3 .i64 .i64 .i64 [((j : Int), (i : Int), (0 : Int))] by simp [ps3]]
            exact own_set_other ownA hne5 _)
          clear ownA gA atA m2 m3 hb5 hownH k2H k3H hbH c1 hne5
          subst hv'
          go_wp2
          go_roundw
          case rel => exact ⟨j + 1, _, by omega, by go_num, owns.out, m2s.out, m3s.out, hbs.out, by simp; omega⟩
          case measure => simp [intOf]; omega
        · obtain rfl : j = i := by omega
          rw [fullP_end] at hown
          go_wp2
          go_roundw
          case rel => exact ⟨j + 1, v, by omega, by go_num, hown, k2, k3, hb, hsz⟩
          case measure => simp [intOf]; omega
    · obtain rfl : i = n := by omega
      obtain ⟨A6, c6, rfl⟩ := own_slice hown
      have g0 := k3.cell (j := 0) (v := .int .i64 (i : Int)) rfl
      have g1 := k3.cell (j := 1) (v := .slice A6 (fullE i).length c6) rfl
      have r0 := k2.cell (j := 0) (v := .int .i64 0) rfl
      have r1 := k2.cell (j := 1) (v := .slice none 0 0) rfl
      have f0 := k2.frozen 0; have f1 := k2.frozen 1
      have k2s := (k2.set 0 (.int .i64 (i : Int))).set 1 (.slice A6 (fullE i).length c6)
      have hne : (Value.slice A6 (fullE i).length c6).ownBlock ≠ some w.heap.size := fun e => by have := (hown.lt _ e).1; omega
      have owns := Lib.hid (Rd.of_own (own_set_other (own_set_other hown (a := ⟨w.heap.size, 0, none⟩) hne (.int .i64 (i : Int))) (a := ⟨w.heap.size, 1, none⟩) hne (.slice A6 (fullE i).length c6)))
      have hbs := Lib.hid ((hb.setCell (p := ⟨w.heap.size, 0, none⟩) (by simp) (.int .i64 (i : Int))).setCell (p := ⟨w.heap.size, 1, none⟩) (by simp) (.slice A6 (fullE i).length c6))
      have k2sH := Lib.hid k2s
      clear hown k2 k3 hb hownH k2H k3H hbH hszH k2s
      go_wp2
      have e0 := k2sH.out.cell (j := 0) (v := .int .i64 (i : Int)) rfl
      have e1 := k2sH.out.cell (j := 1) (v := .slice A6 (fullE i).length c6) rfl
      exact bodyPost_ret (v := .agg #[.int .i64 (i : Int), .slice A6 (fullE i).length c6]) (by simp [results, Tryd.results6, go_sem, e0, e1]) rfl ⟨⟨_, _, _, rfl, owns.out⟩, hbs.out⟩
theorem pow_step {n k : Nat} (hn : n ≤ 10) (hk : k < 9) : IntKind.i64.wrap ((n : Int) ^ k * n) = (n : Int) ^ (k + 1) := by
  have := List.all_eq_true.1 (List.all_eq_true.1 pow_all n (List.mem_range.2 (by omega))) k (List.mem_range.2 hk)
  unfold powOk at this
  simp only [Bool.and_eq_true, beq_iff_eq] at this
  rw [wrap_of this.1, this.2]
set_option maxHeartbeats 1600000 in
theorem spanCayley_walk (N : Int) (w : World) (htb : Tb w) (hg : 0 < w.heap.size) :
    Calls Tryd.prog 3 #[.int .i64 N] w fun e w' => e = .returned (.bool true) ∧ Below w.heap.size w w' := by
  by_cases h1 : N < 2
  · go_enter Tryd.func3, Tryd.ntmps3
    go_wp2
    go_ret
    exact ⟨rfl, Below.refl _ _⟩
  by_cases h2 : 10 < N
  · go_enter Tryd.func3, Tryd.ntmps3
    go_wp2
    go_ret
    exact ⟨rfl, Below.refl _ _⟩
  obtain ⟨n, rfl⟩ : ∃ n : Nat, N = n := ⟨N.toNat, by omega⟩
  have hn2 : 2 ≤ n := by omega
  have hn10 : n ≤ 10 := by omega
  have HF := Lib.hid (full_any n hn10 w)
  have htbH := Lib.hid htb
  clear htb
  have d1 : decide ((n : Int) < 2) = false := decide_eq_false h1
  have d2 : decide ((10 : Int) < n) = false := decide_eq_false h2
  go_enter Tryd.func3, Tryd.ntmps3
  go_wp2_with fail
  refine HF.out.mono ?_
  rintro _ w1 ⟨⟨A, len, cap, rfl, hr⟩, hb1⟩
  have HM := Lib.hid (many_full n hn2 hn10 A len cap w1 hr (htbH.out.below hg hb1) (by have := hb1.size; omega))
  have hb1H := Lib.hid hb1
  clear hr hb1 HF
  go_wp2_with fail
  refine HM.out.mono ?_
  rintro _ w2 ⟨rfl, hb2⟩
  have hb2H := Lib.hid (hb1H.out.trans (hb2.mono hb1H.out.size))
  clear hb2 HM hb1H
  go_wp2
  go_loopw [5, 6] (fun pv kv wr => ∃ k : Nat, 2 ≤ k ∧ k ≤ n ∧ kv = .int .i64 k ∧ pv = .int .i64 ((n : Int) ^ (k - 2)) ∧ wr = w2) (fun _ kv _ => n - (intOf kv).toNat)
  case atStart => exact ⟨2, by omega, by omega, rfl, rfl, rfl⟩
  case round =>
    obtain ⟨k, hk2, hk, rfl, rfl, rfl⟩ := hrel
    by_cases hkn : k < n
    · have hst := pow_step hn10 (show k - 2 < 9 by omega)
      have hk1 := Lib.hid (show k - 2 + 1 = k + 1 - 2 by omega)
      rw [hk1.out] at hst
      obtain ⟨x, hx⟩ : ∃ x, (n : Int) ^ (k - 2) = x := ⟨_, rfl⟩
      obtain ⟨y, hy⟩ : ∃ y, (n : Int) ^ (k + 1 - 2) = y := ⟨_, rfl⟩
      have hyH := Lib.hid hy
      rw [hx, hy] at hst
      rw [hx]
      clear hx hy
      go_wp2
      go_roundw
      case rel => exact ⟨k + 1, by omega, by omega, by go_num, by rw [hyH.out], trivial⟩
      case measure => simp [intOf]; omega
    · obtain rfl : k = n := by omega
      generalize (k : Int) ^ (k - 2) = P at *
      go_wp2
      go_ret
      exact ⟨rfl, hb2H.out⟩
end Go.Proofs.YtnkmfnnkophccaaDoor
