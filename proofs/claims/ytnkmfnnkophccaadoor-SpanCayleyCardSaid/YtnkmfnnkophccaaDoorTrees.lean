/- span.trees, where all edges are there. -/
import Derived.Test.YtnkmfnnkophccaaDoorMat
import Derived.Test.YtnkmfnnkophccaaDoorFullLaw
import Derived.Test.YtnkmfnnkophccaaDoorNatI
import Derived.BigRegion
import Derived.StillTailTactics
namespace Go.Proofs.YtnkmfnnkophccaaDoor
open Go.RowKit

/-- the row i, when the x of all below q have been met -/
def Dx (n i q : Nat) (a b : Nat) : Int := if a = i then (if b = i then (q : Int) - (if i < q then 1 else 0) else 0) else Vn n 0 a b
/-- the row i, when the j below q have been taken away -/
def Dj (n i q : Nat) (a b : Nat) : Int := if a = i then (if b < q then Vn n 0 i b else if b = i then (n : Int) - 1 else 0) else Vn n 0 a b
theorem Vn0 (n a b : Nat) : Vn n 0 a b = if a = b then (n : Int) - 1 else -1 := by
  unfold Vn
  split <;> simp
def Kn (a b : Nat) : Int := if a = b then 0 else 1
/-- in the midst of step s -/
def Mid (n k s i j : Nat) (F : Nat → Nat → Int) : Prop := ∀ a b, s ≤ a → a < k → s ≤ b → b < k → F a b = if s < a ∧ s < b ∧ (a < i ∨ (a = i ∧ b < j)) then Vn n (s + 1) a b else Vn n s a b
theorem natI_range {n q : Nat} (h : q < n) : (natI (List.range n)).getD q 0 = (q : Int) := by
  rw [natI_at (by simpa using h)]; simp [List.getD, h]
theorem wrap_of {x : Int} (h : rngB x = true) : IntKind.i64.wrap x = x := by
  unfold rngB at h
  simp only [Bool.and_eq_true, decide_eq_true_eq] at h
  exact IntWalk.i64_in _ (by omega)
set_option maxHeartbeats 3200000 in
set_option maxRecDepth 100000 in
theorem trees_full (n : Nat) (h2 : 2 ≤ n) (h10 : n ≤ 10) (B0 g : Nat) (r : Nat → Nat) (Ap : Option Addr) (pc : Nat) (w : World) (hm : Mat w B0 n g r n Kn) (hp : Rd w Ap n 1 (ints .i64 (natI (List.range n)))) :
    Calls Tryd.prog 14 #[.slice (some ⟨g, 0, none⟩) n n, .slice Ap n pc] w fun e w' => e = .returned (.int .i64 ((n : Int) ^ (n - 2))) ∧ Below w.heap.size w w' := by
  obtain ⟨k, hk1, hk2⟩ : ∃ k, k < n ∧ n ≤ k + 1 := ⟨n - 1, by omega, by omega⟩
  have hkw : IntKind.i64.wrap ((n : Int) - 1) = (k : Int) := by rw [IntWalk.i64_in _ (by omega)]; omega
  have hmH := Lib.hid hm; have hpH := Lib.hid hp
  clear hm hp
  obtain ⟨s0, hs0⟩ : ∃ s0, w.heap.size = s0 := ⟨_, rfl⟩
  go_enter Tryd.func14, Tryd.ntmps14
  go_wp2_with (at_make; refine wpList_mk1 _ tiM2 s0 k (by omega) (by omega) (by omega) rfl rfl rfl rfl rfl (by first | rfl | exact hkw) (by first | rfl | exact hkw) ?_)
  intro w1 hown1 hg1
  have hb1 := Lib.hid (show Below s0 w w1 from hs0 ▸ below_grown hg1)
  have hM1 := Lib.hid (Mat.start (show w1.ownsRow s0 38 1 (.slice (some ⟨s0, 0, none⟩) k k) k (List.replicate k (.slice none 0 0)) from by first | exact hown1 | (rw [hs0] at hown1; exact hown1)) (fun _ => 0) (Vn n 0))
  clear hown1 hg1
  go_wp2
  go_loopw [7, 9, 10, 21] (fun _ _ _ iv wr => ∃ (i : Nat) (r' : Nat → Nat), i ≤ k ∧ iv = .int .i64 i ∧ Mat wr s0 k s0 r' i (Vn n 0) ∧ Below s0 w wr) (fun _ _ _ iv _ => k - (intOf iv).toNat)
  case atStart => exact ⟨0, _, by omega, rfl, hM1.out, hb1.out⟩
  case round =>
    clear hM1 hb1
    obtain ⟨i, r1, hi, rfl, hM, hb⟩ := hrel
    obtain ⟨w2, rfl⟩ : ∃ w2 : World, w2 = wr := ⟨_, rfl⟩
    have hMH := Lib.hid hM; have hbH := Lib.hid hb
    have hsz2 := hb.size
    by_cases hik : i < k
    · have hnil := hM.outNil hik
      have hgl := hM.glt
      clear hM hb
      go_wp2_with (at_make; refine wpList_mk1 _ tiM1 s0 k (by omega) (by omega) (by omega) rfl rfl rfl rfl rfl rfl rfl ?_)
      intro w3 hown3 hg3
      rw [row_replicate] at hown3
      have hM3 := hMH.out.grown hg3 (by simp) (fun _ _ => by simp)
      have hnil3 := hM3.outNil hik
      have hfr3 := hM3.ofrz i
      have hM4 := Lib.hid ((hMH.out.more hik hg3 (Nat.le_refl _) hown3).congr (F' := Dx n i 0) (fun a b ha hb => by
        unfold Dx
        by_cases e : a = i
        · rw [if_pos e, if_pos e]; split <;> simp
        · rw [if_neg e, if_neg e]))
      have hb4 := Lib.hid (((hbH.out.grown hg3 (by omega) (fun r e => by cases e)).setCell (p := ⟨s0, i, none⟩) (Nat.le_refl _) (.slice (some ⟨w2.heap.size, 0, none⟩) k k)))
      clear hM3 hown3 hg3 hMH hbH hnil
      obtain ⟨r2, hr2⟩ : ∃ r2 : Nat → Nat, (fun j => if j = i then w2.heap.size else r1 j) = r2 := ⟨_, rfl⟩
      rw [hr2] at hM4
      clear hr2
      go_wp2
      go_loopw [9, 31] (fun _ qv wr => ∃ q : Nat, q ≤ n ∧ qv = .int .i64 q ∧ Mat wr s0 k s0 r2 (i + 1) (Dx n i q) ∧ Below s0 w wr) (fun _ qv _ => n - (intOf qv).toNat)
      case atStart => exact ⟨0, by omega, rfl, hM4.out, hb4.out⟩
      case round =>
        clear hM4 hb4
        obtain ⟨q, hq, rfl, hM, hb⟩ := hrel
        obtain ⟨w5, rfl⟩ : ∃ w5 : World, w5 = wr := ⟨_, rfl⟩
        by_cases hqn : q < n
        · have c1 := hM.out (i := i) (by omega)
          have c2 := hM.cell (i := i) (j := i) (by omega) hik
          have c3 := hM.frz (i := i) (by omega) i
          have hmw := hmH.out.below hb (by omega)
          have c4 := hmw.out (i := i) (by omega)
          have c5 := hmw.cell (i := i) (j := q) (by omega) hqn
          have hpw := hpH.out.later (hs0 ▸ hb)
          obtain ⟨pb, po, rfl, _, c6⟩ := hpw.int (show i < n by omega)
          obtain ⟨_, _, hA, _, c7⟩ := hpw.int hqn
          injection hA with hA; injection hA with hA1 hA2 hA3
          subst hA1; subst hA2
          rw [natI_range (by omega)] at c6 c7
          have hst := Lib.hid (hM.set (i := i) (by omega) i)
          have hbs := Lib.hid (fun v => hb.setCell (p := ⟨r2 i, i, none⟩) (hM.rlt (i := i) (by omega)).1 (.int .i64 v))
          have hd0 : Dx n i q i i = (q : Int) - (if i < q then 1 else 0) := by unfold Dx; simp
          rw [hd0] at c2
          have hkn : Kn i q = if i = q then 0 else 1 := rfl
          rw [hkn] at c5
          have hwx : IntKind.i64.wrap ((q : Int) - (if i < q then 1 else 0) + (if i = q then 0 else 1)) = ((q + 1 : Nat) : Int) - (if i < q + 1 then 1 else 0) := by
            rw [IntWalk.i64_in _ (by split <;> split <;> omega)]
            split <;> split <;> split <;> omega
          have hnx := Lib.hid (fun (a b : Nat) => show (if a = i ∧ b = i then ((q + 1 : Nat) : Int) - (if i < q + 1 then 1 else 0) else Dx n i q a b) = Dx n i (q + 1) a b from by
            unfold Dx
            by_cases e : a = i
            · by_cases e2 : b = i
              · rw [if_pos ⟨e, e2⟩, if_pos e, if_pos e2]
              · rw [if_neg (fun h => e2 h.2), if_pos e, if_neg e2, if_pos e, if_neg e2]
            · rw [if_neg (fun h => e h.1), if_neg e, if_neg e])
          obtain ⟨x1, hx1⟩ : ∃ x, (q : Int) - (if i < q then 1 else 0) = x := ⟨_, rfl⟩
          obtain ⟨x2, hx2⟩ : ∃ x : Int, (if i = q then 0 else 1) = x := ⟨_, rfl⟩
          obtain ⟨x3, hx3⟩ : ∃ x, ((q + 1 : Nat) : Int) - (if i < q + 1 then 1 else 0) = x := ⟨_, rfl⟩
          rw [hx1] at c2
          rw [hx2] at c5
          rw [hx1, hx2, hx3] at hwx
          rw [hx3] at hnx
          have hM' := Lib.hid ((hst.out x3).congr fun a b _ _ => hnx.out a b)
          have hb' := Lib.hid (hbs.out x3)
          clear hx1 hx2 hx3 hM hb hmw hpw hst hbs hd0 hkn hnx
          have hii : (i : Int) < n := by omega
          have hik' : (i : Int) < k := by omega
          have hqn' : (q : Int) < n := by omega
          go_wp2
          go_region
          all_goals
            go_wp2
            go_roundw
            case rel => exact ⟨q + 1, by omega, by go_num, hM'.out.drew, hb'.out.drew⟩
            case measure => simp [intOf]; omega
        · obtain rfl : q = n := by omega
          have hM5 := Lib.hid (hM.congr (F' := Dj q i 0) (fun a b _ _ => by
            unfold Dx Dj
            by_cases e : a = i
            · rw [if_pos e, if_pos e, if_neg (Nat.not_lt_zero b)]
              by_cases e2 : b = i
              · rw [if_pos e2, if_pos e2, if_pos (by omega)]
              · rw [if_neg e2, if_neg e2]
            · rw [if_neg e, if_neg e]))
          have hb5 := Lib.hid hb
          clear hM hb
          go_wp2
          go_loopw [10, 56] (fun _ jv wr => ∃ j : Nat, j ≤ k ∧ jv = .int .i64 j ∧ Mat wr s0 k s0 r2 (i + 1) (Dj q i j) ∧ Below s0 w wr) (fun _ jv _ => k - (intOf jv).toNat)
          case atStart => exact ⟨0, by omega, rfl, hM5.out, hb5.out⟩
          case round =>
            clear hM5 hb5
            obtain ⟨j, hj, rfl, hM, hb⟩ := hrel
            obtain ⟨w6, rfl⟩ : ∃ w6 : World, w6 = wr := ⟨_, rfl⟩
            by_cases hjk : j < k
            · have c1 := hM.out (i := i) (by omega)
              have c2 := hM.cell (i := i) (j := j) (by omega) hjk
              have c3 := hM.frz (i := i) (by omega) j
              have hmw := hmH.out.below hb (by omega)
              have c4 := hmw.out (i := i) (by omega)
              have c5 := hmw.cell (i := i) (j := j) (by omega) (by omega)
              have hpw := hpH.out.later (hs0 ▸ hb)
              obtain ⟨pb, po, rfl, _, c6⟩ := hpw.int (show i < q by omega)
              obtain ⟨_, _, hA, _, c7⟩ := hpw.int (show j < q by omega)
              injection hA with hA; injection hA with hA1 hA2 hA3
              subst hA1; subst hA2
              rw [natI_range (by omega)] at c6 c7
              have hst := Lib.hid (hM.set (i := i) (by omega) j)
              have hbs := Lib.hid (fun v => hb.setCell (p := ⟨r2 i, j, none⟩) (hM.rlt (i := i) (by omega)).1 (.int .i64 v))
              have hd0 : Dj q i j i j = if j = i then (q : Int) - 1 else 0 := by unfold Dj; simp
              rw [hd0] at c2
              have hkn : Kn i j = if i = j then 0 else 1 := rfl
              rw [hkn] at c5
              have hwx : IntKind.i64.wrap ((if j = i then (q : Int) - 1 else 0) - (if i = j then 0 else 1)) = Vn q 0 i j := by
                rw [Vn0, IntWalk.i64_in _ (by split <;> split <;> omega)]
                split <;> split <;> first | omega | (split <;> omega)
              have hnx := Lib.hid (fun (a b : Nat) => show (if a = i ∧ b = j then Vn q 0 i j else Dj q i j a b) = Dj q i (j + 1) a b from by
                unfold Dj
                by_cases e : a = i
                · by_cases e2 : b = j
                  · rw [if_pos ⟨e, e2⟩, if_pos e, if_pos (by omega), e2]
                  · rw [if_neg (fun h => e2 h.2), if_pos e, if_pos e]
                    by_cases e3 : b < j
                    · rw [if_pos e3, if_pos (show b < j + 1 by omega)]
                    · rw [if_neg e3, if_neg (show ¬ b < j + 1 by omega)]
                · rw [if_neg (fun h => e h.1), if_neg e, if_neg e])
              obtain ⟨x1, hx1⟩ : ∃ x : Int, (if j = i then (q : Int) - 1 else 0) = x := ⟨_, rfl⟩
              obtain ⟨x2, hx2⟩ : ∃ x : Int, (if i = j then 0 else 1) = x := ⟨_, rfl⟩
              obtain ⟨x3, hx3⟩ : ∃ x, Vn q 0 i j = x := ⟨_, rfl⟩
              rw [hx1] at c2
              rw [hx2] at c5
              rw [hx1, hx2, hx3] at hwx
              rw [hx3] at hnx
              have hM' := Lib.hid ((hst.out x3).congr fun a b _ _ => hnx.out a b)
              have hb' := Lib.hid (hbs.out x3)
              clear hx1 hx2 hx3 hM hb hmw hpw hst hbs hd0 hkn hnx
              have hii : (i : Int) < q := by omega
              have hik' : (i : Int) < k := by omega
              have hjk' : (j : Int) < k := by omega
              have hjq' : (j : Int) < q := by omega
              go_wp2
              go_region
              all_goals
                go_wp2
                go_roundw
                case rel => exact ⟨j + 1, by omega, by go_num, hM'.out.drew, hb'.out.drew⟩
                case measure => simp [intOf]; omega
            · obtain rfl : j = k := by omega
              have hM7 := Lib.hid (hM.congr (F' := Vn q 0) (fun a b ha hb => by
                unfold Dj
                by_cases e : a = i
                · rw [if_pos e, if_pos hb, e]
                · rw [if_neg e]))
              clear hM
              go_wp2
              go_roundw
              case rel => exact ⟨i + 1, r2, by omega, by go_num, hM7.out, hb⟩
              case measure => simp [intOf]; omega
    · obtain rfl : i = k := by omega
      clear hM hb
      go_wp2
      go_loopw [11, 12, 13, 14, 84] (fun lv _ _ _ sv wr => ∃ (s : Nat) (F : Nat → Nat → Int), s ≤ i ∧ sv = .int .i64 s ∧ lv = .int .i64 (lastV n s) ∧ Mat wr s0 i s0 r1 i F ∧ (∀ a b, s ≤ a → a < i → s ≤ b → b < i → F a b = Vn n s a b) ∧ Below s0 w wr) (fun _ _ _ _ sv _ => i - (intOf sv).toNat)
      case atStart => exact ⟨0, _, by omega, rfl, rfl, hMH.out, fun _ _ _ _ _ _ => rfl, hbH.out⟩
      case round =>
        clear hMH hbH
        obtain ⟨s, F, hs, rfl, rfl, hM, hF, hb⟩ := hrel
        obtain ⟨w5, rfl⟩ : ∃ w5 : World, w5 = wr := ⟨_, rfl⟩
        by_cases hsi : s < i
        · have hF0 := Lib.hid (show Mid n i s (s + 1) 0 F from fun a b h1 h2 h3 h4 => by
            rw [if_neg (by omega)]; exact hF a b h1 h2 h3 h4)
          have hMH := Lib.hid hM; have hbH := Lib.hid hb
          clear hM hF hb
          go_wp2
          go_loopw [13, 14] (fun av _ wr => ∃ (a : Nat) (F : Nat → Nat → Int), s < a ∧ a ≤ i ∧ av = .int .i64 a ∧ Mat wr s0 i s0 r1 i F ∧ Mid n i s a 0 F ∧ Below s0 w wr) (fun av _ _ => i - (intOf av).toNat)
          case atStart => exact ⟨s + 1, F, by omega, by omega, by go_num, hMH.out, hF0.out, hbH.out⟩
          case round =>
            clear hMH hF0 hbH
            obtain ⟨a, F, hsa, ha, rfl, hM, hF, hb⟩ := hrel
            obtain ⟨w6, rfl⟩ : ∃ w6 : World, w6 = wr := ⟨_, rfl⟩
            by_cases hai : a < i
            · have hF0 := Lib.hid (show Mid n i s a (s + 1) F from fun x y h1 h2 h3 h4 => by
                rw [hF x y h1 h2 h3 h4]
                by_cases e : s < x ∧ s < y ∧ x < a
                · rw [if_pos ⟨e.1, e.2.1, .inl e.2.2⟩, if_pos ⟨e.1, e.2.1, .inl e.2.2⟩]
                · rw [if_neg (by omega), if_neg (by omega)])
              have hMH := Lib.hid hM; have hbH := Lib.hid hb
              clear hM hF hb
              go_wp2
              go_loopw [14] (fun bv wr => ∃ (b : Nat) (F : Nat → Nat → Int), s < b ∧ b ≤ i ∧ bv = .int .i64 b ∧ Mat wr s0 i s0 r1 i F ∧ Mid n i s a b F ∧ Below s0 w wr) (fun bv _ => i - (intOf bv).toNat)
              case atStart => exact ⟨s + 1, F, by omega, by omega, by go_num, hMH.out, hF0.out, hbH.out⟩
              case round =>
                clear hMH hF0 hbH
                obtain ⟨b, F, hsb, hb', rfl, hM, hF, hb⟩ := hrel
                obtain ⟨w7, rfl⟩ : ∃ w7 : World, w7 = wr := ⟨_, rfl⟩
                by_cases hbi : b < i
                · have hM := hM.drew
                  have hb := hb.drew
                  have c1 := hM.out (i := a) hai
                  have c2 := hM.out (i := s) hsi
                  have c3 := hM.cell (i := a) (j := b) hai hbi
                  have c4 := hM.cell (i := s) (j := s) hsi hsi
                  have c5 := hM.cell (i := a) (j := s) hai hsi
                  have c6 := hM.cell (i := s) (j := b) hsi hbi
                  have c7 := hM.frz (i := a) hai b
                  rw [hF a b (by omega) hai (by omega) hbi, if_neg (by omega)] at c3
                  rw [hF s s (by omega) hsi (by omega) hsi, if_neg (by omega)] at c4
                  rw [hF a s (by omega) hai (by omega) hsi, if_neg (by omega)] at c5
                  rw [hF s b (by omega) hsi (by omega) hbi, if_neg (by omega)] at c6
                  have hsok := step_ok (n := n) (s := s) (i := a) (j := b) h10 hsa hsb (by omega) (by omega)
                  unfold stepOk at hsok
                  simp only [Bool.and_eq_true, bne_iff_ne, ne_eq, beq_iff_eq] at hsok
                  obtain ⟨⟨⟨⟨⟨k1, k2⟩, k3⟩, k4⟩, k5⟩, k6⟩ := hsok
                  have hst := Lib.hid ((hM.set (i := a) hai b) (Vn n (s + 1) a b))
                  have hbs := Lib.hid (hb.setCell (p := ⟨r1 a, b, none⟩) (hM.rlt (i := a) hai).1 (.int .i64 (Vn n (s + 1) a b)))
                  have hFn := Lib.hid (show Mid n i s a (b + 1) (fun x y => if x = a ∧ y = b then Vn n (s + 1) a b else F x y) from fun x y h1 h2 h3 h4 => by
                    dsimp only
                    by_cases e : x = a ∧ y = b
                    · rw [if_pos e, if_pos (by omega), e.1, e.2]
                    · rw [if_neg e, hF x y h1 h2 h3 h4]
                      by_cases e2 : s < x ∧ s < y ∧ (x < a ∨ (x = a ∧ y < b))
                      · rw [if_pos e2, if_pos (by omega)]
                      · rw [if_neg e2, if_neg (by omega)])
                  have v1 := wrap_of k1; have v2 := wrap_of k2; have v3 := wrap_of k3
                  have v5 : wrap64 (Vn n (s + 1) a b) = Vn n (s + 1) a b := by
                    rw [← k6]
                    unfold rngB at k4
                    simp only [Bool.and_eq_true, decide_eq_true_eq] at k4
                    unfold wrap64; omega
                  clear hM hF hb k1 k2 k3 k4
                  generalize Vn n s a b = x1 at *
                  generalize Vn n s s s = x2 at *
                  generalize Vn n s a s = x3 at *
                  generalize Vn n s s b = x4 at *
                  generalize Vn n (s + 1) a b = x5 at *
                  generalize lastV n s = L at *
                  have hLz : (L == 0) = false := beq_false_of_ne k5
                  have hai' : (a : Int) < i := by omega
                  have hbi' : (b : Int) < i := by omega
                  have hsi' : (s : Int) < i := by omega
                  go_wp2
                  go_still_tail 39, (by kernel_rfl)
                  change wpList _ _ _ _ _ w7.drew
                  generalize w7.drew = w8 at *
                  go_wp2
                  go_roundw
                  case rel => exact ⟨b + 1, _, by omega, by omega, by go_num, hst.out, hFn.out, hbs.out⟩
                  case measure => simp [intOf]; omega
                · obtain rfl : b = i := by omega
                  have hFn := Lib.hid (show Mid n b s (a + 1) 0 F from fun x y h1 h2 h3 h4 => by
                    rw [hF x y h1 h2 h3 h4]
                    by_cases e : s < x ∧ s < y ∧ x < a + 1
                    · rw [if_pos (by omega), if_pos (by omega)]
                    · rw [if_neg (by omega), if_neg (by omega)])
                  have hMH := Lib.hid hM
                  clear hM hF
                  go_wp2
                  go_roundw
                  case rel => exact ⟨a + 1, F, by omega, by omega, by go_num, hMH.out, hFn.out, hb⟩
                  case measure => simp [intOf]; omega
            · obtain rfl : a = i := by omega
              have c1 := hM.out (i := s) hsi
              have c2 := hM.cell (i := s) (j := s) hsi hsi
              rw [hF s s (by omega) hsi (by omega) hsi, if_neg (by omega)] at c2
              have hL : lastV n (s + 1) = Vn n s s s := by unfold lastV; simp
              rw [← hL] at c2
              have hFn := Lib.hid (show ∀ x y, s + 1 ≤ x → x < a → s + 1 ≤ y → y < a → F x y = Vn n (s + 1) x y from fun x y h1 h2 h3 h4 => by
                rw [hF x y (by omega) h2 (by omega) h4, if_pos (by omega)])
              have hMH := Lib.hid hM
              have hsa' : (s : Int) < a := by omega
              clear hM hF hL
              go_wp2
              go_roundw
              case rel => exact ⟨s + 1, F, by omega, by go_num, rfl, hMH.out, hFn.out, hb⟩
              case measure => simp [intOf]; omega
        · obtain rfl : s = i := by omega
          have hle := Lib.hid (show lastV n s = (n : Int) ^ (n - 2) from by
            have := List.all_eq_true.1 last_end n (List.mem_range.2 (by omega))
            rw [decide_eq_false (by omega)] at this
            simp only [Bool.false_or, Bool.and_eq_true, beq_iff_eq] at this
            rw [← this.1]; congr 1; omega)
          clear hM hF
          go_wp2
          go_ret
          exact ⟨by rw [hle.out]; rfl, by rw [hs0]; exact hb⟩
end Go.Proofs.YtnkmfnnkophccaaDoor
