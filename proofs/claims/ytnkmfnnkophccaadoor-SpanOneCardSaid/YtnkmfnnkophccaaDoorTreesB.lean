/- span.trees, of whatever part. -/
import Derived.Test.YtnkmfnnkophccaaDoorMat
import Derived.Test.YtnkmfnnkophccaaDoorNatI
import Derived.Test.YtnkmfnnkophccaaDoorBarPos
import Derived.BigRegion
import Derived.StillTailTactics
namespace Go.Proofs.YtnkmfnnkophccaaDoor
open Go.RowKit

/-- what an elimination of k rows is to the walk -/
structure EH (k : Nat) (V : Nat → Nat → Nat → Int) (D : Nat → Int) : Prop where
  d0 : D 0 = 1
  ds : ∀ s, D (s + 1) = V s s s
  st : ∀ s a b, s < k → s < a → a < k → s < b → b < k → D s * V (s + 1) a b = V s s s * V s a b - V s s b * V s a s
  nz : ∀ s, s ≤ k → D s ≠ 0
  bd : ∀ s a b, s < k → s ≤ a → a < k → s ≤ b → b < k → -387420489 ≤ V s a b ∧ V s a b ≤ 387420489
theorem EH.ok {k : Nat} {V : Nat → Nat → Nat → Int} {D : Nat → Int} (h : EH k V D) {s a b : Nat} (hs : s < k) (ha : s < a) (hak : a < k) (hb : s < b) (hbk : b < k) :
    (-9223372036854775808 ≤ V s a b * V s s s ∧ V s a b * V s s s ≤ 9223372036854775807) ∧ (-9223372036854775808 ≤ V s a s * V s s b ∧ V s a s * V s s b ≤ 9223372036854775807) ∧ (-9223372036854775808 ≤ V s a b * V s s s - V s a s * V s s b ∧ V s a b * V s s s - V s a s * V s s b ≤ 9223372036854775807) ∧ D s ≠ 0 ∧ (V s a b * V s s s - V s a s * V s s b).tdiv (D s) = V (s + 1) a b ∧ (-9223372036854775808 ≤ V (s + 1) a b ∧ V (s + 1) a b ≤ 9223372036854775807) := by
  have h1 := h.bd s a b hs (by omega) hak (by omega) hbk
  have h2 := h.bd s s s hs (Nat.le_refl s) hs (Nat.le_refl s) hs
  have h3 := h.bd s a s hs (by omega) hak (Nat.le_refl s) hs
  have h4 := h.bd s s b hs (Nat.le_refl s) hs (by omega) hbk
  have key : ∀ x y : Int, -387420489 ≤ x ∧ x ≤ 387420489 → -387420489 ≤ y ∧ y ≤ 387420489 → -150094635296999121 ≤ x * y ∧ x * y ≤ 150094635296999121 := fun x y hx hy => by
    have a1 := Int.mul_nonneg (show 0 ≤ 387420489 - x by omega) (show 0 ≤ 387420489 - y by omega)
    have a2 := Int.mul_nonneg (show 0 ≤ 387420489 + x by omega) (show 0 ≤ 387420489 + y by omega)
    have a3 := Int.mul_nonneg (show 0 ≤ 387420489 - x by omega) (show 0 ≤ 387420489 + y by omega)
    have a4 := Int.mul_nonneg (show 0 ≤ 387420489 + x by omega) (show 0 ≤ 387420489 - y by omega)
    grind
  have k1 := key _ _ h1 h2
  have k2 := key _ _ h3 h4
  have hD := h.nz s (by omega)
  have hst := h.st s a b hs ha hak hb hbk
  have he : V s a b * V s s s - V s a s * V s s b = D s * V (s + 1) a b := by rw [hst]; grind
  have hdv : (V s a b * V s s s - V s a s * V s s b).tdiv (D s) = V (s + 1) a b := by rw [he, Int.mul_tdiv_cancel_left _ hD]
  refine ⟨by omega, by omega, by omega, hD, hdv, ?_⟩
  by_cases hs1 : s + 1 < k
  · have := h.bd (s + 1) a b hs1 (by omega) hak (by omega) hbk
    omega
  · omega
/-- the row i, when the x below q have been met -/
def Dxb (M V0 : Nat → Nat → Int) (i q : Nat) (a b : Nat) : Int := if a = i then (if b = i then ssum (M i) 0 q else 0) else V0 a b
/-- the row i, when the j below q have been taken away -/
def Djb (M V0 : Nat → Nat → Int) (n i q : Nat) (a b : Nat) : Int := if a = i then (if b < q then V0 i b else if b = i then ssum (M i) 0 n else 0) else V0 a b
/-- in the midst of step s -/
def Midb (V : Nat → Nat → Nat → Int) (k s i j : Nat) (F : Nat → Nat → Int) : Prop := ∀ a b, s ≤ a → a < k → s ≤ b → b < k → F a b = if s < a ∧ s < b ∧ (a < i ∨ (a = i ∧ b < j)) then V (s + 1) a b else V s a b
theorem ssum_lo {f : Nat → Int} (h : ∀ b, 0 ≤ f b) : ∀ n s : Nat, 0 ≤ ssum f s n
  | 0, _ => by simp [ssum]
  | n + 1, s => by have := h s; have := ssum_lo h n (s + 1); simp only [ssum]; omega
set_option maxHeartbeats 3200000 in
set_option maxRecDepth 100000 in
theorem trees_walk (N n k : Nat) (hk1 : k < n) (hk2 : n ≤ k + 1) (hk9 : k ≤ 9) (M : Nat → Nat → Int) (hlo : ∀ a b, 0 ≤ M a b) (hhi : ∀ a b, M a b ≤ 1) (V : Nat → Nat → Nat → Int) (D : Nat → Int) (hE : EH k V D) (hV0 : ∀ a b, a < k → b < k → V 0 a b = (if b = a then ssum (M a) 0 n else 0) - M a b) (B0 g : Nat) (r : Nat → Nat) (Ap : Option Addr) (pc : Nat) (P : List Nat) (hPl : ∀ i, i < n → P.getD i 0 < N) (K : Nat → Nat → Int) (hMK : ∀ a b, a < n → b < n → K (P.getD a 0) (P.getD b 0) = M a b) (w : World) (hm : Mat w B0 N g r N K) (hp : Rd w Ap n 1 (ints .i64 (natI P))) :
    Calls Tryd.prog 14 #[.slice (some ⟨g, 0, none⟩) N N, .slice Ap n pc] w fun e w' => e = .returned (.int .i64 (D k)) ∧ Below w.heap.size w w' := by
  have hkw : IntKind.i64.wrap ((n : Int) - 1) = (k : Int) := by rw [IntWalk.i64_in _ (by omega)]; omega
  have hPn : P.length = n := by simpa [ints, natI] using hp.1
  have hmH := Lib.hid hm; have hpH := Lib.hid hp; have hEH := Lib.hid hE; have hV0H := Lib.hid hV0; have hPlH := Lib.hid hPl; have hMKH := Lib.hid hMK; have hloH := Lib.hid hlo; have hhiH := Lib.hid hhi
  have hPat := Lib.hid (fun q (hq : q < n) => natI_at (y := P) (k := q) (by rw [hPn]; exact hq))
  clear hm hp hE hV0 hPl hMK hlo hhi hPn
  obtain ⟨s0, hs0⟩ : ∃ s0, w.heap.size = s0 := ⟨_, rfl⟩
  go_enter Tryd.func14, Tryd.ntmps14
  go_wp2_with (at_make; refine wpList_mk1 _ tiM2 s0 k (by omega) (by omega) (by omega) rfl rfl rfl rfl rfl (by first | rfl | exact hkw) (by first | rfl | exact hkw) ?_)
  intro w1 hown1 hg1
  have hb1 := Lib.hid (show Below s0 w w1 from hs0 ▸ below_grown hg1)
  have hM1 := Lib.hid (Mat.start (show w1.ownsRow s0 38 1 (.slice (some ⟨s0, 0, none⟩) k k) k (List.replicate k (.slice none 0 0)) from by first | exact hown1 | (rw [hs0] at hown1; exact hown1)) (fun _ => 0) (V 0))
  clear hown1 hg1
  go_wp2
  go_loopw [7, 9, 10, 21] (fun _ _ _ iv wr => ∃ (i : Nat) (r' : Nat → Nat), i ≤ k ∧ iv = .int .i64 i ∧ Mat wr s0 k s0 r' i (V 0) ∧ Below s0 w wr) (fun _ _ _ iv _ => k - (intOf iv).toNat)
  case atStart => exact ⟨0, _, by omega, rfl, hM1.out, hb1.out⟩
  case round =>
    clear hM1 hb1
    obtain ⟨i, r1, hi, rfl, hM, hb⟩ := hrel
    obtain ⟨w2, rfl⟩ : ∃ w2 : World, w2 = wr := ⟨_, rfl⟩
    have hMH := Lib.hid hM; have hbH := Lib.hid hb
    have hsz2 := hb.size
    by_cases hik : i < k
    · have hnil := hM.outNil hik
      have hgl := hM.glt
      clear hM hb
      go_wp2_with (at_make; refine wpList_mk1 _ tiM1 s0 k (by omega) (by omega) (by omega) rfl rfl rfl rfl rfl rfl rfl ?_)
      intro w3 hown3 hg3
      rw [row_replicate] at hown3
      have hM3 := hMH.out.grown hg3 (by simp) (fun _ _ => by simp)
      have hnil3 := hM3.outNil hik
      have hfr3 := hM3.ofrz i
      have hM4 := Lib.hid ((hMH.out.more hik hg3 (Nat.le_refl _) hown3).congr (F' := Dxb M (V 0) i 0) (fun a b ha hb => by
        unfold Dxb
        by_cases e : a = i
        · rw [if_pos e, if_pos e]; split <;> simp [ssum]
        · rw [if_neg e, if_neg e]))
      have hb4 := Lib.hid (((hbH.out.grown hg3 (by omega) (fun r e => by cases e)).setCell (p := ⟨s0, i, none⟩) (Nat.le_refl _) (.slice (some ⟨w2.heap.size, 0, none⟩) k k)))
      clear hM3 hown3 hg3 hMH hbH hnil
      obtain ⟨r2, hr2⟩ : ∃ r2 : Nat → Nat, (fun j => if j = i then w2.heap.size else r1 j) = r2 := ⟨_, rfl⟩
      rw [hr2] at hM4
      clear hr2
      go_wp2
      go_loopw [9, 31] (fun _ qv wr => ∃ q : Nat, q ≤ n ∧ qv = .int .i64 q ∧ Mat wr s0 k s0 r2 (i + 1) (Dxb M (V 0) i q) ∧ Below s0 w wr) (fun _ qv _ => n - (intOf qv).toNat)
      case atStart => exact ⟨0, by omega, rfl, hM4.out, hb4.out⟩
      case round =>
        clear hM4 hb4
        obtain ⟨q, hq, rfl, hM, hb⟩ := hrel
        obtain ⟨w5, rfl⟩ : ∃ w5 : World, w5 = wr := ⟨_, rfl⟩
        by_cases hqn : q < n
        · have c1 := hM.out (i := i) (by omega)
          have c2 := hM.cell (i := i) (j := i) (by omega) hik
          have c3 := hM.frz (i := i) (by omega) i
          have hmw := hmH.out.below hb (by omega)
          obtain ⟨pi, hpi⟩ : ∃ x, P.getD i 0 = x := ⟨_, rfl⟩
          obtain ⟨pq, hpq⟩ : ∃ x, P.getD q 0 = x := ⟨_, rfl⟩
          have hpiN := hPlH.out i (by omega)
          have hpqN := hPlH.out q hqn
          have hKM := hMKH.out i q (by omega) hqn
          rw [hpi] at hpiN hKM
          rw [hpq] at hpqN hKM
          have c4 := hmw.out (i := pi) hpiN
          have c5 := hmw.cell (i := pi) (j := pq) hpiN hpqN
          rw [hKM] at c5
          have hpw := hpH.out.later (hs0 ▸ hb)
          obtain ⟨pb, po, rfl, _, c6⟩ := hpw.int (show i < n by omega)
          obtain ⟨_, _, hA, _, c7⟩ := hpw.int hqn
          injection hA with hA; injection hA with hA1 hA2 hA3
          subst hA1; subst hA2
          rw [hPat.out i (by omega), hpi] at c6
          rw [hPat.out q hqn, hpq] at c7
          have hst := Lib.hid (hM.set (i := i) (by omega) i)
          have hbs := Lib.hid (fun v => hb.setCell (p := ⟨r2 i, i, none⟩) (hM.rlt (i := i) (by omega)).1 (.int .i64 v))
          have hd0 : Dxb M (V 0) i q i i = ssum (M i) 0 q := by unfold Dxb; simp
          rw [hd0] at c2
          have hwx : IntKind.i64.wrap (ssum (M i) 0 q + M i q) = ssum (M i) 0 (q + 1) := by
            have b1 := ssum_lo (hloH.out i) q 0
            have b2 := ssum_ub (f := M i) (n := q) (s := 0) (hhiH.out i)
            have b3 := hloH.out i q
            have b4 := hhiH.out i q
            rw [IntWalk.i64_in _ (by omega), ssum_snoc, Nat.zero_add]
          have hnx := Lib.hid (fun (a b : Nat) => show (if a = i ∧ b = i then ssum (M i) 0 (q + 1) else Dxb M (V 0) i q a b) = Dxb M (V 0) i (q + 1) a b from by
            unfold Dxb
            by_cases e : a = i
            · by_cases e2 : b = i
              · rw [if_pos ⟨e, e2⟩, if_pos e, if_pos e2]
              · rw [if_neg (fun h => e2 h.2), if_pos e, if_neg e2, if_pos e, if_neg e2]
            · rw [if_neg (fun h => e h.1), if_neg e, if_neg e])
          obtain ⟨x1, hx1⟩ : ∃ x, ssum (M i) 0 q = x := ⟨_, rfl⟩
          obtain ⟨x2, hx2⟩ : ∃ x : Int, M i q = x := ⟨_, rfl⟩
          obtain ⟨x3, hx3⟩ : ∃ x, ssum (M i) 0 (q + 1) = x := ⟨_, rfl⟩
          rw [hx1] at c2
          rw [hx2] at c5
          rw [hx1, hx2, hx3] at hwx
          rw [hx3] at hnx
          have hM' := Lib.hid ((hst.out x3).congr fun a b _ _ => hnx.out a b)
          have hb' := Lib.hid (hbs.out x3)
          clear hx1 hx2 hx3 hM hb hmw hpw hst hbs hd0 hKM hnx hpi hpq
          have hpiN' : (pi : Int) < N := by omega
          have hpqN' : (pq : Int) < N := by omega
          have hii : (i : Int) < n := by omega
          have hik' : (i : Int) < k := by omega
          have hqn' : (q : Int) < n := by omega
          go_wp2
          go_region
          all_goals
            go_wp2
            go_roundw
            case rel => exact ⟨q + 1, by omega, by go_num, hM'.out.drew, hb'.out.drew⟩
            case measure => simp [intOf]; omega
        · obtain rfl : q = n := by omega
          have hM5 := Lib.hid (hM.congr (F' := Djb M (V 0) q i 0) (fun a b _ _ => by
            unfold Dxb Djb
            by_cases e : a = i
            · rw [if_pos e, if_pos e, if_neg (Nat.not_lt_zero b)]
            · rw [if_neg e, if_neg e]))
          have hb5 := Lib.hid hb
          clear hM hb
          go_wp2
          go_loopw [10, 56] (fun _ jv wr => ∃ j : Nat, j ≤ k ∧ jv = .int .i64 j ∧ Mat wr s0 k s0 r2 (i + 1) (Djb M (V 0) q i j) ∧ Below s0 w wr) (fun _ jv _ => k - (intOf jv).toNat)
          case atStart => exact ⟨0, by omega, rfl, hM5.out, hb5.out⟩
          case round =>
            clear hM5 hb5
            obtain ⟨j, hj, rfl, hM, hb⟩ := hrel
            obtain ⟨w6, rfl⟩ : ∃ w6 : World, w6 = wr := ⟨_, rfl⟩
            by_cases hjk : j < k
            · have c1 := hM.out (i := i) (by omega)
              have c2 := hM.cell (i := i) (j := j) (by omega) hjk
              have c3 := hM.frz (i := i) (by omega) j
              have hmw := hmH.out.below hb (by omega)
              obtain ⟨pi, hpi⟩ : ∃ x, P.getD i 0 = x := ⟨_, rfl⟩
              obtain ⟨pq, hpq⟩ : ∃ x, P.getD j 0 = x := ⟨_, rfl⟩
              have hpiN := hPlH.out i (by omega)
              have hpqN := hPlH.out j (by omega)
              have hKM := hMKH.out i j (by omega) (by omega)
              rw [hpi] at hpiN hKM
              rw [hpq] at hpqN hKM
              have c4 := hmw.out (i := pi) hpiN
              have c5 := hmw.cell (i := pi) (j := pq) hpiN hpqN
              rw [hKM] at c5
              have hpw := hpH.out.later (hs0 ▸ hb)
              obtain ⟨pb, po, rfl, _, c6⟩ := hpw.int (show i < q by omega)
              obtain ⟨_, _, hA, _, c7⟩ := hpw.int (show j < q by omega)
              injection hA with hA; injection hA with hA1 hA2 hA3
              subst hA1; subst hA2
              rw [hPat.out i (by omega), hpi] at c6
              rw [hPat.out j (by omega), hpq] at c7
              have hst := Lib.hid (hM.set (i := i) (by omega) j)
              have hbs := Lib.hid (fun v => hb.setCell (p := ⟨r2 i, j, none⟩) (hM.rlt (i := i) (by omega)).1 (.int .i64 v))
              have hd0 : Djb M (V 0) q i j i j = if j = i then ssum (M i) 0 q else 0 := by unfold Djb; simp
              rw [hd0] at c2
              have hwx : IntKind.i64.wrap ((if j = i then ssum (M i) 0 q else 0) - M i j) = V 0 i j := by
                have b1 := ssum_lo (hloH.out i) q 0
                have b2 := ssum_ub (f := M i) (n := q) (s := 0) (hhiH.out i)
                have b3 := hloH.out i j
                have b4 := hhiH.out i j
                rw [hV0H.out i j (by omega) hjk, IntWalk.i64_in _ (by split <;> omega)]
              have hnx := Lib.hid (fun (a b : Nat) => show (if a = i ∧ b = j then V 0 i j else Djb M (V 0) q i j a b) = Djb M (V 0) q i (j + 1) a b from by
                unfold Djb
                by_cases e : a = i
                · by_cases e2 : b = j
                  · rw [if_pos ⟨e, e2⟩, if_pos e, if_pos (by omega), e2]
                  · rw [if_neg (fun h => e2 h.2), if_pos e, if_pos e]
                    by_cases e3 : b < j
                    · rw [if_pos e3, if_pos (show b < j + 1 by omega)]
                    · rw [if_neg e3, if_neg (show ¬ b < j + 1 by omega)]
                · rw [if_neg (fun h => e h.1), if_neg e, if_neg e])
              obtain ⟨x1, hx1⟩ : ∃ x : Int, (if j = i then ssum (M i) 0 q else 0) = x := ⟨_, rfl⟩
              obtain ⟨x2, hx2⟩ : ∃ x : Int, M i j = x := ⟨_, rfl⟩
              obtain ⟨x3, hx3⟩ : ∃ x, V 0 i j = x := ⟨_, rfl⟩
              rw [hx1] at c2
              rw [hx2] at c5
              rw [hx1, hx2, hx3] at hwx
              rw [hx3] at hnx
              have hM' := Lib.hid ((hst.out x3).congr fun a b _ _ => hnx.out a b)
              have hb' := Lib.hid (hbs.out x3)
              clear hx1 hx2 hx3 hM hb hmw hpw hst hbs hd0 hKM hnx hpi hpq
              have hpiN' : (pi : Int) < N := by omega
              have hpqN' : (pq : Int) < N := by omega
              have hii : (i : Int) < q := by omega
              have hik' : (i : Int) < k := by omega
              have hjk' : (j : Int) < k := by omega
              have hjq' : (j : Int) < q := by omega
              go_wp2
              go_region
              all_goals
                go_wp2
                go_roundw
                case rel => exact ⟨j + 1, by omega, by go_num, hM'.out.drew, hb'.out.drew⟩
                case measure => simp [intOf]; omega
            · obtain rfl : j = k := by omega
              have hM7 := Lib.hid (hM.congr (F' := V 0) (fun a b ha hb => by
                unfold Djb
                by_cases e : a = i
                · rw [if_pos e, if_pos hb, e]
                · rw [if_neg e]))
              clear hM
              go_wp2
              go_roundw
              case rel => exact ⟨i + 1, r2, by omega, by go_num, hM7.out, hb⟩
              case measure => simp [intOf]; omega
    · obtain rfl : i = k := by omega
      clear hM hb
      go_wp2
      go_loopw [11, 12, 13, 14, 84] (fun lv _ _ _ sv wr => ∃ (s : Nat) (F : Nat → Nat → Int), s ≤ i ∧ sv = .int .i64 s ∧ lv = .int .i64 (D s) ∧ Mat wr s0 i s0 r1 i F ∧ (∀ a b, s ≤ a → a < i → s ≤ b → b < i → F a b = V s a b) ∧ Below s0 w wr) (fun _ _ _ _ sv _ => i - (intOf sv).toNat)
      case atStart => exact ⟨0, _, by omega, rfl, by rw [hEH.out.d0], hMH.out, fun _ _ _ _ _ _ => rfl, hbH.out⟩
      case round =>
        clear hMH hbH
        obtain ⟨s, F, hs, rfl, rfl, hM, hF, hb⟩ := hrel
        obtain ⟨w5, rfl⟩ : ∃ w5 : World, w5 = wr := ⟨_, rfl⟩
        by_cases hsi : s < i
        · have hF0 := Lib.hid (show Midb V i s (s + 1) 0 F from fun a b h1 h2 h3 h4 => by
            rw [if_neg (by omega)]; exact hF a b h1 h2 h3 h4)
          have hMH := Lib.hid hM; have hbH := Lib.hid hb
          clear hM hF hb
          go_wp2
          go_loopw [13, 14] (fun av _ wr => ∃ (a : Nat) (F : Nat → Nat → Int), s < a ∧ a ≤ i ∧ av = .int .i64 a ∧ Mat wr s0 i s0 r1 i F ∧ Midb V i s a 0 F ∧ Below s0 w wr) (fun av _ _ => i - (intOf av).toNat)
          case atStart => exact ⟨s + 1, F, by omega, by omega, by go_num, hMH.out, hF0.out, hbH.out⟩
          case round =>
            clear hMH hF0 hbH
            obtain ⟨a, F, hsa, ha, rfl, hM, hF, hb⟩ := hrel
            obtain ⟨w6, rfl⟩ : ∃ w6 : World, w6 = wr := ⟨_, rfl⟩
            by_cases hai : a < i
            · have hF0 := Lib.hid (show Midb V i s a (s + 1) F from fun x y h1 h2 h3 h4 => by
                rw [hF x y h1 h2 h3 h4]
                by_cases e : s < x ∧ s < y ∧ x < a
                · rw [if_pos ⟨e.1, e.2.1, .inl e.2.2⟩, if_pos ⟨e.1, e.2.1, .inl e.2.2⟩]
                · rw [if_neg (by omega), if_neg (by omega)])
              have hMH := Lib.hid hM; have hbH := Lib.hid hb
              clear hM hF hb
              go_wp2
              go_loopw [14] (fun bv wr => ∃ (b : Nat) (F : Nat → Nat → Int), s < b ∧ b ≤ i ∧ bv = .int .i64 b ∧ Mat wr s0 i s0 r1 i F ∧ Midb V i s a b F ∧ Below s0 w wr) (fun bv _ => i - (intOf bv).toNat)
              case atStart => exact ⟨s + 1, F, by omega, by omega, by go_num, hMH.out, hF0.out, hbH.out⟩
              case round =>
                clear hMH hF0 hbH
                obtain ⟨b, F, hsb, hb', rfl, hM, hF, hb⟩ := hrel
                obtain ⟨w7, rfl⟩ : ∃ w7 : World, w7 = wr := ⟨_, rfl⟩
                by_cases hbi : b < i
                · have hM := hM.drew
                  have hb := hb.drew
                  have c1 := hM.out (i := a) hai
                  have c2 := hM.out (i := s) hsi
                  have c3 := hM.cell (i := a) (j := b) hai hbi
                  have c4 := hM.cell (i := s) (j := s) hsi hsi
                  have c5 := hM.cell (i := a) (j := s) hai hsi
                  have c6 := hM.cell (i := s) (j := b) hsi hbi
                  have c7 := hM.frz (i := a) hai b
                  rw [hF a b (by omega) hai (by omega) hbi, if_neg (by omega)] at c3
                  rw [hF s s (by omega) hsi (by omega) hsi, if_neg (by omega)] at c4
                  rw [hF a s (by omega) hai (by omega) hsi, if_neg (by omega)] at c5
                  rw [hF s b (by omega) hsi (by omega) hbi, if_neg (by omega)] at c6
                  obtain ⟨k1, k2, k3, k5, k6, k4⟩ := hEH.out.ok hsi hsa hai hsb hbi
                  have hst := Lib.hid ((hM.set (i := a) hai b) (V (s + 1) a b))
                  have hbs := Lib.hid (hb.setCell (p := ⟨r1 a, b, none⟩) (hM.rlt (i := a) hai).1 (.int .i64 (V (s + 1) a b)))
                  have hFn := Lib.hid (show Midb V i s a (b + 1) (fun x y => if x = a ∧ y = b then V (s + 1) a b else F x y) from fun x y h1 h2 h3 h4 => by
                    dsimp only
                    by_cases e : x = a ∧ y = b
                    · rw [if_pos e, if_pos (by omega), e.1, e.2]
                    · rw [if_neg e, hF x y h1 h2 h3 h4]
                      by_cases e2 : s < x ∧ s < y ∧ (x < a ∨ (x = a ∧ y < b))
                      · rw [if_pos e2, if_pos (by omega)]
                      · rw [if_neg e2, if_neg (by omega)])
                  have v1 := IntWalk.i64_in _ (show _ from k1)
                  have v2 := IntWalk.i64_in _ (show _ from k2)
                  have v3 := IntWalk.i64_in _ (show _ from k3)
                  have v5 : wrap64 (V (s + 1) a b) = V (s + 1) a b := by unfold wrap64; omega
                  clear hM hF hb k1 k2 k3 k4
                  generalize V s a b = x1 at *
                  generalize V s s s = x2 at *
                  generalize V s a s = x3 at *
                  generalize V s s b = x4 at *
                  generalize V (s + 1) a b = x5 at *
                  generalize D s = L at *
                  have hLz : (L == 0) = false := beq_false_of_ne k5
                  have hai' : (a : Int) < i := by omega
                  have hbi' : (b : Int) < i := by omega
                  have hsi' : (s : Int) < i := by omega
                  go_wp2
                  go_still_tail 39, (by kernel_rfl)
                  change wpList _ _ _ _ _ w7.drew
                  generalize w7.drew = w8 at *
                  go_wp2
                  go_roundw
                  case rel => exact ⟨b + 1, _, by omega, by omega, by go_num, hst.out, hFn.out, hbs.out⟩
                  case measure => simp [intOf]; omega
                · obtain rfl : b = i := by omega
                  have hFn := Lib.hid (show Midb V b s (a + 1) 0 F from fun x y h1 h2 h3 h4 => by
                    rw [hF x y h1 h2 h3 h4]
                    by_cases e : s < x ∧ s < y ∧ x < a + 1
                    · rw [if_pos (by omega), if_pos (by omega)]
                    · rw [if_neg (by omega), if_neg (by omega)])
                  have hMH := Lib.hid hM
                  clear hM hF
                  go_wp2
                  go_roundw
                  case rel => exact ⟨a + 1, F, by omega, by omega, by go_num, hMH.out, hFn.out, hb⟩
                  case measure => simp [intOf]; omega
            · obtain rfl : a = i := by omega
              have c1 := hM.out (i := s) hsi
              have c2 := hM.cell (i := s) (j := s) hsi hsi
              rw [hF s s (by omega) hsi (by omega) hsi, if_neg (by omega)] at c2
              have hL : D (s + 1) = V s s s := hEH.out.ds s
              rw [← hL] at c2
              have hFn := Lib.hid (show ∀ x y, s + 1 ≤ x → x < a → s + 1 ≤ y → y < a → F x y = V (s + 1) x y from fun x y h1 h2 h3 h4 => by
                rw [hF x y (by omega) h2 (by omega) h4, if_pos (by omega)])
              have hMH := Lib.hid hM
              have hsa' : (s : Int) < a := by omega
              clear hM hF hL
              go_wp2
              go_roundw
              case rel => exact ⟨s + 1, F, by omega, by go_num, rfl, hMH.out, hFn.out, hb⟩
              case measure => simp [intOf]; omega
        · obtain rfl : s = i := by omega
          clear hM hF
          go_wp2
          go_ret
          exact ⟨rfl, by rw [hs0]; exact hb⟩
end Go.Proofs.YtnkmfnnkophccaaDoor
