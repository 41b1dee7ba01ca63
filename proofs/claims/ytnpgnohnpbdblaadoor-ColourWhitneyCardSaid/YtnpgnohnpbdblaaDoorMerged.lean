/- teamsterkeep.merged: a graph in which both nodes of an edge are one. -/
import Derived.Test.YtnpgnohnpbdblaaDoorFewer
import Derived.Test.YtnpgnohnpbdblaaDoorWhitneyB
namespace Go.Proofs.YtnpgnohnpbdblaaDoor
open Go.RowKit

def dcB (b x : Nat) : Nat := if b < x then x - 1 else x
theorem rnB_dc (a b x : Nat) : rnB a b x = dcB b (mvB a b x) := rfl
set_option maxHeartbeats 1600000 in
theorem merged_any (n i a b : Nat) (z0 : Int) (A : Option Addr) (len cap : Nat) (es : List E) (w : World) (hr : Rd w A len 3 (ps3 .i64 .i64 .i64 es)) (hl : len ≤ 45) (hok : gchk (n + 1 : Nat) es = 0) (hi : i < len)
    (hat : es.getD i (0, 0, 0) = ((a : Int), (b : Int), z0)) (ha : a < n + 1) (hb : b < n + 1) (hab : a ≠ b) :
    Calls Tryd.prog 26 #[.agg #[.int .i64 ((n + 1 : Nat) : Int), .slice A len cap], .int .i64 (i : Int)] w (GPost n (mergeE a b es) w.heap.size w) := by
  obtain ⟨_, h10, _, hokE, _⟩ := gchk_ok hok
  rw [Int.toNat_natCast] at hokE
  have hn10 : n + 1 ≤ 10 := by omega
  obtain ⟨_, hOL⟩ := gchk_iff.1 hok
  have hinv := Lib.hid (fun k => merge_inv (n := n + 1) ha hb hab _ (es.take k) rfl ⟨fun e he => hOL.each e (List.mem_of_mem_take he), hOL.two.sublist (List.take_sublist _ _)⟩)
  have helH := Lib.hid (ps3_len hr)
  obtain ⟨b0, o0, rfl, hab0, hA, hB, _⟩ := hr.triple hi
  rw [hat] at hA hB
  dsimp only at hA hB
  have hrH := Lib.hid hr; have hokH := Lib.hid hokE
  have hn1 : IntKind.i64.wrap (((n + 1 : Nat) : Int) - 1) = n := by rw [IntWalk.i64_in _ (by omega)]; omega
  clear hr hok hokE hat hOL
  generalize hN1 : ((n + 1 : Nat) : Int) = N1 at *
  go_enter Tryd.func26, Tryd.ntmps26
  go_wp2
  have hB0 : Below w.heap.size w (((w.alloc (.cells #[.int .i64 N1, .slice (some ⟨b0, o0, none⟩) len cap] 24)).alloc (.cells #[.int .i64 0, .slice none 0 0] 24)).alloc (.cells #[.int .i64 n, .slice none 0 0] 24)) := (((Below.refl _ w).alloc (Nat.le_refl _) _).alloc (by simp) _).alloc (by simp; omega) _
  have hK1 := (Blk.new (w.alloc (.cells #[.int .i64 N1, .slice (some ⟨b0, o0, none⟩) len cap] 24)) 24 #[.int .i64 0, .slice none 0 0]).alloc (.cells #[.int .i64 n, .slice none 0 0] 24)
  have hK2 := Blk.new ((w.alloc (.cells #[.int .i64 N1, .slice (some ⟨b0, o0, none⟩) len cap] 24)).alloc (.cells #[.int .i64 0, .slice none 0 0] 24)) 24 #[.int .i64 n, .slice none 0 0]
  have hS : (((w.alloc (.cells #[.int .i64 N1, .slice (some ⟨b0, o0, none⟩) len cap] 24)).alloc (.cells #[.int .i64 0, .slice none 0 0] 24)).alloc (.cells #[.int .i64 n, .slice none 0 0] 24)).heap.size = w.heap.size + 3 := by simp
  simp only [World.size_alloc] at hK1 hK2
  generalize (((w.alloc (.cells #[.int .i64 N1, .slice (some ⟨b0, o0, none⟩) len cap] 24)).alloc (.cells #[.int .i64 0, .slice none 0 0] 24)).alloc (.cells #[.int .i64 n, .slice none 0 0] 24)) = w1 at *
  go_loopw [9, 11, 13, 33] (fun _ _ _ q wr => ∃ (k : Nat) (v : Value), k ≤ len ∧ q = .int .i64 k ∧ wr.ownsRow (w.heap.size + 3) 60 3 v (mergeE a b (es.take k)).length (ps3 .i64 .i64 .i64 (mergeE a b (es.take k))) ∧ Blk wr (w.heap.size + 1) 24 #[.int .i64 0, .slice none 0 0] ∧ Blk wr (w.heap.size + 1 + 1) 24 #[.int .i64 n, v] ∧ Below w.heap.size w wr ∧ w.heap.size + 3 ≤ wr.heap.size) (fun _ _ _ q _ => len - (intOf q).toNat)
  case atStart => exact ⟨0, .slice none 0 0, Nat.zero_le _, rfl, ⟨rfl, .inl ⟨rfl, rfl⟩⟩, hK1, hK2, hB0, by omega⟩
  case round =>
    clear hK1 hK2 hB0 hS
    generalize wr = W0 at *
    obtain ⟨k, v, hk, rfl, hown, hK1, hK2, hb, hs⟩ := hrel
    obtain ⟨A1, c1, rfl⟩ := own_slice hown
    have hm45 : (mergeE a b (es.take k)).length ≤ 45 := Nat.le_trans (hinv.out k).len (by rw [List.length_take]; have := helH.out; omega)
    by_cases hlt : k < len
    · obtain ⟨_, _, hA, hab1, hc1, hc2, hc3⟩ := (hrH.out.later hb).triple hlt
      cases hA
      have hke : k < es.length := by rw [helH.out]; exact hlt
      obtain ⟨x, y, z, hat, hx, hy, hxy⟩ := ok_at hokH.out hke
      have hsn : mergeE a b (es.take (k + 1)) = mergeB a b (mergeE a b (es.take k)) ((x : Int), (y : Int), z) := by rw [take_succ_getD' es (0, 0, 0) k hke, mergeE_snoc, hat]
      have hacc := Lib.hid (OkL.ok (n := n) (by have := (hinv.out k).ok; rwa [show (((n + 1 : Nat)) : Int) - 1 = n by omega] at this))
      rw [hat] at hc1 hc2 hc3
      dsimp only at hc1 hc2 hc3
      unfold mergeB at hsn
      rw [Int.toNat_natCast, Int.toNat_natCast] at hsn
      have hsnH := Lib.hid hsn
      have hownH := Lib.hid hown; have hK2H := Lib.hid hK2; have hK1H := Lib.hid hK1; have hbH := Lib.hid hb
      clear hown hK1 hK2 hb hat hsn
      generalize hAcc : mergeE a b (es.take k) = acc at *
      have hAH := Lib.hid hAcc
      have hP0 := (Blk.new W0 60 #[.int .i64 (x : Int), .int .i64 (y : Int), .int .i64 z])
      have hbe0 := (Below.refl W0.heap.size W0).alloc (Nat.le_refl _) (.cells #[.int .i64 (x : Int), .int .i64 (y : Int), .int .i64 z] 60)
      have hQ0 := (Blk.new (W0.alloc (.cells #[.int .i64 (x : Int), .int .i64 (y : Int), .int .i64 z] 60)) 77 #[.pointer (some ⟨W0.heap.size, 0, none⟩), .pointer (some ⟨W0.heap.size, 1, none⟩)])
      have hP1 := hP0.alloc (.cells #[.pointer (some ⟨W0.heap.size, 0, none⟩), .pointer (some ⟨W0.heap.size, 1, none⟩)] 77)
      have hbe1 := hbe0.alloc (by simp) (.cells #[.pointer (some ⟨W0.heap.size, 0, none⟩), .pointer (some ⟨W0.heap.size, 1, none⟩)] 77)
      rw [World.size_alloc] at hQ0
      have h1 := Lib.hid hP1; have h2 := Lib.hid hQ0; have h3 := Lib.hid hbe1
      clear hP0 hbe0 hQ0 hP1 hbe1 hAcc
      go_wp2
      go_loopw [11, 41] (fun _ q wx => ∃ j : Nat, j ≤ 2 ∧ q = .int .i64 j ∧ Blk wx W0.heap.size 60 #[.int .i64 ((if 0 < j then mvB a b x else x : Nat) : Int), .int .i64 ((if 1 < j then mvB a b y else y : Nat) : Int), .int .i64 z] ∧ Blk wx (W0.heap.size + 1) 77 #[.pointer (some ⟨W0.heap.size, 0, none⟩), .pointer (some ⟨W0.heap.size, 1, none⟩)] ∧ Below W0.heap.size W0 wx) (fun _ q _ => 2 - (intOf q).toNat)
      case atStart => exact ⟨0, by omega, rfl, h1.out, h2.out, h3.out⟩
      case round =>
        obtain ⟨j, hj, rfl, hP, hQ, hbe⟩ := hrel
        have hcq0 : wr.cell? ⟨W0.heap.size + 1, 0, none⟩ = some (.pointer (some ⟨W0.heap.size, 0, none⟩)) := hQ.cell rfl
        have hcq1 : wr.cell? ⟨W0.heap.size + 1, 1, none⟩ = some (.pointer (some ⟨W0.heap.size, 1, none⟩)) := hQ.cell rfl
        have hlP := hP.lt
        rcases (show j = 0 ∨ j = 1 ∨ j = 2 by omega) with rfl | rfl | rfl
        · have hx0 : wr.cell? ⟨W0.heap.size, 0, none⟩ = some (.int .i64 (x : Int)) := hP.cell rfl
          have hf0 := hP.frozen 0
          have hP' := hP.set 0 (.int .i64 (a : Int))
          have hQ' := hQ.other (a := ⟨W0.heap.size, 0, none⟩) (show W0.heap.size + 1 ≠ W0.heap.size by omega) (.int .i64 (a : Int))
          have hbe' := hbe.setCell (p := ⟨W0.heap.size, 0, none⟩) (Nat.le_refl _) (.int .i64 (a : Int))
          have k1 := Lib.hid hP; have k2 := Lib.hid hQ; have k3 := Lib.hid hbe; have k4 := Lib.hid hP'; have k5 := Lib.hid hQ'; have k6 := Lib.hid hbe'
          clear hP hQ hbe hP' hQ' hbe'
          by_cases hxb : x = b
          · have hxbZ : (x : Int) = b := by omega
            have hmv : mvB a b x = a := by unfold mvB; rw [if_pos hxb]
            have hmvH := Lib.hid hmv
            clear hxb hmv
            go_wp2
            go_roundw
            case rel => exact ⟨1, by omega, by go_num, by have := k4.out; rw [if_pos (by omega), if_neg (by omega), hmvH.out]; exact this, k5.out, k6.out⟩
            case measure => simp [intOf]
          · have hxbZ : (x : Int) ≠ b := by omega
            have hmv : mvB a b x = x := by unfold mvB; rw [if_neg hxb]
            have hmvH := Lib.hid hmv
            clear hxb hmv
            go_wp2
            go_roundw
            case rel => exact ⟨1, by omega, by go_num, by have := k1.out; rw [if_pos (by omega), if_neg (by omega), hmvH.out]; exact this, k2.out, k3.out⟩
            case measure => simp [intOf]
        · have hx0 : wr.cell? ⟨W0.heap.size, 1, none⟩ = some (.int .i64 (y : Int)) := hP.cell rfl
          have hf0 := hP.frozen 1
          have hP' := hP.set 1 (.int .i64 (a : Int))
          have hQ' := hQ.other (a := ⟨W0.heap.size, 1, none⟩) (show W0.heap.size + 1 ≠ W0.heap.size by omega) (.int .i64 (a : Int))
          have hbe' := hbe.setCell (p := ⟨W0.heap.size, 1, none⟩) (Nat.le_refl _) (.int .i64 (a : Int))
          have k1 := Lib.hid hP; have k2 := Lib.hid hQ; have k3 := Lib.hid hbe; have k4 := Lib.hid hP'; have k5 := Lib.hid hQ'; have k6 := Lib.hid hbe'
          clear hP hQ hbe hP' hQ' hbe'
          by_cases hxb : y = b
          · have hxbZ : (y : Int) = b := by omega
            have hmv : mvB a b y = a := by unfold mvB; rw [if_pos hxb]
            have hmvH := Lib.hid hmv
            clear hxb hmv
            go_wp2
            go_roundw
            case rel => exact ⟨2, by omega, by go_num, by have := k4.out; rw [if_pos (by omega), if_pos (by omega), hmvH.out]; rw [if_pos (by omega)] at this; exact this, k5.out, k6.out⟩
            case measure => simp [intOf]
          · have hxbZ : (y : Int) ≠ b := by omega
            have hmv : mvB a b y = y := by unfold mvB; rw [if_neg hxb]
            have hmvH := Lib.hid hmv
            clear hxb hmv
            go_wp2
            go_roundw
            case rel => exact ⟨2, by omega, by go_num, by have := k1.out; rw [if_pos (by omega), if_pos (by omega), hmvH.out]; rw [if_pos (by omega), if_neg (by omega)] at this; exact this, k2.out, k3.out⟩
            case measure => simp [intOf]
        · rw [if_pos (by omega), if_pos (by omega)] at hP
          have hX45 : mvB a b x < n + 1 := by unfold mvB; split <;> omega
          have hY45 : mvB a b y < n + 1 := by unfold mvB; split <;> omega
          have hrx := rnB_dc a b x
          have hry := rnB_dc a b y
          rw [hrx, hry] at hsnH
          have hnn := Lib.hid (fun h => rnB_ne (x := x) (y := y) hab h)
          rw [hrx, hry] at hnn
          generalize mvB a b x = X at *
          generalize mvB a b y = Y at *
          clear hrx hry hcq0 hcq1
          generalize wr = W1 at *
          have hx0 : W1.cell? ⟨W0.heap.size, 0, none⟩ = some (.int .i64 (X : Int)) := hP.cell rfl
          have hy0 : W1.cell? ⟨W0.heap.size, 1, none⟩ = some (.int .i64 (Y : Int)) := hP.cell rfl
          have hlq := hQ.lt
          by_cases hXY : X = Y
          · have hXYZ : (X : Int) = Y := by omega
            rw [if_pos hXY] at hsnH
            have hbeH := Lib.hid hbe
            clear hXY hP hQ hbe h1 h2 h3
            go_wp2
            go_roundw
            case rel => exact ⟨k + 1, _, by omega, by go_num, by rw [hsnH.out]; exact own_below hownH.out hbeH.out, hK1H.out.below hbeH.out (by omega), hK2H.out.below hbeH.out (by omega), hbH.out.trans (hbeH.out.mono (by omega)), by have := hbeH.out.size; omega⟩
            case measure => simp [intOf]; omega
          · have hXYZ : (X : Int) ≠ Y := by omega
            rw [if_neg hXY] at hsnH
            have hnn' := hnn.out hXY
            have hP1 := hP.alloc (.cells #[.pointer (some ⟨W0.heap.size, 0, none⟩), .pointer (some ⟨W0.heap.size, 1, none⟩)] 77)
            have hQ1 := Blk.new W1 77 #[.pointer (some ⟨W0.heap.size, 0, none⟩), .pointer (some ⟨W0.heap.size, 1, none⟩)]
            have hbe1 := hbe.alloc hbe.size (.cells #[.pointer (some ⟨W0.heap.size, 0, none⟩), .pointer (some ⟨W0.heap.size, 1, none⟩)] 77)
            have h4 := Lib.hid hP1; have h5 := Lib.hid hQ1; have h6 := Lib.hid hbe1
            clear hXY hP hQ hbe h1 h2 h3 hP1 hQ1 hbe1 hnn
            go_wp2
            go_loopw [13, 63] (fun _ q wx => ∃ j : Nat, j ≤ 2 ∧ q = .int .i64 j ∧ Blk wx W0.heap.size 60 #[.int .i64 ((if 0 < j then dcB b X else X : Nat) : Int), .int .i64 ((if 1 < j then dcB b Y else Y : Nat) : Int), .int .i64 z] ∧ Blk wx W1.heap.size 77 #[.pointer (some ⟨W0.heap.size, 0, none⟩), .pointer (some ⟨W0.heap.size, 1, none⟩)] ∧ Below W0.heap.size W0 wx) (fun _ q _ => 2 - (intOf q).toNat)
            case atStart => exact ⟨0, by omega, rfl, h4.out, h5.out, h6.out⟩
            case round =>
              clear h4 h5 h6 hx0 hy0
              obtain ⟨j, hj, rfl, hP, hQ, hbe⟩ := hrel
              have hcq0 : wr.cell? ⟨W1.heap.size, 0, none⟩ = some (.pointer (some ⟨W0.heap.size, 0, none⟩)) := hQ.cell rfl
              have hcq1 : wr.cell? ⟨W1.heap.size, 1, none⟩ = some (.pointer (some ⟨W0.heap.size, 1, none⟩)) := hQ.cell rfl
              have hlP := hP.lt
              rcases (show j = 0 ∨ j = 1 ∨ j = 2 by omega) with rfl | rfl | rfl
              · have hx0 : wr.cell? ⟨W0.heap.size, 0, none⟩ = some (.int .i64 (X : Int)) := hP.cell rfl
                have hf0 := hP.frozen 0
                have hP' := hP.set 0 (.int .i64 ((X - 1 : Nat) : Int))
                have hQ' := hQ.other (a := ⟨W0.heap.size, 0, none⟩) (show W1.heap.size ≠ W0.heap.size by omega) (.int .i64 ((X - 1 : Nat) : Int))
                have hbe' := hbe.setCell (p := ⟨W0.heap.size, 0, none⟩) (Nat.le_refl _) (.int .i64 ((X - 1 : Nat) : Int))
                have k1 := Lib.hid hP; have k2 := Lib.hid hQ; have k3 := Lib.hid hbe; have k4 := Lib.hid hP'; have k5 := Lib.hid hQ'; have k6 := Lib.hid hbe'
                clear hP hQ hbe hP' hQ' hbe'
                by_cases hxb : b < X
                · have hxbZ : (b : Int) < X := by omega
                  have hdcH := Lib.hid (show dcB b X = X - 1 by unfold dcB; rw [if_pos hxb])
                  have hw : IntKind.i64.wrap ((X : Int) - 1) = ((X - 1 : Nat) : Int) := by rw [IntWalk.i64_in _ (by omega)]; omega
                  clear hxb
                  go_wp2
                  go_roundw
                  case rel => exact ⟨1, by omega, by go_num, by have := k4.out; rw [if_pos (by omega), if_neg (by omega), hdcH.out]; exact this, k5.out, k6.out⟩
                  case measure => simp [intOf]
                · have hxbZ : (X : Int) ≤ b := by omega
                  have hdcH := Lib.hid (show dcB b X = X by unfold dcB; rw [if_neg hxb])
                  clear hxb
                  go_wp2
                  go_roundw
                  case rel => exact ⟨1, by omega, by go_num, by have := k1.out; rw [if_pos (by omega), if_neg (by omega), hdcH.out]; exact this, k2.out, k3.out⟩
                  case measure => simp [intOf]
              · have hx0 : wr.cell? ⟨W0.heap.size, 1, none⟩ = some (.int .i64 (Y : Int)) := hP.cell rfl
                have hf0 := hP.frozen 1
                have hP' := hP.set 1 (.int .i64 ((Y - 1 : Nat) : Int))
                have hQ' := hQ.other (a := ⟨W0.heap.size, 1, none⟩) (show W1.heap.size ≠ W0.heap.size by omega) (.int .i64 ((Y - 1 : Nat) : Int))
                have hbe' := hbe.setCell (p := ⟨W0.heap.size, 1, none⟩) (Nat.le_refl _) (.int .i64 ((Y - 1 : Nat) : Int))
                have k1 := Lib.hid hP; have k2 := Lib.hid hQ; have k3 := Lib.hid hbe; have k4 := Lib.hid hP'; have k5 := Lib.hid hQ'; have k6 := Lib.hid hbe'
                clear hP hQ hbe hP' hQ' hbe'
                by_cases hxb : b < Y
                · have hxbZ : (b : Int) < Y := by omega
                  have hdcH := Lib.hid (show dcB b Y = Y - 1 by unfold dcB; rw [if_pos hxb])
                  have hw : IntKind.i64.wrap ((Y : Int) - 1) = ((Y - 1 : Nat) : Int) := by rw [IntWalk.i64_in _ (by omega)]; omega
                  clear hxb
                  go_wp2
                  go_roundw
                  case rel => exact ⟨2, by omega, by go_num, by have := k4.out; rw [if_pos (by omega), if_pos (by omega), hdcH.out]; rw [if_pos (by omega)] at this; exact this, k5.out, k6.out⟩
                  case measure => simp [intOf]
                · have hxbZ : (Y : Int) ≤ b := by omega
                  have hdcH := Lib.hid (show dcB b Y = Y by unfold dcB; rw [if_neg hxb])
                  clear hxb
                  go_wp2
                  go_roundw
                  case rel => exact ⟨2, by omega, by go_num, by have := k1.out; rw [if_pos (by omega), if_pos (by omega), hdcH.out]; rw [if_pos (by omega), if_neg (by omega)] at this; exact this, k2.out, k3.out⟩
                  case measure => simp [intOf]
              · rw [if_pos (by omega), if_pos (by omega)] at hP
                have hXn : dcB b X < n + 1 := by unfold dcB; split <;> omega
                have hYn : dcB b Y < n + 1 := by unfold dcB; split <;> omega
                generalize dcB b X = X1 at *
                generalize dcB b Y = Y1 at *
                clear hcq0 hcq1 hnn' hX45 hY45
                generalize wr = W2 at *
                have hK12 := hK1H.out.below hbe (by omega)
                have hK22 := hK2H.out.below hbe (by omega)
                have hown2 := own_below hownH.out hbe
                have hb2 := hbH.out.trans (hbe.mono (by omega))
                have hs2 := hbe.size
                have q0 : W2.cell? ⟨w.heap.size + 1 + 1, 0, none⟩ = some (.int .i64 n) := hK22.cell rfl
                have q1 : W2.cell? ⟨w.heap.size + 1 + 1, 1, none⟩ = some (.slice A1 acc.length c1) := hK22.cell rfl
                have p0 : W2.cell? ⟨W0.heap.size, 0, none⟩ = some (.int .i64 (X1 : Int)) := hP.cell rfl
                have p1 : W2.cell? ⟨W0.heap.size, 1, none⟩ = some (.int .i64 (Y1 : Int)) := hP.cell rfl
                have HN := Lib.hid (refNear_any n X1 Y1 A1 acc.length c1 acc W2 (Rd.of_own hown2) hm45 hacc.out)
                have g1 := Lib.hid hK12; have g2 := Lib.hid hK22; have g3 := Lib.hid hown2; have g4 := Lib.hid hb2; have g5 := Lib.hid hP
                clear hK12 hK22 hown2 hb2 hP hQ hbe hK1H hK2H hownH hbH
                cases hadj : adj acc X1 Y1
                · rw [hadj, if_neg (by simp)] at hsnH
                  rw [hadj] at HN
                  clear hadj
                  go_wp2_with fail
                  refine HN.out.mono ?_
                  rintro _ w3 ⟨rfl, hb3⟩
                  have hK13 := g1.out.below hb3 (by omega)
                  have hK23 := g2.out.below hb3 (by omega)
                  have hown3 := own_below g3.out hb3
                  have hb33 := g4.out.trans (hb3.mono (by omega))
                  have hs3 := hb3.size
                  have hP3 := g5.out.below hb3 (by have := g5.out.lt; omega)
                  have q1 : w3.cell? ⟨w.heap.size + 1 + 1, 1, none⟩ = some (.slice A1 acc.length c1) := hK23.cell rfl
                  have p0 : w3.cell? ⟨W0.heap.size, 0, none⟩ = some (.int .i64 (X1 : Int)) := hP3.cell rfl
                  have p1 : w3.cell? ⟨W0.heap.size, 1, none⟩ = some (.int .i64 (Y1 : Int)) := hP3.cell rfl
                  have p2 : w3.cell? ⟨W0.heap.size, 2, none⟩ = some (.int .i64 z) := hP3.cell rfl
                  have hfz := hK23.frozen 1
                  have hklt := hK23.lt
                  have k1 := Lib.hid hK13; have k2 := Lib.hid hK23; have k3 := Lib.hid hown3; have k4 := Lib.hid hb33
                  generalize hM : acc.length = m at *
                  have hMH := Lib.hid hM
                  clear g1 g2 g3 g4 g5 hb3 HN hK13 hK23 hown3 hb33 hP3 hM
                  go_wp2_with (at_builtin; refine wpList_app (s := .tmp 87) (x := .tmp 89) _ tiE (k3.out.alloc _) (rd_new3 _ (.int .i64 (X1 : Int)) (.int .i64 (Y1 : Int)) (.int .i64 z) 60) (ps3_one (l := [((X1 : Int), (Y1 : Int), z)])) (by omega) (by omega) (by simp; omega) rfl rfl rfl rfl ?_)
                  intro v' w4 hown' hg hat
                  obtain ⟨g', cap', rfl⟩ := ownsRow_succ hown'
                  have hne : ∀ j, j < w.heap.size + 3 → (some j : Option Nat) ≠ (Value.slice A1 m c1).ownBlock := fun j hj e => by
                    have := (k3.out.lt j e.symm).1
                    omega
                  have hK2' := (k2.out.alloc (.cells #[.int .i64 (X1 : Int), .int .i64 (Y1 : Int), .int .i64 z] 60)).kept hg (hne _ (by omega))
                  have hK1' := (k1.out.alloc (.cells #[.int .i64 (X1 : Int), .int .i64 (Y1 : Int), .int .i64 z] 60)).kept hg (hne _ (by omega))
                  have hb' : Below w.heap.size w w4 := (k4.out.alloc k4.out.size _).grown hg (by simp; omega) (fun g e => by have := (k3.out.lt g e).1; omega)
                  have hs4 := hg.size
                  simp only [World.size_alloc] at hs4
                  have hcv2 : w4.cell? ⟨w.heap.size + 1 + 1, 1, none⟩ = some (.slice A1 m c1) := hK2'.cell rfl
                  have hfz2 := hK2'.frozen 1
                  have hlt2 := hK2'.lt
                  have hown3 := own_set_other hown' (a := ⟨w.heap.size + 1 + 1, 1, none⟩) (by
                    intro e
                    have := (hown'.lt _ e).1
                    simp at this
                    omega) (.slice (some ⟨g', 0, none⟩) (m + 1) cap')
                  have hK13 := hK1'.other (a := ⟨w.heap.size + 1 + 1, 1, none⟩) (show w.heap.size + 1 ≠ w.heap.size + 1 + 1 by omega) (.slice (some ⟨g', 0, none⟩) (m + 1) cap')
                  have hK23 := hK2'.set 1 (.slice (some ⟨g', 0, none⟩) (m + 1) cap')
                  have hb3 := hb'.setCell (p := ⟨w.heap.size + 1 + 1, 1, none⟩) (show w.heap.size ≤ w.heap.size + 1 + 1 by omega) (.slice (some ⟨g', 0, none⟩) (m + 1) cap')
                  have h1 := Lib.hid hown3; have h2 := Lib.hid hK13; have h3 := Lib.hid hK23; have h4 := Lib.hid hb3
                  clear hown3 hK13 hK23 hb3 hb' hK1' hK2' hown' hg hat hne p0 p1 p2 q0 q1
                  go_wp2
                  go_roundw
                  case rel =>
                    refine ⟨k + 1, .slice (some ⟨g', 0, none⟩) (m + 1) cap', by omega, by go_num, ?_, h2.out, h3.out, h4.out, by simp; omega⟩
                    have h1 := h1.out
                    rw [hsnH.out, List.length_append, hMH.out]
                    rw [show ps3 .i64 .i64 .i64 (acc ++ [((X1 : Int), (Y1 : Int), z)]) = ps3 .i64 .i64 .i64 acc ++ [.int .i64 (X1 : Int), .int .i64 (Y1 : Int), .int .i64 z] by simp [ps3]]
                    exact h1
                  case measure => simp [intOf]; omega
                · rw [hadj, if_pos rfl] at hsnH
                  rw [hadj] at HN
                  clear hadj
                  go_wp2_with fail
                  refine HN.out.mono ?_
                  rintro _ w3 ⟨rfl, hb3⟩
                  have hK13 := Lib.hid (g1.out.below hb3 (by omega))
                  have hK23 := Lib.hid (g2.out.below hb3 (by omega))
                  have hown3 := Lib.hid (own_below g3.out hb3)
                  have hb33 := Lib.hid (g4.out.trans (hb3.mono (by omega)))
                  have hs3 := hb3.size
                  clear g1 g2 g3 g4 g5 hb3 HN p0 p1 q0 q1
                  go_wp2
                  go_roundw
                  case rel => exact ⟨k + 1, _, by omega, by go_num, by rw [hsnH.out]; exact hown3.out, hK13.out, hK23.out, hb33.out, by omega⟩
                  case measure => simp [intOf]; omega
    · have hke : es.take k = es := List.take_of_length_le (by have := helH.out; omega)
      rw [hke] at hown hK2 hm45
      have hc20 : W0.cell? ⟨w.heap.size + 1 + 1, 0, none⟩ = some (.int .i64 n) := hK2.cell rfl
      have hc21 : W0.cell? ⟨w.heap.size + 1 + 1, 1, none⟩ = some (.slice A1 (mergeE a b es).length c1) := hK2.cell rfl
      have hc10 : W0.cell? ⟨w.heap.size + 1, 0, none⟩ = some (.int .i64 0) := hK1.cell rfl
      have hc11 : W0.cell? ⟨w.heap.size + 1, 1, none⟩ = some (.slice none 0 0) := hK1.cell rfl
      have hf0 := hK1.frozen 0
      have hf1 := hK1.frozen 1
      have hl1 := hK1.lt
      have hownH := Lib.hid hown; have hbH := Lib.hid hb
      clear hown hK1 hK2 hb hA hB
      go_wp2
      have e0 : ((W0.setCell ⟨w.heap.size + 1, 0, none⟩ (.int .i64 n)).setCell ⟨w.heap.size + 1, 1, none⟩ (.slice A1 (mergeE a b es).length c1)).cell? ⟨w.heap.size + 1, 0, none⟩ = some (.int .i64 n) := (World.cell?_setCell_other _ _ _ _ (by intro e; injection e with _ e; omega)).trans (World.cell?_setCell_same _ _ _ hc10)
      have e1 : ((W0.setCell ⟨w.heap.size + 1, 0, none⟩ (.int .i64 n)).setCell ⟨w.heap.size + 1, 1, none⟩ (.slice A1 (mergeE a b es).length c1)).cell? ⟨w.heap.size + 1, 1, none⟩ = some (.slice A1 (mergeE a b es).length c1) := World.cell?_setCell_same _ _ _ ((World.cell?_setCell_other _ _ _ _ (by intro e; injection e with _ e; omega)).trans hc11)
      refine bodyPost_ret (v := .agg #[.int .i64 n, .slice A1 (mergeE a b es).length c1]) (by simp [results, Tryd.results26, go_sem, e0, e1]) rfl ?_
      have hne : ∀ o, (Value.slice A1 (mergeE a b es).length c1).ownBlock ≠ some (⟨w.heap.size + 1, o, none⟩ : Addr).block := fun o e => by
        have := (hownH.out.lt _ e).1
        simp at this
      exact ⟨A1, c1, rfl, Rd.of_own (own_set_other (own_set_other hownH.out (hne 0) _) (hne 1) _), own_cap hownH.out, (hbH.out.setCell (by simp) _).setCell (by simp) _⟩
end Go.Proofs.YtnpgnohnpbdblaaDoor
