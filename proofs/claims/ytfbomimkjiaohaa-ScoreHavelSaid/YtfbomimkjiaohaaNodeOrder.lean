/- score.order: who needs more comes first, then the first one. -/
import Derived.Test.YtfbomimkjiaohaaLessI
import Derived.Test.YtfbomimkjiaohaaBel
import Derived.Test.YtfbomimkjiaohaaBlk
import Derived.Test.YtfbomimkjiaohaaLastW
import Derived.BigQuiet
namespace Go.Proofs.Ytfbomimkjiaohaa
open Go.RowKit

def cmpI (x y : Int) : Int := if x < y then -1 else if y < x then 1 else 0
theorem compareI_any (x y : Int) (w : World) : Calls Try.prog 21 #[.int .i64 x, .int .i64 y] w fun e w' => e = .returned (.int .i64 (cmpI x y)) ∧ w = w' := by
  have H1 := Lib.hid (fun x => nanI_any x w)
  have hr := Lib.hid (show cmpI x y = if x < y then -1 else if y < x then 1 else 0 from rfl)
  go_enter Try.func21, Try.ntmps21
  go_wp2_with fail
  refine (H1.out x).mono ?_
  rintro _ _ ⟨rfl, rfl⟩
  go_wp2_with fail
  refine (H1.out y).mono ?_
  rintro _ _ ⟨rfl, rfl⟩
  by_cases h1 : x < y
  · have e := Lib.hid (show cmpI x y = -1 from by rw [hr.out, if_pos h1])
    go_wp2_with fail
    go_ret
    exact ⟨by rw [e.out]; rfl, rfl⟩
  · by_cases h2 : y < x
    · have e := Lib.hid (show cmpI x y = 1 from by rw [hr.out, if_neg h1, if_pos h2])
      go_wp2_with fail
      go_ret
      exact ⟨by rw [e.out]; rfl, rfl⟩
    · have e := Lib.hid (show cmpI x y = 0 from by rw [hr.out, if_neg h1, if_neg h2])
      go_wp2_with fail
      go_ret
      exact ⟨by rw [e.out]; rfl, rfl⟩
def orI (x y : Int) : Int := if x = 0 then y else x
theorem or_any (b c : Nat) (x y : Int) (w : World) (c0 : w.cell? ⟨b, 0, none⟩ = some (.int .i64 x)) (c1 : w.cell? ⟨b, 1, none⟩ = some (.int .i64 y)) :
    Calls Try.prog 20 #[.slice (some ⟨b, 0, none⟩) 2 c] w fun e w' => e = .returned (.int .i64 (orI x y)) ∧ w = w' := by
  have hd := Lib.hid (show orI x y = if x = 0 then y else x from rfl)
  go_enter Try.func20, Try.ntmps20
  go_wp2
  go_loop [8] (fun kv => kv = .int .i64 0 ∨ (kv = .int .i64 1 ∧ x = 0) ∨ (kv = .int .i64 2 ∧ x = 0 ∧ y = 0)) (fun kv => 2 - (intOf kv).toNat)
  case atStart => exact .inl rfl
  case round =>
    rcases hrel with rfl | ⟨rfl, hx⟩ | ⟨rfl, hx, hy⟩
    · by_cases h0 : x = 0
      · have hb : (x != 0) = false := by simp [h0]
        have h0H := Lib.hid h0
        clear h0
        go_wp2
        go_round
        case rel => exact .inr (.inl ⟨rfl, h0H.out⟩)
        case measure => simp [intOf]
      · have hb : (x != 0) = true := bne_iff_ne.2 h0
        have e := Lib.hid (show orI x y = x from by rw [hd.out, if_neg h0])
        clear h0
        go_wp2
        go_ret
        exact ⟨by rw [e.out]; rfl, rfl⟩
    · have hxH := Lib.hid hx
      clear hx
      by_cases h0 : y = 0
      · have hb : (y != 0) = false := by simp [h0]
        have h0H := Lib.hid h0
        clear h0
        go_wp2
        go_round
        case rel => exact .inr (.inr ⟨rfl, hxH.out, h0H.out⟩)
        case measure => simp [intOf]
      · have hb : (y != 0) = true := bne_iff_ne.2 h0
        have e := Lib.hid (show orI x y = y from by rw [hd.out, if_pos hxH.out])
        clear h0
        go_wp2
        go_ret
        exact ⟨by rw [e.out]; rfl, rfl⟩
    · have e := Lib.hid (show orI x y = 0 from by rw [hd.out, if_pos hx, hy])
      clear hx hy
      go_wp2
      go_ret
      exact ⟨by rw [e.out]; rfl, rfl⟩
/-- the key: who needs more first, then the first one -/
def KO (p : Int × Int) : Int := p.2 * 100 - p.1
def ordV (a b : Int × Int) : Int := orI (cmpI b.2 a.2) (cmpI a.1 b.1)
theorem ordV_lt {a b : Int × Int} (ha : 0 ≤ a.1 ∧ a.1 < 10) (hb : 0 ≤ b.1 ∧ b.1 < 10) : ordV a b < 0 ↔ KO b < KO a := by
  unfold ordV orI cmpI KO
  split <;> split <;> (try split) <;> (try split) <;> omega
set_option maxHeartbeats 1600000 in
set_option linter.unusedSimpArgs false in
theorem order_any (a b : Int × Int) (w : World) : Calls Try.prog 15 #[.agg #[.int .i64 a.1, .int .i64 a.2], .agg #[.int .i64 b.1, .int .i64 b.2]] w fun e w' => e = .returned (.int .i64 (ordV a b)) ∧ Below w.heap.size w w' := by
  obtain ⟨a1, a2⟩ := a
  obtain ⟨b1, b2⟩ := b
  have hv := Lib.hid (show ordV (a1, a2) (b1, b2) = orI (cmpI b2 a2) (cmpI a1 b1) from rfl)
  have hb1 := (Below.refl _ w).alloc (Nat.le_refl _) (.cells #[.int .i64 a1, .int .i64 a2] 43)
  have hb2 := hb1.alloc (by simp) (.cells #[.int .i64 b1, .int .i64 b2] 43)
  have k1 := (Blk.new w 43 #[.int .i64 a1, .int .i64 a2]).alloc (.cells #[.int .i64 b1, .int .i64 b2] 43)
  have k2 := Blk.new (w.alloc (.cells #[.int .i64 a1, .int .i64 a2] 43)) 43 #[.int .i64 b1, .int .i64 b2]
  rw [World.size_alloc] at k2
  have c0 := k1.cell (j := 0) rfl; have c1 := k1.cell (j := 1) rfl; have c2 := k2.cell (j := 0) rfl; have c3 := k2.cell (j := 1) rfl
  dsimp only
  clear hb1 k1 k2
  go_enter Try.func15, Try.ntmps15
  go_upto_region 1 with fail
  generalize (w.alloc (.cells #[.int .i64 a1, .int .i64 a2] 43)).alloc (.cells #[.int .i64 b1, .int .i64 b2] 43) = w1 at *
  refine region_last (fun w' => w'.cell? ⟨w.heap.size, 0, none⟩ = some (.int .i64 a1) ∧ w'.cell? ⟨w.heap.size, 1, none⟩ = some (.int .i64 a2) ∧ w'.cell? ⟨w.heap.size + 1, 0, none⟩ = some (.int .i64 b1) ∧ w'.cell? ⟨w.heap.size + 1, 1, none⟩ = some (.int .i64 b2) ∧ Below w.heap.size w w') (by kernel_rfl) rfl (by kernel_rfl) ⟨c0, c1, c2, c3, hb2.drew⟩ (fun hHeld => ?_)
  dsimp only [List.dropLast]
  clear c0 c1 c2 c3 hb2
  (refine wpAnyH_take (i := 0) (v := ?_) rfl (by kernel_rfl) (by kernel_rfl) (by kernel_rfl) (fun _ _ _ h => h) (Or.inl ⟨by rfl, ?_⟩) hHeld ?_; rotate_left; first | (intro w' hSw; go_simp; done) | (intro w' hSw; go_simp; with_reducible rfl))
  simp only [Act.put, List.getElem_toArray, List.getElem_cons_zero, List.getElem_cons_succ, List.setIfInBounds_toArray, List.set_cons_zero, List.set_cons_succ]
  (refine wpAnyH_take (i := 1) (v := ?_) rfl (by kernel_rfl) (by kernel_rfl) (by kernel_rfl) (fun _ _ _ h => h) (Or.inl ⟨by rfl, ?_⟩) hHeld ?_; rotate_left; first | (intro w' hSw; (have hq := hSw.2.2.2.1); go_simp; done) | (intro w' hSw; (have hq := hSw.2.2.2.1); go_simp; with_reducible rfl))
  simp only [Act.put, List.getElem_toArray, List.getElem_cons_zero, List.getElem_cons_succ, List.setIfInBounds_toArray, List.set_cons_zero, List.set_cons_succ]
  (refine wpAnyH_take (i := 2) (v := ?_) rfl (by kernel_rfl) (by kernel_rfl) (by kernel_rfl) (fun _ _ _ h => h) (Or.inl ⟨by rfl, ?_⟩) hHeld ?_; rotate_left; first | (intro w' hSw; go_simp; done) | (intro w' hSw; go_simp; with_reducible rfl))
  simp only [Act.put, List.getElem_toArray, List.getElem_cons_zero, List.getElem_cons_succ, List.setIfInBounds_toArray, List.set_cons_zero, List.set_cons_succ]
  (refine wpAnyH_take (i := 3) (v := ?_) rfl (by kernel_rfl) (by kernel_rfl) (by kernel_rfl) (fun _ _ _ h => h) (Or.inl ⟨by rfl, ?_⟩) hHeld ?_; rotate_left; first | (intro w' hSw; (have hq := hSw.2.1); go_simp; done) | (intro w' hSw; (have hq := hSw.2.1); go_simp; with_reducible rfl))
  simp only [Act.put, List.getElem_toArray, List.getElem_cons_zero, List.getElem_cons_succ, List.setIfInBounds_toArray, List.set_cons_zero, List.set_cons_succ]
  (refine wpAnyH_take (i := 5) (v := ?_) rfl (by kernel_rfl) (by kernel_rfl) (by kernel_rfl) (fun _ _ _ h => h) (Or.inl ⟨by rfl, ?_⟩) hHeld ?_; rotate_left; first | (intro w' hSw; go_simp; done) | (intro w' hSw; go_simp; with_reducible rfl))
  simp only [Act.put, List.getElem_toArray, List.getElem_cons_zero, List.getElem_cons_succ, List.setIfInBounds_toArray, List.set_cons_zero, List.set_cons_succ]
  (refine wpAnyH_take (i := 6) (v := ?_) rfl (by kernel_rfl) (by kernel_rfl) (by kernel_rfl) (fun _ _ _ h => h) (Or.inl ⟨by rfl, ?_⟩) hHeld ?_; rotate_left; first | (intro w' hSw; (have hq := hSw.1); go_simp; done) | (intro w' hSw; (have hq := hSw.1); go_simp; with_reducible rfl))
  simp only [Act.put, List.getElem_toArray, List.getElem_cons_zero, List.getElem_cons_succ, List.setIfInBounds_toArray, List.set_cons_zero, List.set_cons_succ]
  (refine wpAnyH_take (i := 7) (v := ?_) rfl (by kernel_rfl) (by kernel_rfl) (by kernel_rfl) (fun _ _ _ h => h) (Or.inl ⟨by rfl, ?_⟩) hHeld ?_; rotate_left; first | (intro w' hSw; go_simp; done) | (intro w' hSw; go_simp; with_reducible rfl))
  simp only [Act.put, List.getElem_toArray, List.getElem_cons_zero, List.getElem_cons_succ, List.setIfInBounds_toArray, List.set_cons_zero, List.set_cons_succ]
  (refine wpAnyH_take (i := 8) (v := ?_) rfl (by kernel_rfl) (by kernel_rfl) (by kernel_rfl) (fun _ _ _ h => h) (Or.inl ⟨by rfl, ?_⟩) hHeld ?_; rotate_left; first | (intro w' hSw; (have hq := hSw.2.2.1); go_simp; done) | (intro w' hSw; (have hq := hSw.2.2.1); go_simp; with_reducible rfl))
  simp only [Act.put, List.getElem_toArray, List.getElem_cons_zero, List.getElem_cons_succ, List.setIfInBounds_toArray, List.set_cons_zero, List.set_cons_succ]
  refine wpAnyH_ready (rs := [4]) (by kernel_rfl) (by simp) ?_
  refine AllReadyH.cons rfl (fun K hK => ?_) AllReadyH.nil
  go_simp
  refine (compareI_any _ _ _).mono ?_
  rintro _ _ ⟨rfl, rfl⟩
  refine hK.out _ _ hHeld (fun hHeld => ?_)
  clear hK K
  (try simp only [Act.put, List.getElem_toArray, List.getElem_cons_zero, List.getElem_cons_succ, List.setIfInBounds_toArray, List.set_cons_zero, List.set_cons_succ])
  refine wpAnyH_ready (rs := [9]) (by kernel_rfl) (by simp) ?_
  refine AllReadyH.cons rfl (fun K hK => ?_) AllReadyH.nil
  go_simp
  refine (compareI_any _ _ _).mono ?_
  rintro _ _ ⟨rfl, rfl⟩
  refine hK.out _ _ hHeld (fun hHeld => ?_)
  clear hK K
  (try simp only [Act.put, List.getElem_toArray, List.getElem_cons_zero, List.getElem_cons_succ, List.setIfInBounds_toArray, List.set_cons_zero, List.set_cons_succ])
  generalize cmpI b2 a2 = x at *
  generalize cmpI a1 b1 = y at *
  refine wpAnyH_ready (rs := [10]) (by kernel_rfl) (by simp) ?_
  refine AllReadyH.cons rfl (fun K hK => ?_) AllReadyH.nil
  go_simp
  have hb3 := hHeld.2.2.2.2.alloc hHeld.2.2.2.2.size (.cells #[.int .i64 x, .int .i64 y] 3)
  refine hK.out _ _ ⟨alloc_cell (World.block_lt_of_cell? _ _ hHeld.1) hHeld.1 _, alloc_cell (World.block_lt_of_cell? _ _ hHeld.2.1) hHeld.2.1 _, alloc_cell (World.block_lt_of_cell? _ _ hHeld.2.2.1) hHeld.2.2.1 _, alloc_cell (World.block_lt_of_cell? _ _ hHeld.2.2.2.1) hHeld.2.2.2.1 _, hb3⟩ (fun hHeld => ?_)
  clear hK K
  (try simp only [Act.put, List.getElem_toArray, List.getElem_cons_zero, List.getElem_cons_succ, List.setIfInBounds_toArray, List.set_cons_zero, List.set_cons_succ])
  have HO := or_any w1.drew.heap.size 2 x y (w1.drew.alloc (.cells #[.int .i64 x, .int .i64 y] 3)) (by go_simp) (by go_simp)
  have HOH := Lib.hid HO
  clear HO
  refine wpAnyH_ready (rs := [11]) (by kernel_rfl) (by simp) ?_
  refine AllReadyH.cons rfl (fun K hK => ?_) AllReadyH.nil
  go_simp
  refine HOH.out.mono ?_
  rintro _ _ ⟨rfl, rfl⟩
  refine hK.out _ _ hHeld (fun hHeld => ?_)
  clear hK K HOH
  (try simp only [Act.put, List.getElem_toArray, List.getElem_cons_zero, List.getElem_cons_succ, List.setIfInBounds_toArray, List.set_cons_zero, List.set_cons_succ])
  refine wpAnyH_done (by kernel_rfl) ?_ _
  have hfin := Lib.hid hHeld.2.2.2.2
  show Oper.wp _ _ _ _ _ _
  go_simp
  go_wp2
  go_ret
  exact ⟨by rw [hv.out]; rfl, hfin.out⟩
end Go.Proofs.Ytfbomimkjiaohaa
