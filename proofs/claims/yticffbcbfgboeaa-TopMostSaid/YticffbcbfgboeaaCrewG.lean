/- A whole script. -/
import Derived.Test.YticffbcbfgboeaaCrewF
import Derived.Laws.ResultCell
namespace Go.Proofs.Yticffbcbfgboeaa
open Go.RowKit Go.Shelf

theorem info_parts' {P : Program} {e : TypeId} {z : Value} {b : Nat} (h : (P.info? e).map (fun i => (i.zero, i.size, i.bytes)) = some (some z, 1, b)) : ∃ i, P.info? e = some i ∧ i.zero = some z ∧ i.size = 1 ∧ i.bytes = b := by
  cases hi : P.info? e with
  | none => rw [hi] at h; cases h
  | some i =>
    rw [hi] at h
    injection h with h
    simp only [Prod.mk.injEq] at h
    exact ⟨i, rfl, h.1, h.2.1, h.2.2⟩
theorem run_mkC {t e : TypeId} {z : Value} {bytes : Nat} (ht : Try.prog.underlying t = some (.slice e)) (hi : (Try.prog.info? e).map (fun i => (i.zero, i.size, i.bytes)) = some (some z, 1, bytes)) (hz1 : z.cells = #[z]) {N : Nat} (hN : N ≤ 12) (hb : bytes ≤ 24) (w : World) :
    (Instr.makeSlice t (.int .i64 (N : Int)) (.int .i64 (N : Int))).run Try.prog w = .ok (.slice (some ⟨w.heap.size, 0, none⟩) N N) (w.alloc (.cells (List.replicate N z).toArray e)) := by
  obtain ⟨i0, hi0, hz0, hs0, hb0⟩ := info_parts' hi
  have := run_make (P := Try.prog) w t e i0 z ht hi0 hz0 .i64 .i64 N N (by omega) (Int.le_refl _) (by
    rw [hb0]
    have : (bytes : Int) * (N : Int) ≤ 24 * 12 := by
      have h : bytes * N ≤ 24 * 12 := Nat.mul_le_mul hb hN
      exact_mod_cast h
    omega) (by omega)
  rw [this]
  congr 2
  rw [hs0, hz1, Int.toNat_natCast, Nat.mul_one]
  congr 1
  rw [← toList_madeCells_one z N]
theorem infoC : (Try.prog.info? 3).map (fun i => (i.zero, i.size, i.bytes)) = some (some (.int .i64 0), 1, 8) := by kernel_rfl
theorem infoS : (Try.prog.info? 29).map (fun i => (i.zero, i.size, i.bytes)) = some (some (.slice none 0 0), 1, 24) := by kernel_rfl
theorem own_lit_at {w : World} {B : Nat} {e : TypeId} (cs : List Value) {g n : Nat} (hg : g = w.heap.size) (hB : B ≤ w.heap.size) (hn : n ≤ 12) (hs : cs.length = n) : (w.alloc (.cells cs.toArray e)).ownsRow B e 1 (.slice (some ⟨g, 0, none⟩) n n) n cs := by
  subst hg
  simpa using World.ownsRow_lit (base := B) (e := e) (size := 1) w cs.toArray n hB (by unfold maxLen; omega) (by simpa using hs)
def initC (ns : Nat) : CS := ⟨0, List.replicate ns 0, List.replicate ns []⟩
theorem initC_ok (nw ns : Nat) : OkS nw ns (initC ns) := by
  have h0 : ∀ k, (List.replicate ns (0 : Int)).getD k 0 = 0 := fun k => by
    simp only [List.getD, List.getElem?_replicate]
    split <;> rfl
  refine ⟨Nat.two_pow_pos _, by simp [initC], fun k _ => by rw [show (initC ns).wants.getD k 0 = 0 from h0 k]; exact Int.le_refl _, ?_, by simp [initC], fun k _ => ?_⟩
  · rw [sumTo_congr (f := fun k => (initC ns).wants.getD k 0) (g := fun _ => 0) (fun k _ => h0 k)]
    have : ∀ m, sumTo (fun _ => (0 : Int)) m = 0 := by
      intro m
      induction m with
      | zero => rfl
      | succ m ih => rw [sumTo, ih]; rfl
    rw [this]; decide
  · show ((List.replicate ns ([] : List Int)).getD k []).length ≤ 12
    simp only [List.getD, List.getElem?_replicate]
    split <;> simp
theorem crew_start {cb ns : Nat} {vw vs : Value} {w : World} {gw gt : Nat} (hbk : Blk w cb 51 #[vw, vs, .slice none 0 0, .int .u32 0, .slice (some ⟨gw, 0, none⟩) ns ns, .slice (some ⟨gt, 0, none⟩) ns ns])
    (hw : w.ownsRow (cb + 1) 3 1 (.slice (some ⟨gw, 0, none⟩) ns ns) ns (List.replicate ns (.int .i64 0))) (ht : w.ownsRow (cb + 1) 29 1 (.slice (some ⟨gt, 0, none⟩) ns ns) ns (List.replicate ns (.slice none 0 0))) :
    CM cb ns vw vs (initC ns) [] (.slice none 0 0) (.slice (some ⟨gw, 0, none⟩) ns ns) (.slice (some ⟨gt, 0, none⟩) ns ns) (List.replicate ns (.slice none 0 0)) w := by
  have hv : ∀ k, k < ns → (List.replicate ns (Value.slice none 0 0)).getD k undef = .slice none 0 0 := fun k hk => by
    simp only [List.getD, List.getElem?_replicate, if_pos hk]; rfl
  have ht0 : ∀ k, k < ns → (initC ns).tasks.getD k [] = [] := fun k hk => by
    show (List.replicate ns ([] : List Int)).getD k [] = []
    simp only [List.getD, List.getElem?_replicate, if_pos hk]; rfl
  refine ⟨hbk, World.ownsRow_nil _ _ _ _, by simpa [initC, ints] using hw, ht, fun k hk => by rw [hv k hk, ht0 k hk]; exact World.ownsRow_nil _ _ _ _, fun k hk g hg => ?_, fun j k hj _ _ g hg => ?_⟩
  · rw [hv k hk] at hg; cases hg
  · rw [hv j hj] at hg; cases hg
def crew0 : Value := .agg #[.slice none 0 0, .int .u32 0, .slice none 0 0, .slice none 0 0]
set_option maxHeartbeats 1600000 in
theorem play_bad (A B C : Option Addr) (nw ns nc cA cB cC : Nat) (ws : List (Int × Int)) (w : World) (hA : Rd w A nw 2 (ps2 .i64 .u32 ws)) (hnw : nw ≤ 9223372036854775807) (hns : ns ≤ 9223372036854775807) (hbad : pchk ws ns ≠ 0) :
    Calls Try.prog 7 #[.slice A nw cA, .slice B ns cB, .slice C nc cC] w fun e w' => e = .returned (.tuple #[crew0, .int .i64 (pchk ws ns)]) ∧ Below w.heap.size w w' := by
  have hb0 := (Below.refl _ w).alloc (Nat.le_refl _) (.cells #[.slice none 0 0, .int .u32 0, .slice none 0 0, .slice none 0 0] 32)
  have HW := Lib.hid (pcheck_any A B nw ns cA cB ws _ (hA.later hb0) hnw hns)
  have hb : (pchk ws ns != 0) = true := bne_iff_ne.2 hbad
  have hbn := Blk.new w 32 #[.slice none 0 0, .int .u32 0, .slice none 0 0, .slice none 0 0]
  have hb0H := Lib.hid hb0; have hbnH := Lib.hid hbn
  clear hA hbad hb0 hbn
  generalize pchk ws ns = c at *
  unfold crew0
  go_enter Try.func7, Try.ntmps7
  go_wp2_with fail
  refine HW.out.mono ?_
  rintro e w1 ⟨rfl, hb1⟩
  have hb1H := Lib.hid hb1
  have bk1 := hbnH.out.below hb1 hbnH.out.lt
  have z0 := bk1.cell (j := 0) rfl; have z1 := bk1.cell (j := 1) rfl; have z2 := bk1.cell (j := 2) rfl; have z3 := bk1.cell (j := 3) rfl
  have f0 := bk1.frozen 0; have f1 := bk1.frozen 1; have f2 := bk1.frozen 2; have f3 := bk1.frozen 3
  have l1 := bk1.lt
  have hbb := hb0H.out.trans (hb1.mono hb0H.out.size)
  have hfin := Lib.hid ((((hbb.setCell (p := ⟨w.heap.size, 0, none⟩) (Nat.le_refl _) (.slice none 0 0)).setCell (p := ⟨w.heap.size, 1, none⟩) (Nat.le_refl _) (.int .u32 0)).setCell (p := ⟨w.heap.size, 2, none⟩) (Nat.le_refl _) (.slice none 0 0)).setCell (p := ⟨w.heap.size, 3, none⟩) (Nat.le_refl _) (.slice none 0 0))
  clear hb1 hbb HW
  go_wp2
  (try simp only [Exit.inBlock, Exit.then])
  refine bodyPost_ret (v := .tuple #[.agg #[.slice none 0 0, .int .u32 0, .slice none 0 0, .slice none 0 0], .int .i64 c]) ?_ rfl ⟨rfl, hfin.out⟩
  rw [results_cell_tmp rfl]
  go_simp
end Go.Proofs.Yticffbcbfgboeaa
