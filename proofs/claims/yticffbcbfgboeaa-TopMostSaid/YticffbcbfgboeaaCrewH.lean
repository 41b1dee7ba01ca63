/- A whole script: Play. -/
import Derived.Test.YticffbcbfgboeaaCrewG
namespace Go.Proofs.Yticffbcbfgboeaa
open Go.RowKit Go.Shelf

set_option maxHeartbeats 1600000 in
theorem play_big (A B C : Option Addr) (nw ns nc cA cB cC : Nat) (ws : List (Int × Int)) (w : World) (hA : Rd w A nw 2 (ps2 .i64 .u32 ws)) (hok : pchk ws ns = 0) (hnc : 64 < nc) (hncm : nc ≤ 9223372036854775807) :
    Calls Try.prog 7 #[.slice A nw cA, .slice B ns cB, .slice C nc cC] w fun e w' => e = .returned (.tuple #[crew0, .int .i64 1]) ∧ Below w.heap.size w w' := by
  obtain ⟨hn6, hn12, _⟩ := pchk_ok hok
  have hwl : ws.length = nw := by have := hA.1; rw [ps2_length] at this; omega
  have hb0 := (Below.refl _ w).alloc (Nat.le_refl _) (.cells #[.slice none 0 0, .int .u32 0, .slice none 0 0, .slice none 0 0] 32)
  have HW := Lib.hid (pcheck_any A B nw ns cA cB ws _ (hA.later hb0) (by omega) (by omega))
  rw [hok] at HW
  have hbn := Blk.new w 32 #[.slice none 0 0, .int .u32 0, .slice none 0 0, .slice none 0 0]
  have hb0H := Lib.hid hb0; have hbnH := Lib.hid hbn
  have hd : decide ((64 : Int) < nc) = true := decide_eq_true (by omega)
  clear hA hok hb0 hbn hwl
  unfold crew0
  go_enter Try.func7, Try.ntmps7
  go_wp2_with fail
  refine HW.out.mono ?_
  rintro e w1 ⟨rfl, hb1⟩
  have bk1 := hbnH.out.below hb1 hbnH.out.lt
  have z0 := bk1.cell (j := 0) rfl; have z1 := bk1.cell (j := 1) rfl; have z2 := bk1.cell (j := 2) rfl; have z3 := bk1.cell (j := 3) rfl
  have f0 := bk1.frozen 0; have f1 := bk1.frozen 1; have f2 := bk1.frozen 2; have f3 := bk1.frozen 3
  have l1 := bk1.lt
  have hbb := hb0H.out.trans (hb1.mono hb0H.out.size)
  have hfin := Lib.hid ((((hbb.setCell (p := ⟨w.heap.size, 0, none⟩) (Nat.le_refl _) (.slice none 0 0)).setCell (p := ⟨w.heap.size, 1, none⟩) (Nat.le_refl _) (.int .u32 0)).setCell (p := ⟨w.heap.size, 2, none⟩) (Nat.le_refl _) (.slice none 0 0)).setCell (p := ⟨w.heap.size, 3, none⟩) (Nat.le_refl _) (.slice none 0 0))
  clear hb1 hbb HW
  go_wp2
  (try simp only [Exit.inBlock, Exit.then])
  refine bodyPost_ret (v := .tuple #[.agg #[.slice none 0 0, .int .u32 0, .slice none 0 0, .slice none 0 0], .int .i64 1]) ?_ rfl ⟨rfl, hfin.out⟩
  rw [results_cell_tmp rfl]
  go_simp
/-- what Play leaves in memory -/
structure PM (n₀ ns : Nat) (s : CS) (cs : List Int) (vC vW vT : Value) (tv : List Value) (W : World) : Prop where
  co : W.ownsRow n₀ 33 1 vC cs.length (ints .i64 cs)
  wa : W.ownsRow n₀ 3 1 vW ns (ints .i64 s.wants)
  ta : W.ownsRow n₀ 29 1 vT ns tv
  tk : ∀ k, k < ns → W.ownsRow n₀ 3 1 (tv.getD k undef) (s.tasks.getD k []).length (ints .i64 (s.tasks.getD k []))
def CutC (n₀ cb ns : Nat) (vw vs : Value) (w : World) (wx : World) : Prop := ∃ vW vT, CM cb ns vw vs (initC ns) [] (.slice none 0 0) vW vT (List.replicate ns (.slice none 0 0)) wx ∧ Below n₀ w wx ∧ Blk wx n₀ 32 #[.slice none 0 0, .int .u32 0, .slice none 0 0, .slice none 0 0]
theorem tiEc : TI Try.prog 27 33 (.int .i64 0) 1 8 := TI.mk' Try.underlying27 (by kernel_rfl) rfl (by decide)
/-- one code more -/
theorem CM.putC {cb ns : Nat} {vw vs : Value} {s : CS} {cs cs' : List Int} {vC vW vT : Value} {tv : List Value} {W W' : World} (h : CM cb ns vw vs s cs vC vW vT tv W) {vC' : Value} (hg : W.grownBy W' vC.ownBlock) (ho : W'.ownsRow (cb + 1) 33 1 vC' cs'.length (ints .i64 cs')) :
    CM cb ns vw vs s cs' vC' vW vT tv (W'.setCell ⟨cb, 2, none⟩ vC') := by
  have hs := grown_setA W' cb 2 vC'
  have a1 : ∀ {e n : Nat} {v : Value} {xs : List Value}, W.ownsRow (cb + 1) e 1 v n xs → e ≠ 33 → (W'.setCell ⟨cb, 2, none⟩ vC').ownsRow (cb + 1) e 1 v n xs := fun ho1 hne =>
    own_apart (own_apart ho1 hg (fun q hq e => own_types ho1 h.co hne hq e)) hs (fun q hq e => by
      have := (ho1.lt q hq).1
      cases e; omega)
  have hcb : some cb ≠ vC.ownBlock := fun e => by have := (h.co.lt cb e.symm).1; omega
  exact ⟨(h.bk.kept hg hcb).set 2 vC', own_apart ho hs (fun q hq e => by have := (ho.lt q hq).1; cases e; omega), a1 h.wa (by decide), a1 h.ta (by decide), fun k hk => a1 (h.tk k hk) (by decide), h.dw, h.dt⟩
theorem own_rep {w : World} {B : Nat} {e : TypeId} (v : Value) {g n : Nat} (hg : g = w.heap.size) (hB : B ≤ w.heap.size) (hn : n ≤ 12) : (w.alloc (.cells (Array.replicate n v) e)).ownsRow B e 1 (.slice (some ⟨g, 0, none⟩) n n) n (List.replicate n v) := by
  have := own_lit_at (w := w) (B := B) (e := e) (List.replicate n v) hg hB hn (by simp)
  rwa [List.toArray_replicate] at this
theorem cut1 {n₀ cb ns : Nat} {A B : Value} {w w2 : World} (hbk : Blk w2 cb 51 #[A, B, .slice none 0 0, .int .u32 0, .slice none 0 0, .slice none 0 0]) (hn : Blk w2 n₀ 32 #[.slice none 0 0, .int .u32 0, .slice none 0 0, .slice none 0 0]) (hne : n₀ < cb) (hs : w2.heap.size = cb + 1) (hb : Below n₀ w w2) (h12 : ns ≤ 12) :
    CutC n₀ cb ns A B w ((((w2.setCell ⟨cb, 4, none⟩ (.slice (some ⟨cb + 1, 0, none⟩) ns ns)).setCell ⟨cb, 5, none⟩ (.slice (some ⟨cb + 1 + 1, 0, none⟩) ns ns)).alloc (.cells (Array.replicate ns (.int .i64 0)) 3)).alloc (.cells (Array.replicate ns (.slice none 0 0)) 29)).drew := by
  have s0 : ((w2.setCell ⟨cb, 4, none⟩ (.slice (some ⟨cb + 1, 0, none⟩) ns ns)).setCell ⟨cb, 5, none⟩ (.slice (some ⟨cb + 1 + 1, 0, none⟩) ns ns)).heap.size = cb + 1 := by simp [hs]
  have b1 := (((hbk.set 4 (.slice (some ⟨cb + 1, 0, none⟩) ns ns)).set 5 (.slice (some ⟨cb + 1 + 1, 0, none⟩) ns ns)).alloc (.cells (Array.replicate ns (.int .i64 0)) 3)).alloc (.cells (Array.replicate ns (.slice none 0 0)) 29)
  have b0 := (((hn.other (a := ⟨cb, 4, none⟩) (by show n₀ ≠ cb; omega) (.slice (some ⟨cb + 1, 0, none⟩) ns ns)).other (a := ⟨cb, 5, none⟩) (by show n₀ ≠ cb; omega) (.slice (some ⟨cb + 1 + 1, 0, none⟩) ns ns)).alloc (.cells (Array.replicate ns (.int .i64 0)) 3)).alloc (.cells (Array.replicate ns (.slice none 0 0)) 29)
  have hb1 := (((hb.setCell (p := ⟨cb, 4, none⟩) (by show n₀ ≤ cb; omega) (.slice (some ⟨cb + 1, 0, none⟩) ns ns)).setCell (p := ⟨cb, 5, none⟩) (by show n₀ ≤ cb; omega) (.slice (some ⟨cb + 1 + 1, 0, none⟩) ns ns)).alloc (by simp; omega) (.cells (Array.replicate ns (.int .i64 0)) 3)).alloc (by simp; omega) (.cells (Array.replicate ns (.slice none 0 0)) 29)
  exact ⟨_, _, crew_start b1 ((own_rep (.int .i64 0) (by rw [s0]) (by rw [s0]; omega) h12).alloc _) (own_rep (.slice none 0 0) (by rw [World.size_alloc, s0]) (by rw [World.size_alloc, s0]; omega) h12), hb1.drew, b0⟩
theorem cut2 {n₀ cb ns : Nat} {A B : Value} {w w2 : World} (hbk : Blk w2 cb 51 #[A, B, .slice none 0 0, .int .u32 0, .slice none 0 0, .slice none 0 0]) (hn : Blk w2 n₀ 32 #[.slice none 0 0, .int .u32 0, .slice none 0 0, .slice none 0 0]) (hne : n₀ < cb) (hs : w2.heap.size = cb + 1) (hb : Below n₀ w w2) (h12 : ns ≤ 12) :
    CutC n₀ cb ns A B w ((((w2.setCell ⟨cb, 4, none⟩ (.slice (some ⟨cb + 1 + 1, 0, none⟩) ns ns)).setCell ⟨cb, 5, none⟩ (.slice (some ⟨cb + 1, 0, none⟩) ns ns)).alloc (.cells (Array.replicate ns (.slice none 0 0)) 29)).alloc (.cells (Array.replicate ns (.int .i64 0)) 3)).drew := by
  have s0 : ((w2.setCell ⟨cb, 4, none⟩ (.slice (some ⟨cb + 1 + 1, 0, none⟩) ns ns)).setCell ⟨cb, 5, none⟩ (.slice (some ⟨cb + 1, 0, none⟩) ns ns)).heap.size = cb + 1 := by simp [hs]
  have b1 := (((hbk.set 4 (.slice (some ⟨cb + 1 + 1, 0, none⟩) ns ns)).set 5 (.slice (some ⟨cb + 1, 0, none⟩) ns ns)).alloc (.cells (Array.replicate ns (.slice none 0 0)) 29)).alloc (.cells (Array.replicate ns (.int .i64 0)) 3)
  have b0 := (((hn.other (a := ⟨cb, 4, none⟩) (by show n₀ ≠ cb; omega) (.slice (some ⟨cb + 1 + 1, 0, none⟩) ns ns)).other (a := ⟨cb, 5, none⟩) (by show n₀ ≠ cb; omega) (.slice (some ⟨cb + 1, 0, none⟩) ns ns)).alloc (.cells (Array.replicate ns (.slice none 0 0)) 29)).alloc (.cells (Array.replicate ns (.int .i64 0)) 3)
  have hb1 := (((hb.setCell (p := ⟨cb, 4, none⟩) (by show n₀ ≤ cb; omega) (.slice (some ⟨cb + 1 + 1, 0, none⟩) ns ns)).setCell (p := ⟨cb, 5, none⟩) (by show n₀ ≤ cb; omega) (.slice (some ⟨cb + 1, 0, none⟩) ns ns)).alloc (by simp; omega) (.cells (Array.replicate ns (.slice none 0 0)) 29)).alloc (by simp; omega) (.cells (Array.replicate ns (.int .i64 0)) 3)
  exact ⟨_, _, crew_start b1 (own_rep (.int .i64 0) (by rw [World.size_alloc, s0]) (by rw [World.size_alloc, s0]; omega) h12) ((own_rep (.slice none 0 0) (by rw [s0]) (by rw [s0]; omega) h12).alloc _), hb1.drew, b0⟩
set_option maxHeartbeats 3200000 in
set_option maxRecDepth 100000 in
set_option linter.unusedSimpArgs false in
theorem play_ok (pl : List (Int × Int) → List Nat → List Int) (hpl : ∀ (ws : List (Int × Int)) (ts : List Nat) (n : Nat) (room : Nat → Int) (t : Int) (l : List Int), n = ts.length → Gr (PDm ws ts (rms ws)) n room t l → l = pl ws ts)
    (A B C : Option Addr) (nw ns nc cA cB cC : Nat) (ws : List (Int × Int)) (ss : List Nat) (xs : List Chg) (w : World) (hA : Rd w A nw 2 (ps2 .i64 .u32 ws)) (hB : Rd w B ns 1 (wds ss)) (hC : Rd w C nc 3 (ps3 .i64 .i64 .i64 xs)) (hok : pchk ws ns = 0) (hnc : nc ≤ 64) :
    Calls Try.prog 7 #[.slice A nw cA, .slice B ns cB, .slice C nc cC] w fun e w' => ∃ vC vW vT tv, e = .returned (.tuple #[.agg #[vC, .int .u32 ((runS pl ws ss xs (initC ns)).inn : Int), vW, vT], .int .i64 0]) ∧ PM w.heap.size ns (runS pl ws ss xs (initC ns)) (runC pl ws ss xs (initC ns)) vC vW vT tv w' ∧ Below w.heap.size w w' := by
  obtain ⟨hn6, hn12, _⟩ := pchk_ok hok
  have hwl : ws.length = nw := by have := hA.1; rw [ps2_length] at this; omega
  have hsl : ss.length = ns := by have := hB.1; rw [wds_length] at this; omega
  have hxl : xs.length = nc := by have := hC.1; rw [ps3_length] at this; omega
  have hb0 := (Below.refl _ w).alloc (Nat.le_refl _) (.cells #[.slice none 0 0, .int .u32 0, .slice none 0 0, .slice none 0 0] 32)
  have HW := Lib.hid (pcheck_any A B nw ns cA cB ws _ (hA.later hb0) (by omega) (by omega))
  rw [hok] at HW
  have hbn := Blk.new w 32 #[.slice none 0 0, .int .u32 0, .slice none 0 0, .slice none 0 0]
  have hb0H := Lib.hid hb0; have hbnH := Lib.hid hbn
  have hd : decide ((64 : Int) < nc) = false := decide_eq_false (by omega)
  have hAH := Lib.hid hA; have hBH := Lib.hid hB; have hCH := Lib.hid hC; have hokH := Lib.hid hok; have hwlH := Lib.hid hwl; have hslH := Lib.hid hsl; have hxlH := Lib.hid hxl; have hplH := Lib.hid hpl
  clear hA hB hC hok hb0 hbn hwl hsl hxl hpl
  go_enter Try.func7, Try.ntmps7
  go_wp2_with fail
  refine HW.out.mono ?_
  rintro e w1 ⟨rfl, hb1⟩
  have bk1 := hbnH.out.below hb1 hbnH.out.lt
  have l1 := bk1.lt
  have hbb := hb0H.out.trans (hb1.mono hb0H.out.size)
  have bk2 := bk1.alloc (.cells #[.slice A nw cA, .slice B ns cB, .slice none 0 0, .int .u32 0, .slice none 0 0, .slice none 0 0] 51)
  have hb2 := hbb.alloc (Nat.le_of_lt l1) (.cells #[.slice A nw cA, .slice B ns cB, .slice none 0 0, .int .u32 0, .slice none 0 0, .slice none 0 0] 51)
  have bc2 := Blk.new w1 51 #[.slice A nw cA, .slice B ns cB, .slice none 0 0, .int .u32 0, .slice none 0 0, .slice none 0 0]
  have hsz2 : (w1.alloc (.cells #[.slice A nw cA, .slice B ns cB, .slice none 0 0, .int .u32 0, .slice none 0 0, .slice none 0 0] 51)).heap.size = w1.heap.size + 1 := by simp
  have bk2H := Lib.hid bk2; have hb2H := Lib.hid hb2; have bc2H := Lib.hid bc2
  have hmf := fun w => run_mkC (t := 29) Try.underlying29 infoC rfl hn12 (by omega) w
  have hmh := fun w => run_mkC (t := 30) Try.underlying30 infoS rfl hn12 (by omega) w
  clear hb1 hbb HW bk1 bk2 hb2 bc2 hb0H hbnH
  go_upto_region 7 with fail
  generalize w1.alloc (.cells #[.slice A nw cA, .slice B ns cB, .slice none 0 0, .int .u32 0, .slice none 0 0, .slice none 0 0] 51) = w2 at *
  generalize hcbe : w1.heap.size = cb at *
  have d4 := bc2H.out.cell (j := 4) rfl; have d5 := bc2H.out.cell (j := 5) rfl
  have e4 := bc2H.out.frozen 4; have e5 := bc2H.out.frozen 5
  go_cut [9] (fun p wx => p = .pointer (some ⟨cb, 0, none⟩) ∧ CutC w.heap.size cb ns (.slice A nw cA) (.slice B ns cB) w wx)
  case first =>
    go_region
    all_goals go_wp2_with fail
    all_goals go_meet
    · exact ⟨rfl, cut1 bc2H.out bk2H.out (by omega) (by omega) hb2H.out hn12⟩
    · exact ⟨rfl, cut2 bc2H.out bk2H.out (by omega) (by omega) hb2H.out hn12⟩
  case rest =>
    obtain ⟨rfl, vW, vT, hM, hb, hbn⟩ := hcut
    clear hmf hmh d4 d5 e4 e5 bk2H hb2H bc2H hsz2
    have hMH := Lib.hid hM; have hbH := Lib.hid hb; have hbnH := Lib.hid hbn
    clear hM hb hbn
    have hcb : w.heap.size < cb := by omega
    go_wp2
    go_loopw [11, 43, 45, 46, 47, 48, 49, 50, 51, 52, 53, 54, 55, 56, 57, 58, 59, 60] (fun _ i _ _ _ _ _ _ _ _ _ _ _ _ _ _ _ _ wr => ∃ (k : Nat) (vC : Value) (tv : List Value), k ≤ nc ∧ i = .int .i64 k ∧ CM cb ns (.slice A nw cA) (.slice B ns cB) (runS pl ws ss (xs.take k) (initC ns)) (runC pl ws ss (xs.take k) (initC ns)) vC vW vT tv wr ∧ Below cb wc wr) (fun _ i _ _ _ _ _ _ _ _ _ _ _ _ _ _ _ _ _ => nc - (intOf i).toNat)
    case atStart => exact ⟨0, _, _, Nat.zero_le _, rfl, hMH.out, Below.refl _ _⟩
    case round =>
      obtain ⟨wo, rfl⟩ : ∃ wo : World, wo = wr := ⟨_, rfl⟩
      obtain ⟨k, vC, tv, hk, rfl, hM, hb⟩ := hrel
      have hb0 := hbH.out.trans (hb.mono (Nat.le_of_lt hcb))
      by_cases hlt : k < nc
      · obtain ⟨bs, os, rfl, hbs, s0, s1, s2⟩ := (hCH.out.later hb0).triple hlt
        have hOk : ∀ (l : List Chg) (s : CS), OkS nw ns s → OkS nw ns (runS pl ws ss l s) := fun l => by
          induction l with
          | nil => exact fun s h => h
          | cons x l ih => exact fun s h => ih _ (h.step hwlH.out hslH.out x)
        have hOkk := hOk (xs.take k) (initC ns) (initC_ok nw ns)
        obtain ⟨x, hx⟩ : ∃ x, xs.getD k (0, 0, 0) = x := ⟨_, rfl⟩
        rw [hx] at s0 s1 s2
        have htk : xs.take (k + 1) = xs.take k ++ [x] := by
          rw [List.take_add_one, List.getElem?_eq_getElem (show k < xs.length by rw [hxlH.out]; exact hlt), ← hx]
          simp [List.getD, List.getElem?_eq_getElem (show k < xs.length by rw [hxlH.out]; exact hlt)]
        have hrs := Lib.hid (runS_snoc pl ws ss x (xs.take k) (initC ns))
        have hrc := Lib.hid (runC_snoc pl ws ss x (xs.take k) (initC ns))
        rw [← htk] at hrs hrc
        have hcl : (runC pl ws ss (xs.take k) (initC ns)).length = k := by rw [runC_length, List.length_take, hxlH.out]; omega
        generalize runS pl ws ss (xs.take k) (initC ns) = sk at *
        generalize runC pl ws ss (xs.take k) (initC ns) = ck at *
        have hclH := Lib.hid hcl
        clear hcl
        obtain ⟨kd, who, n⟩ := x
        dsimp only at s0 s1 s2
        obtain ⟨AC, cC', rfl⟩ := own_slice hM.co
        have hMa := hM.later ((Below.refl _ wo).alloc (Nat.le_refl _) (.cells #[.int .i64 kd, .int .i64 who, .int .i64 n] 26))
        have bX := Blk.new wo 26 #[.int .i64 kd, .int .i64 who, .int .i64 n]
        have hba := hb.alloc (Nat.le_of_lt hM.lt) (.cells #[.int .i64 kd, .int .i64 who, .int .i64 n] 26)
        have hMaH := Lib.hid hMa; have bXH := Lib.hid bX; have hbaH := Lib.hid hba
        have hkn : (k : Int) < nc := by omega
        have hk0 : (0 : Int) ≤ k := by omega
        have hk1 : IntKind.i64.wrap ((k : Int) + 1) = ((k + 1 : Nat) : Int) := by rw [IntWalk.i64_in _ (by omega)]; omega
        clear hM hb hb0 hMa bX hba hx htk hOk
        go_upto_region 11 with fail
        generalize wo.alloc (.cells #[.int .i64 kd, .int .i64 who, .int .i64 n] 26) = wa at *
        generalize hbX : wo.heap.size = bX at *
        have hMd := hMaH.out.later ((Below.refl _ wa).drew)
        have hbd : Below cb wc wa.drew := hbaH.out.drew
        have c2 := hMaH.out.bk.cell (j := 2) rfl
        have x0 : wa.drew.cell? ⟨bX, 0, none⟩ = some (.int .i64 kd) := bXH.out.cell (j := 0) rfl
        have x1 : wa.drew.cell? ⟨bX, 1, none⟩ = some (.int .i64 who) := bXH.out.cell (j := 1) rfl
        have x2 : wa.drew.cell? ⟨bX, 2, none⟩ = some (.int .i64 n) := bXH.out.cell (j := 2) rfl
        have hup : ∀ W', Below cb wa.drew W' → Below w.heap.size w W' := fun W' hW => hbH.out.trans ((hbd.trans hW).mono (Nat.le_of_lt hcb))
        have HC := Lib.hid (change_any pl hplH.out cb nw ns A B cA cB ws ss sk ck _ vW vT tv kd who n wa.drew hMd hOkk hokH.out (fun W' hW => hAH.out.later (hup W' hW)) (fun W' hW => hBH.out.later (hup W' hW)))
        have hbdH := Lib.hid hbd
        clear hMaH bXH hbaH hMd hbd hup hOkk
        refine region_last (fun w' => w'.cell? ⟨cb, 2, none⟩ = some (.slice AC ck.length cC')) (by kernel_rfl) rfl (by kernel_rfl) c2 (fun hHeld => ?_)
        dsimp only [List.dropLast]
        (refine wpAnyH_take (i := 0) (v := ?_) rfl (by kernel_rfl) (by kernel_rfl) (by kernel_rfl) (fun _ _ _ h => h) (Or.inl ⟨by rfl, ?_⟩) hHeld ?_; rotate_left; first | (intro w' hSw; go_simp; done) | (intro w' hSw; go_simp; with_reducible rfl))
        simp only [Act.put, List.getElem_toArray, List.getElem_cons_zero, List.getElem_cons_succ, List.setIfInBounds_toArray, List.set_cons_zero, List.set_cons_succ]
        (refine wpAnyH_take (i := 1) (v := ?_) rfl (by kernel_rfl) (by kernel_rfl) (by kernel_rfl) (fun _ _ _ h => h) (Or.inl ⟨by rfl, ?_⟩) hHeld ?_; rotate_left; first | (intro w' hSw; go_simp; done) | (intro w' hSw; go_simp; with_reducible rfl))
        simp only [Act.put, List.getElem_toArray, List.getElem_cons_zero, List.getElem_cons_succ, List.setIfInBounds_toArray, List.set_cons_zero, List.set_cons_succ]
        (refine wpAnyH_take (i := 2) (v := ?_) rfl (by kernel_rfl) (by kernel_rfl) (by kernel_rfl) (fun _ _ _ h => h) (Or.inl ⟨by rfl, ?_⟩) hHeld ?_; rotate_left; first | (intro w' hSw; go_simp; done) | (intro w' hSw; go_simp; with_reducible rfl))
        simp only [Act.put, List.getElem_toArray, List.getElem_cons_zero, List.getElem_cons_succ, List.setIfInBounds_toArray, List.set_cons_zero, List.set_cons_succ]
        (refine wpAnyH_take (i := 3) (v := ?_) rfl (by kernel_rfl) (by kernel_rfl) (by kernel_rfl) (fun _ _ _ h => h) (Or.inl ⟨by rfl, ?_⟩) hHeld ?_; rotate_left; first | (intro w' hSw; go_simp; done) | (intro w' hSw; go_simp; with_reducible rfl))
        simp only [Act.put, List.getElem_toArray, List.getElem_cons_zero, List.getElem_cons_succ, List.setIfInBounds_toArray, List.set_cons_zero, List.set_cons_succ]
        (refine wpAnyH_take (i := 4) (v := ?_) rfl (by kernel_rfl) (by kernel_rfl) (by kernel_rfl) (fun _ _ _ h => h) (Or.inl ⟨by rfl, ?_⟩) hHeld ?_; rotate_left; first | (intro w' hSw; go_simp; done) | (intro w' hSw; go_simp; with_reducible rfl))
        simp only [Act.put, List.getElem_toArray, List.getElem_cons_zero, List.getElem_cons_succ, List.setIfInBounds_toArray, List.set_cons_zero, List.set_cons_succ]
        (refine wpAnyH_take (i := 5) (v := ?_) rfl (by kernel_rfl) (by kernel_rfl) (by kernel_rfl) (fun _ _ _ h => h) (Or.inl ⟨by rfl, ?_⟩) hHeld ?_; rotate_left; first | (intro w' hSw; (have hq := hSw); go_simp; done) | (intro w' hSw; (have hq := hSw); go_simp; with_reducible rfl))
        simp only [Act.put, List.getElem_toArray, List.getElem_cons_zero, List.getElem_cons_succ, List.setIfInBounds_toArray, List.set_cons_zero, List.set_cons_succ]
        (refine wpAnyH_take (i := 6) (v := ?_) rfl (by kernel_rfl) (by kernel_rfl) (by kernel_rfl) (fun _ _ _ h => h) (Or.inl ⟨by rfl, ?_⟩) hHeld ?_; rotate_left; first | (intro w' hSw; go_simp; done) | (intro w' hSw; go_simp; with_reducible rfl))
        simp only [Act.put, List.getElem_toArray, List.getElem_cons_zero, List.getElem_cons_succ, List.setIfInBounds_toArray, List.set_cons_zero, List.set_cons_succ]
        refine wpAnyH_ready (rs := [7]) (by kernel_rfl) (by simp) ?_
        refine AllReadyH.cons rfl (fun K hK => ?_) AllReadyH.nil
        go_simp
        refine hK.out _ _ hHeld (fun hHeld => ?_)
        clear hK K
        (try simp only [Act.put, List.getElem_toArray, List.getElem_cons_zero, List.getElem_cons_succ, List.setIfInBounds_toArray, List.set_cons_zero, List.set_cons_succ])
        refine wpAnyH_ready (rs := [8]) (by kernel_rfl) (by simp) ?_
        refine AllReadyH.cons rfl (fun K hK => ?_) AllReadyH.nil
        go_simp
        refine HC.out.mono ?_
        rintro e wb ⟨rfl, ⟨tv5, hM5⟩, hb5⟩
        have S5 := hM5.bk.cell (j := 2) rfl
        refine hK.out _ _ S5 (fun hHeld => ?_)
        clear hK K HC
        (try simp only [Act.put, List.getElem_toArray, List.getElem_cons_zero, List.getElem_cons_succ, List.setIfInBounds_toArray, List.set_cons_zero, List.set_cons_succ])
        have hst : stepS pl ws ss sk (kd, who, n) = runS pl ws ss (xs.take (k + 1)) (initC ns) := hrs.out.symm
        rw [hst] at hM5
        obtain ⟨cv, hcv⟩ : ∃ cv, stepC ws ss sk (kd, who, n) = cv := ⟨_, rfl⟩
        rw [hcv] at hrc ⊢
        have hM6 := hM5.later ((Below.refl _ wb).alloc (Nat.le_refl _) (.cells #[.int .i64 cv] 33))
        have hb6 := (hbdH.out.trans hb5).alloc (Nat.le_of_lt hM5.lt) (.cells #[.int .i64 cv] 33)
        have S6 := hM6.bk.cell (j := 2) rfl
        have hrd := rd_new1 wb (.int .i64 cv) 33
        have hM6H := Lib.hid hM6; have hb6H := Lib.hid hb6; have hrdH := Lib.hid hrd
        clear hM5 hb5 hM6 hb6 hrd hst
        refine wpAnyH_ready (rs := [9]) (by kernel_rfl) (by simp) ?_
        refine AllReadyH.cons rfl (fun K hK => ?_) AllReadyH.nil
        go_simp
        refine hK.out _ _ S6 (fun hHeld => ?_)
        clear hK K
        (try simp only [Act.put, List.getElem_toArray, List.getElem_cons_zero, List.getElem_cons_succ, List.setIfInBounds_toArray, List.set_cons_zero, List.set_cons_succ])
        generalize hbL : wb.heap.size = bL at *
        generalize wb.alloc (.cells #[.int .i64 cv] 33) = wd at *
        refine wpAnyH_ready (rs := [10]) (by kernel_rfl) (by simp) ?_
        refine AllReadyH.cons rfl (fun K hK => ?_) AllReadyH.nil
        refine step_app (s := .tmp 52) (x := .tmp 56) _ tiEc hM6H.out.co hrdH.out (ints_one (l := [cv])) (by have := hclH.out; omega) (by have := hclH.out; omega) (by have := hM6H.out.lt; omega) rfl rfl rfl rfl ?_
        intro v' w' hown' hg' _
        obtain ⟨A', c', rfl⟩ := own_slice hown'
        have hcne : some cb ≠ (Value.slice AC ck.length cC').ownBlock := fun e => by have := (hM6H.out.co.lt cb e.symm).1; omega
        have S7 := (hM6H.out.bk.kept hg' hcne).cell (j := 2) rfl
        have f7 := (hM6H.out.bk.kept hg' hcne).frozen 2
        have l7 := (hM6H.out.bk.kept hg' hcne).lt
        have e1 : ints .i64 ck ++ [Value.int .i64 cv] = ints .i64 (ck ++ [cv]) := by simp [ints]
        rw [e1] at hown'
        have hput := hM6H.out.putC (cs' := ck ++ [cv]) (vC' := .slice A' (ck.length + 1) c') hg' (by rw [List.length_append, List.length_singleton]; exact hown')
        rw [← hrc.out] at hput
        have hb7 := (hb6H.out.grown hg' (Nat.le_of_lt hM6H.out.lt) (fun q hq => by have := (hM6H.out.co.lt q hq).1; omega)).setCell (p := ⟨cb, 2, none⟩) (Nat.le_refl _) (.slice A' (ck.length + 1) c')
        have hfin := Lib.hid (And.intro hput hb7)
        clear hput hb7 hown' hg' hcne hM6H hb6H hrdH e1 S5 S6
        refine hK.out _ _ S7 (fun hHeld => ?_)
        clear hK K
        (try simp only [Act.put, List.getElem_toArray, List.getElem_cons_zero, List.getElem_cons_succ, List.setIfInBounds_toArray, List.set_cons_zero, List.set_cons_succ])
        (refine wpAnyH_take (i := 11) (v := ?_) rfl (by kernel_rfl) (by kernel_rfl) (by kernel_rfl) (fun _ _ _ h => h) (Or.inl ⟨by rfl, ?_⟩) hHeld ?_; rotate_left; first | (intro w' hSw; go_simp; done) | (intro w' hSw; go_simp; with_reducible rfl))
        simp only [Act.put, List.getElem_toArray, List.getElem_cons_zero, List.getElem_cons_succ, List.setIfInBounds_toArray, List.set_cons_zero, List.set_cons_succ]
        (refine wpAnyH_take (i := 12) (v := ?_) rfl (by kernel_rfl) (by kernel_rfl) (by kernel_rfl) (fun _ _ _ h => h) (Or.inl ⟨by rfl, ?_⟩) hHeld ?_; rotate_left; first | (intro w' hSw; go_simp; done) | (intro w' hSw; go_simp; with_reducible rfl))
        simp only [Act.put, List.getElem_toArray, List.getElem_cons_zero, List.getElem_cons_succ, List.setIfInBounds_toArray, List.set_cons_zero, List.set_cons_succ]
        (refine wpAnyH_take (i := 13) (v := ?_) rfl (by kernel_rfl) (by kernel_rfl) (by kernel_rfl) (fun _ _ _ h => h) (Or.inl ⟨by rfl, ?_⟩) hHeld ?_; rotate_left; first | (intro w' hSw; go_simp; done) | (intro w' hSw; go_simp; with_reducible rfl))
        simp only [Act.put, List.getElem_toArray, List.getElem_cons_zero, List.getElem_cons_succ, List.setIfInBounds_toArray, List.set_cons_zero, List.set_cons_succ]
        refine wpAnyH_done (by kernel_rfl) ?_ _
        clear hHeld
        show Oper.wp _ _ _ _ _ _
        go_simp
        generalize w'.setCell ⟨cb, 2, none⟩ (.slice A' (ck.length + 1) c') = w9 at *
        go_wp2
        go_roundw
        case rel => exact ⟨k + 1, _, _, by omega, by go_num, hfin.out.1, hfin.out.2⟩
        case measure => simp [intOf]; omega
      · obtain rfl : k = nc := by omega
        have htk : xs.take k = xs := List.take_of_length_le (by rw [hxlH.out]; exact Nat.le_refl _)
        rw [htk] at hM
        obtain ⟨AC, cC', rfl⟩ := own_slice hM.co
        obtain ⟨AW, cW, rfl⟩ := own_slice hM.wa
        obtain ⟨AT, cT, rfl⟩ := own_slice hM.ta
        have bkn := hbnH.out.below hb hcb
        have z0 := bkn.cell (j := 0) rfl; have z1 := bkn.cell (j := 1) rfl; have z2 := bkn.cell (j := 2) rfl; have z3 := bkn.cell (j := 3) rfl
        have f0 := bkn.frozen 0; have f1 := bkn.frozen 1; have f2 := bkn.frozen 2; have f3 := bkn.frozen 3
        have l0 := bkn.lt
        have q2 := hM.bk.cell (j := 2) rfl; have q3 := hM.bk.cell (j := 3) rfl; have q4 := hM.bk.cell (j := 4) rfl; have q5 := hM.bk.cell (j := 5) rfl
        have hk4 : ∀ {e n : Nat} {v : Value} {ys : List Value} (i0 : Nat) (v0 : Value) (W0 : World), W0.ownsRow (cb + 1) e 1 v n ys → (W0.setCell ⟨w.heap.size, i0, none⟩ v0).ownsRow (cb + 1) e 1 v n ys := fun i0 v0 W0 ho =>
          own_apart ho (grown_setA W0 w.heap.size i0 v0) (fun q hq e => by
            have := (ho.lt q hq).1
            cases e; omega)
        have hk4' : ∀ {e n : Nat} {v : Value} {ys : List Value} (v0 v1 v2 v3 : Value), wo.ownsRow (cb + 1) e 1 v n ys → ((((wo.setCell ⟨w.heap.size, 0, none⟩ v0).setCell ⟨w.heap.size, 1, none⟩ v1).setCell ⟨w.heap.size, 2, none⟩ v2).setCell ⟨w.heap.size, 3, none⟩ v3).ownsRow w.heap.size e 1 v n ys := fun v0 v1 v2 v3 ho =>
          own_base (by omega) (hk4 3 v3 _ (hk4 2 v2 _ (hk4 1 v1 _ (hk4 0 v0 _ ho))))
        have hb0 := hbH.out.trans (hb.mono (Nat.le_of_lt hcb))
        have hbF := (((hb0.setCell (p := ⟨w.heap.size, 0, none⟩) (Nat.le_refl _) (.slice AC (runC pl ws ss xs (initC ns)).length cC')).setCell (p := ⟨w.heap.size, 1, none⟩) (Nat.le_refl _) (.int .u32 ((runS pl ws ss xs (initC ns)).inn : Int))).setCell (p := ⟨w.heap.size, 2, none⟩) (Nat.le_refl _) (.slice AW ns cW)).setCell (p := ⟨w.heap.size, 3, none⟩) (Nat.le_refl _) (.slice AT ns cT)
        have hPM : PM w.heap.size ns (runS pl ws ss xs (initC ns)) (runC pl ws ss xs (initC ns)) (.slice AC (runC pl ws ss xs (initC ns)).length cC') (.slice AW ns cW) (.slice AT ns cT) tv ((((wo.setCell ⟨w.heap.size, 0, none⟩ (.slice AC (runC pl ws ss xs (initC ns)).length cC')).setCell ⟨w.heap.size, 1, none⟩ (.int .u32 ((runS pl ws ss xs (initC ns)).inn : Int))).setCell ⟨w.heap.size, 2, none⟩ (.slice AW ns cW)).setCell ⟨w.heap.size, 3, none⟩ (.slice AT ns cT)) :=
          ⟨hk4' _ _ _ _ hM.co, hk4' _ _ _ _ hM.wa, hk4' _ _ _ _ hM.ta, fun j hj => hk4' _ _ _ _ (hM.tk j hj)⟩
        have hfin := Lib.hid (And.intro hPM hbF)
        clear hM hb hb0 hbF hPM hk4 hk4' hMH hbH hbnH bkn
        go_wp2
        (try simp only [Exit.inBlock, Exit.then])
        refine bodyPost_ret (v := .tuple #[.agg #[.slice AC (runC pl ws ss xs (initC ns)).length cC', .int .u32 ((runS pl ws ss xs (initC ns)).inn : Int), .slice AW ns cW, .slice AT ns cT], .int .i64 0]) ?_ rfl ⟨_, _, _, _, rfl, hfin.out.1, hfin.out.2⟩
        rw [results_cell_tmp rfl]
        go_simp
end Go.Proofs.Yticffbcbfgboeaa
