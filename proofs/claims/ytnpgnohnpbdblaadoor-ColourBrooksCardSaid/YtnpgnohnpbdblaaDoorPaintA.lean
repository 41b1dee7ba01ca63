/- colour: the painter; the colours that a node may have. -/
import Derived.Test.YtnpgnohnpbdblaaDoorPaintLaw
import Derived.Test.YtnpgnohnpbdblaaDoorEachBits
import Derived.Test.YtnpgnohnpbdblaaDoorMarks
import Derived.Test.YtnpgnohnpbdblaaDoorCalm
import Derived.Test.YtnpgnohnpbdblaaDoorLast
import Derived.Test.YtnpgnohnpbdblaaDoorRow
namespace Go.Proofs.YtnpgnohnpbdblaaDoor
open Go.RowKit Go.Shelf
attribute [local go_sem] Oper.semAt_some

/-- a painter at p: the words of a graph, and the colours by now -/
structure PS (B n : Nat) (ns : List Nat) (p ga gl : Nat) (W : World) (L : Nat → Int) : Prop where
  cn : W.cell? ⟨p, 0, none⟩ = some (.slice (some ⟨ga, 0, none⟩) n n)
  cl : W.cell? ⟨p, 1, none⟩ = some (.slice (some ⟨gl, 0, none⟩) n n)
  rn : Rd W (some ⟨ga, 0, none⟩) n 1 (wds ns)
  ol : W.ownsRow B 3 1 (.slice (some ⟨gl, 0, none⟩) n n) n (row n L)
  ne : gl ≠ p ∧ gl ≠ ga
  la : ga < W.heap.size
section
variable {B n : Nat} {ns : List Nat} {p ga gl : Nat} {W W' : World} {L : Nat → Int}
theorem PS.lt (h : PS B n ns p ga gl W L) : p < W.heap.size := World.block_lt_of_cell? W _ h.cn
theorem PS.later (h : PS B n ns p ga gl W L) (hb : Below W.heap.size W W') : PS B n ns p ga gl W' L :=
  ⟨(hb.cell (p := ⟨p, 0, none⟩) h.lt).trans h.cn, (hb.cell (p := ⟨p, 1, none⟩) h.lt).trans h.cl, h.rn.later hb, own_below h.ol hb, h.ne, Nat.lt_of_lt_of_le h.la hb.size⟩
end
theorem row_at' {w : World} {B g n c : Nat} {F : Nat → Int} (h : w.ownsRow B 3 1 (.slice (some ⟨g, 0, none⟩) n c) n (row n F)) {j : Nat} (hj : j < n) : g < w.heap.size ∧ w.cell? ⟨g, j, none⟩ = some (.int .i64 (F j)) :=
  ⟨(h.lt g rfl).2, (h.cellAt j (by omega)).trans (row_get hj)⟩
def unA {x : Nat} (l : List (Bt x)) : List Nat := l.map (·.1)
theorem unA_snoc {x : Nat} (l : List (Bt x)) (y : Bt x) : unA (l ++ [y]) = unA l ++ [y.1] := by simp [unA]
set_option maxHeartbeats 3200000 in
set_option maxRecDepth 100000 in
theorem may_any (B n : Nat) (ns : List Nat) (p ga gl i k : Nat) (w : World) (L : Nat → Int) (hP : PS B n ns p ga gl w L) (g : Gr n ns) (hi : i < n) (hk : k ≤ 12) (hL : ∀ j, -1 ≤ L j ∧ L j < 12) (htb : Tb w) (hg : 0 < w.heap.size) :
    Calls Tryd.prog 40 #[.pointer (some ⟨p, 0, none⟩), .int .i64 i, .int .i64 k] w fun e w' => e = .returned (.int .u32 (mayW ns L i k : Nat)) ∧ Below w.heap.size w w' := by
  have hPH := Lib.hid hP; have htbH := Lib.hid htb; have hLH := Lib.hid hL
  have hplt := hP.lt
  have hn10 := g.n10
  have hgH := Lib.hid g
  clear hP htb hL g
  refine calls_of_wp_calm 4 Tryd.func40 rfl ?_
  simp only [Tryd.ntmps40, List.size_toArray, List.length_cons, List.length_nil, Nat.reduceAdd, Nat.reduceSub, Array.replicate_succ, Array.replicate_zero, List.push_toArray, List.append_toArray, List.nil_append, List.cons_append]
  have hbx := Boxed.new w 63 (.pointer (some ⟨p, 0, none⟩))
  have hb1 := (Below.refl _ w).alloc (Nat.le_refl _) (.cells #[.pointer (some ⟨p, 0, none⟩)] 63)
  have hv : ((2 : Int) ^ k - 1) % 4294967296 = ((2 ^ k - 1 : Nat) : Int) := by
    have h1 : 1 ≤ 2 ^ k := Nat.one_le_two_pow
    have h2 : 2 ^ k < 4294967296 := pow_lt32 (by omega)
    have h3 : ((2 ^ k : Nat) : Int) = (2 : Int) ^ k := by simp
    rw [← h3]; omega
  have hb2 := hb1.alloc (by simp) (.cells #[.int .u32 ((2 ^ k - 1 : Nat) : Int)] 29)
  have c1 := hPH.out.cn
  obtain ⟨b', o', hA, hab, hc3⟩ := hPH.out.rn.wd hi
  cases hA
  rw [Nat.zero_add] at hc3
  have hz32 : ns.getD i 0 < 4294967296 := by
    have := hgH.out.lt i
    have h2 : 2 ^ n ≤ 2 ^ 10 := Nat.pow_le_pow_right (by omega) hn10
    omega
  have bXX := hbx.alloc (.cells #[.int .u32 ((2 ^ k - 1 : Nat) : Int)] 29)
  have bWW := Boxed.new (w.alloc (.cells #[.pointer (some ⟨p, 0, none⟩)] 63)) 29 (.int .u32 ((2 ^ k - 1 : Nat) : Int))
  rw [World.size_alloc] at bWW
  have hszB : ((w.alloc (.cells #[.pointer (some ⟨p, 0, none⟩)] 63)).alloc (.cells #[.int .u32 ((2 ^ k - 1 : Nat) : Int)] 29)).heap.size = w.heap.size + 2 := by simp
  have hi1 : (i : Int) < n := by omega
  have hall := Lib.hid (show mayW ns L i k = mayF L (bitsL (ns.getD i 0)) (2 ^ k - 1) from rfl)
  have hnbH := Lib.hid (fun y (hy : (ns.getD i 0).testBit y = true) => (hgH.out.ok i y hy).2.1)
  have hmF := Lib.hid (fun l => show mayF L l (2 ^ k - 1) < 4294967296 from Nat.lt_of_le_of_lt (mayF_le L l _) (by have := pow_lt32 (show k < 32 by omega); omega))
  generalize ns.getD i 0 = x at *
  go_wp2_with fail
  refine (each_any x _).mono ?_
  rintro e w6 ⟨rfl, rfl⟩
  have bX := bXX.alloc (.cells #[.int .u32 (x : Int)] 29)
  have bW := bWW.alloc (.cells #[.int .u32 (x : Int)] 29)
  have bE := Boxed.new ((w.alloc (.cells #[.pointer (some ⟨p, 0, none⟩)] 63)).alloc (.cells #[.int .u32 ((2 ^ k - 1 : Nat) : Int)] 29)) 29 (.int .u32 (x : Int))
  rw [hszB] at bE
  have hbB := hb2.alloc (by simp; omega) (.cells #[.int .u32 (x : Int)] 29)
  have hszC : (((w.alloc (.cells #[.pointer (some ⟨p, 0, none⟩)] 63)).alloc (.cells #[.int .u32 ((2 ^ k - 1 : Nat) : Int)] 29)).alloc (.cells #[.int .u32 (x : Int)] 29)).heap.size = w.heap.size + 3 := by simp
  have htB := htbH.out.below hg hbB
  clear hbx hb1 hb2 bXX bWW c1 hc3 hszB
  go_wp2
  refine (wpIn_wide (n := 4)).1 ?_
  generalize ((w.alloc (.cells #[.pointer (some ⟨p, 0, none⟩)] 63)).alloc (.cells #[.int .u32 ((2 ^ k - 1 : Nat) : Int)] 29)).alloc (.cells #[.int .u32 (x : Int)] 29) = wB at *
  refine' rangeFunc_box (n := 4) (α := Bt x) (gf := 55) (lb := #[.pointer (some ⟨w.heap.size + 2, 0, none⟩)]) (by omega) rfl (enters_of Tryd.func55 (by kernel_rfl) rfl)
    (each_stops 3 (by omega) (w.heap.size + 2) w.heap.size x hz32 wB htB hg (by omega) bE (by omega)) (by omega) (fun h h' => KpE.trans h h') (kpE_b (by omega) (by omega)) (Below.refl _ _) (fun _ => rfl)
    (fun pre W => (Boxed W (w.heap.size + 1) 29 (.int .u32 ((mayF L (unA pre) (2 ^ k - 1) : Nat) : Int)) ∧ Boxed W w.heap.size 63 (.pointer (some ⟨p, 0, none⟩))) ∧ Below w.heap.size w W)
    (fun _ _ _ => False) ?hI ?hIb (fun _ _ _ _ _ h _ _ => h) (fun _ _ _ _ _ h _ _ => h) ⟨⟨bW, bX⟩, hbB⟩ _ ?assign ?body ?done (fun _ _ _ _ _ _ h _ => h.elim)
  case hI => exact OwnFrom.and (OwnFrom.and (Own.from (boxed_own _ _ _) _) (Own.from (boxed_own _ _ _) _)) (ownFrom_below (Nat.le_refl _) (by omega))
  case hIb => exact Boxy.and (Boxy.and (boxed_boxy _ (by omega)) (boxed_boxy _ (by omega))) (below_boxy (Nat.le_refl _) (by omega))
  case assign =>
    intro l0 y W K hK
    gi_wp2
    exact hK
  case body =>
    rintro l0 pre y W ⟨⟨hba, hbx⟩, hb⟩ _
    have hjn := hnbH.out y.1 y.2.2
    have hPW := hPH.out.later hb
    have c0 := hPW.cl
    obtain ⟨hgl, cg⟩ := row_at' hPW.ol hjn
    have hsn := Lib.hid (show mayF L (unA (pre ++ [y])) (2 ^ k - 1) = mayS L (mayF L (unA pre) (2 ^ k - 1)) y.1 by rw [unA_snoc]; exact mayF_snoc L _ y.1 _)
    have hcl := hmF.out (unA pre)
    have hbd := hLH.out y.1
    have hpp := hPW.lt
    have hcA := hba.cell
    have hfA := hba.frozen
    have hcX := hbx.cell
    generalize mayF L (unA pre) (2 ^ k - 1) = cur at *
    have hsn2 := Lib.hid (show mayS L cur y.1 = if 0 ≤ L y.1 then cur &&& (4294967295 - 2 ^ (L y.1).toNat) else cur from rfl)
    rw [hsn2.out] at hsn
    clear hsn2
    generalize L y.1 = c at *
    have hyi : (y.1 : Int) < n := by omega
    have hy0 : (0 : Int) ≤ (y.1 : Int) := by omega
    have hbH2 := Lib.hid hb; have hbaH := Lib.hid hba; have hbxH := Lib.hid hbx
    clear hb hba hbx hPW
    obtain ⟨hc1, hc2⟩ := hbd
    by_cases h0 : 0 ≤ c
    · obtain ⟨m, rfl⟩ := Int.eq_ofNat_of_zero_le h0
      rw [if_pos h0, Int.toNat_natCast] at hsn
      have hm32 : m < 32 := by omega
      have hpw := two_pow_u32 m hm32
      have hao := u32_andNot_nat cur (2 ^ m) hcl (pow_lt32 hm32)
      rw [← hpw] at hao
      clear hpw
      gi_wp2
      refine region_round_lit (by kernel_rfl) rfl (by kernel_rfl) (by kernel_rfl) ?_
      dsimp only [List.dropLast]
      repeat (gi_big_quiet_step (fail))
      refine wpQuietIn_nil ?_
      rintro _ ⟨nq, rfl⟩
      gi_wp2
      have hdk : KeepsOthers W (W.drewN nq) := ⟨Nat.le_refl _, fun _ _ h _ => h⟩
      refine ⟨(hdk.trans (KeepsOthers.setCell _ _ _)).from _, ((KpE.refl _ _ W).drewN nq).set (g := w.heap.size + 1) (by omega) (by omega) _, ⟨?_, ?_⟩, (below_drewN hbH2.out nq).setCell (p := ⟨w.heap.size + 1, 0, none⟩) (by simp) _⟩
      · rw [hsn.out]
        exact Boxed.set (W := W.drewN nq) _ hbaH.out
      · exact Boxed.kept (W := W.drewN nq) hbxH.out (grownBy_setCell' _ (w.heap.size + 1) _) (by simp)
    · rw [if_neg h0] at hsn
      gi_wp2
      exact ⟨KeepsFrom.refl _ _, KpE.refl _ _ W, ⟨by rw [hsn.out]; exact hbaH.out, hbxH.out⟩, hbH2.out⟩
  case done =>
    rintro D ys W hD hys ⟨⟨hba, hbx⟩, hb⟩ hK
    have hys' : unA ys = bitsL x := hys
    rw [hys', ← hall.out] at hba
    have hcA := hba.cell
    have hbH2 := Lib.hid hb; have hKH := Lib.hid hK
    clear hb hba hbx hK hys hys' hall
    obtain ⟨mw, hmw⟩ : ∃ mw, mayW ns L i k = mw := ⟨_, rfl⟩
    have hmwH := Lib.hid hmw
    rw [hmw] at hcA
    clear hmw
    go_wp2
    refine leaves_marks (Marks.push (B := w.heap.size) (T := wB.heap.size) (ds := []) trivial (by omega) hD hKH.out) fun w' hb' => ⟨.int .u32 (mw : Int), by simp [results, Tryd.results40, go_sem], by rw [hmwH.out], hbH2.out.trans hb'⟩
end Go.Proofs.YtnpgnohnpbdblaaDoor
