/- span.Decode. -/
import Derived.Test.YtdmbbddkbfknlaaDoorPruferF
import Derived.Test.YtdmbbddkbfknlaaDoorIndexI
import Derived.Test.YtdmbbddkbfknlaaDoorRow
import Derived.Test.YtdmbbddkbfknlaaDoorBlk
import Derived.Test.YtdmbbddkbfknlaaDoorNatI
import Derived.Test.YtdmbbddkbfknlaaDoorEachBits
import Derived.Laws.ResultCell
namespace Go.Proofs.YtdmbbddkbfknlaaDoor
open Go.RowKit Go.Shelf

theorem tiEd : TI Tryd.prog 23 38 (.agg #[.int .i64 0, .int .i64 0, .int .i64 0]) 3 24 := TI.mk' Tryd.underlying23 (by kernel_rfl) rfl (by decide)
theorem infoI : (Tryd.prog.info? 3).map (fun i => (i.zero, i.size, i.bytes)) = some (some (.int .i64 0), 1, 8) := by kernel_rfl
theorem run_mkI {N : Nat} (hN : N ≤ 10) (w : World) :
    (Instr.makeSlice 22 (.int .i64 (N : Int)) (.int .i64 (N : Int))).run Tryd.prog w = .ok (.slice (some ⟨w.heap.size, 0, none⟩) N N) (w.alloc (.cells (row N fun _ => 0).toArray 3)) := by
  obtain ⟨i0, hi0, hz0, hs0, hb0⟩ := info_parts infoI
  have := run_make (P := Tryd.prog) w 22 3 i0 (.int .i64 0) Tryd.underlying22 hi0 hz0 .i64 .i64 N N (by omega) (Int.le_refl _) (by
    rw [hb0]; omega) (by omega)
  rw [this]
  congr 2
  rw [hs0, show (Value.int .i64 0).cells = #[.int .i64 0] from rfl, Int.toNat_natCast, Nat.mul_one, ← row_replicate]
  congr 1
  rw [← toList_madeCells_one (.int .i64 0) N]
theorem own_capD {w : World} {b e s n c : Nat} {A : Option Addr} {xs : List Value} (h : w.ownsRow b e s (.slice A n c) n xs) : n ≤ c := by
  rcases h.2 with ⟨h1, h2⟩ | ⟨g, cap, cur, h1, h2⟩
  · injection h1; omega
  · injection h1; omega
theorem own_lit_D {w : World} {B : Nat} {e : TypeId} (cs : List Value) {n : Nat} (hB : B ≤ w.heap.size) (hn : n ≤ 10) (hs : cs.length = n) : (w.alloc (.cells cs.toArray e)).ownsRow B e 1 (.slice (some ⟨w.heap.size, 0, none⟩) n n) n cs := by
  simpa using World.ownsRow_lit (base := B) (e := e) (size := 1) w cs.toArray n hB (by unfold maxLen; omega) (by simpa using hs)
set_option maxHeartbeats 400000 in
theorem decode_long (A : Option Addr) (len cap : Nat) (w : World) (hl : 8 < len) :
    Calls Tryd.prog 4 #[.slice A len cap] w fun e w' => e = .returned (.tuple #[.agg #[.int .i64 0, .slice none 0 0], .int .i64 1]) ∧ Below w.heap.size w w' := by
  have gb := Lib.hid ((Below.refl _ w).alloc (Nat.le_refl _) (.cells #[.int .i64 0, .slice none 0 0] 25))
  have h8 : (8 : Int) < len := by omega
  go_enter Tryd.func4, Tryd.ntmps4
  go_wp2
  (try simp only [Exit.inBlock, Exit.then])
  refine bodyPost_ret (v := .tuple #[.agg #[.int .i64 0, .slice none 0 0], .int .i64 1]) ?_ rfl ⟨rfl, gb.out⟩
  rw [results_cell_tmp rfl]
  go_simp
/-- how often each has come by now -/
def cnF (zs : List Int) (k : Nat) (x : Nat) : Int := ((zs.take k).count (x : Int) : Int)
theorem cnF_le (zs : List Int) (k x : Nat) : 0 ≤ cnF zs k x ∧ cnF zs k x ≤ k := by
  unfold cnF
  have h1 := List.count_le_length (a := (x : Int)) (l := zs.take k)
  rw [List.length_take] at h1
  omega
theorem cnF_succ {zs : List Int} {k : Nat} (hk : k < zs.length) {y : Nat} (hy : zs.getD k 0 = (y : Int)) (x : Nat) : cnF zs (k + 1) x = if x = y then cnF zs k x + 1 else cnF zs k x := by
  unfold cnF
  rw [List.take_add_one, show zs[k]? = some (zs.getD k 0) by simp [List.getD, hk], hy]
  simp only [Option.toList_some, List.count_append, List.count_singleton]
  by_cases e : x = y
  · subst e; simp
  · rw [if_neg e]
    have : ((y : Int) == (x : Int)) = false := by rw [beq_eq_false_iff_ne]; omega
    rw [this]; simp
structure DL (s n : Nat) (zs : List Int) (w : World) (k : Nat) (W : World) : Prop where
  ins : ∀ j, j < k → 0 ≤ zs.getD j 0 ∧ zs.getD j 0 < (n : Int)
  g : Blk W s 25 #[.int .i64 0, .slice none 0 0]
  r : W.ownsRow (s + 1) 3 1 (.slice (some ⟨s + 1, 0, none⟩) n n) n (row n (cnF zs k))
  b : Below s w W
  sz : s + 2 ≤ W.heap.size
set_option maxHeartbeats 800000 in
theorem decode_bad (A : Option Addr) (len cap : Nat) (zs : List Int) (w : World) (hz : Rd w A len 1 (ints .i64 zs)) (hl : len ≤ 8) (hbad : ∃ j, j < len ∧ ¬ (0 ≤ zs.getD j 0 ∧ zs.getD j 0 < ((len + 2 : Nat) : Int))) :
    Calls Tryd.prog 4 #[.slice A len cap] w fun e w' => e = .returned (.tuple #[.agg #[.int .i64 0, .slice none 0 0], .int .i64 2]) ∧ Below w.heap.size w w' := by
  have hzl := Lib.hid (show zs.length = len by simpa [ints] using hz.1)
  obtain ⟨n, hn⟩ : ∃ n, len + 2 = n := ⟨_, rfl⟩
  rw [hn] at hbad
  have hnI : (len : Int) + 2 = (n : Int) := by omega
  have hnW : IntKind.i64.wrap ((len : Int) + 2) = (n : Int) := by rw [hnI]; exact IntWalk.i64_in _ (by omega)
  have hnW2 : IntKind.i64.wrap (n : Int) = (n : Int) := IntWalk.i64_in _ (by omega)
  have hmk := fun w => run_mkI (N := n) (by omega) w
  have gb := (Below.refl _ w).alloc (Nat.le_refl _) (.cells #[.int .i64 0, .slice none 0 0] 25)
  have bG := Blk.new w 25 #[.int .i64 0, .slice none 0 0]
  have gs : (w.alloc (.cells #[.int .i64 0, .slice none 0 0] 25)).heap.size = w.heap.size + 1 := by simp
  have h0 : DL w.heap.size n zs w 0 ((w.alloc (.cells #[.int .i64 0, .slice none 0 0] 25)).alloc (.cells (row n fun _ => 0).toArray 3)) := by
    have hrw := own_lit_D (w := w.alloc (.cells #[.int .i64 0, .slice none 0 0] 25)) (B := w.heap.size + 1) (e := 3) (row n fun _ => 0) (by omega) (by omega) (row_length _ _)
    rw [gs] at hrw
    refine ⟨fun j hj => absurd hj (by omega), bG.alloc _, ?_, gb.alloc (by omega) _, by simp⟩
    rw [show row n (cnF zs 0) = row n fun _ => 0 from row_congr fun i _ => by simp [cnF]]
    exact hrw
  have hzH := Lib.hid hz; have h0H := Lib.hid h0; have hbadH := Lib.hid hbad
  have h8 : decide ((8 : Int) < len) = false := decide_eq_false (by omega)
  have h8' : ¬ (8 : Int) < len := by omega
  clear hz h0 hbad gb bG
  go_enter Tryd.func4, Tryd.ntmps4
  go_wp2
  generalize (w.alloc (.cells #[.int .i64 0, .slice none 0 0] 25)).alloc (.cells (row n fun _ => 0).toArray 3) = w0 at *
  go_loopw [25] (fun kv wr => ∃ k : Nat, k ≤ len ∧ kv = .int .i64 k ∧ DL w.heap.size n zs w k wr) (fun kv _ => len - (intOf kv).toNat)
  case atStart => exact ⟨0, by omega, rfl, h0H.out⟩
  case round =>
    clear h0H
    obtain ⟨k, hk, rfl, hD⟩ := hrel
    obtain ⟨wi, rfl⟩ : ∃ wi : World, wi = wr := ⟨_, rfl⟩
    by_cases hkl : k < len
    · obtain ⟨b, o, rfl, hbl, cz⟩ := (hzH.out.later hD.b).int hkl
      have hkn : (k : Int) < len := by omega
      have hk0 : (0 : Int) ≤ k := by omega
      by_cases hin : 0 ≤ zs.getD k 0 ∧ zs.getD k 0 < (n : Int)
      case neg =>
        obtain ⟨zk, hzk⟩ : ∃ zk, zs.getD k 0 = zk := ⟨_, rfl⟩
        rw [hzk] at cz hin
        have z0 := hD.g.cell (j := 0) (v := .int .i64 0) rfl; have z1 := hD.g.cell (j := 1) (v := .slice none 0 0) rfl
        have f0 := hD.g.frozen 0; have f1 := hD.g.frozen 1; have l1 := hD.g.lt
        have hfin := Lib.hid ((hD.b.setCell (p := ⟨w.heap.size, 0, none⟩) (Nat.le_refl _) (.int .i64 0)).setCell (p := ⟨w.heap.size, 1, none⟩) (Nat.le_refl _) (.slice none 0 0))
        by_cases hneg : zk < 0
        · have hd1 : decide (zk < 0) = true := decide_eq_true hneg
          clear hD hin hzk
          go_wp2
          (try simp only [Exit.inBlock, Exit.then])
          refine bodyPost_ret (v := .tuple #[.agg #[.int .i64 0, .slice none 0 0], .int .i64 2]) ?_ rfl ⟨rfl, hfin.out⟩
          rw [results_cell_tmp rfl]
          go_simp
        · have hd1 : decide (zk < 0) = false := decide_eq_false hneg
          have hge : (n : Int) ≤ zk := by omega
          have hd2 : decide ((n : Int) ≤ zk) = true := decide_eq_true hge
          clear hD hin hzk
          go_wp2
          (try simp only [Exit.inBlock, Exit.then])
          refine bodyPost_ret (v := .tuple #[.agg #[.int .i64 0, .slice none 0 0], .int .i64 2]) ?_ rfl ⟨rfl, hfin.out⟩
          rw [results_cell_tmp rfl]
          go_simp
      obtain ⟨y, hy⟩ := Int.eq_ofNat_of_zero_le hin.1
      have hinS := Lib.hid (show ∀ j, j < k + 1 → 0 ≤ zs.getD j 0 ∧ zs.getD j 0 < (n : Int) from fun j hj => by
        rcases Nat.lt_or_ge j k with h | h
        · exact hD.ins j h
        · rw [show j = k by omega]; exact hin)
      have hsc := Lib.hid (fun x => cnF_succ (zs := zs) (k := k) (by rw [hzl.out]; exact hkl) hy x)
      rw [hy] at cz hin
      have hyn : y < n := by omega
      have hyn' : (y : Int) < n := hin.2
      have hy0 : (0 : Int) ≤ y := by omega
      have cy := (hD.r.cellAt y (by omega)).trans (row_get hyn)
      have fy := hD.r.frozenAt y
      have ly := (hD.r.lt _ rfl).2
      have hcb := cnF_le zs k y
      have hd1 : decide ((y : Int) < 0) = false := decide_eq_false (by omega)
      have hd2 : decide ((n : Int) ≤ (y : Int)) = false := decide_eq_false (by omega)
      have hst := Lib.hid (show DL w.heap.size n zs w (k + 1) (wi.setCell ⟨w.heap.size + 1, y, none⟩ (.int .i64 (cnF zs k y + 1))) from by
        refine ⟨hinS.out, hD.g.other (a := ⟨w.heap.size + 1, y, none⟩) (show w.heap.size ≠ w.heap.size + 1 by omega) _, ?_, hD.b.setCell (p := ⟨w.heap.size + 1, y, none⟩) (by simp) _, by simpa using hD.sz⟩
        have := (hD.r.stored y (.int .i64 (cnF zs k y + 1))).1
        rw [row_set] at this
        rw [show row n (cnF zs (k + 1)) = row n (fun i => if i = y then cnF zs k y + 1 else cnF zs k i) from row_congr fun i _ => by
          rw [hsc.out i]
          by_cases e : i = y
          · rw [if_pos e, if_pos e, e]
          · rw [if_neg e, if_neg e]]
        exact this)
      generalize cnF zs k y = cv at *
      clear hD hin hy
      go_wp2
      go_roundw
      case rel => exact ⟨k + 1, by omega, by go_num, hst.out⟩
      case measure => simp [intOf]; omega
    · obtain rfl : k = len := by omega
      obtain ⟨j, hj, hnj⟩ := hbadH.out
      exact absurd (hD.ins j hj) hnj
theorem count_natI (l : List Nat) (x : Nat) : (natI l).count (x : Int) = l.count x := by
  induction l with
  | nil => rfl
  | cons a l ih =>
    unfold natI at *
    rw [List.map_cons, List.count_cons, List.count_cons, ih]
    congr 1
    by_cases e : a = x
    · subst e; simp
    · have : ((a : Int) == (x : Int)) = false := by rw [beq_eq_false_iff_ne]; omega
      rw [this]
      have : (a == x) = false := by rw [beq_eq_false_iff_ne]; exact e
      rw [this]
theorem DcI.bd {n : Nat} {code : List Nat} {k : Nat} {cm : Nat → Int} {ps : List (Nat × Nat)} (h : DcI n code k cm ps) {x : Nat} (hx : x < n) : -1 ≤ cm x ∧ cm x ≤ code.length := by
  obtain ⟨⟨W, _, _, _, hcm, _, _⟩, _⟩ := h
  rw [hcm x hx]
  have h1 := List.count_le_length (a := x) (l := code.drop k)
  rw [List.length_drop] at h1
  split <;> omega
theorem row_updZ (n : Nat) (F : Nat → Int) (j : Nat) (v : Int) : (row n F).set j (.int .i64 v) = row n (updZ F j v) := row_set n F j v
theorem row_ints (n : Nat) (F : Nat → Int) : row n F = ints .i64 ((List.range n).map F) := by unfold row ints; rw [List.map_map]; rfl
theorem range_get {n : Nat} {F : Nat → Int} {m : Nat} (h : m < n) : ((List.range n).map F).getD m 0 = F m := by simp [List.getD, h]
structure EL (s n q : Nat) (code : List Nat) (w : World) (k : Nat) (v : Value) (cm : Nat → Int) (ps : List (Nat × Nat)) (W : World) : Prop where
  st : DcI n code k cm ps
  z : Blk W s 25 #[.int .i64 0, .slice none 0 0]
  g : Blk W q 25 #[.int .i64 n, v]
  r : W.ownsRow (s + 1) 3 1 (.slice (some ⟨s + 1, 0, none⟩) n n) n (row n cm)
  o : W.ownsRow (q + 1) 38 3 v ps.length (ps3 .i64 .i64 .i64 (toE ps))
  b : Below s w W
def DPost (n : Nat) (code : List Nat) (w : World) (e : Ending) (w' : World) : Prop :=
  Below w.heap.size w w' ∧ ∃ (A' : Option Addr) (c' : Nat) (ps : List (Nat × Nat)), e = .returned (.tuple #[.agg #[.int .i64 n, .slice A' ps.length c'], .int .i64 0]) ∧ Rd w' A' ps.length 3 (ps3 .i64 .i64 .i64 (toE ps)) ∧ ps.length ≤ c' ∧ DR (List.range n) code ps
set_option maxHeartbeats 3200000 in
theorem decode_ok (A : Option Addr) (len cap : Nat) (zs : List Int) (code : List Nat) (w : World) (hz : Rd w A len 1 (ints .i64 zs)) (hl : len ≤ 8) (hzc : zs = natI code) (hins : ∀ c ∈ code, c < len + 2) :
    Calls Tryd.prog 4 #[.slice A len cap] w (DPost (len + 2) code w) := by
  have hcl := Lib.hid (show code.length = len by have := hz.1; rw [hzc] at this; simpa [ints, natI] using this)
  have hzl := Lib.hid (show zs.length = len by simpa [ints] using hz.1)
  obtain ⟨n, hn⟩ : ∃ n, len + 2 = n := ⟨_, rfl⟩
  rw [hn] at hins ⊢
  have hnI : (len : Int) + 2 = (n : Int) := by omega
  have hnW : IntKind.i64.wrap ((len : Int) + 2) = (n : Int) := by rw [hnI]; exact IntWalk.i64_in _ (by omega)
  have hnW2 : IntKind.i64.wrap (n : Int) = (n : Int) := IntWalk.i64_in _ (by omega)
  have hmk := fun w => run_mkI (N := n) (by omega) w
  have gb := (Below.refl _ w).alloc (Nat.le_refl _) (.cells #[.int .i64 0, .slice none 0 0] 25)
  have bG := Blk.new w 25 #[.int .i64 0, .slice none 0 0]
  have gs : (w.alloc (.cells #[.int .i64 0, .slice none 0 0] 25)).heap.size = w.heap.size + 1 := by simp
  have h0 : DL w.heap.size n zs w 0 ((w.alloc (.cells #[.int .i64 0, .slice none 0 0] 25)).alloc (.cells (row n fun _ => 0).toArray 3)) := by
    have hrw := own_lit_D (w := w.alloc (.cells #[.int .i64 0, .slice none 0 0] 25)) (B := w.heap.size + 1) (e := 3) (row n fun _ => 0) (by omega) (by omega) (row_length _ _)
    rw [gs] at hrw
    refine ⟨fun j hj => absurd hj (by omega), bG.alloc _, ?_, gb.alloc (by omega) _, by simp⟩
    rw [show row n (cnF zs 0) = row n fun _ => 0 from row_congr fun i _ => by simp [cnF]]
    exact hrw
  have hinH := Lib.hid (show ∀ j, j < len → 0 ≤ zs.getD j 0 ∧ zs.getD j 0 < (n : Int) from fun j hj => by
    have hjc : j < code.length := by rw [hcl.out]; exact hj
    have := hins (code.getD j 0) (by simp [List.getD, hjc])
    rw [hzc, natI_at hjc]; omega)
  have hzH := Lib.hid hz; have h0H := Lib.hid h0; have hinsH := Lib.hid hins; have hzcH := Lib.hid hzc; have hnH := Lib.hid hn
  have h8 : decide ((8 : Int) < len) = false := decide_eq_false (by omega)
  have h8' : ¬ (8 : Int) < len := by omega
  clear hz h0 gb bG hins hzc
  go_enter Tryd.func4, Tryd.ntmps4
  go_wp2
  generalize (w.alloc (.cells #[.int .i64 0, .slice none 0 0] 25)).alloc (.cells (row n fun _ => 0).toArray 3) = w0 at *
  go_loopw [25] (fun kv wr => ∃ k : Nat, k ≤ len ∧ kv = .int .i64 k ∧ DL w.heap.size n zs w k wr) (fun kv _ => len - (intOf kv).toNat)
  case atStart => exact ⟨0, by omega, rfl, h0H.out⟩
  case round =>
    clear h0H
    obtain ⟨k, hk, rfl, hD⟩ := hrel
    obtain ⟨wi, rfl⟩ : ∃ wi : World, wi = wr := ⟨_, rfl⟩
    by_cases hkl : k < len
    · obtain ⟨b, o, rfl, hbl, cz⟩ := (hzH.out.later hD.b).int hkl
      have hkn : (k : Int) < len := by omega
      have hk0 : (0 : Int) ≤ k := by omega
      have hin := hinH.out k hkl
      obtain ⟨y, hy⟩ := Int.eq_ofNat_of_zero_le hin.1
      have hinS := Lib.hid (show ∀ j, j < k + 1 → 0 ≤ zs.getD j 0 ∧ zs.getD j 0 < (n : Int) from fun j hj => by
        rcases Nat.lt_or_ge j k with h | h
        · exact hD.ins j h
        · rw [show j = k by omega]; exact hin)
      have hsc := Lib.hid (fun x => cnF_succ (zs := zs) (k := k) (by rw [hzl.out]; exact hkl) hy x)
      rw [hy] at cz hin
      have hyn : y < n := by omega
      have hyn' : (y : Int) < n := hin.2
      have hy0 : (0 : Int) ≤ y := by omega
      have cy := (hD.r.cellAt y (by omega)).trans (row_get hyn)
      have fy := hD.r.frozenAt y
      have ly := (hD.r.lt _ rfl).2
      have hcb := cnF_le zs k y
      have hd1 : decide ((y : Int) < 0) = false := decide_eq_false (by omega)
      have hd2 : decide ((n : Int) ≤ (y : Int)) = false := decide_eq_false (by omega)
      have hst := Lib.hid (show DL w.heap.size n zs w (k + 1) (wi.setCell ⟨w.heap.size + 1, y, none⟩ (.int .i64 (cnF zs k y + 1))) from by
        refine ⟨hinS.out, hD.g.other (a := ⟨w.heap.size + 1, y, none⟩) (show w.heap.size ≠ w.heap.size + 1 by omega) _, ?_, hD.b.setCell (p := ⟨w.heap.size + 1, y, none⟩) (by simp) _, by simpa using hD.sz⟩
        have := (hD.r.stored y (.int .i64 (cnF zs k y + 1))).1
        rw [row_set] at this
        rw [show row n (cnF zs (k + 1)) = row n (fun i => if i = y then cnF zs k y + 1 else cnF zs k i) from row_congr fun i _ => by
          rw [hsc.out i]
          by_cases e : i = y
          · rw [if_pos e, if_pos e, e]
          · rw [if_neg e, if_neg e]]
        exact this)
      generalize cnF zs k y = cv at *
      clear hD hin hy
      go_wp2
      go_roundw
      case rel => exact ⟨k + 1, by omega, by go_num, hst.out⟩
      case measure => simp [intOf]; omega
    · obtain rfl : k = len := by omega
      have hq : w.heap.size + 2 ≤ wi.heap.size := hD.sz
      have h0E : EL w.heap.size n wi.heap.size code w 0 (.slice none 0 0) (fun x => (code.count x : Int)) [] (wi.alloc (.cells #[.int .i64 n, .slice none 0 0] 25)) := by
        refine ⟨DcI.beg hinsH.out, hD.g.alloc _, Blk.new wi 25 #[.int .i64 n, .slice none 0 0], ?_, World.ownsRow_nil _ _ _ _, hD.b.alloc (by omega) _⟩
        have := hD.r.alloc (.cells #[.int .i64 n, .slice none 0 0] 25)
        rw [show row n (cnF zs k) = row n (fun x => (code.count x : Int)) from row_congr fun x _ => by
          unfold cnF
          rw [List.take_of_length_le (by rw [hzl.out]; exact Nat.le_refl _), hzcH.out, count_natI]] at this
        exact this
      have h0EH := Lib.hid h0E
      have hqs : (wi.alloc (.cells #[.int .i64 n, .slice none 0 0] 25)).heap.size = wi.heap.size + 1 := by simp
      clear hD h0E
      go_wp2
      generalize hqq : wi.heap.size = q at *
      generalize wi.alloc (.cells #[.int .i64 n, .slice none 0 0] 25) = wj at *
      clear hqq hqs
      go_loopw [48] (fun kv wr => ∃ (j : Nat) (v : Value) (cm : Nat → Int) (ps : List (Nat × Nat)), j ≤ k ∧ kv = .int .i64 j ∧ EL w.heap.size n q code w j v cm ps wr) (fun kv _ => k - (intOf kv).toNat)
      case atStart => exact ⟨0, _, _, _, by omega, rfl, h0EH.out⟩
      case round =>
        clear h0EH
        obtain ⟨j, v, cm, ps, hj, rfl, hE⟩ := hrel
        obtain ⟨wr2, rfl⟩ : ∃ wr2 : World, wr2 = wr := ⟨_, rfl⟩
        by_cases hjk : j < k
        · obtain ⟨b, o, rfl, hbl, cz⟩ := (hzH.out.later hE.b).int hjk
          have hjc : j < code.length := by rw [hcl.out]; exact hjk
          have hnc := Lib.hid (show n = code.length + 2 by rw [hcl.out]; exact hnH.out.symm)
          rw [hzcH.out, natI_at hjc] at cz
          obtain ⟨i, hin, hi0, him, hcn, hne, hst⟩ := hE.st.step hnc.out hjc
          obtain ⟨c, hc⟩ : ∃ c, code.getD j 0 = c := ⟨_, rfl⟩
          rw [hc] at cz hcn hne hst
          have hbd := hE.st.bd hcn
          have hplH := Lib.hid hE.st.pl
          have hpl9 : ps.length ≤ 8 := by have := hE.st.pl; omega
          have hcl2 := hcl.out
          have hrI := Lib.hid (index_at (some ⟨w.heap.size + 1, 0, none⟩) n n ((List.range n).map cm) 0 wr2 (by rw [← row_ints]; exact Rd.of_own hE.r) (by omega) i hin (by rw [range_get hin]; exact hi0) (fun m hm => by rw [range_get (by omega)]; exact him m hm))
          have hEH := Lib.hid hE; have hstH := Lib.hid hst
          have hjn : (j : Int) < k := by omega
          have hj0 : (0 : Int) ≤ j := by omega
          have hcn' : (c : Int) < n := by omega
          have hc0 : (0 : Int) ≤ c := by omega
          have hin' : (i : Int) < n := by omega
          have hi0' : (0 : Int) ≤ i := by omega
          have ci := (hE.r.cellAt i (by omega)).trans (row_get hin)
          have fi := hE.r.frozenAt i
          have li := (hE.r.lt _ rfl).2
          obtain ⟨A1, c1, rfl⟩ := own_slice hE.o
          clear hE hst hc hi0 him
          go_wp2_with fail
          refine hrI.out.mono ?_
          rintro _ _ ⟨rfl, rfl⟩
          clear hrI
          go_upto_region 18 with fail
          have r5 := (hEH.out.r.stored i (.int .i64 (-1))).1
          rw [row_updZ] at r5
          have hgs5 : wr2.grownBy (wr2.setCell ⟨w.heap.size + 1, i, none⟩ (.int .i64 (-1))) (some (w.heap.size + 1)) := ⟨rfl, rfl, rfl, by simp, fun k _ hk => heap_setCell_other wr2 ⟨w.heap.size + 1, i, none⟩ k _ (fun e => hk (by simp [e]))⟩
          have z5 := hEH.out.z.kept hgs5 (fun e => by injection e with e; omega)
          have g5 := hEH.out.g.kept hgs5 (fun e => by injection e with e; omega)
          have o5 := hEH.out.o.kept hgs5 (.inr (fun e => by have := (hEH.out.o.lt _ e).1; omega))
          have b5 := hEH.out.b.setCell (p := ⟨w.heap.size + 1, i, none⟩) (by simp) (.int .i64 (-1))
          clear ci fi li hgs5 cz
          generalize wr2.setCell ⟨w.heap.size + 1, i, none⟩ (.int .i64 (-1)) = w5 at *
          have cc := (r5.cellAt c (by omega)).trans (row_get hcn)
          rw [show updZ cm i (-1) c = cm c by unfold updZ; rw [if_neg (fun e => hne e.symm)]] at cc
          have fc := r5.frozenAt c
          have lc := (r5.lt _ rfl).2
          obtain ⟨cv, hcv⟩ : ∃ cv, cm c = cv := ⟨_, rfl⟩
          rw [hcv] at cc hbd
          have r6H := Lib.hid (show (w5.setCell ⟨w.heap.size + 1, c, none⟩ (.int .i64 (cv - 1))).ownsRow (w.heap.size + 1) 3 1 (.slice (some ⟨w.heap.size + 1, 0, none⟩) n n) n (row n (updZ (updZ cm i (-1)) c (cm c - 1))) from by
            have := (r5.stored c (.int .i64 (cv - 1))).1
            rw [row_updZ] at this
            rw [hcv]; exact this)
          have hgs6 : w5.grownBy (w5.setCell ⟨w.heap.size + 1, c, none⟩ (.int .i64 (cv - 1))) (some (w.heap.size + 1)) := ⟨rfl, rfl, rfl, by simp, fun k _ hk => heap_setCell_other w5 ⟨w.heap.size + 1, c, none⟩ k _ (fun e => hk (by simp [e]))⟩
          have z6 := Lib.hid (z5.kept hgs6 (fun e => by injection e with e; omega))
          have g6 := g5.kept hgs6 (fun e => by injection e with e; omega)
          have o6 := Lib.hid (o5.kept hgs6 (.inr (fun e => by have := (o5.lt _ e).1; omega)))
          have b6 := Lib.hid (b5.setCell (p := ⟨w.heap.size + 1, c, none⟩) (by simp) (.int .i64 (cv - 1)))
          have hcvH := Lib.hid hcv
          clear hgs6 r5 z5 g5 o5 b5 hcv
          go_upto_region 19 with fail
          generalize w5.setCell ⟨w.heap.size + 1, c, none⟩ (.int .i64 (cv - 1)) = w6 at *
          clear cc fc lc
          have e1 := g6.cell (j := 1) (v := .slice A1 ps.length c1) rfl
          have f1 := g6.frozen 1
          have l1 := g6.lt
          have g6H := Lib.hid g6
          clear g6
          go_wp2_with (at_builtin; refine wpList_app (s := .tmp 64) (x := .tmp 68) _ tiEd (o6.out.alloc _) (rd_new3 w6 (.int .i64 (i : Int)) (.int .i64 (c : Int)) (.int .i64 0) 38) (ps3_one (l := [((i : Int), (c : Int), 0)])) (by omega) (by omega) (by simp; omega) rfl rfl rfl rfl ?_)
          intro v' w7 hown' hg hat
          obtain ⟨g', cap', rfl⟩ := ownsRow_succ hown'
          have hgb := (o6.out.lt)
          have hneg : ∀ x, x < q + 1 → (some x : Option Nat) ≠ (Value.slice A1 ps.length c1).ownBlock := fun x hx e => by
            have := (o6.out.lt x e.symm).1
            omega
          have g7 := (g6H.out.alloc (.cells #[.int .i64 (i : Int), .int .i64 (c : Int), .int .i64 0] 38)).kept hg (hneg q (by omega))
          have z7 := (z6.out.alloc (.cells #[.int .i64 (i : Int), .int .i64 (c : Int), .int .i64 0] 38)).kept hg (hneg _ (by omega))
          have r7 := (r6H.out.alloc (.cells #[.int .i64 (i : Int), .int .i64 (c : Int), .int .i64 0] 38)).kept hg (.inr (fun e => hneg (w.heap.size + 1) (by omega) e))
          have b7 := (b6.out.alloc b6.out.size (.cells #[.int .i64 (i : Int), .int .i64 (c : Int), .int .i64 0] 38)).grown hg (by simp; have := b6.out.size; omega) (fun x e => by have := (o6.out.lt x e).1; omega)
          have e7 := g7.cell (j := 1) (v := .slice A1 ps.length c1) rfl
          have f7 := g7.frozen 1
          have l7 := g7.lt
          have hne4 : (Value.slice (some ⟨g', 0, none⟩) (ps.length + 1) cap').ownBlock ≠ some (⟨q, 1, none⟩ : Addr).block := fun e => by
            have := (hown'.lt _ e).1
            simp only at this
            omega
          have g8 := Lib.hid (g7.set 1 (.slice (some ⟨g', 0, none⟩) (ps.length + 1) cap'))
          have z8 := Lib.hid (z7.other (a := ⟨q, 1, none⟩) (show w.heap.size ≠ q by omega) (.slice (some ⟨g', 0, none⟩) (ps.length + 1) cap'))
          have r8 := Lib.hid (own_set_other r7 (a := ⟨q, 1, none⟩) (by simp [Value.ownBlock]; omega) (.slice (some ⟨g', 0, none⟩) (ps.length + 1) cap'))
          have o8 := Lib.hid (own_set_other hown' hne4 (.slice (some ⟨g', 0, none⟩) (ps.length + 1) cap'))
          have b8 := Lib.hid (b7.setCell (p := ⟨q, 1, none⟩) (show w.heap.size ≤ q by omega) (.slice (some ⟨g', 0, none⟩) (ps.length + 1) cap'))
          clear g7 z7 r7 b7 hown' hg hat hne4 hneg hgb e1 f1 l1
          go_wp2
          go_roundw
          case rel => exact ⟨j + 1, .slice (some ⟨g', 0, none⟩) (ps.length + 1) cap', _, ps ++ [(i, c)], by omega, by go_num, hstH.out, z8.out, g8.out, r8.out, (by
            have := o8.out
            rw [List.length_append, show toE (ps ++ [(i, c)]) = toE ps ++ [((i : Int), (c : Int), (0 : Int))] by simp [toE], show ps3 .i64 .i64 .i64 (toE ps ++ [((i : Int), (c : Int), (0 : Int))]) = ps3 .i64 .i64 .i64 (toE ps) ++ [.int .i64 (i : Int), .int .i64 (c : Int), .int .i64 0] by simp [ps3]]
            exact this), b8.out⟩
          case measure => simp [intOf]; omega
        · have hjk2 : j = code.length := by rw [hcl.out]; omega
          have hnc : n = code.length + 2 := by rw [hcl.out]; exact hnH.out.symm
          have hst := hE.st
          rw [hjk2] at hst
          obtain ⟨x, y, hxy, hyn, hx0, hxm, hy0, hym, hDR⟩ := hst.end_ hnc
          obtain ⟨x1, hx1⟩ : ∃ x1, x + 1 = x1 := ⟨_, rfl⟩
          obtain ⟨d, hd⟩ : ∃ d, y = x1 + d := ⟨y - x1, by omega⟩
          obtain ⟨m, hm⟩ : ∃ m, n = x1 + m := ⟨n - x1, by omega⟩
          have hplH := Lib.hid hE.st.pl
          have hpl9 : ps.length ≤ 8 := by have := hE.st.pl; have := hcl.out; omega
          have hrd := Rd.of_own hE.r
          rw [row_ints] at hrd
          have hI1 := Lib.hid (index_at (some ⟨w.heap.size + 1, 0, none⟩) n n ((List.range n).map cm) 0 wr2 hrd (by omega) x (by omega) (by rw [range_get (by omega)]; exact hx0) (fun z hz => by rw [range_get (by omega)]; exact hxm z hz))
          have hrd2 : Rd wr2 (some ⟨w.heap.size + 1, x1, none⟩) m 1 (ints .i64 (((List.range n).map cm).drop x1)) := by
            refine ⟨by simp [ints]; omega, fun _ => ⟨w.heap.size + 1, x1, rfl, (hE.r.lt _ rfl).2, fun z hz => ?_⟩⟩
            have := hE.r.cellAt (x1 + z) (by omega)
            rw [row_ints] at this
            rw [this]
            simp only [ints, List.map_drop, List.getElem?_drop]
          have hI2 := Lib.hid (index_at (some ⟨w.heap.size + 1, x1, none⟩) m m (((List.range n).map cm).drop x1) 0 wr2 hrd2 (by omega) d (by omega)
            (by rw [show (((List.range n).map cm).drop x1).getD d 0 = ((List.range n).map cm).getD (x1 + d) 0 by simp only [List.getD, List.getElem?_drop], range_get (by omega), ← hd]; exact hy0)
            (fun z hz => by rw [show (((List.range n).map cm).drop x1).getD z 0 = ((List.range n).map cm).getD (x1 + z) 0 by simp only [List.getD, List.getElem?_drop], range_get (by omega)]; exact hym (x1 + z) (by omega) (by omega)))
          have hEH := Lib.hid hE; have hDRH := Lib.hid hDR
          have hxyH := Lib.hid hxy; have hdH := Lib.hid hd; have hmH := Lib.hid hm; have hx1H := Lib.hid hx1; have hynH := Lib.hid hyn
          have hxn : x < n := by omega
          have hn10 : n ≤ 10 := by have := hnH.out; omega
          have hxn10 : x < 10 := by omega
          obtain ⟨A1, c1, rfl⟩ := own_slice hE.o
          clear hE hst hDR hrd hrd2 hx0 hxm hy0 hym hjk2 hnc hx1 hd hm hxy hyn
          go_wp2_with fail
          refine hI1.out.mono ?_
          rintro _ _ ⟨rfl, rfl⟩
          clear hI1
          have hyb : y < 10 := by have := hynH.out; omega
          have hx1n : x1 < 10 := by have := hdH.out; omega
          have hq2 : IntKind.i64.wrap ((x : Int) + 1) = (x1 : Int) := by have := hx1H.out; rw [show (x : Int) + 1 = x1 by omega]; exact IntWalk.i64_in _ (by omega)
          have hq1 : (x : Int) + 1 = (x1 : Int) := by have := hx1H.out; omega
          have hq4 : (0 : Int) ≤ x1 := by omega
          have hq5 : (x1 : Int) ≤ n := by have := hmH.out; omega
          have hsub : n - x1 = m := by have := hmH.out; omega
          have hsubI : ((n : Int) - x1).toNat = m := by have := hmH.out; omega
          have hsubI2 : (n : Int) - x1 = (m : Int) := by have := hmH.out; omega
          have hne : n ≠ x1 := by have := hdH.out; have := hynH.out; omega
          have hxn1 : x1 < n := by have := hdH.out; have := hynH.out; omega
          go_wp2_with fail
          refine hI2.out.mono ?_
          rintro _ _ ⟨rfl, rfl⟩
          clear hI2 hq4 hq5 hsub hsubI hsubI2 hq1 hq2
          have hq7 : IntKind.i64.wrap ((x1 : Int) + d) = (y : Int) := by have := hdH.out; have := hynH.out; rw [show (x1 : Int) + d = y by omega]; exact IntWalk.i64_in _ (by omega)
          have hq8 : (x1 : Int) + d = (y : Int) := by have := hdH.out; omega
          go_upto_region 23 with fail
          clear hq7 hq8
          have e1 := hEH.out.g.cell (j := 1) (v := .slice A1 ps.length c1) rfl
          have f1 := hEH.out.g.frozen 1
          have l1 := hEH.out.g.lt
          go_wp2_with (at_builtin; refine wpList_app (s := .tmp 83) (x := .tmp 87) _ tiEd (hEH.out.o.alloc _) (rd_new3 wr2 (.int .i64 (x : Int)) (.int .i64 (y : Int)) (.int .i64 0) 38) (ps3_one (l := [((x : Int), (y : Int), 0)])) (by omega) (by omega) (by simp; omega) rfl rfl rfl rfl ?_)
          intro v' w7 hown' hg hat
          obtain ⟨g', cap', rfl⟩ := ownsRow_succ hown'
          have hgb := (hEH.out.o.lt)
          have hneg : ∀ x, x < q + 1 → (some x : Option Nat) ≠ (Value.slice A1 ps.length c1).ownBlock := fun x hx e => by
            have := (hEH.out.o.lt x e.symm).1
            omega
          have hzq : w.heap.size < q := by omega
          have g7 := (hEH.out.g.alloc (.cells #[.int .i64 (x : Int), .int .i64 (y : Int), .int .i64 0] 38)).kept hg (hneg q (by omega))
          have z7 := (hEH.out.z.alloc (.cells #[.int .i64 (x : Int), .int .i64 (y : Int), .int .i64 0] 38)).kept hg (hneg _ (by omega))
          have b7 := (hEH.out.b.alloc hEH.out.b.size (.cells #[.int .i64 (x : Int), .int .i64 (y : Int), .int .i64 0] 38)).grown hg (by simp; have := hEH.out.b.size; omega) (fun x e => by have := (hEH.out.o.lt x e).1; omega)
          have e7 := g7.cell (j := 1) (v := .slice A1 ps.length c1) rfl
          have f7 := g7.frozen 1
          have l7 := g7.lt
          have hne4 : (Value.slice (some ⟨g', 0, none⟩) (ps.length + 1) cap').ownBlock ≠ some (⟨q, 1, none⟩ : Addr).block := fun e => by
            have := (hown'.lt _ e).1
            simp only at this
            omega
          have g8 := g7.set 1 (.slice (some ⟨g', 0, none⟩) (ps.length + 1) cap')
          have z8 := z7.other (a := ⟨q, 1, none⟩) (show w.heap.size ≠ q by omega) (.slice (some ⟨g', 0, none⟩) (ps.length + 1) cap')
          have o8 := Lib.hid (own_set_other hown' hne4 (.slice (some ⟨g', 0, none⟩) (ps.length + 1) cap'))
          have b8 := b7.setCell (p := ⟨q, 1, none⟩) (show w.heap.size ≤ q by omega) (.slice (some ⟨g', 0, none⟩) (ps.length + 1) cap')
          clear g7 z7 b7 hown' hg hat hne4 hneg hgb e1 f1 l1
          go_upto_region 24 with fail
          generalize w7.setCell ⟨q, 1, none⟩ (.slice (some ⟨g', 0, none⟩) (ps.length + 1) cap') = w8 at *
          clear e7 f7 l7
          have k0 := g8.cell (j := 0) (v := .int .i64 n) rfl
          have k1 := g8.cell (j := 1) (v := .slice (some ⟨g', 0, none⟩) (ps.length + 1) cap') rfl
          have z0 := z8.cell (j := 0) (v := .int .i64 0) rfl; have z1 := z8.cell (j := 1) (v := .slice none 0 0) rfl
          have f0 := z8.frozen 0; have f1 := z8.frozen 1; have l1 := z8.lt
          have hsb : ∀ j, (Value.slice (some ⟨g', 0, none⟩) (ps.length + 1) cap').ownBlock ≠ some (⟨w.heap.size, j, none⟩ : Addr).block := fun j e => by
            have := (o8.out.lt _ e).1
            simp only at this
            omega
          have o9 := Lib.hid (own_set_other (own_set_other o8.out (hsb 0) (.int .i64 n)) (hsb 1) (.slice (some ⟨g', 0, none⟩) (ps.length + 1) cap'))
          have b9 := Lib.hid ((b8.setCell (p := ⟨w.heap.size, 0, none⟩) (Nat.le_refl _) (.int .i64 n)).setCell (p := ⟨w.heap.size, 1, none⟩) (Nat.le_refl _) (.slice (some ⟨g', 0, none⟩) (ps.length + 1) cap'))
          clear g8 z8 b8 hsb hzq hq
          go_wp2
          (try simp only [Exit.inBlock, Exit.then])
          refine bodyPost_ret (v := .tuple #[.agg #[.int .i64 n, .slice (some ⟨g', 0, none⟩) (ps.length + 1) cap'], .int .i64 0]) ?_ rfl ⟨b9.out, some ⟨g', 0, none⟩, cap', ps ++ [(x, y)], ?_, ?_, ?_, hDRH.out⟩
          · rw [results_cell_tmp rfl]
            go_simp
          · simp
          · have := Rd.of_own o9.out
            rw [List.length_append, show toE (ps ++ [(x, y)]) = toE ps ++ [((x : Int), (y : Int), (0 : Int))] by simp [toE], show ps3 .i64 .i64 .i64 (toE ps ++ [((x : Int), (y : Int), (0 : Int))]) = ps3 .i64 .i64 .i64 (toE ps) ++ [.int .i64 (x : Int), .int .i64 (y : Int), .int .i64 0] by simp [ps3]]
            exact this
          · rw [List.length_append]
            exact own_capD o9.out
end Go.Proofs.YtdmbbddkbfknlaaDoor
