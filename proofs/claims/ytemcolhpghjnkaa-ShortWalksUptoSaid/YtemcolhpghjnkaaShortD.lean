/- short.from. -/
import Derived.Test.YtemcolhpghjnkaaShortB
namespace Go.Proofs.Ytemcolhpghjnkaa
open Go.RowKit

theorem infoL : (Try.prog.info? 2).map (fun i => (i.zero, i.size, i.bytes)) = some (some (.int .i64 0), 1, 8) := by kernel_rfl
theorem infoB : (Try.prog.info? 4).map (fun i => (i.zero, i.size, i.bytes)) = some (some (.bool false), 1, 1) := by kernel_rfl
/-- the table of the walk: the rows' blocks, and what they hold -/
structure Tab (w : World) (B bt bf bh N : Nat) (S : BS) : Prop where
  cf : w.cell? ⟨bt, 0, none⟩ = some (.slice (some ⟨bf, 0, none⟩) N N)
  ch : w.cell? ⟨bt, 1, none⟩ = some (.slice (some ⟨bh, 0, none⟩) N N)
  rf : w.ownsRow B 2 1 (.slice (some ⟨bf, 0, none⟩) N N) N (row N S.F)
  rh : w.ownsRow B 4 1 (.slice (some ⟨bh, 0, none⟩) N N) N (brow N S.T)
  n1 : bf ≠ bh
  n2 : bt ≠ bf
  n3 : bt ≠ bh
  sz : bt < w.heap.size
  bB : B ≤ bt
theorem run_mk1 {t e : TypeId} {z : Value} {bytes : Nat} (ht : Try.prog.underlying t = some (.slice e)) (hi : (Try.prog.info? e).map (fun i => (i.zero, i.size, i.bytes)) = some (some z, 1, bytes)) (hz1 : z.cells = #[z]) {N : Nat} (hN : N ≤ 10) (hb : bytes ≤ 8) (w : World) :
    (Instr.makeSlice t (.int .i64 (N : Int)) (.int .i64 (N : Int))).run Try.prog w = .ok (.slice (some ⟨w.heap.size, 0, none⟩) N N) (w.alloc (.cells (List.replicate N z).toArray e)) := by
  obtain ⟨i0, hi0, hz0, hs0, hb0⟩ := info_parts hi
  have := run_make (P := Try.prog) w t e i0 z ht hi0 hz0 .i64 .i64 N N (by omega) (Int.le_refl _) (by
    rw [hb0]
    have : (bytes : Int) * (N : Int) ≤ 8 * 10 := by
      have h : bytes * N ≤ 8 * 10 := Nat.mul_le_mul hb hN
      exact_mod_cast h
    omega) (by omega)
  rw [this]
  congr 2
  rw [hs0, hz1, Int.toNat_natCast, Nat.mul_one]
  congr 1
  rw [← toList_madeCells_one z N]
section
variable {w : World} {B bt bf bh N : Nat} {S : BS}
theorem Tab.drewN (h : Tab w B bt bf bh N S) (k : Nat) : Tab (w.drewN k) B bt bf bh N S := ⟨h.cf, h.ch, h.rf, h.rh, h.n1, h.n2, h.n3, h.sz, h.bB⟩
theorem Tab.drew (h : Tab w B bt bf bh N S) : Tab w.drew B bt bf bh N S := ⟨h.cf, h.ch, h.rf, h.rh, h.n1, h.n2, h.n3, h.sz, h.bB⟩
theorem Tab.alloc (h : Tab w B bt bf bh N S) (o : Obj) : Tab (w.alloc o) B bt bf bh N S :=
  ⟨alloc_cell h.sz h.cf o, alloc_cell h.sz h.ch o, h.rf.alloc o, h.rh.alloc o, h.n1, h.n2, h.n3, by have := h.sz; simp; omega, h.bB⟩
theorem Tab.setF (h : Tab w B bt bf bh N S) (t : Nat) (x : Int) (b : Bool) : Tab (w.setCell ⟨bf, t, none⟩ (.int .i64 x)) B bt bf bh N ⟨upd S.F t x, S.T, b⟩ :=
  ⟨cell_set_other h.n2 h.cf, cell_set_other h.n2 h.ch, by rw [show row N (upd S.F t x) = (row N S.F).set t (.int .i64 x) from (row_set N S.F t x).symm]; exact (h.rf.stored t _).1,
    own_set_other h.rh (by simp [Value.ownBlock]; exact fun e => h.n1 e.symm) _, h.n1, h.n2, h.n3, by simpa using h.sz, h.bB⟩
theorem Tab.setT (h : Tab w B bt bf bh N S) (t : Nat) (x : Bool) (b : Bool) : Tab (w.setCell ⟨bh, t, none⟩ (.bool x)) B bt bf bh N ⟨S.F, upd S.T t x, b⟩ :=
  ⟨cell_set_other h.n3 h.cf, cell_set_other h.n3 h.ch, own_set_other h.rf (by simp [Value.ownBlock]; exact h.n1) _,
    by rw [show brow N (upd S.T t x) = (brow N S.T).set t (.bool x) from (brow_set N S.T t x).symm]; exact (h.rh.stored t _).1, h.n1, h.n2, h.n3, by simpa using h.sz, h.bB⟩
theorem Tab.b (h : Tab w B bt bf bh N S) {F : Nat → Int} {T : Nat → Bool} {b b' : Bool} (e : S = ⟨F, T, b⟩) : Tab w B bt bf bh N ⟨F, T, b'⟩ := by subst e; exact ⟨h.cf, h.ch, h.rf, h.rh, h.n1, h.n2, h.n3, h.sz, h.bB⟩
theorem Tab.keep (h : Tab w B bt bf bh N S) {w' : World} (hb : Below w.heap.size w w') : Tab w' B bt bf bh N S :=
  ⟨below_cell hb h.sz h.cf, below_cell hb h.sz h.ch, own_below h.rf hb, own_below h.rh hb, h.n1, h.n2, h.n3, Nat.lt_of_lt_of_le h.sz hb.size, h.bB⟩
end
theorem own_lit_at {w : World} {B : Nat} {e : TypeId} (cs : List Value) {g n : Nat} (hg : g = w.heap.size) (hB : B ≤ w.heap.size) (hn : n ≤ 10) (hs : cs.length = n) : (w.alloc (.cells cs.toArray e)).ownsRow B e 1 (.slice (some ⟨g, 0, none⟩) n n) n cs := by
  subst hg
  simpa using World.ownsRow_lit (base := B) (e := e) (size := 1) w cs.toArray n hB (by unfold maxLen; omega) (by simpa using hs)
def initS : BS := ⟨fun _ => 0, fun _ => false, false⟩
def CutTab (W0 : World) (N : Nat) (p : Value) (wx : World) : Prop := ∃ bt bf bh, p = .pointer (some ⟨bt, 0, none⟩) ∧ Tab wx W0.heap.size bt bf bh N initS ∧ Below W0.heap.size W0 wx
def FromPost (N s : Nat) (l : List Arc) (w : World) (e : Ending) (w' : World) : Prop :=
  ∃ bf bh, e = .returned (.tuple #[.agg #[.slice (some ⟨bf, 0, none⟩) N N, .slice (some ⟨bh, 0, none⟩) N N], .bool (bfRun l (N + 1) (bfInit s)).2]) ∧
    w'.ownsRow w.heap.size 2 1 (.slice (some ⟨bf, 0, none⟩) N N) N (row N (bfRun l (N + 1) (bfInit s)).1.F) ∧ w'.ownsRow w.heap.size 4 1 (.slice (some ⟨bh, 0, none⟩) N N) N (brow N (bfRun l (N + 1) (bfInit s)).1.T) ∧ Below w.heap.size w w'
theorem fromPost_mk {N s : Nat} {l : List Arc} {w W0 wr : World} {S : BS} {ok : Bool} {bt bf bh : Nat} (hf : bfRun l (N + 1) (bfInit s) = (S, ok)) (hS0 : w.heap.size + 1 < W0.heap.size) (hbw0 : Below w.heap.size w W0) (hb : Below W0.heap.size W0 wr) (h : Tab wr W0.heap.size bt bf bh N S) :
    FromPost N s l w (.returned (.tuple #[.agg #[.slice (some ⟨bf, 0, none⟩) N N, .slice (some ⟨bh, 0, none⟩) N N], .bool ok])) ((wr.setCell ⟨w.heap.size + 1, 0, none⟩ (.slice (some ⟨bf, 0, none⟩) N N)).setCell ⟨w.heap.size + 1, 1, none⟩ (.slice (some ⟨bh, 0, none⟩) N N)) := by
  have h1 : W0.heap.size ≤ bf := (h.rf.lt _ rfl).1
  have h2 : W0.heap.size ≤ bh := (h.rh.lt _ rfl).1
  refine ⟨bf, bh, by rw [hf], ?_, ?_, ((hbw0.trans (hb.mono (by omega))).setCell (p := ⟨w.heap.size + 1, 0, none⟩) (by simp) _).setCell (p := ⟨w.heap.size + 1, 1, none⟩) (by simp) _⟩
  · rw [hf]
    exact own_base (by omega) (own_set_other (own_set_other h.rf (by simp [Value.ownBlock]; omega) _) (by simp [Value.ownBlock]; omega) _)
  · rw [hf]
    exact own_base (by omega) (own_set_other (own_set_other h.rh (by simp [Value.ownBlock]; omega) _) (by simp [Value.ownBlock]; omega) _)
set_option maxHeartbeats 3200000 in
set_option maxRecDepth 100000 in
theorem from_any (N s : Nat) (A : Option Addr) (len cap : Nat) (l : List Arc) (w : World) (hr : Rd w A len 4 (arcs l)) (hN : N ≤ 10) (hl : len ≤ 30) (hs : s < N) (hok : ∀ a ∈ l, AOk N a) :
    Calls Try.prog 14 #[.agg #[.int .i64 N, .slice A len cap], .int .i64 s] w (FromPost N s l w) := by
  have helH := Lib.hid (arcs_len hr)
  have hrH := Lib.hid hr; have hokH := Lib.hid hok
  clear hr hok
  have hmf := fun w => run_mk1 (t := 25) Try.underlying25 infoL rfl hN (by omega) w
  have hmh := fun w => run_mk1 (t := 26) Try.underlying26 infoB rfl hN (by omega) w
  rw [row_replicate] at hmf
  rw [brow_replicate] at hmh
  have g0 : ((w.alloc (Obj.cells #[Value.int IntKind.i64 (N : Int), Value.slice A len cap] 24)).alloc (Obj.cells #[Value.slice none 0 0, Value.slice none 0 0] 46)).cell? ⟨w.heap.size, 0, none⟩ = some (.int .i64 N) := by go_simp
  have g1 : ((w.alloc (Obj.cells #[Value.int IntKind.i64 (N : Int), Value.slice A len cap] 24)).alloc (Obj.cells #[Value.slice none 0 0, Value.slice none 0 0] 46)).cell? ⟨w.heap.size, 1, none⟩ = some (.slice A len cap) := by go_simp
  have g2 : ((w.alloc (Obj.cells #[Value.int IntKind.i64 (N : Int), Value.slice A len cap] 24)).alloc (Obj.cells #[Value.slice none 0 0, Value.slice none 0 0] 46)).cell? ⟨w.heap.size + 1, 0, none⟩ = some (.slice none 0 0) := by go_simp
  have g3 : ((w.alloc (Obj.cells #[Value.int IntKind.i64 (N : Int), Value.slice A len cap] 24)).alloc (Obj.cells #[Value.slice none 0 0, Value.slice none 0 0] 46)).cell? ⟨w.heap.size + 1, 1, none⟩ = some (.slice none 0 0) := by go_simp
  have z2 : ((w.alloc (Obj.cells #[Value.int IntKind.i64 (N : Int), Value.slice A len cap] 24)).alloc (Obj.cells #[Value.slice none 0 0, Value.slice none 0 0] 46)).frozen? ⟨w.heap.size + 1, 0, none⟩ = false := by go_simp
  have z3 : ((w.alloc (Obj.cells #[Value.int IntKind.i64 (N : Int), Value.slice A len cap] 24)).alloc (Obj.cells #[Value.slice none 0 0, Value.slice none 0 0] 46)).frozen? ⟨w.heap.size + 1, 1, none⟩ = false := by go_simp
  have hS0 : w.heap.size + 1 < ((w.alloc (Obj.cells #[Value.int IntKind.i64 (N : Int), Value.slice A len cap] 24)).alloc (Obj.cells #[Value.slice none 0 0, Value.slice none 0 0] 46)).heap.size := by simp
  have hbw0 : Below w.heap.size w ((w.alloc (Obj.cells #[Value.int IntKind.i64 (N : Int), Value.slice A len cap] 24)).alloc (Obj.cells #[Value.slice none 0 0, Value.slice none 0 0] 46)) := ((Below.refl _ _).alloc (Nat.le_refl _) _).alloc (by simp) _
  go_enter Try.func14, Try.ntmps14
  go_upto_region 1 with fail
  generalize (w.alloc (Obj.cells #[Value.int IntKind.i64 (N : Int), Value.slice A len cap] 24)).alloc (Obj.cells #[Value.slice none 0 0, Value.slice none 0 0] 46) = W0 at *
  have hS1 : w.heap.size < W0.heap.size := by omega
  go_cut [6] (fun p wx => CutTab W0 N p wx)
  case first =>
    go_region
    all_goals
      go_wp2_with fail
      go_meet
      refine ⟨_, ?_, ?_, rfl, Tab.drew (Tab.mk ?_ ?_ ?_ ?_ ?_ ?_ ?_ ?_ ?_), Below.drew ((((Below.refl _ _).alloc (Nat.le_refl _) _).alloc ?_ _).alloc ?_ _)⟩
      rotate_left 2
      · go_simp; exact rfl
      · go_simp; exact rfl
      · first
        | exact own_lit_at _ (by simp) (by simp <;> omega) hN (row_length _ _)
        | exact (own_lit_at _ (by simp) (by simp <;> omega) hN (row_length _ _)).alloc _
        | exact ((own_lit_at _ (by simp) (by simp <;> omega) hN (row_length _ _)).alloc _).alloc _
      · first
        | exact own_lit_at _ (by simp) (by simp <;> omega) hN (brow_length _ _)
        | exact (own_lit_at _ (by simp) (by simp <;> omega) hN (brow_length _ _)).alloc _
        | exact ((own_lit_at _ (by simp) (by simp <;> omega) hN (brow_length _ _)).alloc _).alloc _
      · omega
      · omega
      · omega
      · simp <;> omega
      · omega
      · simp
      · simp <;> omega
  case rest =>
    clear hmf hmh
    obtain ⟨bt, bf, bh, rfl, htab, hb⟩ := hcut
    have hSr := hb.size
    have hSw : w.heap.size < wc.heap.size := by omega
    have hSw1 : w.heap.size + 1 < wc.heap.size := by omega
    have q0 := below_cell hb hS1 g0
    have q1 := below_cell hb hS1 g1
    have cf := htab.cf
    have ch := htab.ch
    have sz := htab.sz
    have hcs : wc.cell? ⟨bh, s, none⟩ = some (.bool false) := (htab.rh.cellAt s (by omega)).trans (brow_get hs)
    have hzs := htab.rh.frozenAt s
    have hsi : (s : Int) < N := by omega
    have hst := Lib.hid (show Tab (wc.setCell ⟨bh, s, none⟩ (.bool true)) W0.heap.size bt bf bh N (bfInit s) by
      have h := htab.setT s true false
      rwa [show (⟨initS.F, upd initS.T s true, false⟩ : BS) = bfInit s by
        unfold initS bfInit upd
        congr 1] at h)
    have hbh := (htab.rh.lt _ rfl).1
    have hbs := Lib.hid (hb.setCell (p := ⟨bh, s, none⟩) hbh (.bool true))
    clear htab hb
    go_wp2
    have q0 : (wc.setCell ⟨bh, s, none⟩ (.bool true)).cell? ⟨w.heap.size, 0, none⟩ = some (.int .i64 N) := cell_set_other (by omega) q0
    have hsz : (wc.setCell ⟨bh, s, none⟩ (.bool true)).heap.size = wc.heap.size := by simp
    generalize wc.setCell ⟨bh, s, none⟩ (.bool true) = W1 at *
    have hrl := Lib.hid (hrH.out.later hbw0)
    clear cf ch sz hcs hzs q1 hSr hSw1 hSw
    go_loopw [7, 9, 10, 25, 28, 29, 30] (fun _ _ _ i _ _ _ wr => ∃ (j : Nat) (S : BS), j ≤ N + 1 ∧ i = .int .i64 j ∧ Tab wr W0.heap.size bt bf bh N S ∧ bfRun l (N + 1 - j) S = bfRun l (N + 1) (bfInit s) ∧ Bd (j * 31457280) S ∧ Below W0.heap.size W0 wr) (fun _ _ _ i _ _ _ _ => N + 1 - (intOf i).toNat)
    case atStart => exact ⟨0, bfInit s, Nat.zero_le _, rfl, hst.out, rfl, fun i => by simp [bfInit], hbs.out⟩
    case round =>
      clear q0 hsz
      obtain ⟨j, S, hj, rfl, htab, hrun, hbd, hb⟩ := hrel
      have hSr := hb.size
      have hSw : w.heap.size < wr.heap.size := by omega
      have hSw1 : w.heap.size + 1 < wr.heap.size := by omega
      have q0 := below_cell hb hS1 g0
      have q1 := below_cell hb hS1 g1
      have htabH := Lib.hid htab; have hrunH := Lib.hid hrun; have hbdH := Lib.hid hbd; have hbH := Lib.hid hb
      by_cases hlt : j < N + 1
      · have hlt' : (j : Int) < (N : Int) + 1 := by omega
        clear htab hrun hbd hb
        go_wp2
        obtain ⟨wo, hwo⟩ : ∃ wo : World, wo = wr := ⟨_, rfl⟩
        go_loopw [7, 9, 10, 30] (fun b _ _ i wr => ∃ m : Nat, m ≤ len ∧ i = .int .i64 m ∧ b = .bool (sweep (begun S) (l.take m)).b ∧ Tab wr W0.heap.size bt bf bh N (sweep (begun S) (l.take m)) ∧ Bd (j * 31457280 + m * 1048576) (sweep (begun S) (l.take m)) ∧ Below W0.heap.size W0 wr) (fun _ _ _ i _ => len - (intOf i).toNat)
        case atStart => exact ⟨0, Nat.zero_le _, rfl, rfl, htabH.out.b rfl, fun i => by have := hbdH.out i; simpa [sweep, begun] using this, hbH.out⟩
        case round =>
          clear q0 q1 hSr hSw hSw1 hwo
          obtain ⟨m, hm, rfl, rfl, htab, hbd, hb⟩ := hrel
          have hSr := hb.size
          have hSw : w.heap.size < wr.heap.size := by omega
          have hSw1 : w.heap.size + 1 < wr.heap.size := by omega
          by_cases hlt2 : m < len
          · obtain ⟨bb, oo, rfl, hab, hc1, hc2, hc3, hc4⟩ := (hrl.out.later hb).arc hlt2
            have hml : m < l.length := by rw [helH.out]; exact hlt2
            obtain ⟨f, t, mo, e, hat, hf, ht, hne, hm0, hm1, he0, he1⟩ := aok_split (hokH.out _ (aat_mem hml))
            rw [hat] at hc1 hc2 hc3 hc4
            dsimp only at hc1 hc2 hc3 hc4
            have hsn := Lib.hid (show sweep (begun S) (l.take (m + 1)) = relax (sweep (begun S) (l.take m)) ((f : Int), (t : Int), mo, e) by rw [atake_succ hml, sweep_snoc, hat])
            have hbr := Lib.hid (hbd.relax (a := ((f : Int), (t : Int), mo, e)) he0 he1)
            clear hat hml
            generalize sweep (begun S) (l.take m) = Q at *
            have cf := htab.cf
            have ch := htab.ch
            have sz := htab.sz
            have szf := (htab.rf.lt _ rfl).2
            have szh := (htab.rh.lt _ rfl).2
            have bf0 := (htab.rf.lt _ rfl).1
            have bh0 := (htab.rh.lt _ rfl).1
            have kf : wr.cell? ⟨bf, f, none⟩ = some (.int .i64 (Q.F f)) := (htab.rf.cellAt f (by omega)).trans (row_get hf)
            have kt : wr.cell? ⟨bf, t, none⟩ = some (.int .i64 (Q.F t)) := (htab.rf.cellAt t (by omega)).trans (row_get ht)
            have kp : wr.cell? ⟨bh, f, none⟩ = some (.bool (Q.T f)) := (htab.rh.cellAt f (by omega)).trans (brow_get hf)
            have kr : wr.cell? ⟨bh, t, none⟩ = some (.bool (Q.T t)) := (htab.rh.cellAt t (by omega)).trans (brow_get ht)
            have zf := htab.rf.frozenAt t
            have zh := htab.rh.frozenAt t
            have n1 := htab.n1
            have n2 := htab.n2
            have n3 := htab.n3
            have n1' : ¬ bh = bf := fun h => n1 h.symm
            have n2' : ¬ bf = bt := fun h => n2 h.symm
            have n3' : ¬ bh = bt := fun h => n3 h.symm
            have hyes := Lib.hid (show bett Q ((f : Int), (t : Int), mo, e) = true → relax Q ((f : Int), (t : Int), mo, e) = ⟨upd Q.F t (Q.F f + e), upd Q.T t true, true⟩ from fun h => by unfold relax; rw [if_pos h]; rfl)
            have hno := Lib.hid (show bett Q ((f : Int), (t : Int), mo, e) = false → relax Q ((f : Int), (t : Int), mo, e) = Q from fun h => by unfold relax; rw [if_neg (by rw [h]; simp)])
            have hbt := Lib.hid (show bett Q ((f : Int), (t : Int), mo, e) = (Q.T f && (!Q.T t || decide (Q.F f + e < Q.F t))) from rfl)
            have hx := hbd f
            have htabH := Lib.hid htab
            have hx0 : -400000000 ≤ Q.F f := by omega
            have hx1 : Q.F f ≤ 400000000 := by omega
            have hfi : (f : Int) < N := by omega
            have hti : (t : Int) < N := by omega
            clear htab hx hbd
            generalize Q.F f = x at *
            generalize Q.F t = y at *
            generalize Q.T f = p at *
            generalize Q.T t = r at *
            cases p
            · have hz := Lib.hid (hsn.out.trans (hno.out (by rw [hbt.out]; rfl)))
              go_wp2
              go_quiet (fail)
              go_wp2
              go_roundw
              case rel => exact ⟨m + 1, by omega, by go_num, by rw [hz.out], by rw [hz.out]; exact (htabH.out.alloc _).drewN _, by have h := hbr.out; rw [hno.out (by rw [hbt.out]; rfl)] at h; rw [hz.out]; exact h.mono (by omega), below_drewN (hb.alloc hSr _) _⟩
              case measure => simp [intOf]; omega
            · by_cases hb2 : r = true ∧ y ≤ x + e
              · obtain ⟨rfl, hxy⟩ := hb2
                have hz := Lib.hid (hsn.out.trans (hno.out (by rw [hbt.out]; simp; omega)))
                go_wp2
                go_quiet (fail)
                go_wp2
                go_roundw
                case rel => exact ⟨m + 1, by omega, by go_num, by rw [hz.out], by rw [hz.out]; exact (htabH.out.alloc _).drewN _, by have h := hbr.out; rw [hno.out (by rw [hbt.out]; simp; omega)] at h; rw [hz.out]; exact h.mono (by omega), below_drewN (hb.alloc hSr _) _⟩
                case measure => simp [intOf]; omega
              · have hbtt : bett Q ((f : Int), (t : Int), mo, e) = true := by
                  rw [hbt.out]
                  cases r
                  · rfl
                  · simp at hb2; simp; omega
                have hz := Lib.hid (hsn.out.trans (hyes.out hbtt))
                have hbr2 := Lib.hid (show Bd (j * 31457280 + (m + 1 : Nat) * 1048576) ⟨upd Q.F t (x + e), upd Q.T t true, true⟩ by
                  have h := hbr.out; rw [hyes.out hbtt] at h; exact h.mono (by omega))
                have hxy : r = true → x + e < y := fun h => by simp [h] at hb2; omega
                clear hb2 hbtt hyes hno hbt
                cases r
                · clear hxy
                  go_wp2
                  go_quiet (fail)
                  go_wp2
                  go_region
                  all_goals
                    go_wp2
                    go_roundw
                    case rel => exact ⟨m + 1, by omega, by go_num, by rw [hz.out], by rw [hz.out]; exact (((htabH.out.alloc _).drewN _).setF t _ true).setT t true true, by rw [hz.out]; exact hbr2.out, ((below_drewN (hb.alloc hSr _) _).setCell (p := ⟨bf, t, none⟩) bf0 _).setCell (p := ⟨bh, t, none⟩) bh0 _⟩
                    case measure => simp [intOf]; omega
                · have hxy := hxy rfl
                  go_wp2
                  go_quiet (fail)
                  go_wp2
                  go_region
                  all_goals
                    go_wp2
                    go_roundw
                    case rel => exact ⟨m + 1, by omega, by go_num, by rw [hz.out], by rw [hz.out]; exact (((htabH.out.alloc _).drewN _).setF t _ true).setT t true true, by rw [hz.out]; exact hbr2.out, ((below_drewN (hb.alloc hSr _) _).setCell (p := ⟨bf, t, none⟩) bf0 _).setCell (p := ⟨bh, t, none⟩) bh0 _⟩
                    case measure => simp [intOf]; omega
          · obtain rfl : m = len := by omega
            rw [List.take_of_length_le (by rw [helH.out]; omega)] at htab hbd ⊢
            have hstep := Lib.hid (show bfRun l (N + 1 - j) S = if (sweep (begun S) l).b then bfRun l (N + 1 - (j + 1)) (sweep (begun S) l) else (sweep (begun S) l, true) by
              rw [show N + 1 - j = (N + 1 - (j + 1)) + 1 by omega, bfRun])
            generalize sweep (begun S) l = Q at *
            have cf := htab.cf
            have ch := htab.ch
            have sz := htab.sz
            have htabH := Lib.hid htab
            have hbdH := Lib.hid hbd
            clear htab hbd
            cases hqb : Q.b
            · have hfin := Lib.hid (show bfRun l (N + 1) (bfInit s) = (Q, true) by rw [← hrunH.out, hstep.out, hqb]; rfl)
              have r2 := below_cell hb hS0 g2
              have r3 := below_cell hb hS0 g3
              have y2 := (hb.frozen (p := ⟨w.heap.size + 1, 0, none⟩) hS0).trans z2
              have y3 := (hb.frozen (p := ⟨w.heap.size + 1, 1, none⟩) hS0).trans z3
              clear hqb
              go_wp2
              exact bodyPost_ret (v := .tuple #[.agg #[.slice (some ⟨bf, 0, none⟩) N N, .slice (some ⟨bh, 0, none⟩) N N], .bool true]) (by simp [results, Try.results14, go_sem, r2, r3]) rfl (fromPost_mk hfin.out hS0 hbw0 hb htabH.out)
            · have hnext := Lib.hid (show bfRun l (N + 1 - (j + 1)) Q = bfRun l (N + 1) (bfInit s) by rw [← hrunH.out, hstep.out, hqb]; rfl)
              clear hqb
              go_wp2
              go_roundw
              case rel => exact ⟨j + 1, Q, by omega, by go_num, htabH.out, hnext.out, hbdH.out.mono (by omega), hb⟩
              case measure => simp [intOf]; omega
      · obtain rfl : j = N + 1 := by omega
        have hfin := Lib.hid (show bfRun l (N + 1) (bfInit s) = (S, false) by rw [← hrunH.out, Nat.sub_self]; rfl)
        have cf := htab.cf
        have ch := htab.ch
        have sz := htab.sz
        have r2 := below_cell hb hS0 g2
        have r3 := below_cell hb hS0 g3
        have y2 := (hb.frozen (p := ⟨w.heap.size + 1, 0, none⟩) hS0).trans z2
        have y3 := (hb.frozen (p := ⟨w.heap.size + 1, 1, none⟩) hS0).trans z3
        clear htab hrun hbd hb
        go_wp2
        exact bodyPost_ret (v := .tuple #[.agg #[.slice (some ⟨bf, 0, none⟩) N N, .slice (some ⟨bh, 0, none⟩) N N], .bool false]) (by simp [results, Try.results14, go_sem, r2, r3]) rfl (fromPost_mk hfin.out hS0 hbw0 hbH.out htabH.out)
end Go.Proofs.Ytemcolhpghjnkaa
