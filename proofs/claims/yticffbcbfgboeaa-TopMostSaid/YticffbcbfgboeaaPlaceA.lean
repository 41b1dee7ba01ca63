/- place: an arc is laid; may a worker do it? -/
import Derived.Test.YticffbcbfgboeaaRows
import Derived.Test.YticffbcbfgboeaaPlaceLaw
import Derived.Test.YticffbcbfgboeaaFlowF
import Derived.Test.YticffbcbfgboeaaNet
import Derived.Test.YticffbcbfgboeaaRow
import Derived.Test.YticffbcbfgboeaaBlk
namespace Go.Proofs.Yticffbcbfgboeaa
open Go.RowKit Go.Shelf

theorem tiArc : TI Try.prog 76 80 (.agg #[.int .i64 0, .int .i64 0, .int .i64 0, .int .i64 0]) 4 32 := TI.mk' Try.underlying76 (by kernel_rfl) rfl (by decide)
/-- a net that is being laid at p -/
structure NA (p N : Nat) (l : List Arc) (v : Value) (W : World) : Prop where
  bk : Blk W p 78 #[.int .i64 N, v]
  ow : W.ownsRow (p + 1) 80 4 v l.length (arcs l)
theorem NA.lt {p N : Nat} {l : List Arc} {v : Value} {W : World} (h : NA p N l v W) : p < W.heap.size := h.bk.lt
theorem NA.alloc {p N : Nat} {l : List Arc} {v : Value} {W : World} (h : NA p N l v W) (o : Obj) : NA p N l v (W.alloc o) := ⟨h.bk.alloc o, h.ow.alloc o⟩
theorem NA.later {p N : Nat} {l : List Arc} {v : Value} {W W' : World} (h : NA p N l v W) (hb : Below W.heap.size W W') : NA p N l v W' :=
  ⟨h.bk.below hb h.bk.lt, h.ow.kept (row := none) ⟨hb.os, hb.tape, hb.output, hb.size, fun j hj _ => hb.block j hj⟩ (by cases v.ownBlock with | none => exact .inl rfl | some g => exact .inr (by simp))⟩
def NKeep (p : Nat) (v v' : Value) (w w' : World) : Prop := ∀ q t cs, Blk w q t cs → q ≠ p → v.ownBlock ≠ some q → Blk w' q t cs ∧ v'.ownBlock ≠ some q
set_option maxHeartbeats 3200000 in
set_option maxRecDepth 100000 in
theorem arc_any (p N : Nat) (l : List Arc) (v : Value) (w : World) (h : NA p N l v w) (hl : l.length ≤ 128) (f t m : Int) :
    Calls Try.prog 40 #[.int .i64 f, .int .i64 t, .int .i64 m, .pointer (some ⟨p, 0, none⟩)] w fun e w' => (∃ x, e = .returned x) ∧ ∃ v', NA p N (l ++ [(f, t, m, 0)]) v' w' ∧ Below p w w' ∧ NKeep p v v' w w' := by
  obtain ⟨A, c, rfl⟩ := own_slice h.ow
  have c1 := h.bk.cell (j := 1) rfl
  have hp := h.lt
  have hH := Lib.hid h
  clear h
  go_enter Try.func40, Try.ntmps40
  go_wp2_with (at_builtin; refine wpList_app (s := .tmp 8) (x := .tmp 13) _ tiArc (hH.out.ow.alloc _) (rd_new4 _ (.int .i64 f) (.int .i64 t) (.int .i64 m) (.int .i64 0) 80) (arcs_one (l := [(f, t, m, 0)])) (by omega) (by omega) (by simp; omega) rfl rfl rfl rfl ?_)
  intro v' w5 hown hg hv
  obtain ⟨A', c', rfl⟩ := own_slice hown
  have hpv : ∀ g, (Value.slice A l.length c).ownBlock = some g → p + 1 ≤ g := fun g e => (hH.out.ow.lt g e).1
  have hbk5 := (hH.out.bk.alloc (Obj.cells #[.int .i64 f, .int .i64 t, .int .i64 m, .int .i64 0] 80)).kept hg (fun e => by have := hpv p e.symm; omega)
  have hb5 : Below p w w5 := ((Below.refl p w).alloc (Nat.le_of_lt hp) _).grown hg (by simp; omega) (fun g e => by have := hpv g e; omega)
  have hk5 : NKeep p (Value.slice A l.length c) (Value.slice A' (l.length + 1) c') w w5 := fun q t' cs hq hqp hvq => ⟨(hq.alloc _).kept hg (fun e => hvq e.symm), fun e => by
    rcases hv with h1 | h1
    · exact hvq (h1.symm.trans e)
    · rw [e] at h1
      have := hq.lt
      simp at h1
      omega⟩
  have c5 := hbk5.cell (j := 1) rfl
  have f5 := hbk5.frozen 1
  have hlt5 := hbk5.lt
  have hvp : (Value.slice A' (l.length + 1) c').ownBlock ≠ some p := fun e => by have := (hown.lt p e).1; omega
  have hfin := Lib.hid (show NA p N (l ++ [(f, t, m, 0)]) (Value.slice A' (l.length + 1) c') (w5.setCell ⟨p, 1, none⟩ (Value.slice A' (l.length + 1) c')) ∧ Below p w (w5.setCell ⟨p, 1, none⟩ (Value.slice A' (l.length + 1) c')) ∧ NKeep p (Value.slice A l.length c) (Value.slice A' (l.length + 1) c') w (w5.setCell ⟨p, 1, none⟩ (Value.slice A' (l.length + 1) c')) from
    ⟨⟨hbk5.set 1 (Value.slice A' (l.length + 1) c'), by
      have e1 : arcs l ++ [Value.int .i64 f, .int .i64 t, .int .i64 m, .int .i64 0] = arcs (l ++ [(f, t, m, 0)]) := by simp [arcs, av]
      rw [List.length_append, List.length_singleton, ← e1]
      exact hown.kept (grown_setA w5 p 1 (Value.slice A' (l.length + 1) c')) (.inr hvp)⟩, hb5.setCell (Nat.le_refl _) _, fun q t' cs hq hqp hvq => ⟨(hk5 q t' cs hq hqp hvq).1.other (a := ⟨p, 1, none⟩) hqp (Value.slice A' (l.length + 1) c'), (hk5 q t' cs hq hqp hvq).2⟩⟩)
  clear hown hg hv hbk5 hb5 hk5 hH hvp hpv
  go_wp2
  go_end0
  exact ⟨⟨_, rfl⟩, _, hfin.out⟩
/-- may a task (t) be with a worker who has h? -/
def mayI (h t : Int) : Bool := bits .andNot .u32 t h == 0
set_option maxHeartbeats 3200000 in
set_option maxRecDepth 100000 in
theorem may_any (r h t : Int) (w : World) :
    Calls Try.prog 36 #[.agg #[.int .i64 r, .int .u32 h], .int .u32 t] w fun e w' => e = .returned (.bool (mayI h t)) ∧ Below w.heap.size w w' := by
  go_enter Try.func36, Try.ntmps36
  go_wp2
  go_ret
  exact ⟨rfl, (Below.refl _ _).alloc (Nat.le_refl _) _⟩
end Go.Proofs.Yticffbcbfgboeaa
