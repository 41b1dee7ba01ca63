/- circle: on: goes on from a node to those that are left, and back to the node 0. -/
import Derived.Test.YtknfflhmhjfkeaaDoorCircLaw
import Derived.Test.YtknfflhmhjfkeaaDoorStillRound
import Derived.Test.YtknfflhmhjfkeaaDoorMarks
import Derived.Test.YtknfflhmhjfkeaaDoorCalm
import Derived.Test.YtknfflhmhjfkeaaDoorBlk
namespace Go.Proofs.YtknfflhmhjfkeaaDoor
open Go.RowKit Go.Shelf
attribute [local go_sem] Oper.semAt_some

theorem grown_trans {a b c : World} {r : Option Nat} (h : a.grownBy b r) (h' : b.grownBy c r) : a.grownBy c r :=
  ⟨h'.os.trans h.os, h'.tape.trans h.tape, h'.output.trans h.output, Nat.le_trans h.size h'.size, fun k hk hr => (h'.block k (Nat.lt_of_lt_of_le hk h.size) hr).trans (h.block k hk hr)⟩
theorem grown_of_below {a b : World} (r : Option Nat) (h : Below a.heap.size a b) : a.grownBy b r := ⟨h.os, h.tape, h.output, h.size, fun k hk _ => h.block k hk⟩
theorem grown_drewN (a : World) (k : Nat) (r : Option Nat) : a.grownBy (a.drewN k) r := ⟨rfl, rfl, rfl, Nat.le_refl _, fun _ _ _ => rfl⟩
theorem grown_set (a : World) (g i : Nat) (v : Value) : a.grownBy (a.setCell ⟨g, i, none⟩ v) (some g) :=
  ⟨rfl, rfl, rfl, by simp, fun k _ hk => heap_setCell_other a ⟨g, i, none⟩ k v (fun e => hk (by simp [e]))⟩
theorem grown_setMap {W : World} {B : Nat} (es : List MapEntry) (k : Nat) : W.grownBy (setMap W B es k) (some B) :=
  ⟨rfl, rfl, rfl, by simp [setMap], fun i _ hi => by simp only [setMap]; rw [Array.getElem?_setIfInBounds_ne (fun e => hi (by rw [e]))]⟩
theorem grown_above {w A C : World} {B : Nat} {row : Option Nat} (h : w.grownBy A (some B)) (hg : A.grownBy C row) (hr : ∀ r, row = some r → w.heap.size ≤ r) : w.grownBy C (some B) :=
  ⟨hg.os.trans h.os, hg.tape.trans h.tape, hg.output.trans h.output, Nat.le_trans h.size hg.size, fun k hk hne => (hg.block k (Nat.lt_of_lt_of_le hk h.size) (fun e => by have := hr k e.symm; omega)).trans (h.block k hk hne)⟩
theorem tb_grown {w w' : World} {r : Nat} (h : Tb w) (hg : w.grownBy w' (some r)) (hr : 0 < r) : Tb w' := fun j hj => by
  have := h j hj
  exact hg.cell this (fun e => by simp at e; omega)
theorem ne' {a b : Nat} (h : a ≠ b) : some a ≠ some b := fun e => h (by simpa using e)
theorem isMap_grown {W W' : World} {B : Nat} {es : List MapEntry} {k : Nat} {row : Option Nat} (h : IsMap W B es k) (hg : W.grownBy W' row) (hr : some B ≠ row) : IsMap W' B es k := (hg.block B (isMap_lt h) hr).trans h
theorem one_core : ∀ y : Nat, y < 1024 → (bits .and .u32 (y : Int) 1 == 1) = y.testBit 0 := by decide +kernel
/-- a list of nodes as values -/
def ndv (l : List Nat) : List Value := l.map fun (a : Nat) => Value.int .i64 (a : Int)
/-- a seeker in memory; L: what led to nothing -/
structure SK (ns : List Nat) (n p B cn : Nat) (A : Option Addr) (W : World) (L : List (Int × Int)) : Prop where
  bk : Blk W p 44 #[.slice A n cn, .map (some B)]
  rn : Rd W A n 1 (wds ns)
  mp : IsMap W B (qm L) L.length
  ne : ∀ b o, A = some ⟨b, o, none⟩ → b ≠ B
  np : p ≠ B
  no : ∀ c ∈ L, ∃ a x : Nat, c = ((a : Int), (x : Int)) ∧ ∀ l, ¬ Wy ns a x l
theorem SK.grown {ns : List Nat} {n p B cn : Nat} {A : Option Addr} {W W' : World} {L : List (Int × Int)} {row : Option Nat} (h : SK ns n p B cn A W L) (hg : W.grownBy W' row) (h1 : some p ≠ row) (h2 : ∀ b o, A = some ⟨b, o, none⟩ → some b ≠ row) (h3 : some B ≠ row) : SK ns n p B cn A W' L :=
  ⟨h.bk.kept hg h1, h.rn.grown hg (fun b o e => (h2 b o e).symm), isMap_grown h.mp hg h3, h.ne, h.np, h.no⟩
theorem SK.drewN {ns : List Nat} {n p B cn : Nat} {A : Option Addr} {W : World} {L : List (Int × Int)} (h : SK ns n p B cn A W L) (k : Nat) : SK ns n p B cn A (W.drewN k) L := ⟨h.bk, h.rn.drewN k, h.mp, h.ne, h.np, h.no⟩
theorem SK.later {ns : List Nat} {n p B cn : Nat} {A : Option Addr} {W W' : World} {L : List (Int × Int)} (h : SK ns n p B cn A W L) (hb : Below W.heap.size W W') : SK ns n p B cn A W' L :=
  ⟨h.bk.below hb h.bk.lt, h.rn.later hb, isMap_below h.mp (isMap_lt h.mp) hb, h.ne, h.np, h.no⟩
/-- what on answers -/
def OnPost (ns : List Nat) (n p B cn : Nat) (A : Option Addr) (L : List (Int × Int)) (a x : Nat) (w : World) (e : Ending) (w' : World) : Prop :=
  w.grownBy w' (some B) ∧ ((∃ A' c R, e = .returned (.slice (some A') R.length c) ∧ Rd w' (some A') R.length 1 (ndv R) ∧ R.length ≤ c ∧ w.heap.size ≤ A'.block ∧ Wy ns a x R) ∨
    (e = .returned (.slice none 0 0) ∧ (∀ R, ¬ Wy ns a x R) ∧ ∃ M, SK ns n p B cn A w' (L ++ M) ∧ ∀ c ∈ M, c.2 ≤ (x : Int)))
set_option maxHeartbeats 1600000 in
set_option maxRecDepth 100000 in
theorem on_zero (ns : List Nat) (n p B cn : Nat) (A : Option Addr) (g : Gr n ns) (a : Nat) (han : a < n) (L : List (Int × Int)) (w : World) (hS : SK ns n p B cn A w L) :
    Calls Tryd.prog 14 #[.pointer (some ⟨p, 0, none⟩), .int .i64 a, .int .u32 0] w (OnPost ns n p B cn A L a 0 w) := by
  have hn10 := g.n10
  have hb1 := (((((Below.refl _ w).alloc (Nat.le_refl _) (.cells #[.pointer (some ⟨p, 0, none⟩)] 39)).alloc (by simp) (.cells #[.int .i64 a] 3)).alloc (by simp; omega) (.cells #[.int .u32 0] 46)).alloc (by simp; omega) (.cells #[.slice none 0 0] 25))
  have hSB := hS.later hb1
  have b0 := (((Boxed.new w 39 (.pointer (some ⟨p, 0, none⟩))).alloc (.cells #[.int .i64 a] 3)).alloc (.cells #[.int .u32 0] 46)).alloc (.cells #[.slice none 0 0] 25)
  have b1 := ((Boxed.new (w.alloc (.cells #[.pointer (some ⟨p, 0, none⟩)] 39)) 3 (.int .i64 a)).alloc (.cells #[.int .u32 0] 46)).alloc (.cells #[.slice none 0 0] 25)
  have b3 := Boxed.new (((w.alloc (.cells #[.pointer (some ⟨p, 0, none⟩)] 39)).alloc (.cells #[.int .i64 a] 3)).alloc (.cells #[.int .u32 0] 46)) 25 (.slice none 0 0)
  simp only [World.size_alloc, Nat.add_assoc, Nat.reduceAdd] at b1 b3
  have hSH := Lib.hid hS
  have hy := Nat.lt_of_lt_of_le (g.lt a) (Nat.pow_le_pow_right (by omega) hn10)
  have hzW := Lib.hid (fun R => @wy_zero ns a R)
  unfold nb at hzW
  obtain ⟨ga, go, hAe, hga, hca⟩ := hSB.rn.wd han
  generalize ns.getD a 0 = y at *
  subst hAe
  clear hS
  go_enter Tryd.func14, Tryd.ntmps14
  go_wp2
  simp only [Nat.add_assoc, Nat.reduceAdd]
  generalize (((w.alloc (.cells #[.pointer (some ⟨p, 0, none⟩)] 39)).alloc (.cells #[.int .i64 a] 3)).alloc (.cells #[.int .u32 0] 46)).alloc (.cells #[.slice none 0 0] 25) = wB at *
  have c0 := b0.cell; have c1 := b1.cell
  have ck := hSB.bk.cell (j := 0) rfl
  have hpl := hSB.bk.lt
  have h0a : (0 : Int) ≤ a := by omega
  have han' : (a : Int) < n := by omega
  have core := one_core y hy
  have hb1H := Lib.hid hb1; have b1H := Lib.hid b1; have b3H := Lib.hid b3
  have hle := b3.lt
  clear hSB hb1 b0 b1 b3
  cases hbit : y.testBit 0
  · rw [hbit] at core hzW
    have hno : ∀ R, ¬ Wy ns a 0 R := fun R hR => by have := ((hzW.out R).1 hR).1; cases this
    clear hzW hbit
    go_quiet (fail)
    have b3q : Boxed (wB.drewN nq) (w.heap.size + 3) 25 (.slice none 0 0) := b3H.out
    have hbq := below_drewN hb1H.out nq
    generalize wB.drewN nq = wq at *
    have c6 := b3q.frozen
    have c7 := b3q.cell
    have hl3' := b3q.lt
    have k6 := (b3q.set (.slice none 0 0)).cell
    have hbqH := Lib.hid hbq
    clear hbq b3q c0 c1 ck hca
    go_wp2
    (try simp only [Exit.inBlock, Exit.then])
    refine bodyPost_ret (v := .slice none 0 0) (by simp [results, Tryd.results14, go_sem, k6]) rfl ?_
    have hgs := grown_set wq (w.heap.size + 3) 0 (.slice none 0 0)
    have hbf : Below w.heap.size w (wq.setCell ⟨w.heap.size + 3, 0, none⟩ (.slice none 0 0)) := hbqH.out.setCell (p := ⟨w.heap.size + 3, 0, none⟩) (by simp) _
    exact ⟨grown_of_below _ hbf, .inr ⟨rfl, hno, [], by rw [List.append_nil]; exact hSH.out.later hbf, fun c hc => by cases hc⟩⟩
  · rw [hbit] at core hzW
    have hyes := Lib.hid (show Wy ns a 0 [a] from (hzW.out [a]).2 ⟨rfl, rfl⟩)
    clear hzW hbit
    go_quiet (fail)
    have b1q : Boxed (wB.drewN nq) (w.heap.size + 1) 3 (.int .i64 a) := b1H.out
    have b3q : Boxed (wB.drewN nq) (w.heap.size + 3) 25 (.slice none 0 0) := b3H.out
    have hbq := below_drewN hb1H.out nq
    generalize wB.drewN nq = wq at *
    have c5 := b1q.cell
    have c6 := b3q.frozen
    have c7 := b3q.cell
    have hl3' := b3q.lt
    have hbqH := Lib.hid hbq; have b3qH := Lib.hid b3q
    clear hbq b1q b3q c0 c1 ck hca
    have hsq := hbqH.out.size
    have hss : (wq.setCell ⟨w.heap.size + 3, 0, none⟩ (.slice (some ⟨wq.heap.size, 0, none⟩) 1 1)).heap.size = wq.heap.size := by simp
    have hbs := hbqH.out.setCell (p := ⟨w.heap.size + 3, 0, none⟩) (by simp) (.slice (some ⟨wq.heap.size, 0, none⟩) 1 1)
    have hbA := hbs.alloc (by omega) (.cells #[.int .i64 a] 3)
    have k6 := ((b3qH.out.set (.slice (some ⟨wq.heap.size, 0, none⟩) 1 1)).alloc (.cells #[.int .i64 a] 3)).cell
    have hrd := rd_new1 (wq.setCell ⟨w.heap.size + 3, 0, none⟩ (.slice (some ⟨wq.heap.size, 0, none⟩) 1 1)) (.int .i64 (a : Int)) 3
    rw [hss] at hrd
    have hbAH := Lib.hid hbA; have hrdH := Lib.hid hrd
    clear hbA hrd hbs
    go_wp2
    (try simp only [Exit.inBlock, Exit.then])
    refine bodyPost_ret (v := .slice (some ⟨wq.heap.size, 0, none⟩) 1 1) (by simp [results, Tryd.results14, go_sem, k6]) rfl ?_
    exact ⟨grown_of_below _ hbAH.out, .inl ⟨⟨wq.heap.size, 0, none⟩, 1, [a], rfl, hrdH.out, Nat.le_refl _, hsq, hyes.out⟩⟩
end Go.Proofs.YtknfflhmhjfkeaaDoor
