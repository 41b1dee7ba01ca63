/- pack.Fewest: the search. Printed by tools/gen_fewest.py. -/
import Derived.Test.YtefkciboicmoaaaDoorPackC
import Derived.Test.YtefkciboicmoaaaDoorHeldOps
namespace Go.Proofs.YtefkciboicmoaaaDoor
open Go.RowKit Go.Shelf
attribute [local go_sem] Oper.semAt_some

/-- the number in a box (the measure of a loop whose variable lies in memory) -/
def boxV (w : World) : Value → Nat
  | .pointer (some p) => (match w.cell? p with | some (.int _ q) => q.toNat | _ => 0)
  | _ => 0
theorem boxV_at {w : World} {p : Addr} {k : IntKind} {q : Int} (h : w.cell? p = some (.int k q)) : boxV w (.pointer (some p)) = q.toNat := by simp [boxV, h]
/-- the memory of the search: sizes, room, the table, where we are -/
structure FW (s mb m7 : Nat) (w0 : World) (A : Option Addr) (n cap : Nat) (room : Int) (S wb v : Nat) (T : Nat → Int × Int) (W : World) : Prop where
  b0 : Boxed W s 22 (.slice A n cap)
  b1 : Boxed W (s + 1) 2 (.int .i64 room)
  b7 : Boxed W m7 35 (.slice (some ⟨mb, 0, none⟩) S S)
  bw : Boxed W wb 3 (.int .i64 (v : Int))
  ow : W.ownsRow (s + 2) 37 2 (.slice (some ⟨mb, 0, none⟩) S S) S (row (S * 2) (flatT T))
  hb : Below s w0 W
  o1 : s + 2 ≤ mb
  o2 : mb < m7
  o3 : m7 < wb
section
variable {s mb m7 : Nat} {w0 : World} {A : Option Addr} {n cap : Nat} {room : Int} {S wb v : Nat} {T : Nat → Int × Int} {W W' : World}
theorem FW.grown (h : FW s mb m7 w0 A n cap room S wb v T W) {r : Option Nat} (hg : W.grownBy W' r) (hr : ∀ k, r = some k → s ≤ k ∧ k ≠ s ∧ k ≠ s + 1 ∧ k ≠ mb ∧ k ≠ m7 ∧ k ≠ wb) : FW s mb m7 w0 A n cap room S wb v T W' := by
  have hne : ∀ j, j = s ∨ j = s + 1 ∨ j = mb ∨ j = m7 ∨ j = wb → (some j : Option Nat) ≠ r := fun j hj e => by
    have := hr j e.symm; omega
  exact ⟨h.b0.kept hg (hne _ (by omega)), h.b1.kept hg (hne _ (by omega)), h.b7.kept hg (hne _ (by omega)), h.bw.kept hg (hne _ (by omega)), h.ow.kept hg (.inr fun e => hne mb (by omega) e), h.hb.grown hg (by have := h.hb.size; have := h.b0.lt; omega) (fun k e => (hr k e).1), h.o1, h.o2, h.o3⟩
theorem FW.alloc (h : FW s mb m7 w0 A n cap room S wb v T W) (o : Obj) : FW s mb m7 w0 A n cap room S wb v T (W.alloc o) := h.grown (World.grownBy_alloc W o none) (fun k e => by cases e)
theorem FW.drewN (h : FW s mb m7 w0 A n cap room S wb v T W) (k : Nat) : FW s mb m7 w0 A n cap room S wb v T (W.drewN k) := ⟨h.b0, h.b1, h.b7, h.bw, own_drewN h.ow k, below_drewN h.hb k, h.o1, h.o2, h.o3⟩
theorem FW.later (h : FW s mb m7 w0 A n cap room S wb v T W) (hb : Below W.heap.size W W') : FW s mb m7 w0 A n cap room S wb v T W' :=
  ⟨(hb.block _ h.b0.lt).trans h.b0, (hb.block _ h.b1.lt).trans h.b1, (hb.block _ h.b7.lt).trans h.b7, (hb.block _ h.bw.lt).trans h.bw, own_below h.ow hb, h.hb.trans (hb.mono (by have := h.b0.lt; omega)), h.o1, h.o2, h.o3⟩
theorem FW.cells (h : FW s mb m7 w0 A n cap room S wb v T W) {j : Nat} (hj : j < S) : W.cell? ⟨mb, j * 2, none⟩ = some (.int .i64 (T j).1) ∧ W.cell? ⟨mb, j * 2 + 1, none⟩ = some (.int .i64 (T j).2) := by
  obtain ⟨b, o, hA, _, hc⟩ := (Rd.of_own h.ow).2 (by omega)
  cases hA
  have e1 := hc (j * 2) (by omega)
  have e2 := hc (j * 2 + 1) (by omega)
  rw [Nat.zero_add, row_get (by omega)] at e1 e2
  refine ⟨e1.trans ?_, e2.trans ?_⟩
  · unfold flatT; rw [if_pos (by omega), show j * 2 / 2 = j by omega]
  · unfold flatT; rw [if_neg (by omega), show (j * 2 + 1) / 2 = j by omega]
theorem FW.lt_mb (h : FW s mb m7 w0 A n cap room S wb v T W) : mb < W.heap.size := (h.ow.lt mb rfl).2
theorem FW.put (h : FW s mb m7 w0 A n cap room S wb v T W) (j : Nat) (x : Int × Int) : FW s mb m7 w0 A n cap room S wb v (updT T j x) ((W.setCell ⟨mb, j * 2, none⟩ (.int .i64 x.1)).setCell ⟨mb, j * 2 + 1, none⟩ (.int .i64 x.2)) := by
  have h1 := (h.ow.stored (j * 2) (.int .i64 x.1)).1
  have h2 := (h1.stored (j * 2 + 1) (.int .i64 x.2)).1
  rw [tab_set] at h2
  have o1 := h.o1; have o2 := h.o2; have o3 := h.o3
  have k : ∀ b, b ≠ mb → ((W.setCell ⟨mb, j * 2, none⟩ (.int .i64 x.1)).setCell ⟨mb, j * 2 + 1, none⟩ (.int .i64 x.2)).heap[b]? = W.heap[b]? := fun b hb => (Below.heap_setCell _ _ _ _ hb).trans (Below.heap_setCell _ _ _ _ hb)
  exact ⟨(k _ (by omega)).trans h.b0, (k _ (by omega)).trans h.b1, (k _ (by omega)).trans h.b7, (k _ (by omega)).trans h.bw, h2, (h.hb.setCell (p := ⟨mb, j * 2, none⟩) (show s ≤ mb by omega) _).setCell (p := ⟨mb, j * 2 + 1, none⟩) (show s ≤ mb by omega) _, o1, o2, o3⟩
end
def delI (v i : Nat) : Nat := v ^^^ 2 ^ i
theorem delI_all : ∀ v : Nat, v < 256 → ∀ i : Nat, i < 8 → v.testBit i = true → bits .andNot .i64 (v : Int) ((2 ^ i : Nat) : Int) = ((delI v i : Nat) : Int) ∧ delI v i < v := by decide +kernel
theorem delI_del {v i : Nat} (h : v.testBit i = true) : delW v i (delI v i) := fun j => by
  unfold delI
  rw [Nat.testBit_xor, Nat.testBit_two_pow]
  by_cases hj : j = i
  · subst hj; simp [h]
  · have h2 : ¬ i = j := fun e => hj e.symm
    simp [hj, h2]
/-- the memory within a round of the search: the best of those put last by now -/
def InI (s mb m7 : Nat) (w0 : World) (A : Option Addr) (n cap : Nat) (room : Int) (S wb v : Nat) (T : Nat → Int × Int) (z : Nat → Int) (bs : Nat) (ds : List Deferred) (pre : List Nat) (W : World) : Prop :=
  ∃ cur, FW s mb m7 w0 A n cap room S wb v (updT T v cur) W ∧ PI z room n T (delI v) pre cur ∧ Marks s bs ds W ∧ bs < W.heap.size
theorem InI.grown {s mb m7 : Nat} {w0 : World} {A : Option Addr} {n cap : Nat} {room : Int} {S wb v : Nat} {T : Nat → Int × Int} {z : Nat → Int} {bs : Nat} {ds : List Deferred} {pre : List Nat} {W W' : World} (h : InI s mb m7 w0 A n cap room S wb v T z bs ds pre W) (hbs : wb < bs) {r : Option Nat} (hg : W.grownBy W' r) (hr : ∀ k, r = some k → bs ≤ k) : InI s mb m7 w0 A n cap room S wb v T z bs ds pre W' := by
  obtain ⟨cur, h1, h2, h3, h4⟩ := h
  have o1 := h1.o1; have o2 := h1.o2; have o3 := h1.o3
  exact ⟨cur, h1.grown hg (fun k e => by have := hr k e; omega), h2, h3.grown hg hr, Nat.lt_of_lt_of_le h4 hg.size⟩
theorem grown_setC (W : World) (g k : Nat) (v : Value) : W.grownBy (W.setCell ⟨g, k, none⟩ v) (some g) :=
  ⟨rfl, rfl, rfl, by simp, fun j _ hj => Below.heap_setCell _ _ _ j (fun e => hj (by rw [e]))⟩
/-- a thing put last, and how full the last box is then -/
structure BS (s mb m7 : Nat) (w0 : World) (A : Option Addr) (n cap : Nat) (room : Int) (S wb v : Nat) (T : Nat → Int × Int) (bs : Nat) (ds : List Deferred) (W0 : World) (p : Nat) (x : Int × Int) (W : World) : Prop where
  f : FW s mb m7 w0 A n cap room S wb v T W
  k : Blk W p 37 #[.int .i64 x.1, .int .i64 x.2]
  m : Marks s bs ds W
  o : KeepsOthers W0 W
  e : KpE s bs W0 W
  o4 : wb < bs
  o5 : bs < p
section
variable {s mb m7 : Nat} {w0 : World} {A : Option Addr} {n cap : Nat} {room : Int} {S wb v : Nat} {T : Nat → Int × Int} {bs : Nat} {ds : List Deferred} {W0 : World} {p : Nat} {x : Int × Int} {W : World}
theorem BS.drewN (h : BS s mb m7 w0 A n cap room S wb v T bs ds W0 p x W) (k : Nat) : BS s mb m7 w0 A n cap room S wb v T bs ds W0 p x (W.drewN k) :=
  ⟨h.f.drewN k, h.k, Marks.keep (w := W) (w' := W.drewN k) (fun _ _ _ h _ => h) h.m, h.o.trans (⟨Nat.le_refl _, fun _ _ h _ => h⟩ : KeepsOthers W (W.drewN k)), h.e.drewN k, h.o4, h.o5⟩
theorem BS.alloc (h : BS s mb m7 w0 A n cap room S wb v T bs ds W0 p x W) (ob : Obj) : BS s mb m7 w0 A n cap room S wb v T bs ds W0 p x (W.alloc ob) :=
  ⟨h.f.alloc ob, h.k.alloc ob, h.m.keeps (KeepsOthers.alloc _ _), h.o.trans (KeepsOthers.alloc _ _), h.e.alloc (by have := h.f.b0.lt; omega) (by have := h.k.lt; have := h.o5; omega) ob, h.o4, h.o5⟩
theorem BS.set0 (h : BS s mb m7 w0 A n cap room S wb v T bs ds W0 p x W) (c : Int) : BS s mb m7 w0 A n cap room S wb v T bs ds W0 p (c, x.2) (W.setCell ⟨p, 0, none⟩ (.int .i64 c)) := by
  have o1 := h.f.o1; have o2 := h.f.o2; have o3 := h.f.o3; have o4 := h.o4; have o5 := h.o5
  exact ⟨h.f.grown (grown_setC W p 0 _) (fun k e => by cases e; omega), h.k.set 0 _, h.m.keeps (KeepsOthers.setCell _ _ _), h.o.trans (KeepsOthers.setCell _ _ _), h.e.set (by omega) (by omega) _, o4, o5⟩
theorem BS.set1 (h : BS s mb m7 w0 A n cap room S wb v T bs ds W0 p x W) (c : Int) : BS s mb m7 w0 A n cap room S wb v T bs ds W0 p (x.1, c) (W.setCell ⟨p, 1, none⟩ (.int .i64 c)) := by
  have o1 := h.f.o1; have o2 := h.f.o2; have o3 := h.f.o3; have o4 := h.o4; have o5 := h.o5
  exact ⟨h.f.grown (grown_setC W p 1 _) (fun k e => by cases e; omega), h.k.set 1 _, h.m.keeps (KeepsOthers.setCell _ _ _), h.o.trans (KeepsOthers.setCell _ _ _), h.e.set (by omega) (by omega) _, o4, o5⟩
theorem BS.put (h : BS s mb m7 w0 A n cap room S wb v T bs ds W0 p x W) (j : Nat) (y : Int × Int) : BS s mb m7 w0 A n cap room S wb v (updT T j y) bs ds W0 p x ((W.setCell ⟨mb, j * 2, none⟩ (.int .i64 y.1)).setCell ⟨mb, j * 2 + 1, none⟩ (.int .i64 y.2)) := by
  have o1 := h.f.o1; have o2 := h.f.o2; have o3 := h.f.o3; have o4 := h.o4; have o5 := h.o5
  refine ⟨h.f.put j y, ?_, (h.m.keeps (KeepsOthers.setCell _ _ _)).keeps (KeepsOthers.setCell _ _ _), (h.o.trans (KeepsOthers.setCell _ _ _)).trans (KeepsOthers.setCell _ _ _), (h.e.set (by omega) (by omega) _).set (by omega) (by omega) _, o4, o5⟩
  exact (h.k.other (a := ⟨mb, j * 2, none⟩) (show p ≠ mb by omega) _).other (a := ⟨mb, j * 2 + 1, none⟩) (show p ≠ mb by omega) _
end
theorem updT_upd (T : Nat → Int × Int) (v : Nat) (a b : Int × Int) : updT (updT T v a) v b = updT T v b := by
  funext i
  unfold updT
  split <;> rfl
theorem wpList_mkS {w : World} {ops : Array Oper} {rest : List Oper} {o : Oper} {a : Act} {Q : Exit → Act → World → Prop} {l c : Operand} (base : Nat) (S : Nat) (hS : S ≤ 1000) (hbase : base ≤ w.heap.size)
    (ho : o.op = Op.makeSlice 35 l c) (hgd : o.guard = none) {L C : Int} (hl : a.eval l = .int .i64 L) (hc : a.eval c = .int .i64 C) (hL : L = (S : Int)) (hC : C = (S : Int))
    (h : ∀ w', w'.ownsRow base 37 2 (.slice (some ⟨w.heap.size, 0, none⟩) S S) S (row (S * 2) (flatT fun _ => (0, 0))) → w.grownBy w' none → wpList Tryd.prog ops Q rest (a.put o.dst (.slice (some ⟨w.heap.size, 0, none⟩) S S)) w') : wpList Tryd.prog ops Q (o :: rest) a w := by
  obtain ⟨i, hi, hz, hsize, hby⟩ := tiS.hi
  refine wpList_make_full w hgd l c 35 ho base 37 i _ 2 tiS.ht hi hz hsize .i64 .i64 L C S hl hc hL hC (by rw [hby]; omega) (by unfold maxLen; omega) hbase fun w' h1 h2 => h w' ?_ h2
  rw [made_tab] at h1
  exact h1
theorem fewest_bad (A : Option Addr) (len cap : Nat) (zs : List Int) (room : Int) (w : World) (hr : Rd w A len 1 (ints .i64 zs)) (hl : len ≤ 9223372036854775807) (hbad : pchk zs room ≠ 0) :
    Calls Tryd.prog 7 #[.slice A len cap, .int .i64 room] w fun e w' => e = .returned (.tuple #[.int .i64 0, .int .i64 (pchk zs room)]) ∧ Below w.heap.size w w' := by
  have gb := ((Below.refl _ w).alloc (Nat.le_refl _) (.cells #[.slice A len cap] 22)).alloc (by simp) (.cells #[.int .i64 room] 2)
  have bx0 := (Boxed.new w 22 (.slice A len cap)).alloc (.cells #[.int .i64 room] 2)
  have bx1 := Boxed.new (w.alloc (.cells #[.slice A len cap] 22)) 2 (.int .i64 room)
  rw [World.size_alloc] at bx1
  have HC := Lib.hid (wrong_any A len cap zs room _ (hr.later gb) hl)
  have cx0 := bx0.cell; have cx1 := bx1.cell
  have hs0 : ((w.alloc (.cells #[.slice A len cap] 22)).alloc (.cells #[.int .i64 room] 2)).heap.size = w.heap.size + 2 := by simp
  have hne : (pchk zs room != 0) = true := bne_iff_ne.2 hbad
  clear hr hbad bx0 bx1
  generalize pchk zs room = c at *
  go_enter Tryd.func7, Tryd.ntmps7
  go_wp2_with fail
  generalize (w.alloc (.cells #[.slice A len cap] 22)).alloc (.cells #[.int .i64 room] 2) = wg at *
  refine HC.out.mono ?_
  rintro _ w1 ⟨rfl, hb1⟩
  have hbw := gb.trans (hb1.mono (by omega))
  go_wp2
  go_ret2
  exact ⟨rfl, hbw⟩
set_option maxHeartbeats 6400000 in
set_option maxRecDepth 100000 in
theorem fewest_ok (A : Option Addr) (n cap : Nat) (zs : List Int) (room : Int) (w : World) (hr : Rd w A n 1 (ints .i64 zs)) (hok : pchk zs room = 0) (htb : Tb w) (hg : 0 < w.heap.size) :
    Calls Tryd.prog 7 #[.slice A n cap, .int .i64 room] w fun e w' => ∃ x : Int × Int, e = .returned (.tuple #[.int .i64 x.1, .int .i64 0]) ∧ PB (fun i => zs.getD i 0) room n (2 ^ n - 1) x ∧ Below w.heap.size w w' := by
  have hel : zs.length = n := by simpa [ints] using hr.1
  obtain ⟨h8, hr1, hr2, hz⟩ := pchk_ok hok
  rw [hel] at h8
  have hS8 : 2 ^ n ≤ 2 ^ 8 := Nat.pow_le_pow_right (by omega) h8
  have hS1 : 1 ≤ 2 ^ n := Nat.pow_pos (by omega)
  have gb := ((Below.refl _ w).alloc (Nat.le_refl _) (.cells #[.slice A n cap] 22)).alloc (by simp) (.cells #[.int .i64 room] 2)
  have bx0 := (Boxed.new w 22 (.slice A n cap)).alloc (.cells #[.int .i64 room] 2)
  have bx1 := Boxed.new (w.alloc (.cells #[.slice A n cap] 22)) 2 (.int .i64 room)
  rw [World.size_alloc] at bx1
  have HC := Lib.hid (wrong_any A n cap zs room _ (hr.later gb) (by omega))
  rw [hok] at HC
  have cx0 := bx0.cell; have cx1 := bx1.cell
  have hs0 : ((w.alloc (.cells #[.slice A n cap] 22)).alloc (.cells #[.int .i64 room] 2)).heap.size = w.heap.size + 2 := by simp
  have hrH := Lib.hid hr; have htbH := Lib.hid htb; have hzH := Lib.hid hz
  obtain ⟨S, hS⟩ : ∃ S, 2 ^ n = S := ⟨_, rfl⟩
  have hSI : (2 : Int) ^ n = (S : Int) := by rw [← hS]; simp
  rw [hS] at hS8 hS1 ⊢
  have hSH := Lib.hid hS
  clear hr hok hel htb hz hS
  refine calls_of_wp_calm 5 Tryd.func7 rfl ?_
  simp only [Tryd.ntmps7, List.size_toArray, List.length_cons, List.length_nil, Nat.reduceAdd, Nat.reduceSub, Array.replicate_succ, Array.replicate_zero, List.push_toArray, List.append_toArray, List.nil_append, List.cons_append]
  go_wp2_with fail
  generalize (w.alloc (.cells #[.slice A n cap] 22)).alloc (.cells #[.int .i64 room] 2) = wg at *
  refine HC.out.mono ?_
  rintro _ w1 ⟨rfl, hb1⟩
  have hbw := gb.trans (hb1.mono (by omega))
  have bx0 : Boxed w1 w.heap.size 22 (.slice A n cap) := (hb1.block _ bx0.lt).trans bx0
  have bx1 : Boxed w1 (w.heap.size + 1) 2 (.int .i64 room) := (hb1.block _ bx1.lt).trans bx1
  have cx0 := bx0.cell; have cx1 := bx1.cell
  have hs1 := hb1.size
  clear HC hb1 gb
  go_wp2_with (at_make; refine wpList_mkS (w.heap.size + 2) S (by omega) (by omega) rfl rfl rfl rfl rfl rfl ?_)
  obtain ⟨mb, hmb⟩ : ∃ mb, w1.heap.size = mb := ⟨_, rfl⟩
  rw [hmb]
  intro w2 hown hg2
  have hbg := below_grown hg2
  have hlm : mb < w2.heap.size := (hown.lt mb rfl).2
  rw [hmb] at hbg hs1
  have hbw2 := hbw.trans (hbg.mono (by omega))
  have bx0 : Boxed w2 w.heap.size 22 (.slice A n cap) := (hbg.block _ (by omega)).trans bx0
  have bx1 : Boxed w2 (w.heap.size + 1) 2 (.int .i64 room) := (hbg.block _ (by omega)).trans bx1
  have hc0 : w2.cell? ⟨mb, 0, none⟩ = some (.int .i64 0) := by
    obtain ⟨b, o, hA, _, hc⟩ := (Rd.of_own hown).2 (by omega)
    cases hA
    have := hc 0 (by omega)
    rwa [row_get (by omega)] at this
  have hc1 : w2.cell? ⟨mb, 1, none⟩ = some (.int .i64 0) := by
    obtain ⟨b, o, hA, _, hc⟩ := (Rd.of_own hown).2 (by omega)
    cases hA
    have := hc 1 (by omega)
    rwa [row_get (by omega)] at this
  have hf0 := hown.frozenAt 0
  have hf1 := hown.frozenAt 1
  have cx0 := bx0.cell; have cx1 := bx1.cell
  obtain ⟨m7, hm7⟩ : ∃ m7, w2.heap.size = m7 := ⟨_, rfl⟩
  have b7 := Boxed.new w2 35 (.slice (some ⟨mb, 0, none⟩) S S)
  rw [hm7] at b7 hlm
  have hl0 := bx0.lt; have hl1 := bx1.lt
  rw [hm7] at hl0 hl1
  have hrw : IntKind.i64.wrap (room + 1) = room + 1 := IntWalk.i64_in _ (by omega)
  have hst := (hown.stored 0 (.int .i64 (0, room + 1).1)).1
  have hst := (hst.stored 1 (.int .i64 (0, room + 1).2)).1
  have htab := tab_set S (fun _ => (0, 0)) 0 (0, room + 1)
  simp only [Nat.zero_mul, Nat.zero_add] at htab
  rw [htab] at hst
  have hS0 : (0 : Int) < S := by omega
  have hbq := (hbw2.setCell (p := ⟨mb, 0, none⟩) (show w.heap.size ≤ mb by omega) (.int .i64 0)).setCell (p := ⟨mb, 1, none⟩) (show w.heap.size ≤ mb by omega) (.int .i64 (room + 1))
  have hk : ∀ b, b ≠ mb → ((w2.setCell ⟨mb, 0, none⟩ (.int .i64 0)).setCell ⟨mb, 1, none⟩ (.int .i64 (room + 1))).heap[b]? = w2.heap[b]? := fun b hb => (Below.heap_setCell _ _ _ _ hb).trans (Below.heap_setCell _ _ _ _ hb)
  have by0 : Boxed ((w2.setCell ⟨mb, 0, none⟩ (.int .i64 0)).setCell ⟨mb, 1, none⟩ (.int .i64 (room + 1))) w.heap.size 22 (.slice A n cap) := (hk _ (by omega)).trans bx0
  have by1 : Boxed ((w2.setCell ⟨mb, 0, none⟩ (.int .i64 0)).setCell ⟨mb, 1, none⟩ (.int .i64 (room + 1))) (w.heap.size + 1) 2 (.int .i64 room) := (hk _ (by omega)).trans bx1
  have hsq : ((w2.setCell ⟨mb, 0, none⟩ (.int .i64 0)).setCell ⟨mb, 1, none⟩ (.int .i64 (room + 1))).heap.size = m7 := by simp [hm7]
  have b7q := (Boxed.new ((w2.setCell ⟨mb, 0, none⟩ (.int .i64 0)).setCell ⟨mb, 1, none⟩ (.int .i64 (room + 1))) 35 (.slice (some ⟨mb, 0, none⟩) S S)).alloc (.cells #[.int .i64 1] 3)
  have bwq := Boxed.new (((w2.setCell ⟨mb, 0, none⟩ (.int .i64 0)).setCell ⟨mb, 1, none⟩ (.int .i64 (room + 1))).alloc (.cells #[.slice (some ⟨mb, 0, none⟩) S S] 35)) 3 (.int .i64 1)
  rw [World.size_alloc] at bwq
  rw [hsq] at b7q bwq
  have hF0 := Lib.hid (show FW w.heap.size mb m7 w A n cap room S (m7 + 1) 1 (updT (fun _ => (0, 0)) 0 (0, room + 1)) ((((w2.setCell ⟨mb, 0, none⟩ (.int .i64 0)).setCell ⟨mb, 1, none⟩ (.int .i64 (room + 1))).alloc (.cells #[.slice (some ⟨mb, 0, none⟩) S S] 35)).alloc (.cells #[.int .i64 1] 3)) from
    ⟨(by0.alloc _).alloc _, (by1.alloc _).alloc _, b7q, bwq, (hst.alloc _).alloc _, (hbq.alloc hbq.size _).alloc (by have := hbq.size; simp; omega) _, by omega, by omega, by omega⟩)
  clear hown hst htab hbq hk by0 by1 b7q bwq hsq b7 bx0 bx1 hbw2 hbg hg2 hbw
  go_wp2
  clear hc0 hc1 hf0 hf1 cx0 cx1
  generalize (((w2.setCell ⟨mb, 0, none⟩ (.int .i64 0)).setCell ⟨mb, 1, none⟩ (.int .i64 (room + 1))).alloc (.cells #[.slice (some ⟨mb, 0, none⟩) S S] 35)).alloc (.cells #[.int .i64 1] 3) = wq at *
  refine wp_loop (fun a' wr => ∃ (ds : List Deferred), a' = { tmps := #[(a'.tmps.getD 0 undef), (a'.tmps.getD 1 undef), (.pointer (some ⟨w.heap.size, 0, none⟩)), (.pointer (some ⟨w.heap.size + 1, 0, none⟩)), (a'.tmps.getD 4 undef), (a'.tmps.getD 5 undef), (a'.tmps.getD 6 undef), (.pointer (some ⟨m7, 0, none⟩)), (a'.tmps.getD 8 undef), (a'.tmps.getD 9 undef), (a'.tmps.getD 10 undef), (a'.tmps.getD 11 undef), (a'.tmps.getD 12 undef), (a'.tmps.getD 13 undef), (a'.tmps.getD 14 undef), (a'.tmps.getD 15 undef), (a'.tmps.getD 16 undef), (a'.tmps.getD 17 undef), (a'.tmps.getD 18 undef), (a'.tmps.getD 19 undef), (a'.tmps.getD 20 undef), (a'.tmps.getD 21 undef), (a'.tmps.getD 22 undef), (a'.tmps.getD 23 undef), (a'.tmps.getD 24 undef), (a'.tmps.getD 25 undef), (a'.tmps.getD 26 undef), (a'.tmps.getD 27 undef), (a'.tmps.getD 28 undef), (a'.tmps.getD 29 undef), (a'.tmps.getD 30 undef), (a'.tmps.getD 31 undef), (a'.tmps.getD 32 undef), (a'.tmps.getD 33 undef), (a'.tmps.getD 34 undef), (a'.tmps.getD 35 undef), (a'.tmps.getD 36 undef), (a'.tmps.getD 37 undef), (a'.tmps.getD 38 undef), (a'.tmps.getD 39 undef), (a'.tmps.getD 40 undef), (a'.tmps.getD 41 undef), (a'.tmps.getD 42 undef), (a'.tmps.getD 43 undef), (a'.tmps.getD 44 undef), (a'.tmps.getD 45 undef), (a'.tmps.getD 46 undef), (a'.tmps.getD 47 undef), (a'.tmps.getD 48 undef), (a'.tmps.getD 49 undef), (a'.tmps.getD 50 undef), (a'.tmps.getD 51 undef), (a'.tmps.getD 52 undef), (a'.tmps.getD 53 undef), (a'.tmps.getD 54 undef), (a'.tmps.getD 55 undef), (a'.tmps.getD 56 undef), (a'.tmps.getD 57 undef), (a'.tmps.getD 58 undef), (a'.tmps.getD 59 undef), (a'.tmps.getD 60 undef), (a'.tmps.getD 61 undef), (a'.tmps.getD 62 undef), (a'.tmps.getD 63 undef), (a'.tmps.getD 64 undef), (a'.tmps.getD 65 undef), (a'.tmps.getD 66 undef), (a'.tmps.getD 67 undef), (a'.tmps.getD 68 undef), (a'.tmps.getD 69 undef), (a'.tmps.getD 70 undef), (a'.tmps.getD 71 undef), (a'.tmps.getD 72 undef), (a'.tmps.getD 73 undef), (a'.tmps.getD 74 undef), (a'.tmps.getD 75 undef), (a'.tmps.getD 76 undef), (a'.tmps.getD 77 undef), (a'.tmps.getD 78 undef), (a'.tmps.getD 79 undef), (a'.tmps.getD 80 undef), (a'.tmps.getD 81 undef), (a'.tmps.getD 82 undef), (a'.tmps.getD 83 undef), (a'.tmps.getD 84 undef), (a'.tmps.getD 85 undef), (a'.tmps.getD 86 undef), (a'.tmps.getD 87 undef), (a'.tmps.getD 88 undef), (a'.tmps.getD 89 undef), (a'.tmps.getD 90 undef), (a'.tmps.getD 91 undef), (a'.tmps.getD 92 undef), (a'.tmps.getD 93 undef), (a'.tmps.getD 94 undef), (a'.tmps.getD 95 undef), (a'.tmps.getD 96 undef), (a'.tmps.getD 97 undef), (a'.tmps.getD 98 undef), (a'.tmps.getD 99 undef), (a'.tmps.getD 100 undef), (a'.tmps.getD 101 undef)], defers := ds } ∧ (∃ (v wb : Nat) (T : Nat → Int × Int), 1 ≤ v ∧ v ≤ S ∧ (a'.tmps.getD 8 undef) = .pointer (some ⟨wb, 0, none⟩) ∧ FW w.heap.size mb m7 w A n cap room S wb v T wr ∧ (∀ u, u < v → PB (fun i => zs.getD i 0) room n u (T u)) ∧ Marks w.heap.size wr.heap.size ds wr)) (fun a' wr => S - boxV wr (a'.tmps.getD 8 undef)) ?atStart ?round
  case atStart =>
    refine ⟨_, rfl, ?_⟩
    refine ⟨1, m7 + 1, _, Nat.le_refl _, hS1, rfl, hF0.out, fun u hu => ?_, trivial⟩
    obtain rfl : u = 0 := by omega
    exact PB.zero _ _ _
  case round =>
    rintro a' wr ⟨ds, ha, hrel⟩
    generalize a'.tmps.getD 0 undef = x0 at ha hrel
    generalize a'.tmps.getD 1 undef = x1 at ha hrel
    generalize a'.tmps.getD 4 undef = x4 at ha hrel
    generalize a'.tmps.getD 5 undef = x5 at ha hrel
    generalize a'.tmps.getD 6 undef = x6 at ha hrel
    generalize a'.tmps.getD 8 undef = x8 at ha hrel
    generalize a'.tmps.getD 9 undef = x9 at ha hrel
    generalize a'.tmps.getD 10 undef = x10 at ha hrel
    generalize a'.tmps.getD 11 undef = x11 at ha hrel
    generalize a'.tmps.getD 12 undef = x12 at ha hrel
    generalize a'.tmps.getD 13 undef = x13 at ha hrel
    generalize a'.tmps.getD 14 undef = x14 at ha hrel
    generalize a'.tmps.getD 15 undef = x15 at ha hrel
    generalize a'.tmps.getD 16 undef = x16 at ha hrel
    generalize a'.tmps.getD 17 undef = x17 at ha hrel
    generalize a'.tmps.getD 18 undef = x18 at ha hrel
    generalize a'.tmps.getD 19 undef = x19 at ha hrel
    generalize a'.tmps.getD 20 undef = x20 at ha hrel
    generalize a'.tmps.getD 21 undef = x21 at ha hrel
    generalize a'.tmps.getD 22 undef = x22 at ha hrel
    generalize a'.tmps.getD 23 undef = x23 at ha hrel
    generalize a'.tmps.getD 24 undef = x24 at ha hrel
    generalize a'.tmps.getD 25 undef = x25 at ha hrel
    generalize a'.tmps.getD 26 undef = x26 at ha hrel
    generalize a'.tmps.getD 27 undef = x27 at ha hrel
    generalize a'.tmps.getD 28 undef = x28 at ha hrel
    generalize a'.tmps.getD 29 undef = x29 at ha hrel
    generalize a'.tmps.getD 30 undef = x30 at ha hrel
    generalize a'.tmps.getD 31 undef = x31 at ha hrel
    generalize a'.tmps.getD 32 undef = x32 at ha hrel
    generalize a'.tmps.getD 33 undef = x33 at ha hrel
    generalize a'.tmps.getD 34 undef = x34 at ha hrel
    generalize a'.tmps.getD 35 undef = x35 at ha hrel
    generalize a'.tmps.getD 36 undef = x36 at ha hrel
    generalize a'.tmps.getD 37 undef = x37 at ha hrel
    generalize a'.tmps.getD 38 undef = x38 at ha hrel
    generalize a'.tmps.getD 39 undef = x39 at ha hrel
    generalize a'.tmps.getD 40 undef = x40 at ha hrel
    generalize a'.tmps.getD 41 undef = x41 at ha hrel
    generalize a'.tmps.getD 42 undef = x42 at ha hrel
    generalize a'.tmps.getD 43 undef = x43 at ha hrel
    generalize a'.tmps.getD 44 undef = x44 at ha hrel
    generalize a'.tmps.getD 45 undef = x45 at ha hrel
    generalize a'.tmps.getD 46 undef = x46 at ha hrel
    generalize a'.tmps.getD 47 undef = x47 at ha hrel
    generalize a'.tmps.getD 48 undef = x48 at ha hrel
    generalize a'.tmps.getD 49 undef = x49 at ha hrel
    generalize a'.tmps.getD 50 undef = x50 at ha hrel
    generalize a'.tmps.getD 51 undef = x51 at ha hrel
    generalize a'.tmps.getD 52 undef = x52 at ha hrel
    generalize a'.tmps.getD 53 undef = x53 at ha hrel
    generalize a'.tmps.getD 54 undef = x54 at ha hrel
    generalize a'.tmps.getD 55 undef = x55 at ha hrel
    generalize a'.tmps.getD 56 undef = x56 at ha hrel
    generalize a'.tmps.getD 57 undef = x57 at ha hrel
    generalize a'.tmps.getD 58 undef = x58 at ha hrel
    generalize a'.tmps.getD 59 undef = x59 at ha hrel
    generalize a'.tmps.getD 60 undef = x60 at ha hrel
    generalize a'.tmps.getD 61 undef = x61 at ha hrel
    generalize a'.tmps.getD 62 undef = x62 at ha hrel
    generalize a'.tmps.getD 63 undef = x63 at ha hrel
    generalize a'.tmps.getD 64 undef = x64 at ha hrel
    generalize a'.tmps.getD 65 undef = x65 at ha hrel
    generalize a'.tmps.getD 66 undef = x66 at ha hrel
    generalize a'.tmps.getD 67 undef = x67 at ha hrel
    generalize a'.tmps.getD 68 undef = x68 at ha hrel
    generalize a'.tmps.getD 69 undef = x69 at ha hrel
    generalize a'.tmps.getD 70 undef = x70 at ha hrel
    generalize a'.tmps.getD 71 undef = x71 at ha hrel
    generalize a'.tmps.getD 72 undef = x72 at ha hrel
    generalize a'.tmps.getD 73 undef = x73 at ha hrel
    generalize a'.tmps.getD 74 undef = x74 at ha hrel
    generalize a'.tmps.getD 75 undef = x75 at ha hrel
    generalize a'.tmps.getD 76 undef = x76 at ha hrel
    generalize a'.tmps.getD 77 undef = x77 at ha hrel
    generalize a'.tmps.getD 78 undef = x78 at ha hrel
    generalize a'.tmps.getD 79 undef = x79 at ha hrel
    generalize a'.tmps.getD 80 undef = x80 at ha hrel
    generalize a'.tmps.getD 81 undef = x81 at ha hrel
    generalize a'.tmps.getD 82 undef = x82 at ha hrel
    generalize a'.tmps.getD 83 undef = x83 at ha hrel
    generalize a'.tmps.getD 84 undef = x84 at ha hrel
    generalize a'.tmps.getD 85 undef = x85 at ha hrel
    generalize a'.tmps.getD 86 undef = x86 at ha hrel
    generalize a'.tmps.getD 87 undef = x87 at ha hrel
    generalize a'.tmps.getD 88 undef = x88 at ha hrel
    generalize a'.tmps.getD 89 undef = x89 at ha hrel
    generalize a'.tmps.getD 90 undef = x90 at ha hrel
    generalize a'.tmps.getD 91 undef = x91 at ha hrel
    generalize a'.tmps.getD 92 undef = x92 at ha hrel
    generalize a'.tmps.getD 93 undef = x93 at ha hrel
    generalize a'.tmps.getD 94 undef = x94 at ha hrel
    generalize a'.tmps.getD 95 undef = x95 at ha hrel
    generalize a'.tmps.getD 96 undef = x96 at ha hrel
    generalize a'.tmps.getD 97 undef = x97 at ha hrel
    generalize a'.tmps.getD 98 undef = x98 at ha hrel
    generalize a'.tmps.getD 99 undef = x99 at ha hrel
    generalize a'.tmps.getD 100 undef = x100 at ha hrel
    generalize a'.tmps.getD 101 undef = x101 at ha hrel
    subst ha
    obtain ⟨v, wb, T, hv1, hvS, rfl, hF, hP, hmk⟩ := hrel
    clear hF0
    obtain ⟨wo, hwo⟩ : ∃ wo : World, wo = wr := ⟨_, rfl⟩
    subst hwo
    have hcw := hF.bw.cell
    have hc7 := hF.b7.cell
    have hlw := hF.bw.lt
    have hc0 := hF.b0.cell
    have o1 := hF.o1; have o2 := hF.o2; have o3 := hF.o3
    by_cases hlt : v < S
    · obtain ⟨hcv1, hcv2⟩ := hF.cells hlt
      have hfv1 := hF.ow.frozenAt (v * 2)
      have hfv2 := hF.ow.frozenAt (v * 2 + 1)
      have hlm2 := hF.lt_mb
      have hw1 : IntKind.i64.wrap ((n : Int) + 1) = (n : Int) + 1 := IntWalk.i64_in _ (by omega)
      have hw2 : IntKind.u32.wrap (v : Int) = v := IntWalk.u32_in _ (by omega)
      have hvv : 0 ≤ (v : Int) ∧ (v : Int) < S := by omega
      have hF1 := hF.put v ((n : Int) + 1, 0)
      have hFs : ((wo.setCell ⟨mb, v * 2, none⟩ (.int .i64 ((n : Int) + 1))).setCell ⟨mb, v * 2 + 1, none⟩ (.int .i64 0)).heap.size = wo.heap.size := by simp
      have hmk1 : Marks w.heap.size wo.heap.size ds ((wo.setCell ⟨mb, v * 2, none⟩ (.int .i64 ((n : Int) + 1))).setCell ⟨mb, v * 2 + 1, none⟩ (.int .i64 0)) := (hmk.keeps (KeepsOthers.setCell _ _ _)).keeps (KeepsOthers.setCell _ _ _)
      have hPH := Lib.hid hP; have hF1H := Lib.hid hF1; have hmk1H := Lib.hid hmk1
      clear hF hP hmk hF1 hmk1
      go_wp2_with fail
      refine (each_any v _).mono ?_
      rintro e w6 ⟨rfl, rfl⟩
      generalize (wo.setCell ⟨mb, v * 2, none⟩ (.int .i64 ((n : Int) + 1))).setCell ⟨mb, v * 2 + 1, none⟩ (.int .i64 0) = W1 at *
      have hFa := hF1H.out.alloc (.cells #[.int .u32 (v : Int)] 41)
      have bE := Boxed.new W1 41 (.int .u32 (v : Int))
      have hszB : (W1.alloc (.cells #[.int .u32 (v : Int)] 41)).heap.size = W1.heap.size + 1 := by simp
      have hmB : Marks w.heap.size W1.heap.size ds (W1.alloc (.cells #[.int .u32 (v : Int)] 41)) := by rw [hFs]; exact hmk1H.out.keeps (KeepsOthers.alloc _ _)
      have htB := htbH.out.below hg hFa.hb
      have hwbl : wb < W1.heap.size := by rw [hFs]; exact hlw
      have h0I : InI w.heap.size mb m7 w A n cap room S wb v T (fun i => zs.getD i 0) W1.heap.size ds [] (W1.alloc (.cells #[.int .u32 (v : Int)] 41)) := ⟨_, hFa, PI.start _ _ _ _ _, hmB, by simp⟩
      clear hF1H hmk1H hFa hmB hcv1 hcv2 hfv1 hfv2
      go_wp2
      refine (wpIn_wide (n := 5)).1 ?_
      generalize W1.alloc (.cells #[.int .u32 (v : Int)] 41) = wC at *
      simp only [hFs] at bE hszB hwbl h0I
      clear hFs
      generalize hbs : wo.heap.size = bs at *
      generalize hs : w.heap.size = s at *
      refine' rangeFunc_box (n := 5) (α := Bt v) (gf := 25) (lb := #[.pointer (some ⟨bs, 0, none⟩)]) (by omega) rfl (enters_of Tryd.func25 (by kernel_rfl) rfl)
        (each_stops 4 (by omega) bs s v (by omega) wC htB hg (by omega) bE (by omega)) (by omega) (fun h h' => KpE.trans h h') (kpE_b (by omega) (by omega)) (Below.refl _ _) (fun _ => rfl)
        (fun pre W => InI s mb m7 w A n cap room S wb v T (fun i => zs.getD i 0) bs ds (pre.map (·.1)) W)
        (fun _ _ _ => False) ?hI ?hIb (fun _ _ _ _ _ h _ _ => h) (fun _ _ _ _ _ h _ _ => h) h0I _ ?assign ?body ?done (fun _ _ _ _ _ _ h _ => h.elim)
      case hI => exact fun pre X Y row h hg hr => h.grown hwbl hg (fun k e => by have := (hr k e).1; omega)
      case hIb => exact fun pre X Y row h hg hr => h.grown hwbl hg (fun k e => by have := hr k e; omega)
      case assign =>
        intro l0 y W K hK
        gi_wp2
        exact hK
      case body =>
        rintro l0 pre y W ⟨cur, hF, hPI, hmk, hbsW⟩ _
        obtain ⟨i, hiy⟩ : ∃ i, y.1 = i := ⟨_, rfl⟩
        have hib : v.testBit i = true := by rw [← hiy]; exact y.2.2
        have hsn : (pre ++ [y]).map (·.1) = pre.map (·.1) ++ [i] := by simp [hiy]
        simp only [hiy]
        have hi8 : i < n := Nat.lt_of_not_le fun hle => by
          have := Nat.testBit_lt_two_pow (Nat.lt_of_lt_of_le (show v < 2 ^ n by rw [hSH.out]; exact hlt) (Nat.pow_le_pow_right (by omega) hle))
          rw [hib] at this; cases this
        obtain ⟨hdl, hdv⟩ := delI_all v (by omega) i (by omega) hib
        have hdel := delI_del hib
        have hPd := hPH.out (delI v i) hdv
        have hTd : updT T v cur (delI v i) = T (delI v i) := by unfold updT; rw [if_neg (by omega)]
        obtain ⟨cd1, cd2⟩ := hF.cells (show delI v i < S by omega)
        rw [hTd] at cd1 cd2
        have hbd := stp_bd hdel hib hi8 hPd
        have htake := Lib.hid (fun h => hPI.take (i := i) h)
        have hskip := Lib.hid (fun h h' => hPI.skip (i := i) h h')
        have hTb := hPd.bd
        have hpn := popc_le n v
        have hpd := popc_le n (delI v i)
        have hTl : -10000000 ≤ (T (delI v i)).2 ∧ (T (delI v i)).2 ≤ 10000000 := by
          by_cases h0 : delI v i = 0
          · rw [hPd.z0 h0]; simp; omega
          · have := hPd.sm h0; omega
        obtain ⟨dl, hdle⟩ : ∃ dl, delI v i = dl := ⟨_, rfl⟩
        rw [hdle] at hdl hdv cd1 cd2 hTd hbd htake hskip hTb hTl hpd
        obtain ⟨tb, htb1⟩ : ∃ tb, (T dl).1 = tb := ⟨_, rfl⟩
        obtain ⟨tl, htl1⟩ : ∃ tl, (T dl).2 = tl := ⟨_, rfl⟩
        have hTp : T dl = (tb, tl) := by rw [← htb1, ← htl1]
        rw [htb1] at cd1; rw [htl1] at cd2
        rw [hTp] at hbd htake hskip hTb hTl
        dsimp only at hTb hTl
        have htb9 : 0 ≤ tb ∧ tb ≤ 8 := by omega
        have c7 := hF.b7.cell; have cw := hF.bw.cell; have c0 := hF.b0.cell; have c1 := hF.b1.cell
        have c7l := hF.b7.lt; have cwl := hF.bw.lt; have c0l := hF.b0.lt; have c1l := hF.b1.lt; have cml := hF.lt_mb
        have h2i : (2 : Int) ^ i = ((2 ^ i : Nat) : Int) := by simp
        have h2w : IntKind.i64.wrap ((2 : Int) ^ i) = ((2 ^ i : Nat) : Int) := by
          have hp : 2 ^ i < 2 ^ 8 := Nat.pow_lt_pow_right (by omega) (by omega)
          rw [h2i]
          clear h2i hdl
          generalize 2 ^ i = P at hp ⊢
          exact IntWalk.i64_in _ (by omega)
        have hdS : (dl : Int) < S := by omega
        have hd0 : (0 : Int) ≤ dl := by omega
        have hFH := Lib.hid hF; have hmkH := Lib.hid hmk; have hsnH := Lib.hid hsn; have hTdH := Lib.hid hTd
        have hdl2 : bits .andNot .i64 (v : Int) ((2 : Int) ^ i) = (dl : Int) := by rw [h2i]; exact hdl
        clear h2i
        clear hF hmk hPI hsn hPd htb1 htl1 hTd hdel hpd
        gi_wp2
        refine region_round_held (fun w' => Below W.heap.size W w') (by kernel_rfl) (by kernel_rfl) (by rintro ⟨a, w, h⟩; exact h) ((Below.refl _ W).drew) (fun hHeld => ?_)
        refine wpAnyH_take (i := 0) (v := .slice (some ⟨mb, 0, none⟩) S S) rfl (by kernel_rfl) (by kernel_rfl) (by kernel_rfl) (fun _ _ _ h => h) (Or.inl ⟨by rfl, fun w' hSw => run_load rfl rfl (by have k0 := below_cell hSw c7l c7; go_simp)⟩) hHeld ?_
        change wpAnyH _ _ _ _ _ _ _ { tmps := #[_, _, _, _, _, _, _, _, _, _, _, _, _, _, _, _, _, _, _, _, _, _, _, _, _, _, _, _, _, _, _, _, _, _, _, _, _, _, _, _, _, _, _, _, _, _, _, _, _, _, _, _, _, _, _, _, _, _, _, _, _, _, _, _, _, _, _, _, _, _, _, _, _, _, _, _, _, _, _, _, _, _, _, _, _, _, _, _, _, _, _, _, _, _, _, _, _, _, _, _, _, _], defers := _ } _
        refine wpAnyH_take (i := 1) (v := .int .i64 (v : Int)) rfl (by kernel_rfl) (by kernel_rfl) (by kernel_rfl) (fun _ _ _ h => h) (Or.inl ⟨by rfl, fun w' hSw => run_load rfl rfl (by have k0 := below_cell hSw cwl cw; go_simp)⟩) hHeld ?_
        change wpAnyH _ _ _ _ _ _ _ { tmps := #[_, _, _, _, _, _, _, _, _, _, _, _, _, _, _, _, _, _, _, _, _, _, _, _, _, _, _, _, _, _, _, _, _, _, _, _, _, _, _, _, _, _, _, _, _, _, _, _, _, _, _, _, _, _, _, _, _, _, _, _, _, _, _, _, _, _, _, _, _, _, _, _, _, _, _, _, _, _, _, _, _, _, _, _, _, _, _, _, _, _, _, _, _, _, _, _, _, _, _, _, _, _], defers := _ } _
        refine wpAnyH_take (i := 2) (v := .int .i64 (i : Int)) rfl (by kernel_rfl) (by kernel_rfl) (by kernel_rfl) (fun _ _ _ h => h) (Or.inl ⟨by rfl, fun w' hSw => run_move rfl rfl⟩) hHeld ?_
        change wpAnyH _ _ _ _ _ _ _ { tmps := #[_, _, _, _, _, _, _, _, _, _, _, _, _, _, _, _, _, _, _, _, _, _, _, _, _, _, _, _, _, _, _, _, _, _, _, _, _, _, _, _, _, _, _, _, _, _, _, _, _, _, _, _, _, _, _, _, _, _, _, _, _, _, _, _, _, _, _, _, _, _, _, _, _, _, _, _, _, _, _, _, _, _, _, _, _, _, _, _, _, _, _, _, _, _, _, _, _, _, _, _, _, _], defers := _ } _
        refine wpAnyH_take (i := 3) (v := .int .i64 ((2 ^ i : Nat) : Int)) rfl (by kernel_rfl) (by kernel_rfl) (by kernel_rfl) (fun _ _ _ h => h) (Or.inl ⟨by rfl, fun w' hSw => run_bin rfl rfl rfl (by go_simp)⟩) hHeld ?_
        change wpAnyH _ _ _ _ _ _ _ { tmps := #[_, _, _, _, _, _, _, _, _, _, _, _, _, _, _, _, _, _, _, _, _, _, _, _, _, _, _, _, _, _, _, _, _, _, _, _, _, _, _, _, _, _, _, _, _, _, _, _, _, _, _, _, _, _, _, _, _, _, _, _, _, _, _, _, _, _, _, _, _, _, _, _, _, _, _, _, _, _, _, _, _, _, _, _, _, _, _, _, _, _, _, _, _, _, _, _, _, _, _, _, _, _], defers := _ } _
        refine wpAnyH_take (i := 4) (v := .int .i64 ((dl : Nat) : Int)) rfl (by kernel_rfl) (by kernel_rfl) (by kernel_rfl) (fun _ _ _ h => h) (Or.inl ⟨by rfl, fun w' hSw => run_bin rfl rfl rfl (by go_simp)⟩) hHeld ?_
        change wpAnyH _ _ _ _ _ _ _ { tmps := #[_, _, _, _, _, _, _, _, _, _, _, _, _, _, _, _, _, _, _, _, _, _, _, _, _, _, _, _, _, _, _, _, _, _, _, _, _, _, _, _, _, _, _, _, _, _, _, _, _, _, _, _, _, _, _, _, _, _, _, _, _, _, _, _, _, _, _, _, _, _, _, _, _, _, _, _, _, _, _, _, _, _, _, _, _, _, _, _, _, _, _, _, _, _, _, _, _, _, _, _, _, _], defers := _ } _
        refine wpAnyH_take (i := 5) (v := .pointer (some ⟨mb, dl * 2, none⟩)) rfl (by kernel_rfl) (by kernel_rfl) (by kernel_rfl) (fun _ _ _ h => h) (Or.inl ⟨by rfl, fun w' hSw => run_idx rfl rfl rfl (by go_simp)⟩) hHeld ?_
        change wpAnyH _ _ _ _ _ _ _ { tmps := #[_, _, _, _, _, _, _, _, _, _, _, _, _, _, _, _, _, _, _, _, _, _, _, _, _, _, _, _, _, _, _, _, _, _, _, _, _, _, _, _, _, _, _, _, _, _, _, _, _, _, _, _, _, _, _, _, _, _, _, _, _, _, _, _, _, _, _, _, _, _, _, _, _, _, _, _, _, _, _, _, _, _, _, _, _, _, _, _, _, _, _, _, _, _, _, _, _, _, _, _, _, _], defers := _ } _
        refine wpAnyH_take (i := 6) (v := .agg #[.int .i64 tb, .int .i64 tl]) rfl (by kernel_rfl) (by kernel_rfl) (by kernel_rfl) (fun _ _ _ h => h) (Or.inl ⟨by rfl, fun w' hSw => run_load rfl rfl (by have k1 := below_cell hSw cml cd1; have k2 := below_cell hSw cml cd2; go_simp)⟩) hHeld ?_
        change wpAnyH _ _ _ _ _ _ _ { tmps := #[_, _, _, _, _, _, _, _, _, _, _, _, _, _, _, _, _, _, _, _, _, _, _, _, _, _, _, _, _, _, _, _, _, _, _, _, _, _, _, _, _, _, _, _, _, _, _, _, _, _, _, _, _, _, _, _, _, _, _, _, _, _, _, _, _, _, _, _, _, _, _, _, _, _, _, _, _, _, _, _, _, _, _, _, _, _, _, _, _, _, _, _, _, _, _, _, _, _, _, _, _, _], defers := _ } _
        refine wpAnyH_ready (rs := [7]) (by kernel_rfl) (by simp) ?_
        refine AllReadyH.cons rfl (fun K hK => ?_) AllReadyH.nil
        refine step_run rfl (run_alloc rfl (W' := W.drew.alloc (.cells #[.int .i64 0, .int .i64 0] 37)) (v := .pointer (some ⟨W.heap.size, 0, none⟩)) (by go_simp)) ?_
        have hb1 : Below W.heap.size W (W.drew.alloc (.cells #[.int .i64 0, .int .i64 0] 37)) := ((Below.refl _ W).drew).alloc (Nat.le_refl _) _
        refine hK.out _ _ hb1 (fun hHeld => ?_)
        clear hK K
        change wpAnyH _ _ _ _ _ _ _ { tmps := #[_, _, _, _, _, _, _, _, _, _, _, _, _, _, _, _, _, _, _, _, _, _, _, _, _, _, _, _, _, _, _, _, _, _, _, _, _, _, _, _, _, _, _, _, _, _, _, _, _, _, _, _, _, _, _, _, _, _, _, _, _, _, _, _, _, _, _, _, _, _, _, _, _, _, _, _, _, _, _, _, _, _, _, _, _, _, _, _, _, _, _, _, _, _, _, _, _, _, _, _, _, _], defers := _ } _
        refine wpAnyH_ready (rs := [8]) (by kernel_rfl) (by simp) ?_
        refine AllReadyH.cons rfl (fun K hK => ?_) AllReadyH.nil
        refine step_skip rfl (run_store rfl rfl rfl (W' := ((W.drew.alloc (.cells #[.int .i64 0, .int .i64 0] 37)).setCell ⟨W.heap.size, 0, none⟩ (.int .i64 tb)).setCell ⟨W.heap.size, 1, none⟩ (.int .i64 tl)) (by go_simp)) ?_
        have hb2 := (hb1.setCell (p := ⟨W.heap.size, 0, none⟩) (Nat.le_refl _) (.int .i64 tb)).setCell (p := ⟨W.heap.size, 1, none⟩) (Nat.le_refl _) (.int .i64 tl)
        refine hK.out _ _ hb2 (fun hHeld => ?_)
        clear hK K
        change wpAnyH _ _ _ _ _ _ _ { tmps := #[_, _, _, _, _, _, _, _, _, _, _, _, _, _, _, _, _, _, _, _, _, _, _, _, _, _, _, _, _, _, _, _, _, _, _, _, _, _, _, _, _, _, _, _, _, _, _, _, _, _, _, _, _, _, _, _, _, _, _, _, _, _, _, _, _, _, _, _, _, _, _, _, _, _, _, _, _, _, _, _, _, _, _, _, _, _, _, _, _, _, _, _, _, _, _, _, _, _, _, _, _, _], defers := _ } _
        refine wpAnyH_done (by kernel_rfl) ?_ _
        have hB := ((show BS s mb m7 w A n cap room S wb v (updT T v cur) bs ds W W.heap.size (0, 0) (W.drew.alloc (.cells #[.int .i64 0, .int .i64 0] 37)) from
          ⟨(hFH.out.drewN 1).alloc _, Blk.new W.drew 37 #[.int .i64 0, .int .i64 0], (Marks.keep (w := W) (w' := W.drew) (fun _ _ _ h _ => h) hmkH.out).keeps (KeepsOthers.alloc W.drew _), (⟨Nat.le_refl _, fun _ _ h _ => h⟩ : KeepsOthers W W.drew).trans (KeepsOthers.alloc _ _), (KpE.drew (KpE.refl _ _ W)).alloc (by show s ≤ W.heap.size; omega) (by show bs < W.heap.size; omega) _, hwbl, by omega⟩).set0 tb).set1 tl
        generalize ((W.drew.alloc (.cells #[.int .i64 0, .int .i64 0] 37)).setCell ⟨W.heap.size, 0, none⟩ (.int .i64 tb)).setCell ⟨W.heap.size, 1, none⟩ (.int .i64 tl) = W2 at *
        clear hb1 hb2 hHeld c7 cw c0 c1 c7l cwl c0l c1l cml cd1 cd2 hFH hmkH
        obtain ⟨pp, hpp⟩ : ∃ pp, W.heap.size = pp := ⟨_, rfl⟩
        rw [hpp] at hB
        simp only [hpp]
        obtain ⟨bz, oz, hAz, -, -⟩ := (hrH.out.later (by rw [hs]; exact hB.f.hb)).int hi8
        subst hAz
        have hzi := hzH.out i
        have hst : stp room (tb, tl) (zs.getD i 0) = if room < tl + zs.getD i 0 then (tb + 1, zs.getD i 0) else (tb, tl + zs.getD i 0) := rfl
        rw [hst] at hbd htake hskip
        clear hst
        have p0 : W2.cell? ⟨pp, 0, none⟩ = some (.int .i64 tb) := hB.k.cell rfl
        have p1 : W2.cell? ⟨pp, 1, none⟩ = some (.int .i64 tl) := hB.k.cell rfl
        have pf0 := hB.k.frozen 0; have pf1 := hB.k.frozen 1; have pl := hB.k.lt
        have e0 := hB.f.b0.cell; have e1 := hB.f.b1.cell; have e7 := hB.f.b7.cell; have ew := hB.f.bw.cell
        obtain ⟨_, _, hAz, _, hcz⟩ := (hrH.out.later (by rw [hs]; exact hB.f.hb)).int hi8
        cases hAz
        have hin0 : (0 : Int) ≤ i := by omega
        have hinn : (i : Int) < n := by omega
        obtain ⟨x, hxz⟩ : ∃ x, zs.getD i 0 = x := ⟨_, rfl⟩
        rw [hxz] at hzi hbd htake hskip hcz
        have hwx : IntKind.i64.wrap (tl + x) = tl + x := IntWalk.i64_in _ (by omega)
        have hBH := Lib.hid hB
        clear hB
        by_cases hgt : room < tl + x
        · rw [if_pos hgt] at hbd htake hskip
          have hwt : IntKind.i64.wrap (tb + 1) = tb + 1 := IntWalk.i64_in _ (by omega)
          gi_wp2
          refine region_round_lit (by kernel_rfl) rfl (by kernel_rfl) (by kernel_rfl) ?_
          dsimp only [List.dropLast]
          repeat (gi_big_quiet_step (fail))
          refine wpQuietIn_nil ?_
          rintro _ ⟨nq, rfl⟩
          gi_wp2
          have hB4 := ((hBH.out.drewN nq).set0 (tb + 1)).set1 0
          clear hBH p0 p1 pf0 pf1 pl e0 e1 e7 ew hcz
          generalize ((W2.drewN nq).setCell ⟨pp, 0, none⟩ (.int .i64 (tb + 1))).setCell ⟨pp, 1, none⟩ (.int .i64 0) = W4 at *
          have p0 : W4.cell? ⟨pp, 0, none⟩ = some (.int .i64 (tb + 1)) := hB4.k.cell rfl
          have p1 : W4.cell? ⟨pp, 1, none⟩ = some (.int .i64 0) := hB4.k.cell rfl
          have pf0 := hB4.k.frozen 0; have pf1 := hB4.k.frozen 1; have pl := hB4.k.lt
          have e0 := hB4.f.b0.cell; have e1 := hB4.f.b1.cell; have e7 := hB4.f.b7.cell; have ew := hB4.f.bw.cell
          obtain ⟨_, _, hAz, _, hcz⟩ := (hrH.out.later (by rw [hs]; exact hB4.f.hb)).int hi8
          cases hAz
          rw [hxz] at hcz
          have hwx0 : IntKind.i64.wrap x = x := IntWalk.i64_in _ (by omega)
          have hB4H := Lib.hid hB4
          clear hB4
          refine region_round_lit (by kernel_rfl) rfl (by kernel_rfl) (by kernel_rfl) ?_
          dsimp only [List.dropLast]
          repeat (gi_big_quiet_step (fail))
          refine wpQuietIn_nil ?_
          rintro _ ⟨nq2, rfl⟩
          gi_wp2
          have hB5 := (hB4H.out.drewN nq2).set1 x
          clear hB4H p0 p1 pf0 pf1 pl e0 e1 e7 ew hcz
          generalize (W4.drewN nq2).setCell ⟨pp, 1, none⟩ (.int .i64 x) = W5 at *
          have hB5H := Lib.hid hB5
          have d1 : W5.cell? ⟨mb, v * 2, none⟩ = some (.int .i64 cur.1) := by
            have := (hB5.f.cells hlt).1
            rwa [show updT T v cur v = cur by unfold updT; rw [if_pos rfl]] at this
          have d2 : W5.cell? ⟨mb, v * 2 + 1, none⟩ = some (.int .i64 cur.2) := by
            have := (hB5.f.cells hlt).2
            rwa [show updT T v cur v = cur by unfold updT; rw [if_pos rfl]] at this
          have df1 := hB5.f.ow.frozenAt (v * 2); have df2 := hB5.f.ow.frozenAt (v * 2 + 1)
          have dlm := hB5.f.lt_mb
          have p0 : W5.cell? ⟨pp, 0, none⟩ = some (.int .i64 (tb + 1)) := hB5.k.cell rfl
          have p1 : W5.cell? ⟨pp, 1, none⟩ = some (.int .i64 x) := hB5.k.cell rfl
          have pf0 := hB5.k.frozen 0; have pf1 := hB5.k.frozen 1; have pl := hB5.k.lt
          have e0 := hB5.f.b0.cell; have e1 := hB5.f.b1.cell; have e7 := hB5.f.b7.cell; have ew := hB5.f.bw.cell
          obtain ⟨_, _, hAz, _, hcz⟩ := (hrH.out.later (by rw [hs]; exact hB5.f.hb)).int hi8
          cases hAz
          rw [hxz] at hcz
          have HC1 := Lib.hid (fun X => (cmpN_any (tb + 1) cur.1 X).mono fun (e : Ending) (w' : World) ⟨h1, h2⟩ => show e = Ending.returned (Value.int .i64 (cmpI (tb + 1) cur.1)) ∧ w' = X from ⟨h1, h2.symm⟩)
          have HC2 := Lib.hid (fun X => (cmp64_any (x) cur.2 X).mono fun (e : Ending) (w' : World) ⟨h1, h2⟩ => show e = Ending.returned (Value.int .i64 (cmpI (x) cur.2)) ∧ w' = X from ⟨h1, h2.symm⟩)
          have hlexH := Lib.hid (orI_neg (a := (tb + 1, x)) (b := cur))
          clear hB5 hcz
          obtain ⟨k1, hk1⟩ : ∃ k1, cmpI (tb + 1) cur.1 = k1 := ⟨_, rfl⟩
          obtain ⟨k2, hk2⟩ : ∃ k2, cmpI (x) cur.2 = k2 := ⟨_, rfl⟩
          dsimp only at hlexH
          rw [hk1] at HC1 hlexH
          rw [hk2] at HC2 hlexH
          clear hk1 hk2
          refine region_round_tail 16 (by kernel_rfl) (by kernel_rfl) (by kernel_rfl) (by rintro ⟨a, w, h⟩; exact h) ?_
          simp only [List.take_succ_cons, List.take_zero, List.drop_succ_cons, List.drop_zero]
          repeat still_step
          still_call (HC1.out _)
          repeat still_step
          still_call (HC2.out _)
          refine wpStill_nil ?_
          change wpList _ _ _ _ _ W5.drew
          have hrO : Rd (W5.drew.alloc (.cells #[.int .i64 k1, .int .i64 k2] 3)) (some ⟨W5.heap.size, 0, none⟩) 2 1 (ints .i64 [k1, k2]) := rd_lit W5.drew [.int .i64 k1, .int .i64 k2] 3 2 1 rfl
          have hB6 : BS s mb m7 w _ n cap room S wb v (updT T v cur) bs ds W pp (tb + 1, x) (W5.alloc (.cells #[.int .i64 k1, .int .i64 k2] 3)).drew := (hB5H.out.alloc (.cells #[.int .i64 k1, .int .i64 k2] 3)).drewN 1
          have hB6H := Lib.hid hB6
          clear hB6
          go_wp2_with fail
          refine (or_any _ _ k1 k2 _ hrO).mono ?_
          rintro _ w9 ⟨rfl, rfl⟩
          clear hrO hB5H p0 p1 pf0 pf1 pl e0 e1 e7 ew d1 d2 df1 df2 dlm
          by_cases hlx : orI k1 k2 < 0
          · have hnx := Lib.hid (htake.out (hlexH.out.1 hlx))
            go_wp2
            clear htake hskip hlexH HC1 HC2
            generalize (W5.alloc (.cells #[.int .i64 k1, .int .i64 k2] 3)).drew = W6 at *
            have hB6 := hB6H.out
            have p0 : W6.cell? ⟨pp, 0, none⟩ = some (.int .i64 (tb + 1)) := hB6.k.cell rfl
            have p1 : W6.cell? ⟨pp, 1, none⟩ = some (.int .i64 (x)) := hB6.k.cell rfl
            have pl := hB6.k.lt
            have e7 := hB6.f.b7.cell; have ew := hB6.f.bw.cell
            have d1 : W6.cell? ⟨mb, v * 2, none⟩ = some (.int .i64 cur.1) := by
              have := (hB6.f.cells hlt).1
              rwa [show updT T v cur v = cur by unfold updT; rw [if_pos rfl]] at this
            have d2 : W6.cell? ⟨mb, v * 2 + 1, none⟩ = some (.int .i64 cur.2) := by
              have := (hB6.f.cells hlt).2
              rwa [show updT T v cur v = cur by unfold updT; rw [if_pos rfl]] at this
            have df1 := hB6.f.ow.frozenAt (v * 2); have df2 := hB6.f.ow.frozenAt (v * 2 + 1)
            have dlm := hB6.f.lt_mb
            have hB7 := hB6.put v (tb + 1, x)
            rw [updT_upd] at hB7
            have hB7H := Lib.hid hB7
            clear hB6 hB7 hB6H hlx
            gi_wp2
            have hB7 := hB7H.out
            exact ⟨hB7.o.from _, hB7.e, (tb + 1, x), hB7.f, by have h9 := hnx.out; rw [← hsnH.out] at h9; exact h9, hB7.m, by have := hB7.k.lt; have := hB7.o5; omega⟩
          · have hnx := Lib.hid (hskip.out (fun h => hlx (hlexH.out.2 h)) (by have h9 := hbd.2; first | omega | (dsimp only at h9 ⊢; omega)))
            have hlx2 : 0 ≤ orI k1 k2 := by omega
            go_wp2
            clear htake hskip hlexH HC1 HC2 hlx
            generalize (W5.alloc (.cells #[.int .i64 k1, .int .i64 k2] 3)).drew = W6 at *
            gi_wp2
            have hB7 := hB6H.out
            exact ⟨hB7.o.from _, hB7.e, cur, hB7.f, by have h9 := hnx.out; rw [← hsnH.out] at h9; exact h9, hB7.m, by have := hB7.k.lt; have := hB7.o5; omega⟩
        · rw [if_neg hgt] at hbd htake hskip
          have htx : tl + x ≤ room := by omega
          gi_wp2
          refine region_round_lit (by kernel_rfl) rfl (by kernel_rfl) (by kernel_rfl) ?_
          dsimp only [List.dropLast]
          repeat (gi_big_quiet_step (fail))
          refine wpQuietIn_nil ?_
          rintro _ ⟨nq, rfl⟩
          have hB4H := Lib.hid (hBH.out.drewN nq)
          have hB3 := hB4H.out
          clear hBH p0 p1 pf0 pf1 pl e0 e1 e7 ew hcz
          generalize W2.drewN nq = W4 at *
          have p0 : W4.cell? ⟨pp, 0, none⟩ = some (.int .i64 tb) := hB3.k.cell rfl
          have p1 : W4.cell? ⟨pp, 1, none⟩ = some (.int .i64 tl) := hB3.k.cell rfl
          have pf0 := hB3.k.frozen 0; have pf1 := hB3.k.frozen 1; have pl := hB3.k.lt
          have e0 := hB3.f.b0.cell; have e1 := hB3.f.b1.cell; have e7 := hB3.f.b7.cell; have ew := hB3.f.bw.cell
          obtain ⟨_, _, hAz, _, hcz⟩ := (hrH.out.later (by rw [hs]; exact hB3.f.hb)).int hi8
          cases hAz
          rw [hxz] at hcz
          clear hB3
          gi_wp2
          refine region_round_lit (by kernel_rfl) rfl (by kernel_rfl) (by kernel_rfl) ?_
          dsimp only [List.dropLast]
          repeat (gi_big_quiet_step (fail))
          refine wpQuietIn_nil ?_
          rintro _ ⟨nq2, rfl⟩
          gi_wp2
          have hB5 := (hB4H.out.drewN nq2).set1 (tl + x)
          clear hB4H p0 p1 pf0 pf1 pl e0 e1 e7 ew hcz
          generalize (W4.drewN nq2).setCell ⟨pp, 1, none⟩ (.int .i64 (tl + x)) = W5 at *
          have hB5H := Lib.hid hB5
          have d1 : W5.cell? ⟨mb, v * 2, none⟩ = some (.int .i64 cur.1) := by
            have := (hB5.f.cells hlt).1
            rwa [show updT T v cur v = cur by unfold updT; rw [if_pos rfl]] at this
          have d2 : W5.cell? ⟨mb, v * 2 + 1, none⟩ = some (.int .i64 cur.2) := by
            have := (hB5.f.cells hlt).2
            rwa [show updT T v cur v = cur by unfold updT; rw [if_pos rfl]] at this
          have df1 := hB5.f.ow.frozenAt (v * 2); have df2 := hB5.f.ow.frozenAt (v * 2 + 1)
          have dlm := hB5.f.lt_mb
          have p0 : W5.cell? ⟨pp, 0, none⟩ = some (.int .i64 tb) := hB5.k.cell rfl
          have p1 : W5.cell? ⟨pp, 1, none⟩ = some (.int .i64 (tl + x)) := hB5.k.cell rfl
          have pf0 := hB5.k.frozen 0; have pf1 := hB5.k.frozen 1; have pl := hB5.k.lt
          have e0 := hB5.f.b0.cell; have e1 := hB5.f.b1.cell; have e7 := hB5.f.b7.cell; have ew := hB5.f.bw.cell
          obtain ⟨_, _, hAz, _, hcz⟩ := (hrH.out.later (by rw [hs]; exact hB5.f.hb)).int hi8
          cases hAz
          rw [hxz] at hcz
          have HC1 := Lib.hid (fun X => (cmpN_any tb cur.1 X).mono fun (e : Ending) (w' : World) ⟨h1, h2⟩ => show e = Ending.returned (Value.int .i64 (cmpI tb cur.1)) ∧ w' = X from ⟨h1, h2.symm⟩)
          have HC2 := Lib.hid (fun X => (cmp64_any (tl + x) cur.2 X).mono fun (e : Ending) (w' : World) ⟨h1, h2⟩ => show e = Ending.returned (Value.int .i64 (cmpI (tl + x) cur.2)) ∧ w' = X from ⟨h1, h2.symm⟩)
          have hlexH := Lib.hid (orI_neg (a := (tb, tl + x)) (b := cur))
          clear hB5 hcz
          obtain ⟨k1, hk1⟩ : ∃ k1, cmpI tb cur.1 = k1 := ⟨_, rfl⟩
          obtain ⟨k2, hk2⟩ : ∃ k2, cmpI (tl + x) cur.2 = k2 := ⟨_, rfl⟩
          dsimp only at hlexH
          rw [hk1] at HC1 hlexH
          rw [hk2] at HC2 hlexH
          clear hk1 hk2
          refine region_round_tail 16 (by kernel_rfl) (by kernel_rfl) (by kernel_rfl) (by rintro ⟨a, w, h⟩; exact h) ?_
          simp only [List.take_succ_cons, List.take_zero, List.drop_succ_cons, List.drop_zero]
          repeat still_step
          still_call (HC1.out _)
          repeat still_step
          still_call (HC2.out _)
          refine wpStill_nil ?_
          change wpList _ _ _ _ _ W5.drew
          have hrO : Rd (W5.drew.alloc (.cells #[.int .i64 k1, .int .i64 k2] 3)) (some ⟨W5.heap.size, 0, none⟩) 2 1 (ints .i64 [k1, k2]) := rd_lit W5.drew [.int .i64 k1, .int .i64 k2] 3 2 1 rfl
          have hB6 : BS s mb m7 w _ n cap room S wb v (updT T v cur) bs ds W pp (tb, tl + x) (W5.alloc (.cells #[.int .i64 k1, .int .i64 k2] 3)).drew := (hB5H.out.alloc (.cells #[.int .i64 k1, .int .i64 k2] 3)).drewN 1
          have hB6H := Lib.hid hB6
          clear hB6
          go_wp2_with fail
          refine (or_any _ _ k1 k2 _ hrO).mono ?_
          rintro _ w9 ⟨rfl, rfl⟩
          clear hrO hB5H p0 p1 pf0 pf1 pl e0 e1 e7 ew d1 d2 df1 df2 dlm
          by_cases hlx : orI k1 k2 < 0
          · have hnx := Lib.hid (htake.out (hlexH.out.1 hlx))
            go_wp2
            clear htake hskip hlexH HC1 HC2
            generalize (W5.alloc (.cells #[.int .i64 k1, .int .i64 k2] 3)).drew = W6 at *
            have hB6 := hB6H.out
            have p0 : W6.cell? ⟨pp, 0, none⟩ = some (.int .i64 tb) := hB6.k.cell rfl
            have p1 : W6.cell? ⟨pp, 1, none⟩ = some (.int .i64 (tl + x)) := hB6.k.cell rfl
            have pl := hB6.k.lt
            have e7 := hB6.f.b7.cell; have ew := hB6.f.bw.cell
            have d1 : W6.cell? ⟨mb, v * 2, none⟩ = some (.int .i64 cur.1) := by
              have := (hB6.f.cells hlt).1
              rwa [show updT T v cur v = cur by unfold updT; rw [if_pos rfl]] at this
            have d2 : W6.cell? ⟨mb, v * 2 + 1, none⟩ = some (.int .i64 cur.2) := by
              have := (hB6.f.cells hlt).2
              rwa [show updT T v cur v = cur by unfold updT; rw [if_pos rfl]] at this
            have df1 := hB6.f.ow.frozenAt (v * 2); have df2 := hB6.f.ow.frozenAt (v * 2 + 1)
            have dlm := hB6.f.lt_mb
            have hB7 := hB6.put v (tb, tl + x)
            rw [updT_upd] at hB7
            have hB7H := Lib.hid hB7
            clear hB6 hB7 hB6H hlx
            gi_wp2
            have hB7 := hB7H.out
            exact ⟨hB7.o.from _, hB7.e, (tb, tl + x), hB7.f, by have h9 := hnx.out; rw [← hsnH.out] at h9; exact h9, hB7.m, by have := hB7.k.lt; have := hB7.o5; omega⟩
          · have hnx := Lib.hid (hskip.out (fun h => hlx (hlexH.out.2 h)) (by have h9 := hbd.2; first | omega | (dsimp only at h9 ⊢; omega)))
            have hlx2 : 0 ≤ orI k1 k2 := by omega
            go_wp2
            clear htake hskip hlexH HC1 HC2 hlx
            generalize (W5.alloc (.cells #[.int .i64 k1, .int .i64 k2] 3)).drew = W6 at *
            gi_wp2
            have hB7 := hB6H.out
            exact ⟨hB7.o.from _, hB7.e, cur, hB7.f, by have h9 := hnx.out; rw [← hsnH.out] at h9; exact h9, hB7.m, by have := hB7.k.lt; have := hB7.o5; omega⟩
      case done =>
        rintro D ys W hD hys ⟨cur, hF, hPI, hmk, hbsW⟩ hK
        have hys' : ys.map (·.1) = bitsL v := hys
        rw [hys'] at hPI
        have hv2 : v < 2 ^ n := by rw [hSH.out]; exact hlt
        have hPv := hPI.done (fun i => hzH.out i) (by omega) hv2 (fun i => by
          rw [mem_bitsL]
          refine ⟨fun h => h.2, fun h => ⟨Nat.lt_of_not_le fun hle => ?_, h⟩⟩
          have := Nat.testBit_lt_two_pow (Nat.lt_of_lt_of_le hv2 (Nat.pow_le_pow_right (by omega) (show n ≤ i by omega)))
          rw [h] at this; cases this) (fun i hi => delI_del hi) (fun i hi => hPH.out _ (delI_all v (by omega) i (Nat.lt_of_not_le fun hle => by
            have := Nat.testBit_lt_two_pow (Nat.lt_of_lt_of_le (show v < 2 ^ 8 by omega) (Nat.pow_le_pow_right (by omega) hle))
            rw [hi] at this; cases this) hi).2)
        have hPvH := Lib.hid hPv
        have hDl : D < W.heap.size := (Array.getElem?_eq_some_iff.1 hK).1
        have hFH := Lib.hid hF; have hmkH := Lib.hid hmk; have hKH := Lib.hid hK
        have ew := hF.bw.cell
        have hwl := hF.bw.lt
        have w1 : IntKind.i64.wrap ((v : Int) + 1) = ((v + 1 : Nat) : Int) := by rw [IntWalk.i64_in _ (by omega)]; omega
        clear hF hPI hmk hK hPv hys hys'
        go_wp2
        subst hs
        refine ⟨⟨_, rfl, ?rel⟩, ?measure⟩
        case rel =>
          refine ⟨v + 1, W.heap.size, updT T v cur, by omega, by omega, rfl, ?_, ?_, ?_⟩
          · have hF := hFH.out
            have o3 := hF.o3
            exact ⟨hF.b0.alloc _, hF.b1.alloc _, hF.b7.alloc _, Boxed.new W 3 (.int .i64 ((v : Int) + 1)), hF.ow.alloc _, hF.hb.alloc hF.hb.size _, hF.o1, hF.o2, by omega⟩
          · intro u hu
            by_cases huv : u = v
            · subst huv
              rw [show updT T u cur u = cur by unfold updT; rw [if_pos rfl]]
              exact hPvH.out
            · rw [show updT T v cur u = T u by unfold updT; rw [if_neg huv]]
              exact hPH.out u (by omega)
          · exact (((Marks.push (T := bs) hmkH.out (by omega) (by omega) hKH.out).mono hDl).keeps (KeepsOthers.alloc _ _)).mono (by simp)
        case measure =>
          rw [boxV_at hcw]
          exact Nat.lt_of_le_of_lt (Nat.le_of_eq (congrArg (S - ·) (boxV_at (Boxed.new W 3 (.int .i64 ((v : Int) + 1))).cell))) (by omega)
    · obtain rfl : v = S := by omega
      obtain ⟨hcv1, hcv2⟩ := hF.cells (show v - 1 < v by omega)
      have hw : IntKind.i64.wrap ((v : Int) - 1) = ((v - 1 : Nat) : Int) := by rw [IntWalk.i64_in _ (by omega)]; omega
      have hPB := hP (v - 1) (by omega)
      have hb := hF.hb
      have hPH := Lib.hid hPB; have hbH := Lib.hid hb; have hmkH := Lib.hid hmk
      have hv0 : (0 : Int) ≤ ((v - 1 : Nat) : Int) ∧ ((v - 1 : Nat) : Int) < v := by omega
      clear hF hP hPB hb hmk
      go_wp2
      refine leaves_marks hmkH.out fun w' hb' => ⟨.tuple #[.int .i64 (T (v - 1)).1, .int .i64 0], by simp [results, Tryd.results7, go_sem], T (v - 1), rfl, hPH.out, hbH.out.trans hb'⟩
end Go.Proofs.YtefkciboicmoaaaDoor
