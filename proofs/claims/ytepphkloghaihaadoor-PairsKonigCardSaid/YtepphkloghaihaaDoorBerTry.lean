/- pairs: try: a way that pairs one more. -/
import Derived.Test.YtepphkloghaihaaDoorBerLaw
import Derived.Test.YtepphkloghaihaaDoorEachBits
import Derived.Test.YtepphkloghaihaaDoorMarks
import Derived.Test.YtepphkloghaihaaDoorCalm
import Derived.Test.YtepphkloghaihaaDoorLast
import Derived.Test.YtepphkloghaihaaDoorRow
import Derived.Test.YtepphkloghaihaaDoorBlk
import Derived.Test.YtepphkloghaihaaDoorRefBit
import Derived.Test.YtepphkloghaihaaDoorStillRound
namespace Go.Proofs.YtepphkloghaihaaDoor
open Go.RowKit Go.Shelf
attribute [local go_sem] Oper.semAt_some

/-- all but two blocks lie as they lay -/
structure G2 (p q : Nat) (W W' : World) : Prop where
  os : W'.os = W.os
  tape : W'.tape = W.tape
  output : W'.output = W.output
  size : W.heap.size ≤ W'.heap.size
  block : ∀ k, k < W.heap.size → k ≠ p → k ≠ q → W'.heap[k]? = W.heap[k]?
section
variable {p q B : Nat} {A C D : World}
theorem G2.refl (p q : Nat) (A : World) : G2 p q A A := ⟨rfl, rfl, rfl, Nat.le_refl _, fun _ _ _ _ => rfl⟩
theorem G2.trans (h : G2 p q A C) (h' : G2 p q C D) : G2 p q A D := ⟨h'.os.trans h.os, h'.tape.trans h.tape, h'.output.trans h.output, Nat.le_trans h.size h'.size, fun k hk h1 h2 => (h'.block k (Nat.lt_of_lt_of_le hk h.size) h1 h2).trans (h.block k hk h1 h2)⟩
theorem G2.grown (h : G2 p q A C) {row : Option Nat} (hg : C.grownBy D row) (hr : ∀ r, row = some r → A.heap.size ≤ r ∨ r = p ∨ r = q) : G2 p q A D :=
  ⟨hg.os.trans h.os, hg.tape.trans h.tape, hg.output.trans h.output, Nat.le_trans h.size hg.size, fun k hk h1 h2 => (hg.block k (Nat.lt_of_lt_of_le hk h.size) (fun e => by have := hr k e.symm; omega)).trans (h.block k hk h1 h2)⟩
theorem G2.of_below (h : Below A.heap.size A C) : G2 p q A C := ⟨h.os, h.tape, h.output, h.size, fun k hk _ _ => h.block k hk⟩
theorem G2.drewN (h : G2 p q A C) (k : Nat) : G2 p q A (C.drewN k) := ⟨h.os, h.tape, h.output, h.size, h.block⟩
theorem G2.below (h : G2 p q A C) (hp : B ≤ p) (hq : B ≤ q) (hs : B ≤ A.heap.size) : Below B A C := ⟨h.os, h.tape, h.output, h.size, fun k hk => h.block k (by omega) (by omega) (by omega)⟩
theorem G2.cell (h : G2 p q A C) {a : Addr} {v : Value} (hc : A.cell? a = some v) (h1 : a.block ≠ p) (h2 : a.block ≠ q) : C.cell? a = some v := by
  have hl := World.block_lt_of_cell? A _ hc
  unfold World.cell? at hc ⊢
  rw [h.block _ hl h1 h2]; exact hc
theorem G2.boxed (h : G2 p q A C) {b : Nat} {t : TypeId} {v : Value} (hb : Boxed A b t v) (h1 : b ≠ p) (h2 : b ≠ q) : Boxed C b t v := (h.block _ hb.lt h1 h2).trans hb
theorem G2.rd (h : G2 p q A C) {X : Option Addr} {n s : Nat} {xs : List Value} (hr : Rd A X n s xs) (hne : ∀ b o, X = some ⟨b, o, none⟩ → b ≠ p ∧ b ≠ q) : Rd C X n s xs := by
  refine ⟨hr.1, fun hn => ?_⟩
  obtain ⟨b, o, rfl, hlt, hc⟩ := hr.2 hn
  obtain ⟨h1, h2⟩ := hne b o rfl
  refine ⟨b, o, rfl, Nat.lt_of_lt_of_le hlt h.size, fun j hj => ?_⟩
  rw [← hc j hj]
  unfold World.cell?
  rw [h.block b hlt h1 h2]
end
theorem setIf_row (n : Nat) (P : Nat → Int) (j : Nat) (v : Int) : (row n P).toArray.setIfInBounds j (.int .i64 v) = (row n (updP P j v)).toArray := by
  rw [List.setIfInBounds_toArray, row_set]; rfl
/-- the memory of a try: the words, whom each has, who was asked -/
structure TS (B bp ba : Nat) (ns : List Nat) (A : Option Addr) (n : Nat) (W : World) (P : Nat → Int) (a : Nat) : Prop where
  rn : Rd W A n 1 (wds ns)
  rne : ∀ b o, A = some ⟨b, o, none⟩ → b ≠ bp ∧ b ≠ ba
  bk : Blk W bp 50 (row 8 P).toArray
  ak : Boxed W ba 30 (.int .u32 (a : Int))
  lt : a < 256
  o1 : B ≤ bp
  o2 : B ≤ ba
  o3 : bp ≠ ba
section
variable {B bp ba n : Nat} {ns : List Nat} {A : Option Addr} {W W' : World} {P : Nat → Int} {a : Nat}
theorem TS.grown (h : TS B bp ba ns A n W P a) {row : Option Nat} (hg : W.grownBy W' row) (hr : ∀ r, row = some r → r ≠ bp ∧ r ≠ ba ∧ (∀ b o, A = some ⟨b, o, none⟩ → r ≠ b)) : TS B bp ba ns A n W' P a :=
  ⟨h.rn.grown hg (fun b o e er => (hr b er).2.2 b o e rfl), h.rne, h.bk.kept hg (fun e => (hr bp e.symm).1 rfl), h.ak.kept hg (fun e => (hr ba e.symm).2.1 rfl), h.lt, h.o1, h.o2, h.o3⟩
theorem TS.later (h : TS B bp ba ns A n W P a) (hb : Below W.heap.size W W') : TS B bp ba ns A n W' P a := ⟨h.rn.later hb, h.rne, h.bk.below hb h.bk.lt, (hb.block _ h.ak.lt).trans h.ak, h.lt, h.o1, h.o2, h.o3⟩
theorem TS.drewN (h : TS B bp ba ns A n W P a) (k : Nat) : TS B bp ba ns A n (W.drewN k) P a := ⟨h.rn.drewN k, h.rne, h.bk, h.ak, h.lt, h.o1, h.o2, h.o3⟩
theorem gset (W : World) (g k : Nat) (v : Value) : W.grownBy (W.setCell ⟨g, k, none⟩ v) (some g) :=
  ⟨rfl, rfl, rfl, by simp, fun j _ hj => Below.heap_setCell _ _ _ j (fun e => hj (by rw [e]))⟩
theorem TS.pair (h : TS B bp ba ns A n W P a) (j : Nat) (v : Int) : TS B bp ba ns A n (W.setCell ⟨bp, j, none⟩ (.int .i64 v)) (updP P j v) a :=
  ⟨h.rn.grown (gset W bp j _) (fun b o e er => (h.rne b o e).1 (by cases er; rfl)), h.rne, by rw [← setIf_row]; exact h.bk.set j _, h.ak.kept (gset W bp j _) (fun e => h.o3 (by cases e; rfl)), h.lt, h.o1, h.o2, h.o3⟩
theorem TS.ask (h : TS B bp ba ns A n W P a) (a' : Nat) (hl : a' < 256) : TS B bp ba ns A n (W.setCell ⟨ba, 0, none⟩ (.int .u32 (a' : Int))) P a' :=
  ⟨h.rn.grown (gset W ba 0 _) (fun b o e er => (h.rne b o e).2 (by cases er; rfl)), h.rne, h.bk.other (a := ⟨ba, 0, none⟩) h.o3 _, h.ak.set _, hl, h.o1, h.o2, h.o3⟩
theorem TS.at (h : TS B bp ba ns A n W P a) {j : Nat} (hj : j < 8) : W.cell? ⟨bp, j, none⟩ = some (.int .i64 (P j)) := h.bk.cell (by rw [List.getElem?_toArray]; exact row_get hj)
end
def TryPost (B bp ba : Nat) (ns : List Nat) (A : Option Addr) (n i a : Nat) (P : Nat → Int) (W : World) (e : Ending) (W' : World) : Prop :=
  G2 bp ba W W' ∧ ((∃ P' a', e = .returned (.bool true) ∧ TS B bp ba ns A n W' P' a' ∧ TP ns i a P P') ∨ (∃ a', e = .returned (.bool false) ∧ TS B bp ba ns A n W' P a' ∧ TF ns i a a' P))
def unB {x : Nat} (l : List (Bt x)) : List Nat := l.map (·.1)
theorem unB_snoc {x : Nat} (l : List (Bt x)) (y : Bt x) : unB (l ++ [y]) = unB l ++ [y.1] := by simp [unB]
/-- what the loop over whom it may have holds -/
structure TrI (B bp ba : Nat) (ns : List Nat) (A : Option Addr) (n cap i a : Nat) (P : Nat → Int) (s t : Nat) (w : World) {x : Nat} (pre : List (Bt x)) (W : World) : Prop where
  b0 : Boxed W s 55 (.pointer (some ⟨bp, 0, none⟩))
  b1 : Boxed W (s + 1) 22 (.slice A n cap)
  b2 : Boxed W (s + 2) 3 (.int .i64 i)
  b3 : Boxed W (s + 3) 52 (.pointer (some ⟨ba, 0, none⟩))
  b4 : Boxed W (s + 4) 4 (.bool false)
  g : G2 bp ba w W
  sz : t ≤ W.heap.size
  st : ∃ a', TS B bp ba ns A n W P a' ∧ TryI ns a a' P (unB pre)
def TrX (B bp ba : Nat) (ns : List Nat) (A : Option Addr) (n i a : Nat) (P : Nat → Int) (s : Nat) (w : World) {x : Nat} (c : Code) (_ : List (Bt x)) (W : World) : Prop :=
  c = .ret ∧ Boxed W (s + 4) 4 (.bool true) ∧ G2 bp ba w W ∧ ∃ P' a', TS B bp ba ns A n W P' a' ∧ TP ns i a P P'
section
variable {B bp ba n cap i a s t x : Nat} {ns : List Nat} {A : Option Addr} {P : Nat → Int} {w : World}
theorem TrI.abides {pre : List (Bt x)} {X C : World} {row : Option Nat} (h : TrI B bp ba ns A n cap i a P s t w pre X) (hs : w.heap.size = s) (hp : bp < s) (hq : ba < s) (hA : ∀ b o, A = some ⟨b, o, none⟩ → b < s) (hg : X.grownBy C row) (hr : ∀ r, row = some r → s + 5 ≤ r) : TrI B bp ba ns A n cap i a P s t w pre C := by
  have ne : ∀ b, b < s + 5 → some b ≠ row := fun b hb e => by have := hr b e.symm; omega
  obtain ⟨a', h1, h2⟩ := h.st
  exact ⟨h.b0.kept hg (ne _ (by omega)), h.b1.kept hg (ne _ (by omega)), h.b2.kept hg (ne _ (by omega)), h.b3.kept hg (ne _ (by omega)), h.b4.kept hg (ne _ (by omega)), h.g.grown hg (fun r e => by have := hr r e; omega), Nat.le_trans h.sz hg.size, a', h1.grown hg (fun r e => by have := hr r e; exact ⟨by omega, by omega, fun b o e' => by have := hA b o e'; omega⟩), h2⟩
theorem TrX.abides {pre : List (Bt x)} {c : Code} {X C : World} {row : Option Nat} (h : TrX B bp ba ns A n i a P s w c pre X) (hs : w.heap.size = s) (hp : bp < s) (hq : ba < s) (hA : ∀ b o, A = some ⟨b, o, none⟩ → b < s) (hg : X.grownBy C row) (hr : ∀ r, row = some r → s + 5 ≤ r) : TrX B bp ba ns A n i a P s w c pre C := by
  obtain ⟨h1, h2, h3, P', a', h4, h5⟩ := h
  exact ⟨h1, h2.kept hg (fun e => by have := hr _ e.symm; omega), h3.grown hg (fun r e => by have := hr r e; omega), P', a', h4.grown hg (fun r e => by have := hr r e; exact ⟨by omega, by omega, fun b o e' => by have := hA b o e'; omega⟩), h5⟩
end
theorem asked_core : ∀ a : Nat, a < 256 → ∀ j : Nat, j < 8 → (bits .and .u32 ((a : Int) / (2 : Int) ^ j) 1 == 1) = a.testBit j := by decide +kernel
theorem ask_core : ∀ a : Nat, a < 256 → ∀ j : Nat, j < 8 → bits .or .u32 (a : Int) ((2 : Int) ^ j % 4294967296) = ((a ||| 2 ^ j : Nat) : Int) ∧ (a ||| 2 ^ j) < 256 := by decide +kernel
theorem ask_plus (a j : Nat) : plusB a (a ||| 2 ^ j) j := fun k => by
  rw [Nat.testBit_or, Nat.testBit_two_pow]
  by_cases h : k = j
  · subst h; simp
  · have : ¬ j = k := fun e => h e.symm
    simp [h, this]
theorem ask_popc : ∀ a : Nat, a < 256 → ∀ j : Nat, j < 8 → a.testBit j = false → popc 8 (a ||| 2 ^ j) = popc 8 a + 1 := by decide +kernel
set_option maxHeartbeats 3200000 in
set_option maxRecDepth 100000 in
theorem try_any (B bp ba : Nat) (ns : List Nat) (A : Option Addr) (n cap : Nat) (hel : ns.length = n) (hn8 : n ≤ 8) (hns : ∀ i, ns.getD i 0 < 256) (hgB : 0 < B) : ∀ (d a i : Nat) (P : Nat → Int) (w : World), 8 < popc 8 a + d → TS B bp ba ns A n w P a → Tb w → B ≤ w.heap.size → i < n → PM ns a P → ¬ Im a P i →
    Calls Tryd.prog 26 #[.pointer (some ⟨bp, 0, none⟩), .slice A n cap, .int .i64 i, .pointer (some ⟨ba, 0, none⟩)] w (TryPost B bp ba ns A n i a P w) := by
  intro d
  induction d with
  | zero =>
    intro a i P w hd
    have := popc_le 8 a
    omega
  | succ d ih =>
    intro a i P w hd hT htb hBw hin hPM hIm
    have hb1 := (((((Below.refl _ w).alloc (Nat.le_refl _) (.cells #[.pointer (some ⟨bp, 0, none⟩)] 55)).alloc (by simp) (.cells #[.slice A n cap] 22)).alloc (by simp; omega) (.cells #[.int .i64 i] 3)).alloc (by simp; omega) (.cells #[.pointer (some ⟨ba, 0, none⟩)] 52)).alloc (by simp; omega) (.cells #[.bool false] 4)
    have hTB := hT.later hb1
    have b0 := ((((Boxed.new w 55 (.pointer (some ⟨bp, 0, none⟩))).alloc (.cells #[.slice A n cap] 22)).alloc (.cells #[.int .i64 i] 3)).alloc (.cells #[.pointer (some ⟨ba, 0, none⟩)] 52)).alloc (.cells #[.bool false] 4)
    have b1 := (((Boxed.new (w.alloc (.cells #[.pointer (some ⟨bp, 0, none⟩)] 55)) 22 (.slice A n cap)).alloc (.cells #[.int .i64 i] 3)).alloc (.cells #[.pointer (some ⟨ba, 0, none⟩)] 52)).alloc (.cells #[.bool false] 4)
    have b2 := ((Boxed.new ((w.alloc (.cells #[.pointer (some ⟨bp, 0, none⟩)] 55)).alloc (.cells #[.slice A n cap] 22)) 3 (.int .i64 i)).alloc (.cells #[.pointer (some ⟨ba, 0, none⟩)] 52)).alloc (.cells #[.bool false] 4)
    have b3 := (Boxed.new (((w.alloc (.cells #[.pointer (some ⟨bp, 0, none⟩)] 55)).alloc (.cells #[.slice A n cap] 22)).alloc (.cells #[.int .i64 i] 3)) 52 (.pointer (some ⟨ba, 0, none⟩))).alloc (.cells #[.bool false] 4)
    have b4 := Boxed.new ((((w.alloc (.cells #[.pointer (some ⟨bp, 0, none⟩)] 55)).alloc (.cells #[.slice A n cap] 22)).alloc (.cells #[.int .i64 i] 3)).alloc (.cells #[.pointer (some ⟨ba, 0, none⟩)] 52)) 4 (.bool false)
    simp only [World.size_alloc, Nat.add_assoc, Nat.reduceAdd] at b1 b2 b3 b4
    have hpl := hT.bk.lt; have hal := hT.ak.lt
    have hAl : ∀ b o, A = some ⟨b, o, none⟩ → b < w.heap.size := fun b o e => by
      obtain ⟨b', o', e', hlt, _⟩ := hT.rn.2 (by omega)
      rw [e] at e'; cases e'; exact hlt
    have hsz : (((((w.alloc (.cells #[.pointer (some ⟨bp, 0, none⟩)] 55)).alloc (.cells #[.slice A n cap] 22)).alloc (.cells #[.int .i64 i] 3)).alloc (.cells #[.pointer (some ⟨ba, 0, none⟩)] 52)).alloc (.cells #[.bool false] 4)).heap.size = w.heap.size + 5 := by simp
    have hAlH := Lib.hid hAl
    clear hT hAl
    refine calls_of_wp_calm 4 Tryd.func26 rfl ?_
    simp only [Tryd.ntmps26, List.size_toArray, List.length_cons, List.length_nil, Nat.reduceAdd, Nat.reduceSub, Array.replicate_succ, Array.replicate_zero, List.push_toArray, List.append_toArray, List.nil_append, List.cons_append]
    go_wp2_with fail
    simp only [Nat.add_assoc, Nat.reduceAdd]
    generalize ((((w.alloc (.cells #[.pointer (some ⟨bp, 0, none⟩)] 55)).alloc (.cells #[.slice A n cap] 22)).alloc (.cells #[.int .i64 i] 3)).alloc (.cells #[.pointer (some ⟨ba, 0, none⟩)] 52)).alloc (.cells #[.bool false] 4) = wB at *
    have c1 := b1.cell; have c2 := b2.cell
    obtain ⟨ga, go, hAe, hab, hc3⟩ := hTB.rn.wd hin
    have hx8 := hns i
    have hnb := Lib.hid (fun j => show nbr ns i j = (ns.getD i 0).testBit j from rfl)
    obtain ⟨x, hxe⟩ : ∃ x, ns.getD i 0 = x := ⟨_, rfl⟩
    rw [hxe] at hx8 hc3 hnb
    have hin1 : (i : Int) < n := by omega
    have h0i : (0 : Int) ≤ i := by omega
    have hTBH := Lib.hid hTB; have hb1H := Lib.hid hb1; have b0H := Lib.hid b0; have b1H := Lib.hid b1; have b2H := Lib.hid b2; have b3H := Lib.hid b3; have b4H := Lib.hid b4
    have hPMH := Lib.hid hPM; have hImH := Lib.hid hIm; have htbH := Lib.hid htb
    have hAeH := Lib.hid hAe
    subst hAe
    clear hTB hb1 b0 b1 b2 b3 b4 hPM hIm htb hxe
    go_wp2_with fail
    refine (each_any x _).mono ?_
    rintro e w6 ⟨rfl, rfl⟩
    have bE := Boxed.new wB 30 (.int .u32 (x : Int))
    rw [hsz] at bE
    have hszC : (wB.alloc (.cells #[.int .u32 (x : Int)] 30)).heap.size = w.heap.size + 6 := by simp [hsz]
    have hbC := hb1H.out.alloc (by omega) (.cells #[.int .u32 (x : Int)] 30)
    have h0I : TrI B bp ba ns (some ⟨ga, go, none⟩) n cap i a P w.heap.size (w.heap.size + 6) w ([] : List (Bt x)) (wB.alloc (.cells #[.int .u32 (x : Int)] 30)) :=
      ⟨b0H.out.alloc _, b1H.out.alloc _, b2H.out.alloc _, b3H.out.alloc _, b4H.out.alloc _, G2.of_below hbC, by omega, a, hTBH.out.later ((Below.refl _ wB).alloc (Nat.le_refl _) _), TryI.start _ _ _⟩
    have htC := htbH.out.below (by omega) hbC
    have hx32 : x < 4294967296 := by omega
    clear c1 c2 hc3 hab
    go_wp2
    refine (wpIn_wide (n := 4)).1 ?_
    generalize wB.alloc (.cells #[.int .u32 (x : Int)] 30) = wC at *
    generalize hss : w.heap.size = s at *
    have hAs := hAlH.out
    refine' rangeFunc_box (n := 4) (α := Bt x) (gf := 27) (lb := #[.pointer (some ⟨s + 5, 0, none⟩)]) (by omega) rfl (enters_of Tryd.func27 (by kernel_rfl) rfl)
      (each_stops 3 (by omega) (s + 5) B x hx32 wC htC hgB (by omega) bE (by omega)) (by omega) (fun h h' => KpE.trans h h') (kpE_b (by omega) (by omega)) (Below.refl _ _) (fun _ => rfl)
      (TrI B bp ba ns (some ⟨ga, go, none⟩) n cap i a P s (s + 6) w) (TrX B bp ba ns (some ⟨ga, go, none⟩) n i a P s w) ?hI ?hIb ?hX ?hXb h0I _ ?assign ?body ?done ?stop
    case hI => exact fun pre A C row h hg hr => h.abides hss hpl hal hAs hg (fun r e => by have := hr r e; omega)
    case hIb => exact fun pre A C row h hg hr => h.abides hss hpl hal hAs hg (fun r e => by have := hr r e; omega)
    case hX => exact fun c pre A C row h hg hr => h.abides hss hpl hal hAs hg (fun r e => by have := hr r e; omega)
    case hXb => exact fun c pre A C row h hg hr => h.abides hss hpl hal hAs hg (fun r e => by have := hr r e; omega)
    case assign =>
      intro l0 y W K hK
      gi_wp2
      exact hK
    case body =>
      rintro l0 pre y W ⟨b0, b1, b2, b3, b4, hg, hsW, a', hT, hI⟩ _
      obtain ⟨j, hjy⟩ : ∃ j, y.1 = j := ⟨_, rfl⟩
      have hjx : x.testBit j = true := by rw [← hjy]; exact y.2.2
      have hj8 : j < 8 := Nat.lt_of_not_le fun hle => by
        have := Nat.testBit_lt_two_pow (Nat.lt_of_lt_of_le (show x < 2 ^ 8 by omega) (Nat.pow_le_pow_right (by omega) hle))
        rw [hjx] at this; cases this
      have hsn := Lib.hid (show unB (pre ++ [y]) = unB pre ++ [j] by rw [unB_snoc, hjy])
      simp only [hjy]
      have c0 := b0.cell; have c1 := b1.cell; have c2 := b2.cell; have c3 := b3.cell; have c4 := b4.cell
      have ca := hT.ak.cell; have fa := hT.ak.frozen; have la := hT.ak.lt
      have core := asked_core a' hT.lt j hj8
      have hj64 : (j : Int) < 8 := by omega
      have hj0 : (0 : Int) ≤ j := by omega
      by_cases hbit : a'.testBit j = true
      · rw [hbit] at core
        have hI2 := Lib.hid (hI.skip hbit)
        have b0H := Lib.hid b0; have b1H := Lib.hid b1; have b2H := Lib.hid b2; have b3H := Lib.hid b3; have b4H := Lib.hid b4; have hgH := Lib.hid hg; have hTH := Lib.hid hT
        clear b0 b1 b2 b3 b4 hg hT hI hbit
        gi_wp2
        exact ⟨KeepsFrom.refl _ _, KpE.refl _ _ W, b0H.out, b1H.out, b2H.out, b3H.out, b4H.out, hgH.out, hsW, a', hTH.out, by rw [hsn.out]; exact hI2.out⟩
      · have hbit' : a'.testBit j = false := by simpa using hbit
        rw [hbit'] at core
        obtain ⟨core2, hlt2⟩ := ask_core a' hT.lt j hj8
        have hpop := ask_popc a' hT.lt j hj8 hbit'
        have hpl' := ask_plus a' j
        obtain ⟨a2, ha2⟩ : ∃ a2, a' ||| 2 ^ j = a2 := ⟨_, rfl⟩
        rw [ha2] at core2 hlt2 hpop hpl'
        have b0H := Lib.hid b0; have b1H := Lib.hid b1; have b2H := Lib.hid b2; have b3H := Lib.hid b3; have b4H := Lib.hid b4; have hgH := Lib.hid hg; have hTH := Lib.hid hT; have hIH := Lib.hid hI; have hplH := Lib.hid hpl'; have hbitH := Lib.hid hbit'
        clear b0 b1 b2 b3 b4 hg hT hI hbit hbit' hpl' ha2
        gi_wp2
        refine region_round_lit (by kernel_rfl) rfl (by kernel_rfl) (by kernel_rfl) ?_
        dsimp only [List.dropLast]
        repeat (gi_big_quiet_step (fail))
        refine wpQuietIn_nil ?_
        rintro _ ⟨nq, rfl⟩
        gi_wp2
        have hs2 : ((W.drewN nq).setCell ⟨ba, 0, none⟩ (.int .u32 (a2 : Int))).heap.size = W.heap.size := by simp
        have hg2 := gset (W.drewN nq) ba 0 (.int .u32 (a2 : Int))
        have hT2 := (hTH.out.drewN nq).ask a2 hlt2
        have b0 := (show Boxed (W.drewN nq) s _ _ from b0H.out).kept hg2 (fun e => by cases e; omega)
        have b1 := (show Boxed (W.drewN nq) (s + 1) _ _ from b1H.out).kept hg2 (fun e => by cases e; omega)
        have b2 := (show Boxed (W.drewN nq) (s + 2) _ _ from b2H.out).kept hg2 (fun e => by cases e; omega)
        have b3 := (show Boxed (W.drewN nq) (s + 3) _ _ from b3H.out).kept hg2 (fun e => by cases e; omega)
        have b4 := (show Boxed (W.drewN nq) (s + 4) _ _ from b4H.out).kept hg2 (fun e => by cases e; omega)
        have hW2 : G2 bp ba W ((W.drewN nq).setCell ⟨ba, 0, none⟩ (.int .u32 (a2 : Int))) := ((G2.refl bp ba W).drewN nq).grown hg2 (fun r e => by cases e; omega)
        generalize (W.drewN nq).setCell ⟨ba, 0, none⟩ (.int .u32 (a2 : Int)) = W2 at *
        clear c0 c1 c2 c3 c4 ca fa la b0H b1H b2H b3H b4H hg2
        have c0 := b0.cell; have c1 := b1.cell; have c2 := b2.cell; have c3 := b3.cell
        have cj := hT2.at hj8
        have lp := hT2.bk.lt; have fp := hT2.bk.frozen j
        have hg' := hgH.out.trans hW2
        have hPr := hPMH.out.rng j hj8
        have hnij : nbr ns i j = true := by rw [hnb.out]; exact hjx
        have hT2H := Lib.hid hT2; have hg'H := Lib.hid hg'; have b0H := Lib.hid b0; have b1H := Lib.hid b1; have b2H := Lib.hid b2; have b3H := Lib.hid b3; have b4H := Lib.hid b4; have hW2H := Lib.hid hW2; have hnijH := Lib.hid hnij
        obtain ⟨pj, hpj⟩ : ∃ pj, P j = pj := ⟨_, rfl⟩
        rw [hpj] at cj hPr
        have hpjH := Lib.hid hpj
        clear hT2 hg' b0 b1 b2 b3 b4 hW2 hnij hpj hTH hgH
        by_cases hneg : pj < 0
        · refine region_round_tail 15 (by kernel_rfl) (by kernel_rfl) (by kernel_rfl) (by rintro ⟨a, w, h⟩; exact h) ?_
          simp only [List.take_succ_cons, List.take_zero, List.drop_succ_cons, List.drop_zero]
          still_step
          still_step
          still_step
          still_step
          still_step
          still_step
          refine wpStill_step (fun K hK => ?_)
          go_simp
          generalize haa : ({ tmps := _, defers := [] } : Act) = aa
          refine hK aa ?_
          clear hK K
          refine wpStill_step (fun K hK => ?_)
          subst haa
          go_simp
          generalize haa : ({ tmps := _, defers := [] } : Act) = aa
          refine hK aa ?_
          clear hK K
          refine wpStill_step (fun K hK => ?_)
          subst haa
          go_simp
          generalize haa : ({ tmps := _, defers := [] } : Act) = aa
          refine hK aa ?_
          clear hK K
          refine wpStill_step (fun K hK => ?_)
          subst haa
          go_simp
          generalize haa : ({ tmps := _, defers := [] } : Act) = aa
          refine hK aa ?_
          clear hK K
          refine wpStill_step (fun K hK => ?_)
          subst haa
          go_simp
          generalize haa : ({ tmps := _, defers := [] } : Act) = aa
          refine hK aa ?_
          clear hK K
          refine wpStill_step (fun K hK => ?_)
          subst haa
          go_simp
          generalize haa : ({ tmps := _, defers := [] } : Act) = aa
          refine hK aa ?_
          clear hK K
          refine wpStill_step (fun K hK => ?_)
          subst haa
          go_simp
          generalize haa : ({ tmps := _, defers := [] } : Act) = aa
          refine hK aa ?_
          clear hK K
          refine wpStill_step (fun K hK => ?_)
          subst haa
          go_simp
          generalize haa : ({ tmps := _, defers := [] } : Act) = aa
          refine hK aa ?_
          clear hK K
          refine wpStill_step (fun K hK => ?_)
          subst haa
          go_simp
          generalize haa : ({ tmps := _, defers := [] } : Act) = aa
          refine hK aa ?_
          clear hK K
          refine wpStill_nil ?_
          change wpList _ _ _ _ _ W2.drew
          subst haa
          have hTd : TS B bp ba ns (some ⟨ga, go, none⟩) n W2.drew P a2 := hT2H.out.drewN 1
          have hGd : G2 bp ba w W2.drew := hg'H.out.drewN 1
          have hKd : G2 bp ba W W2.drew := hW2H.out.drewN 1
          have b0d : Boxed W2.drew s 55 (.pointer (some ⟨bp, 0, none⟩)) := b0H.out
          have b2d : Boxed W2.drew (s + 2) 3 (.int .i64 i) := b2H.out
          have b4d : Boxed W2.drew (s + 4) 4 (.bool false) := b4H.out
          generalize W2.drew = W3 at *
          clear c0 c1 c2 c3 cj lp fp
          have c0 := b0d.cell; have c2 := b2d.cell
          have lp := hTd.bk.lt; have fp := hTd.bk.frozen j
          have hTdH := Lib.hid hTd; have hGdH := Lib.hid hGd; have hKdH := Lib.hid hKd; have b4dH := Lib.hid b4d
          clear hTd hGd hKd b0d b2d b4d
          go_wp2
          have hTPf := Lib.hid (TP.free hPMH.out hImH.out (by omega) hj8 (hIH.out.out hbitH.out) hnijH.out (by rw [hpjH.out]; exact hneg))
          clear hneg
          have f4 := b4dH.out.frozen; have l4 := b4dH.out.lt; have c4 := b4dH.out.cell; have cj := hTdH.out.at hj8
          gi_wp2
          refine region_round_lit (by kernel_rfl) rfl (by kernel_rfl) (by kernel_rfl) ?_
          dsimp only [List.dropLast]
          repeat (gi_big_quiet_step (fail))
          refine wpQuietIn_nil ?_
          rintro _ ⟨nq2, rfl⟩
          gi_wp2
          have hT5 := (hTdH.out.drewN nq2).pair j (i : Int)
          have hg5 := gset (W3.drewN nq2) bp j (.int .i64 (i : Int))
          have b4 := (show Boxed (W3.drewN nq2) (s + 4) _ _ from b4dH.out).kept hg5 (fun e => by cases e; omega)
          have hG5 : G2 bp ba w ((W3.drewN nq2).setCell ⟨bp, j, none⟩ (.int .i64 (i : Int))) := (hGdH.out.drewN nq2).grown hg5 (fun r e => by cases e; omega)
          have hK5 : G2 bp ba W ((W3.drewN nq2).setCell ⟨bp, j, none⟩ (.int .i64 (i : Int))) := (hKdH.out.drewN nq2).grown hg5 (fun r e => by cases e; omega)
          generalize (W3.drewN nq2).setCell ⟨bp, j, none⟩ (.int .i64 (i : Int)) = W5 at *
          have hg6 := gset W5 (s + 4) 0 (.bool true)
          have hX : TrX B bp ba ns (some ⟨ga, go, none⟩) n i a P s w .ret (pre ++ [y]) (W5.setCell ⟨s + 4, 0, none⟩ (.bool true)) :=
            ⟨rfl, b4.set _, hG5.grown hg6 (fun r e => by cases e; omega), _, _, hT5.grown hg6 (fun r e => by cases e; exact ⟨by omega, by omega, fun b o e' => by have := hAs b o e'; omega⟩), hTPf.out⟩
          have hK6 : KeepsFrom wC.heap.size W (W5.setCell ⟨s + 4, 0, none⟩ (.bool true)) := (⟨hK5.size, fun k o hk ho hc => (hK5.block k (Array.getElem?_eq_some_iff.1 ho).1 (by omega) (by omega)).trans ho⟩ : KeepsFrom wC.heap.size W W5).trans ((KeepsOthers.setCell _ _ _).from _)
          exact ⟨hK6, hX⟩
        · obtain ⟨m, rfl⟩ := Int.eq_ofNat_of_zero_le (show 0 ≤ pj by omega)
          have hdn : ¬ ((m : Int) < 0) := hneg
          clear hneg
          refine region_round_tail 15 (by kernel_rfl) (by kernel_rfl) (by kernel_rfl) (by rintro ⟨a, w, h⟩; exact h) ?_
          simp only [List.take_succ_cons, List.take_zero, List.drop_succ_cons, List.drop_zero]
          still_step
          still_step
          still_step
          still_step
          still_step
          still_step
          refine wpStill_step (fun K hK => ?_)
          go_simp
          generalize haa : ({ tmps := _, defers := [] } : Act) = aa
          refine hK aa ?_
          clear hK K
          refine wpStill_step (fun K hK => ?_)
          subst haa
          go_simp
          generalize haa : ({ tmps := _, defers := [] } : Act) = aa
          refine hK aa ?_
          clear hK K
          refine wpStill_step (fun K hK => ?_)
          subst haa
          go_simp
          generalize haa : ({ tmps := _, defers := [] } : Act) = aa
          refine hK aa ?_
          clear hK K
          refine wpStill_step (fun K hK => ?_)
          subst haa
          go_simp
          generalize haa : ({ tmps := _, defers := [] } : Act) = aa
          refine hK aa ?_
          clear hK K
          refine wpStill_step (fun K hK => ?_)
          subst haa
          go_simp
          generalize haa : ({ tmps := _, defers := [] } : Act) = aa
          refine hK aa ?_
          clear hK K
          refine wpStill_step (fun K hK => ?_)
          subst haa
          go_simp
          generalize haa : ({ tmps := _, defers := [] } : Act) = aa
          refine hK aa ?_
          clear hK K
          refine wpStill_step (fun K hK => ?_)
          subst haa
          go_simp
          generalize haa : ({ tmps := _, defers := [] } : Act) = aa
          refine hK aa ?_
          clear hK K
          refine wpStill_step (fun K hK => ?_)
          subst haa
          go_simp
          generalize haa : ({ tmps := _, defers := [] } : Act) = aa
          refine hK aa ?_
          clear hK K
          refine wpStill_step (fun K hK => ?_)
          subst haa
          go_simp
          generalize haa : ({ tmps := _, defers := [] } : Act) = aa
          refine hK aa ?_
          clear hK K
          refine wpStill_nil ?_
          change wpList _ _ _ _ _ W2.drew
          subst haa
          have hnx := hIH.out.next hPMH.out hj8 hbitH.out (by rw [hpjH.out]; omega) hplH.out
          rw [hpjH.out, Int.toNat_natCast] at hnx
          have ho1 := hT2H.out.o1; have ho2 := hT2H.out.o2
          have hmono : popc 8 a ≤ popc 8 a' := by rw [← cnt_popc, ← cnt_popc]; exact cnt_mono fun j _ hj => hIH.out.sub j hj
          have HR := Lib.hid (ih a2 m P W2.drew (by omega) (hT2H.out.drewN 1) (htbH.out.below (by omega) ((hg'H.out.drewN 1).below (by omega) (by omega) (by omega))) (by show B ≤ W2.heap.size; omega) (by omega) hnx.1 hnx.2.2)
          clear hnx ih
          go_wp2_with fail
          refine HR.out.mono ?_
          rintro e W3 ⟨hg3, hcase⟩
          clear HR
          have hg3' : G2 bp ba W2 W3 := ⟨hg3.os, hg3.tape, hg3.output, hg3.size, hg3.block⟩
          have hs3 := hg3'.size
          have b0 := hg3'.boxed b0H.out (by omega) (by omega)
          have b1 := hg3'.boxed b1H.out (by omega) (by omega)
          have b2 := hg3'.boxed b2H.out (by omega) (by omega)
          have b3 := hg3'.boxed b3H.out (by omega) (by omega)
          have b4 := hg3'.boxed b4H.out (by omega) (by omega)
          have hGw := hg'H.out.trans hg3'
          have hKW := hW2H.out.trans hg3'
          clear c0 c1 c2 c3 cj lp fp b0H b1H b2H b3H b4H hg3 hg3'
          have c0 := b0.cell; have c2 := b2.cell
          rcases hcase with ⟨P1, a3, rfl, hT3, hTP⟩ | ⟨a3, rfl, hT3, hTF⟩
          · have hTPt := Lib.hid (TP.turn hIH.out hPMH.out hImH.out (by omega) hj8 hbitH.out hnijH.out (by rw [hpjH.out]; omega) hplH.out (by rw [hpjH.out]; exact hTP))
            have lp := hT3.bk.lt; have fp := hT3.bk.frozen j
            have hT3H := Lib.hid hT3; have hGwH := Lib.hid hGw; have hKWH := Lib.hid hKW; have b4H := Lib.hid b4
            clear hT3 hGw hKW b0 b1 b2 b3 b4 hTP
            go_wp2
            have f4 := b4H.out.frozen; have l4 := b4H.out.lt; have c4 := b4H.out.cell; have cj := hT3H.out.at hj8
            gi_wp2
            refine region_round_lit (by kernel_rfl) rfl (by kernel_rfl) (by kernel_rfl) ?_
            dsimp only [List.dropLast]
            repeat (gi_big_quiet_step (fail))
            refine wpQuietIn_nil ?_
            rintro _ ⟨nq2, rfl⟩
            gi_wp2
            have hT5 := (hT3H.out.drewN nq2).pair j (i : Int)
            have hg5 := gset (W3.drewN nq2) bp j (.int .i64 (i : Int))
            have b4 := (show Boxed (W3.drewN nq2) (s + 4) _ _ from b4H.out).kept hg5 (fun e => by cases e; omega)
            have hG5 : G2 bp ba w ((W3.drewN nq2).setCell ⟨bp, j, none⟩ (.int .i64 (i : Int))) := (hGwH.out.drewN nq2).grown hg5 (fun r e => by cases e; omega)
            have hK5 : G2 bp ba W ((W3.drewN nq2).setCell ⟨bp, j, none⟩ (.int .i64 (i : Int))) := (hKWH.out.drewN nq2).grown hg5 (fun r e => by cases e; omega)
            generalize (W3.drewN nq2).setCell ⟨bp, j, none⟩ (.int .i64 (i : Int)) = W5 at *
            have hg6 := gset W5 (s + 4) 0 (.bool true)
            have hX : TrX B bp ba ns (some ⟨ga, go, none⟩) n i a P s w .ret (pre ++ [y]) (W5.setCell ⟨s + 4, 0, none⟩ (.bool true)) :=
              ⟨rfl, b4.set _, hG5.grown hg6 (fun r e => by cases e; omega), _, _, hT5.grown hg6 (fun r e => by cases e; exact ⟨by omega, by omega, fun b o e' => by have := hAs b o e'; omega⟩), hTPt.out⟩
            have hK6 : KeepsFrom wC.heap.size W (W5.setCell ⟨s + 4, 0, none⟩ (.bool true)) := (⟨hK5.size, fun k o hk ho hc => (hK5.block k (Array.getElem?_eq_some_iff.1 ho).1 (by omega) (by omega)).trans ho⟩ : KeepsFrom wC.heap.size W W5).trans ((KeepsOthers.setCell _ _ _).from _)
            exact ⟨hK6, hX⟩
          · have hTI := Lib.hid (hIH.out.fail hplH.out (by rw [hpjH.out]; omega) (by rw [hpjH.out]; exact hTF))
            have hT3H := Lib.hid hT3; have hGwH := Lib.hid hGw; have hKWH := Lib.hid hKW; have b0H := Lib.hid b0; have b1H := Lib.hid b1; have b2H := Lib.hid b2; have b3H := Lib.hid b3; have b4H := Lib.hid b4
            clear hT3 hGw hKW b0 b1 b2 b3 b4 hTF
            go_wp2
            gi_wp2
            have hKW := hKWH.out
            exact ⟨⟨hKW.size, fun k o hk ho hc => (hKW.block k (Array.getElem?_eq_some_iff.1 ho).1 (by omega) (by omega)).trans ho⟩, ⟨hKW.below (by omega) (by omega) (by omega), hKW.block (s + 5) (by omega) (by omega) (by omega)⟩, b0H.out, b1H.out, b2H.out, b3H.out, b4H.out, hGwH.out, by omega, a3, hT3H.out, by rw [hsn.out]; exact hTI.out⟩
    case done =>
      rintro D ys W hD hys h hK
      obtain ⟨b0, b1, b2, b3, b4, hg, hsW, a', hT, hI⟩ := h
      have hys' : unB ys = bitsL x := hys
      have hTF := hI.done (i := i) (fun j hj => by rw [hys', mem_bitsL]; rw [hnb.out] at hj; exact ⟨Nat.lt_of_not_le fun hle => by
        have := Nat.testBit_lt_two_pow (Nat.lt_of_lt_of_le hx32 (Nat.pow_le_pow_right (n := 2) (by omega) hle))
        rw [hj] at this
        exact Bool.noConfusion this, hj⟩)
      have c4 := b4.cell; have f4 := b4.frozen; have l4 := b4.lt
      have hgs := gset W (s + 4) 0 (.bool false)
      have hTS2 := hT.grown hgs (fun r e => by cases e; exact ⟨by omega, by omega, fun b o e' => by have := hAs b o e'; omega⟩)
      have hg2 := hg.grown hgs (fun r e => by cases e; omega)
      have bf := b4.set (.bool false)
      have hDl : (W.setCell ⟨s + 4, 0, none⟩ (.bool false)).heap[D]? = some (.deferred (some [])) := (hgs.block D (Array.getElem?_eq_some_iff.1 hK).1 (by simp; omega)).trans hK
      have hTSH := Lib.hid hTS2; have hgH := Lib.hid hg2; have bfH := Lib.hid bf; have hDH := Lib.hid hDl; have hTFH := Lib.hid hTF
      clear b0 b1 b2 b3 b4 hT hg hI hys hys' hgs hTS2 hg2 bf hK hDl hTF
      go_wp2
      refine leaves_marksJ (B := s + 5) (J := fun W' => Boxed W' (s + 4) 4 (.bool false) ∧ TS B bp ba ns (some ⟨ga, go, none⟩) n W' P a' ∧ G2 bp ba w W') (Marks.push (T := s + 5) (ds := []) trivial (by omega) (by omega) hDH.out) ⟨bfH.out, hTSH.out, hgH.out⟩
        (fun V r o' hV _ hr => ⟨hV.1.kept (grownBy_putObj' V r o') (fun e => by cases e; omega), hV.2.1.grown (grownBy_putObj' V r o') (fun r' e => by cases e; exact ⟨by omega, by omega, fun b o e' => by have := hAs b o e'; omega⟩), hV.2.2.grown (grownBy_putObj' V r o') (fun r' e => by cases e; omega)⟩)
        fun w' hw' => ⟨.bool false, by have k6 := hw'.1.cell; simp [results, Tryd.results26, go_sem, k6], hw'.2.2, .inr ⟨a', rfl, hw'.2.1, hTFH.out⟩⟩
    case stop =>
      rintro D c pre W hD _ ⟨rfl, b4, hg, P', a', hT, hTP⟩ hK
      have hTSH := Lib.hid hT; have hgH := Lib.hid hg; have bfH := Lib.hid b4; have hDH := Lib.hid hK; have hTPH := Lib.hid hTP
      clear b4 hT hg hTP hK
      gi_wp2
      refine leaves_marksJ (B := s + 5) (J := fun W' => Boxed W' (s + 4) 4 (.bool true) ∧ TS B bp ba ns (some ⟨ga, go, none⟩) n W' P' a' ∧ G2 bp ba w W') (Marks.push (T := s + 5) (ds := []) trivial (by omega) (by omega) hDH.out) ⟨bfH.out, hTSH.out, hgH.out⟩
        (fun V r o' hV _ hr => ⟨hV.1.kept (grownBy_putObj' V r o') (fun e => by cases e; omega), hV.2.1.grown (grownBy_putObj' V r o') (fun r' e => by cases e; exact ⟨by omega, by omega, fun b o e' => by have := hAs b o e'; omega⟩), hV.2.2.grown (grownBy_putObj' V r o') (fun r' e => by cases e; omega)⟩)
        fun w' hw' => ⟨.bool true, by have k6 := hw'.1.cell; simp [results, Tryd.results26, go_sem, k6], hw'.2.2, .inl ⟨P', a', rfl, hw'.2.1, hTPH.out⟩⟩
end Go.Proofs.YtepphkloghaihaaDoor
