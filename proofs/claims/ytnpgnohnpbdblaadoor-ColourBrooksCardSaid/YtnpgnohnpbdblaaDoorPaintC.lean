/- colour: paint: node by node, the first colouring that goes on to the end. -/
import Derived.Test.YtnpgnohnpbdblaaDoorPaintA
namespace Go.Proofs.YtnpgnohnpbdblaaDoor
open Go.RowKit Go.Shelf
attribute [local go_sem] Oper.semAt_some

theorem grown_trans {a b c : World} {r : Option Nat} (h : a.grownBy b r) (h' : b.grownBy c r) : a.grownBy c r :=
  ⟨h'.os.trans h.os, h'.tape.trans h.tape, h'.output.trans h.output, Nat.le_trans h.size h'.size, fun k hk hr => (h'.block k (Nat.lt_of_lt_of_le hk h.size) hr).trans (h.block k hk hr)⟩
theorem grown_of_below {a b : World} (r : Option Nat) (h : Below a.heap.size a b) : a.grownBy b r := ⟨h.os, h.tape, h.output, h.size, fun k hk _ => h.block k hk⟩
theorem grown_drewN (a : World) (k : Nat) (r : Option Nat) : a.grownBy (a.drewN k) r := ⟨rfl, rfl, rfl, Nat.le_refl _, fun _ _ _ => rfl⟩
theorem grown_set (a : World) (g i : Nat) (v : Value) : a.grownBy (a.setCell ⟨g, i, none⟩ v) (some g) :=
  ⟨rfl, rfl, rfl, by simp, fun k _ hk => heap_setCell_other a ⟨g, i, none⟩ k v (fun e => hk (by simp [e]))⟩
theorem tb_grown {w w' : World} {r : Nat} (h : Tb w) (hg : w.grownBy w' (some r)) (hr : 0 < r) : Tb w' := fun j hj => by
  have := h j hj
  exact hg.cell this (fun e => by simp at e; omega)
theorem ne' {a b : Nat} (h : a ≠ b) : some a ≠ some b := fun e => h (by simpa using e)
def updN (L : Nat → Int) (i : Nat) (c : Int) : Nat → Int := fun j => if j = i then c else L j
section
variable {B n : Nat} {ns : List Nat} {p ga gl : Nat} {W W' : World} {L : Nat → Int}
theorem PS.ga_lt (h : PS B n ns p ga gl W L) : ga < W.heap.size := h.la
theorem PS.gl_lt (h : PS B n ns p ga gl W L) : B ≤ gl ∧ gl < W.heap.size := h.ol.lt gl rfl
theorem PS.grown {row : Option Nat} (h : PS B n ns p ga gl W L) (hg : W.grownBy W' row) (h1 : some p ≠ row) (h2 : some ga ≠ row) (h3 : some gl ≠ row) : PS B n ns p ga gl W' L :=
  ⟨hg.cell h.cn h1, hg.cell h.cl h1, h.rn.grown hg (fun b o e => by cases e; exact fun e => h2 e.symm), h.ol.kept hg (.inr h3), h.ne, Nat.lt_of_lt_of_le h.la hg.size⟩
theorem PS.set (h : PS B n ns p ga gl W L) (i : Nat) (c : Int) : PS B n ns p ga gl (W.setCell ⟨gl, i, none⟩ (.int .i64 c)) (updN L i c) :=
  ⟨cell_set_other (fun e => h.ne.1 e.symm) h.cn, cell_set_other (fun e => h.ne.1 e.symm) h.cl, h.rn.grown (grown_set W gl i _) (fun b o e => by cases e; exact fun e => h.ne.2 (by simpa using e)),
    by have := (h.ol.stored i (.int .i64 c)).1; rw [row_set] at this; exact this, h.ne, by simpa using h.la⟩
theorem PS.drewN (h : PS B n ns p ga gl W L) (k : Nat) : PS B n ns p ga gl (W.drewN k) L := ⟨h.cn, h.cl, h.rn, h.ol, h.ne, h.la⟩
end
/-- a colouring that goes on from the first i -/
def Ext (ns : List Nat) (n k i : Nat) (L M : Nat → Int) : Prop := (∀ j, j < i → M j = L j) ∧ ∀ j, i ≤ j → j < n → 0 ≤ M j ∧ M j < k ∧ ∀ m, m < j → nb ns j m = true → M m ≠ M j
structure PPre (k i : Nat) (L : Nat → Int) : Prop where
  lo : ∀ j, j < i → 0 ≤ L j ∧ L j < k
  hi : ∀ j, i ≤ j → L j = -1
theorem PPre.bd {k i : Nat} {L : Nat → Int} (h : PPre k i L) (hk : k ≤ 12) (j : Nat) : -1 ≤ L j ∧ L j < 12 := by
  rcases Nat.lt_or_ge j i with hj | hj
  · have := h.lo j hj; omega
  · have := h.hi j hj; omega
theorem PPre.step {k i c : Nat} {L : Nat → Int} (h : PPre k i L) (hc : c < k) : PPre k (i + 1) (updN L i c) where
  lo := fun j hj => by
    unfold updN; split
    · omega
    · exact h.lo j (by omega)
  hi := fun j hj => by
    unfold updN; rw [if_neg (by omega)]
    exact h.hi j (by omega)
theorem updN_back {k i : Nat} {L : Nat → Int} (h : PPre k i L) (c : Int) : updN (updN L i c) i (-1) = L := by
  funext j
  unfold updN
  split
  · rename_i e; subst e; exact (h.hi j (Nat.le_refl _)).symm
  · rfl
/-- the colouring that goes on from one more -/
theorem Ext.of_step {ns : List Nat} {n k i c : Nat} {L M : Nat → Int} (g : Gr n ns) (hp : PPre k i L) (hi : i < n) (hk : k ≤ 12) (hc : (mayW ns L i k).testBit c = true) (h : Ext ns n k (i + 1) (updN L i c) M) : Ext ns n k i L M := by
  obtain ⟨hck, hcn⟩ := (mayW_iff g (fun j => by have := hp.bd hk j; omega) (by omega)).1 hc
  have hMi : M i = c := by rw [h.1 i (by omega)]; simp [updN]
  refine ⟨fun j hj => ?_, fun j hj hjn => ?_⟩
  · rw [h.1 j (by omega), updN, if_neg (by omega)]
  · rcases Nat.lt_or_ge i j with hlt | hge
    · exact h.2 j hlt hjn
    · obtain rfl : j = i := by omega
      refine ⟨by omega, by omega, fun m hm hnb => ?_⟩
      rw [hMi, h.1 m (by omega), updN, if_neg (by omega)]
      exact hcn m hnb
theorem Ext.to_step {ns : List Nat} {n k i : Nat} {L M : Nat → Int} (g : Gr n ns) (hp : PPre k i L) (hi : i < n) (hk : k ≤ 12) (h : Ext ns n k i L M) : ∃ c, (mayW ns L i k).testBit c = true ∧ Ext ns n k (i + 1) (updN L i c) M := by
  obtain ⟨h1, h2, h3⟩ := h.2 i (Nat.le_refl _) hi
  obtain ⟨c, hc⟩ := Int.eq_ofNat_of_zero_le h1
  refine ⟨c, (mayW_iff g (fun j => by have := hp.bd hk j; omega) (by omega)).2 ⟨by omega, fun j hj => ?_⟩, fun j hj => ?_, fun j hj hjn => h.2 j (by omega) hjn⟩
  · rcases Nat.lt_trichotomy j i with hlt | rfl | hgt
    · rw [← h.1 j hlt, ← hc]; exact h3 j hlt hj
    · exact absurd rfl (g.ok j j hj).2.2.2
    · rw [hp.hi j (by omega)]; omega
  · unfold updN; split
    · rename_i e; subst e; exact hc
    · exact h.1 j (by omega)
def PaintPost (B n : Nat) (ns : List Nat) (p ga gl k i : Nat) (L : Nat → Int) (W : World) (e : Ending) (W' : World) : Prop :=
  W.grownBy W' (some gl) ∧ ((∃ L', e = .returned (.bool true) ∧ PS B n ns p ga gl W' L' ∧ Ext ns n k i L L' ∧ ∀ j, n ≤ j → L' j = -1) ∨ (e = .returned (.bool false) ∧ PS B n ns p ga gl W' L ∧ ∀ M, ¬ Ext ns n k i L M))
/-- what the loop over the colours holds -/
def PaI (B n : Nat) (ns : List Nat) (p ga gl k i : Nat) (L : Nat → Int) (s t : Nat) (w : World) {x : Nat} (pre : List (Bt x)) (W : World) : Prop :=
  Boxed W s 63 (.pointer (some ⟨p, 0, none⟩)) ∧ Boxed W (s + 1) 3 (.int .i64 i) ∧ Boxed W (s + 2) 3 (.int .i64 k) ∧ Boxed W (s + 3) 4 (.bool false) ∧
    PS B n ns p ga gl W L ∧ w.grownBy W (some gl) ∧ t ≤ W.heap.size ∧ ∀ c ∈ unA pre, ∀ M, ¬ Ext ns n k (i + 1) (updN L i c) M
def PaX (B n : Nat) (ns : List Nat) (p ga gl k i : Nat) (L : Nat → Int) (s : Nat) (w : World) {x : Nat} (c : Code) (_ : List (Bt x)) (W : World) : Prop :=
  c = .ret ∧ Boxed W (s + 3) 4 (.bool true) ∧ w.grownBy W (some gl) ∧ ∃ L', PS B n ns p ga gl W L' ∧ Ext ns n k i L L' ∧ ∀ j, n ≤ j → L' j = -1
section
variable {B n : Nat} {ns : List Nat} {p ga gl k i s t x : Nat} {L : Nat → Int} {w : World}
theorem grown_above {A C : World} {row : Option Nat} (h : w.grownBy A (some gl)) (hg : A.grownBy C row) (hr : ∀ r, row = some r → w.heap.size ≤ r) : w.grownBy C (some gl) :=
  ⟨hg.os.trans h.os, hg.tape.trans h.tape, hg.output.trans h.output, Nat.le_trans h.size hg.size, fun k hk hne => (hg.block k (Nat.lt_of_lt_of_le hk h.size) (fun e => by have := hr k e.symm; omega)).trans (h.block k hk hne)⟩
theorem PaI.abides {pre : List (Bt x)} {A C : World} {row : Option Nat} (h : PaI B n ns p ga gl k i L s t w pre A) (hs : w.heap.size = s) (hpl : p < s) (hal : ga < s) (hgl : gl < s) (hg : A.grownBy C row) (hr : ∀ r, row = some r → s + 4 ≤ r) : PaI B n ns p ga gl k i L s t w pre C := by
  obtain ⟨h1, h2, h3, h4, h5, h6, h8, h7⟩ := h
  have ne : ∀ b, b < s + 4 → some b ≠ row := fun b hb e => by have := hr b e.symm; omega
  exact ⟨h1.kept hg (ne _ (by omega)), h2.kept hg (ne _ (by omega)), h3.kept hg (ne _ (by omega)), h4.kept hg (ne _ (by omega)), h5.grown hg (ne _ (by omega)) (ne _ (by omega)) (ne _ (by omega)), grown_above h6 hg (fun r e => by have := hr r e; omega), Nat.le_trans h8 hg.size, h7⟩
theorem PaX.abides {pre : List (Bt x)} {c : Code} {A C : World} {row : Option Nat} (h : PaX B n ns p ga gl k i L s w c pre A) (hs : w.heap.size = s) (hpl : p < s) (hal : ga < s) (hgl : gl < s) (hg : A.grownBy C row) (hr : ∀ r, row = some r → s + 4 ≤ r) : PaX B n ns p ga gl k i L s w c pre C := by
  obtain ⟨h1, h2, h3, L', h4, h5⟩ := h
  have ne : ∀ b, b < s + 4 → some b ≠ row := fun b hb e => by have := hr b e.symm; omega
  exact ⟨h1, h2.kept hg (ne _ (by omega)), grown_above h3 hg (fun r e => by have := hr r e; omega), L', h4.grown hg (ne _ (by omega)) (ne _ (by omega)) (ne _ (by omega)), h5⟩
end
set_option maxHeartbeats 3200000 in
set_option maxRecDepth 100000 in
theorem paint_any (B n : Nat) (ns : List Nat) (p ga gl k : Nat) (g : Gr n ns) (hk : k ≤ 12) (hgB : 0 < B) : ∀ (d i : Nat), i + d = n → ∀ (w : World) (L : Nat → Int), PS B n ns p ga gl w L → Tb w → B ≤ w.heap.size → PPre k i L →
    Calls Tryd.prog 42 #[.pointer (some ⟨p, 0, none⟩), .int .i64 i, .int .i64 k] w (PaintPost B n ns p ga gl k i L w) := by
  intro d
  induction d with
  | zero =>
    intro i hid w L hP htb hBw hpre
    obtain rfl : i = n := by omega
    have hb1 := (((((Below.refl _ w).alloc (Nat.le_refl _) (.cells #[.pointer (some ⟨p, 0, none⟩)] 63)).alloc (by simp) (.cells #[.int .i64 i] 3)).alloc (by simp; omega) (.cells #[.int .i64 k] 3)).alloc (by simp; omega) (.cells #[.bool false] 4))
    have hPB := hP.later hb1
    have b0 := (((Boxed.new w 63 (.pointer (some ⟨p, 0, none⟩))).alloc (.cells #[.int .i64 i] 3)).alloc (.cells #[.int .i64 k] 3)).alloc (.cells #[.bool false] 4)
    have b1 := ((Boxed.new (w.alloc (.cells #[.pointer (some ⟨p, 0, none⟩)] 63)) 3 (.int .i64 i)).alloc (.cells #[.int .i64 k] 3)).alloc (.cells #[.bool false] 4)
    have b3 := Boxed.new (((w.alloc (.cells #[.pointer (some ⟨p, 0, none⟩)] 63)).alloc (.cells #[.int .i64 i] 3)).alloc (.cells #[.int .i64 k] 3)) 4 (.bool false)
    simp only [World.size_alloc, Nat.add_assoc, Nat.reduceAdd] at b1 b3
    have hgl := hP.gl_lt.2
    have hplH := Lib.hid hP.lt; have hgaH := Lib.hid hP.ga_lt
    clear hP
    go_enter Tryd.func42, Tryd.ntmps42
    go_wp2
    simp only [Nat.add_assoc, Nat.reduceAdd]
    generalize (((w.alloc (.cells #[.pointer (some ⟨p, 0, none⟩)] 63)).alloc (.cells #[.int .i64 i] 3)).alloc (.cells #[.int .i64 k] 3)).alloc (.cells #[.bool false] 4) = wB at *
    have c1 := hPB.cl
    have hpl := hPB.lt
    have c4 := b0.cell
    have c5 := b1.cell
    have hl3 := b3.lt
    have hPBH := Lib.hid hPB; have hpreH := Lib.hid hpre; have hb1H := Lib.hid hb1; have b3H := Lib.hid b3
    clear hPB htb hpre hb1 b0 b1 b3
    go_quiet (fail)
    have b3q : Boxed (wB.drewN nq) (w.heap.size + 3) 4 (.bool false) := b3H.out
    have hPq := hPBH.out.drewN nq
    have hbq := below_drewN hb1H.out nq
    generalize wB.drewN nq = wq at *
    have c6 := b3q.frozen
    have c7 := b3q.cell
    have hl3' := b3q.lt
    have k6 := (b3q.set (.bool true)).cell
    have hPqH := Lib.hid hPq; have hbqH := Lib.hid hbq
    clear hPq hbq b3q
    go_wp2
    (try simp only [Exit.inBlock, Exit.then])
    refine bodyPost_ret (v := .bool true) (by simp [results, Tryd.results42, go_sem, k6]) rfl ?_
    have hgs := grown_set wq (w.heap.size + 3) 0 (.bool true)
    have hlp := hplH.out
    have hla := hgaH.out
    exact ⟨grown_above (gl := gl) (grown_of_below _ hbqH.out) hgs (fun r e => by cases e; omega), .inl ⟨L, rfl, hPqH.out.grown hgs (by simp; omega) (by simp; omega) (by simp; omega), ⟨fun _ _ => rfl, fun j h1 h2 => absurd h2 (by omega)⟩, hpreH.out.hi⟩⟩
  | succ d ih =>
    intro i hid w L hP htb hBw hpre
    have hin : i < n := by omega
    have hn10 := g.n10
    have hb1 := (((((Below.refl _ w).alloc (Nat.le_refl _) (.cells #[.pointer (some ⟨p, 0, none⟩)] 63)).alloc (by simp) (.cells #[.int .i64 i] 3)).alloc (by simp; omega) (.cells #[.int .i64 k] 3)).alloc (by simp; omega) (.cells #[.bool false] 4))
    have hPB := hP.later hb1
    have b0 := (((Boxed.new w 63 (.pointer (some ⟨p, 0, none⟩))).alloc (.cells #[.int .i64 i] 3)).alloc (.cells #[.int .i64 k] 3)).alloc (.cells #[.bool false] 4)
    have b1 := ((Boxed.new (w.alloc (.cells #[.pointer (some ⟨p, 0, none⟩)] 63)) 3 (.int .i64 i)).alloc (.cells #[.int .i64 k] 3)).alloc (.cells #[.bool false] 4)
    have b2 := (Boxed.new ((w.alloc (.cells #[.pointer (some ⟨p, 0, none⟩)] 63)).alloc (.cells #[.int .i64 i] 3)) 3 (.int .i64 k)).alloc (.cells #[.bool false] 4)
    have b3 := Boxed.new (((w.alloc (.cells #[.pointer (some ⟨p, 0, none⟩)] 63)).alloc (.cells #[.int .i64 i] 3)).alloc (.cells #[.int .i64 k] 3)) 4 (.bool false)
    simp only [World.size_alloc, Nat.add_assoc, Nat.reduceAdd] at b1 b2 b3
    have hplH := Lib.hid hP.lt; have hgaH := Lib.hid hP.ga_lt; have hgl := hP.gl_lt
    have hsz : ((((w.alloc (.cells #[.pointer (some ⟨p, 0, none⟩)] 63)).alloc (.cells #[.int .i64 i] 3)).alloc (.cells #[.int .i64 k] 3)).alloc (.cells #[.bool false] 4)).heap.size = w.heap.size + 4 := by simp
    clear hP
    refine calls_of_wp_calm 4 Tryd.func42 rfl ?_
    simp only [Tryd.ntmps42, List.size_toArray, List.length_cons, List.length_nil, Nat.reduceAdd, Nat.reduceSub, Array.replicate_succ, Array.replicate_zero, List.push_toArray, List.append_toArray, List.nil_append, List.cons_append]
    go_wp2
    simp only [Nat.add_assoc, Nat.reduceAdd]
    generalize (((w.alloc (.cells #[.pointer (some ⟨p, 0, none⟩)] 63)).alloc (.cells #[.int .i64 i] 3)).alloc (.cells #[.int .i64 k] 3)).alloc (.cells #[.bool false] 4) = wB at *
    have c1 := hPB.cl
    have hpl := hPB.lt
    have c4 := b0.cell
    have c5 := b1.cell
    have hl3 := b3.lt
    have hPBH := Lib.hid hPB; have hpreH := Lib.hid hpre; have hb1H := Lib.hid hb1; have b0H := Lib.hid b0; have b1H := Lib.hid b1; have b2H := Lib.hid b2; have b3H := Lib.hid b3
    have hne : ((i : Int) == n) = false := by simp; omega
    have htbH := Lib.hid htb
    clear hPB htb hpre hb1 b0 b1 b2 b3
    go_quiet (fail)
    have b0q : Boxed (wB.drewN nq) w.heap.size 63 (.pointer (some ⟨p, 0, none⟩)) := b0H.out
    have b1q : Boxed (wB.drewN nq) (w.heap.size + 1) 3 (.int .i64 i) := b1H.out
    have b2q : Boxed (wB.drewN nq) (w.heap.size + 2) 3 (.int .i64 k) := b2H.out
    have b3q : Boxed (wB.drewN nq) (w.heap.size + 3) 4 (.bool false) := b3H.out
    have hPq := hPBH.out.drewN nq
    have hbq := below_drewN hb1H.out nq
    have hsq : (wB.drewN nq).heap.size = w.heap.size + 4 := hsz
    generalize wB.drewN nq = wq at *
    have c4 := b0q.cell
    have c5 := b1q.cell
    have c6 := b2q.cell
    have htq := htbH.out.below (by omega) hbq
    have HM := Lib.hid (may_any B n ns p ga gl i k wq L hPq g hin hk (fun j => hpreH.out.bd hk j) htq (by omega))
    clear b0H b1H b2H b3H hPBH hb1H
    go_wp2_with fail
    refine HM.out.mono ?_
    rintro _ w1 ⟨rfl, hb1⟩
    have hs1 := hb1.size
    have hx32 : mayW ns L i k < 4294967296 := Nat.lt_of_lt_of_le (mayW_lt ns L i k) (Nat.le_trans (Nat.pow_le_pow_right (by omega) hk) (by decide))
    have hmw2 := Lib.hid (fun M => @Ext.to_step ns n k i L M g hpreH.out hin hk)
    have hmk := Lib.hid (fun c (h : (mayW ns L i k).testBit c = true) => show c < k from lt_bit (mayW_lt ns L i k) h)
    obtain ⟨x, hxe⟩ : ∃ x, mayW ns L i k = x := ⟨_, rfl⟩
    rw [hxe] at hx32 hmk
    simp only [hxe]
    have hxH := Lib.hid hxe
    clear hxe
    go_wp2_with fail
    refine (each_any x _).mono ?_
    rintro e w6 ⟨rfl, rfl⟩
    have b0w := ((hb1.block _ b0q.lt).trans b0q : Boxed w1 w.heap.size _ _)
    have b1w := ((hb1.block _ b1q.lt).trans b1q : Boxed w1 (w.heap.size + 1) _ _)
    have b2w := ((hb1.block _ b2q.lt).trans b2q : Boxed w1 (w.heap.size + 2) _ _)
    have b3w := ((hb1.block _ b3q.lt).trans b3q : Boxed w1 (w.heap.size + 3) _ _)
    have hPw := (hPq.later hb1).later ((Below.refl _ w1).alloc (Nat.le_refl _) (.cells #[.int .u32 (x : Int)] 29))
    have hbw := (hbq.trans (hb1.mono (by omega))).alloc (by omega) (.cells #[.int .u32 (x : Int)] 29)
    have bE := Boxed.new w1 29 (.int .u32 (x : Int))
    have h0I : PaI B n ns p ga gl k i L w.heap.size (w1.heap.size + 1) w ([] : List (Bt x)) (w1.alloc (.cells #[.int .u32 (x : Int)] 29)) :=
      ⟨Boxed.alloc b0w _, Boxed.alloc b1w _, Boxed.alloc b2w _, Boxed.alloc b3w _, hPw, grown_of_below _ hbw, by simp, fun c hc => by cases hc⟩
    have htw := htbH.out.below (by omega) hbw
    have hszw : (w1.alloc (.cells #[.int .u32 (x : Int)] 29)).heap.size = w1.heap.size + 1 := by simp
    clear b0q b1q b2q b3q b0w b1w b2w b3w hPq hbq hPw c4 c5 c6 htq hb1
    go_wp2
    refine (wpIn_wide (n := 4)).1 ?_
    generalize w1.alloc (.cells #[.int .u32 (x : Int)] 29) = wC at *
    generalize hss : w.heap.size = s at *
    generalize hs1' : w1.heap.size = s1 at *
    have hpl := hplH.out
    have hga := hgaH.out
    refine' rangeFunc_box (n := 4) (α := Bt x) (gf := 55) (lb := #[.pointer (some ⟨s1, 0, none⟩)]) (by omega) rfl (enters_of Tryd.func55 (by kernel_rfl) rfl)
      (each_stops 3 (by omega) s1 B x hx32 wC htw hgB (by omega) bE (by omega)) (by omega) (fun h h' => KpE.trans h h') (kpE_b (by omega) (by omega)) (Below.refl _ _) (fun _ => rfl)
      (PaI B n ns p ga gl k i L s (s1 + 1) w) (PaX B n ns p ga gl k i L s w) ?hI ?hIb ?hX ?hXb h0I _ ?assign ?body ?done ?stop
    case hI => exact fun pre A C row h hg hr => h.abides hss hpl hga hgl.2 hg (fun r e => by have := hr r e; omega)
    case hIb => exact fun pre A C row h hg hr => h.abides hss hpl hga hgl.2 hg (fun r e => by have := hr r e; omega)
    case hX => exact fun c pre A C row h hg hr => h.abides hss hpl hga hgl.2 hg (fun r e => by have := hr r e; omega)
    case hXb => exact fun c pre A C row h hg hr => h.abides hss hpl hga hgl.2 hg (fun r e => by have := hr r e; omega)
    case assign =>
      intro l0 y W K hK
      gi_wp2
      exact hK
    case body =>
      rintro l0 pre y W ⟨b0, b1, b2, b3, hPW, hgr, hsW, hno⟩ _
      have hyx : (mayW ns L i k).testBit y.1 = true := by rw [hxH.out]; exact y.2.2
      have hyk := hmk.out y.1 y.2.2
      have hWs := hgr.size
      have hPs := hPW.set i (y.1 : Int)
      have hg1 := grown_set W gl i (.int .i64 (y.1 : Int))
      have hgr1 := grown_trans hgr hg1
      have htW := tb_grown htbH.out hgr1 (by omega)
      have hC := fun nq => ih (i + 1) (by omega) ((W.drewN nq).setCell ⟨gl, i, none⟩ (.int .i64 (y.1 : Int))) (updN L i (y.1 : Int)) ((hPW.drewN nq).set i _) htW (by simp; omega) (hpreH.out.step hyk)
      simp only [show ((i + 1 : Nat) : Int) = (i : Int) + 1 by omega] at hC
      have c0 := b0.cell; have c1 := b1.cell; have c2 := b2.cell; have c3 := b3.cell
      have f3 := b3.frozen; have l3 := b3.lt
      have p1 := hPW.cl; have pl := hPW.lt
      obtain ⟨hgl2, hcg⟩ := row_at' hPW.ol hin
      have hfz := hPW.ol.frozenAt i
      have hii : (i : Int) < n := by omega
      have hi0 : (0 : Int) ≤ i := by omega
      have hCH := Lib.hid hC; have b0H := Lib.hid b0; have b1H := Lib.hid b1; have b2H := Lib.hid b2; have b3H := Lib.hid b3; have hPWH := Lib.hid hPW; have hgrH := Lib.hid hgr; have hnoH := Lib.hid hno
      clear hC b0 b1 b2 b3 hPW hgr hno hPs hg1 hgr1 htW
      gi_wp2
      refine region_round_lit (by kernel_rfl) rfl (by kernel_rfl) (by kernel_rfl) ?_
      dsimp only [List.dropLast]
      repeat (gi_big_quiet_step (fail))
      refine wpQuietIn_nil ?_
      rintro _ ⟨nq, rfl⟩
      gi_wp2
      refine ⟨trivial, (callsIn_wide.2 (hCH.out nq)).mono ?_⟩
      rintro e W2 ⟨hg2, hcase⟩
      have hge : W.grownBy W2 (some gl) := grown_trans (grown_trans (grown_drewN W nq _) (grown_set (W.drewN nq) gl i (.int .i64 (y.1 : Int)))) hg2
      have hWs2 := hge.size
      have ne : ∀ b, b ≠ gl → some b ≠ some gl := fun b hb e => hb (by simpa using e)
      have b0 := b0H.out.kept hge (ne _ (by omega))
      have b1 := b1H.out.kept hge (ne _ (by omega))
      have b2 := b2H.out.kept hge (ne _ (by omega))
      have b3 := b3H.out.kept hge (ne _ (by omega))
      have hgrT := grown_trans hgrH.out hge
      have hBW := fun (n0 : Nat) (h1 : n0 ≤ gl) (h2 : n0 ≤ W.heap.size) => (Below.refl n0 W).grown hge h2 (fun k e => by cases e; exact h1)
      have hbox : W2.heap[s1]? = W.heap[s1]? := hge.block s1 (by omega) (ne _ (by omega))
      have hKF : KeepsFrom wC.heap.size W W2 := KeepsFrom.of_grownBy hge (fun j e => by cases e; omega)
      rcases hcase with ⟨L', rfl, hP2, hext, hneg⟩ | ⟨rfl, hP2, hnx⟩
      · have c3 := b3.cell; have f3 := b3.frozen; have l3 := b3.lt
        have hgs := grown_set W2 (s + 3) 0 (.bool true)
        have hX : PaX B n ns p ga gl k i L s w .ret (pre ++ [y]) (W2.setCell ⟨s + 3, 0, none⟩ (.bool true)) :=
          ⟨rfl, b3.set _, grown_above hgrT hgs (fun r e => by cases e; omega), L', hP2.grown hgs (ne' (by omega)) (ne' (by omega)) (ne' (by omega)), Ext.of_step g hpreH.out hin hk hyx hext, hneg⟩
        have hKF2 : KeepsFrom wC.heap.size W (W2.setCell ⟨s + 3, 0, none⟩ (.bool true)) := hKF.trans ((KeepsOthers.setCell _ _ _).from _)
        clear hgs hP2 hKF
        gi_wp2
        exact ⟨hKF2, hX⟩
      · have c0 := b0.cell; have c1 := b1.cell
        have p1 := hP2.cl; have pl := hP2.lt
        obtain ⟨hgl2, hcg⟩ := row_at' hP2.ol hin
        have hfz := hP2.ol.frozenAt i
        have hP3 := fun nq => (hP2.drewN nq).set i (-1)
        simp only [updN_back hpreH.out] at hP3
        have hP3H := Lib.hid hP3; have hP2H := Lib.hid hP2; have hnxH := Lib.hid hnx
        have b0H := Lib.hid b0; have b1H := Lib.hid b1; have b2H := Lib.hid b2; have b3H := Lib.hid b3
        have hgeH := Lib.hid hge; have hgrTH := Lib.hid hgrT; have hKFH := Lib.hid hKF; have hBWH := Lib.hid hBW
        clear hP3 hP2 hnx b0 b1 b2 b3 hge hgrT hKF hBW hg2
        gi_wp2
        refine region_round_lit (by kernel_rfl) rfl (by kernel_rfl) (by kernel_rfl) ?_
        dsimp only [List.dropLast]
        repeat (gi_big_quiet_step (fail))
        refine wpQuietIn_nil ?_
        rintro _ ⟨nq2, rfl⟩
        gi_wp2
        have hg3 := grown_trans (grown_drewN W2 nq2 (some gl)) (grown_set (W2.drewN nq2) gl i (.int .i64 (-1)))
        have hg4 := grown_trans hgeH.out hg3
        refine ⟨KeepsFrom.of_grownBy hg4 (fun j e => by cases e; omega), ⟨(Below.refl B W).grown hg4 (by omega) (fun k e => by cases e; omega), hg4.block s1 (by omega) (ne _ (by omega))⟩,
          b0H.out.kept hg3 (ne _ (by omega)), b1H.out.kept hg3 (ne _ (by omega)), b2H.out.kept hg3 (ne _ (by omega)), b3H.out.kept hg3 (ne _ (by omega)), hP3H.out nq2, grown_trans hgrTH.out hg3, Nat.le_trans hsW hg4.size, fun c hc => ?_⟩
        rw [unA_snoc] at hc
        rcases List.mem_append.1 hc with hc | hc
        · exact hnoH.out c hc
        · obtain rfl : c = y.1 := by simpa using hc
          exact hnxH.out
    case done =>
      rintro D ys W hD hys ⟨b0, b1, b2, b3, hPW, hgr, hsW, hno⟩ hK
      have hys' : unA ys = bitsL x := hys
      have hno2 : ∀ M, ¬ Ext ns n k i L M := fun M hM => by
        obtain ⟨c, hc, hM2⟩ := hmw2.out M hM
        rw [hxH.out] at hc
        have := hmk.out c hc
        exact hno c (by rw [hys']; exact mem_bitsL.2 ⟨by omega, hc⟩) M hM2
      have c3 := b3.cell; have f3 := b3.frozen; have l3 := b3.lt
      have hgs := grown_set W (s + 3) 0 (.bool false)
      have hPS2 := hPW.grown hgs (ne' (by omega)) (ne' (by omega)) (ne' (by omega))
      have hgr2 := grown_above hgr hgs (fun r e => by cases e; omega)
      have bf := b3.set (.bool false)
      have hDl : (W.setCell ⟨s + 3, 0, none⟩ (.bool false)).heap[D]? = some (.deferred (some [])) := (hgs.block D (Array.getElem?_eq_some_iff.1 hK).1 (by simp; omega)).trans hK
      have hPSH := Lib.hid hPS2; have hgrH := Lib.hid hgr2; have bfH := Lib.hid bf; have hDH := Lib.hid hDl; have hnoH := Lib.hid hno2
      clear b0 b1 b2 b3 hPW hgr hno hys hys' hgs hPS2 hgr2 bf hK hDl hno2
      go_wp2
      refine leaves_marksJ (B := s1) (J := fun W' => Boxed W' (s + 3) 4 (.bool false) ∧ PS B n ns p ga gl W' L ∧ w.grownBy W' (some gl)) (Marks.push (T := s1) (ds := []) trivial (by omega) (by omega) hDH.out) ⟨bfH.out, hPSH.out, hgrH.out⟩
        (fun V r o' hV _ hr => ⟨hV.1.kept (grownBy_putObj' V r o') (ne' (by omega)), hV.2.1.grown (grownBy_putObj' V r o') (ne' (by omega)) (ne' (by omega)) (ne' (by omega)), grown_above hV.2.2 (grownBy_putObj' V r o') (fun r' e => by cases e; omega)⟩)
        fun w' hw' => ⟨.bool false, by have k6 := hw'.1.cell; simp [results, Tryd.results42, go_sem, k6], hw'.2.2, .inr ⟨rfl, hw'.2.1, hnoH.out⟩⟩
    case stop =>
      rintro D c pre W hD _ ⟨rfl, b3, hgr, L', hPW, hext⟩ hK
      have hPSH := Lib.hid hPW; have hgrH := Lib.hid hgr; have bfH := Lib.hid b3; have hDH := Lib.hid hK
      clear b3 hPW hgr hK
      gi_wp2
      refine leaves_marksJ (B := s1) (J := fun W' => Boxed W' (s + 3) 4 (.bool true) ∧ PS B n ns p ga gl W' L' ∧ w.grownBy W' (some gl)) (Marks.push (T := s1) (ds := []) trivial (by omega) (by omega) hDH.out) ⟨bfH.out, hPSH.out, hgrH.out⟩
        (fun V r o' hV _ hr => ⟨hV.1.kept (grownBy_putObj' V r o') (ne' (by omega)), hV.2.1.grown (grownBy_putObj' V r o') (ne' (by omega)) (ne' (by omega)) (ne' (by omega)), grown_above hV.2.2 (grownBy_putObj' V r o') (fun r' e => by cases e; omega)⟩)
        fun w' hw' => ⟨.bool true, by have k6 := hw'.1.cell; simp [results, Tryd.results42, go_sem, k6], hw'.2.2, .inl ⟨L', rfl, hw'.2.1, hext⟩⟩
end Go.Proofs.YtnpgnohnpbdblaaDoor
