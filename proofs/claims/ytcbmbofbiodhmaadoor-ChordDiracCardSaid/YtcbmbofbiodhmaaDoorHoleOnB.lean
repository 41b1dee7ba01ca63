/- chord: on, whole. -/
import Derived.Test.YtcbmbofbiodhmaaDoorHoleOn
import Derived.Test.YtcbmbofbiodhmaaDoorRoundLast
import Derived.Test.YtcbmbofbiodhmaaDoorRow
namespace Go.Proofs.YtcbmbofbiodhmaaDoor
open Go.RowKit Go.Shelf
attribute [local go_sem] Oper.semAt_some

theorem tiIs : TI Tryd.prog 25 3 (.int .i64 0) 1 8 := TI.mk' Tryd.underlying25 (by kernel_rfl) rfl (by decide)
def unS {x : Nat} (l : List (Bt x)) : List Nat := l.map (·.1)
theorem unS_snoc {x : Nat} (l : List (Bt x)) (y : Bt x) : unS (l ++ [y]) = unS l ++ [y.1] := by simp [unS]
theorem own_cut {w : World} {b e g m c : Nat} {xs : List Value} {y : Value} (h : w.ownsRow b e 1 (.slice (some ⟨g, 0, none⟩) (m + 1) c) (m + 1) (xs ++ [y])) : w.ownsRow b e 1 (.slice (some ⟨g, 0, none⟩) m c) m xs := by
  have hl := h.1
  simp only [List.length_append, List.length_cons, List.length_nil] at hl
  rcases h.2 with ⟨h1, _⟩ | ⟨g', c', cur, h1, h2, h3, h4, h5, h6, h7⟩
  · cases h1
  · injection h1 with h1 _ hc
    injection h1 with h1
    injection h1 with h1
    subst h1; subst hc
    refine ⟨by omega, .inr ⟨g, c, cur, rfl, h2, h3, by omega, h5, h6, ?_⟩⟩
    have := congrArg (List.take m) h7
    rw [List.take_take, List.take_append_of_le_length (by omega), List.take_of_length_le (l := xs) (by omega)] at this
    rw [← this]
    congr 1
    omega
theorem natI_snocV (L : List Nat) (c : Nat) : ints .i64 (natI (L ++ [c])) = ints .i64 (natI L) ++ [.int .i64 (c : Int)] := by simp [ints, natI]
section
variable {ns : List Nat} {n p size cn b0 : Nat} {A : Option Addr} {W wA : World} {v vA : Value} {L : List Nat} {c : Nat}
theorem SS.ob (h : SS ns n p size cn b0 A W v L) : ∀ g, v.ownBlock = some g → b0 ≤ g ∧ g < W.heap.size := h.ow.lt
theorem SS.more {w1 : World} {o : Obj} (h : SS ns n p size cn b0 A w1 v L) (hg : (w1.alloc o).grownBy wA v.ownBlock) (ho : wA.ownsRow b0 3 1 vA (L.length + 1) (ints .i64 (natI L) ++ [.int .i64 (c : Int)])) (hat : vA.ownBlock = v.ownBlock ∨ vA.ownBlock = some (w1.heap.size + 1)) :
    SS ns n p size cn b0 A (wA.setCell ⟨p, 1, none⟩ vA) vA (L ++ [c]) := by
  have hpl := h.bk.lt
  have hnp : vA.ownBlock ≠ some p := by
    rcases hat with e | e
    · rw [e]; exact h.np
    · rw [e]; exact fun e => by injection e with e; omega
  have hob := h.ob
  refine ⟨((h.bk.alloc o).kept hg (fun e => h.np e.symm)).set 1 vA, ((h.rn.alloc o).grown hg (fun b o' e e2 => ?_)).grown (grS wA p 1 vA) (fun b o' e e2 => ?_), ?_, h.nA, hnp⟩
  · have := (h.nA b o' e).2; have := hob b e2; omega
  · have := (h.nA b o' e).1; injection e2 with e2; omega
  · rw [List.length_append, natI_snocV]
    exact own_set_other ho hnp _
theorem gr2_more {w1 : World} {o : Obj} (hg : (w1.alloc o).grownBy wA v.ownBlock) : Gr2 p v.ownBlock w1 (wA.setCell ⟨p, 1, none⟩ vA) :=
  ((Gr2.of_grown (World.grownBy_alloc w1 o none) (fun r e => by cases e)).grown hg (fun r e => .inr (.inl e.symm))).grown (grS wA p 1 vA) (fun r e => .inl (by injection e with e; exact e.symm))
theorem SS.less {g m k : Nat} (hm : L.length = m) (h : SS ns n p size cn b0 A W (.slice (some ⟨g, 0, none⟩) (m + 1) k) (L ++ [c])) : SS ns n p size cn b0 A (W.setCell ⟨p, 1, none⟩ (.slice (some ⟨g, 0, none⟩) m k)) (.slice (some ⟨g, 0, none⟩) m k) L := by
  have hnp : (Value.slice (some ⟨g, 0, none⟩) m k).ownBlock ≠ some p := h.np
  have ho := h.ow
  rw [List.length_append, natI_snocV, hm] at ho
  refine ⟨h.bk.set 1 _, h.rn.grown (grS W p 1 _) (fun b o' e e2 => by have := (h.nA b o' e).1; injection e2 with e2; omega), ?_, h.nA, hnp⟩
  rw [hm]
  exact own_set_other (own_cut ho) hnp _
end
/-- what the loop over the next ones holds -/
structure SI (ns : List Nat) (n p size cn b0 : Nat) (A : Option Addr) (v : Value) (L : List Nat) (a x d s t : Nat) (w : World) {z : Nat} (pre : List (Bt z)) (W : World) : Prop where
  x0 : Boxed W s 44 (.pointer (some ⟨p, 0, none⟩))
  x1 : Boxed W (s + 1) 36 (.int .u32 (x : Int))
  x2 : Boxed W (s + 2) 4 (.bool false)
  x3 : Boxed W (s + 3) 3 (.int .i64 (L.length : Int))
  x4 : Boxed W (s + 4) 3 (.int .i64 (a : Int))
  g : Gr2 p v.ownBlock w W
  sz : t ≤ W.heap.size
  st : ∃ v', SS ns n p size cn b0 A W v' L ∧ ∀ g, v'.ownBlock = some g → v.ownBlock = some g ∨ t ≤ g
  no : ∀ c ∈ unS pre, ∀ M, M.length = d → ¬ (okC ns size L c ∧ Ext ns size (L ++ [c]) (delB x c) M)
def SX (ns : List Nat) (n p size cn b0 : Nat) (A : Option Addr) (v : Value) (L : List Nat) (x d s t : Nat) (w : World) {z : Nat} (c : Code) (_ : List (Bt z)) (W : World) : Prop :=
  c = .ret ∧ Boxed W (s + 2) 4 (.bool true) ∧ Gr2 p v.ownBlock w W ∧ ∃ M v', M.length = d + 1 ∧ Ext ns size L x M ∧ SS ns n p size cn b0 A W v' (L ++ M) ∧ ∀ g, v'.ownBlock = some g → v.ownBlock = some g ∨ t ≤ g
section
variable {ns : List Nat} {n p size cn b0 a x d s t z : Nat} {A : Option Addr} {v : Value} {L : List Nat} {w : World}
theorem ss_abides {v' : Value} {L' : List Nat} {X C : World} {row : Option Nat} (h : SS ns n p size cn b0 A X v' L') (ho : ∀ g, v'.ownBlock = some g → v.ownBlock = some g ∨ t ≤ g) (hp : p < s) (hb0 : b0 ≤ s) (hv : ∀ g, v.ownBlock = some g → g < s) (hg : X.grownBy C row) (hr : ∀ r, row = some r → s + 5 ≤ r)
    (h2 : (∀ k, row = some k → ∃ o, X.heap[k]? = some o ∧ o.isCells = false) ∨ ∀ k, row = some k → k < t) : SS ns n p size cn b0 A C v' L' := by
  refine h.grown hg (fun e => by have := hr p e.symm; omega) (fun b o e e2 => by have := (h.nA b o e).2; have := hr b e2.symm; omega) ?_
  rcases hv' : v'.ownBlock with _ | g
  · exact .inl rfl
  · refine .inr fun e => ?_
    rcases h2 with h2 | h2
    · obtain ⟨o1, q1, q2⟩ := h.oc g hv'
      obtain ⟨o2, q3, q4⟩ := h2 g e.symm
      rw [q1] at q3; cases q3; rw [q2] at q4; cases q4
    · have h3 := h2 g e.symm
      have h4 := hr g e.symm
      rcases ho g hv' with h5 | h5
      · have := hv g h5; omega
      · omega
theorem SI.abides {pre : List (Bt z)} {X C : World} {row : Option Nat} (h : SI ns n p size cn b0 A v L a x d s t w pre X) (hs : w.heap.size = s) (hp : p < s) (hb0 : b0 ≤ s) (hv : ∀ g, v.ownBlock = some g → g < s) (hg : X.grownBy C row) (hr : ∀ r, row = some r → s + 5 ≤ r)
    (h2 : (∀ k, row = some k → ∃ o, X.heap[k]? = some o ∧ o.isCells = false) ∨ ∀ k, row = some k → k < t) : SI ns n p size cn b0 A v L a x d s t w pre C := by
  have ne : ∀ b, b < s + 5 → some b ≠ row := fun b hb e => by have := hr b e.symm; omega
  obtain ⟨v', h3, h4⟩ := h.st
  exact ⟨h.x0.kept hg (ne _ (by omega)), h.x1.kept hg (ne _ (by omega)), h.x2.kept hg (ne _ (by omega)), h.x3.kept hg (ne _ (by omega)), h.x4.kept hg (ne _ (by omega)), h.g.grown hg (fun r e => .inr (.inr (by have := hr r e; omega))), Nat.le_trans h.sz hg.size, ⟨v', ss_abides h3 h4 hp hb0 hv hg hr h2, h4⟩, h.no⟩
theorem SX.abides {pre : List (Bt z)} {c : Code} {X C : World} {row : Option Nat} (h : SX ns n p size cn b0 A v L x d s t w c pre X) (hs : w.heap.size = s) (hp : p < s) (hb0 : b0 ≤ s) (hv : ∀ g, v.ownBlock = some g → g < s) (hg : X.grownBy C row) (hr : ∀ r, row = some r → s + 5 ≤ r)
    (h2 : (∀ k, row = some k → ∃ o, X.heap[k]? = some o ∧ o.isCells = false) ∨ ∀ k, row = some k → k < t) : SX ns n p size cn b0 A v L x d s t w c pre C := by
  have ne : ∀ b, b < s + 5 → some b ≠ row := fun b hb e => by have := hr b e.symm; omega
  obtain ⟨h1, h3, h4, M, v', h5, h6, h7, h8⟩ := h
  exact ⟨h1, h3.kept hg (ne _ (by omega)), h4.grown hg (fun r e => .inr (.inr (by have := hr r e; omega))), M, v', h5, h6, ss_abides h7 h8 hp hb0 hv hg hr h2, h8⟩
end
theorem boxed_drew {W : World} {b : Nat} {t : TypeId} {v : Value} (h : Boxed W b t v) : Boxed W.drew b t v := h
set_option maxHeartbeats 3200000 in
set_option maxRecDepth 100000 in
set_option linter.unusedSimpArgs false in
theorem on_any (ns : List Nat) (n p size cn b0 : Nat) (A : Option Addr) (g : Gr n ns) (hgB : 0 < b0) (hb0p : b0 ≤ p) (h32 : size ≤ 32) : ∀ (d a x : Nat) (L : List Nat) (l : Nat) (v : Value) (w : World), L.length = l + 1 → L.getD l 0 = a → l + 1 + d = size → (∀ c ∈ L, c < n) → x < 2 ^ n → SS ns n p size cn b0 A w v L → Tb w →
    Calls Tryd.prog 17 #[.pointer (some ⟨p, 0, none⟩), .int .u32 (x : Int)] w (OnP ns n p size cn b0 A v L x d w) := by
  have hn10 := g.n10
  have hp10 : 2 ^ n ≤ 2 ^ 10 := Nat.pow_le_pow_right (by omega) hn10
  intro d
  induction d with
  | zero =>
    intro a x L l v w hl ha hsz _ _ hS _
    exact on_zero ns n p size cn b0 A x w v L hS (by omega) (by omega) h32
  | succ d ih =>
    intro a x L l v w hl ha hsz hLn hx hS htb
    have hlast : lastL L = a := by unfold lastL; rw [hl]; exact ha
    have han : a < n := hLn a (by
      rw [← ha]
      simp [List.getD, show l < L.length by omega])
    have hb1 := ((((Below.refl _ w).alloc (Nat.le_refl _) (.cells #[.pointer (some ⟨p, 0, none⟩)] 44)).alloc (by simp) (.cells #[.int .u32 (x : Int)] 36)).alloc (by simp; omega) (.cells #[.bool false] 4))
    have hSB := hS.later hb1
    have b0' := ((Boxed.new w 44 (.pointer (some ⟨p, 0, none⟩))).alloc (.cells #[.int .u32 (x : Int)] 36)).alloc (.cells #[.bool false] 4)
    have b1' := (Boxed.new (w.alloc (.cells #[.pointer (some ⟨p, 0, none⟩)] 44)) 36 (.int .u32 (x : Int))).alloc (.cells #[.bool false] 4)
    have b2' := Boxed.new ((w.alloc (.cells #[.pointer (some ⟨p, 0, none⟩)] 44)).alloc (.cells #[.int .u32 (x : Int)] 36)) 4 (.bool false)
    simp only [World.size_alloc, Nat.add_assoc, Nat.reduceAdd] at b1' b2'
    have hszB : (((w.alloc (.cells #[.pointer (some ⟨p, 0, none⟩)] 44)).alloc (.cells #[.int .u32 (x : Int)] 36)).alloc (.cells #[.bool false] 4)).heap.size = w.heap.size + 3 := by simp
    have hpl := hS.bk.lt
    obtain ⟨gl, cl, hv, hcl, hgl, hgb, _⟩ := hS.at (show l < L.length by omega)
    have hvl : ∀ g, v.ownBlock = some g → g < w.heap.size := fun g hg => (hS.ob g hg).2
    have hvlH := Lib.hid hvl
    have hAl : ∀ b o, A = some ⟨b, o, none⟩ → b < w.heap.size := fun b o e => by have := (hS.nA b o e).2; omega
    have hAlH := Lib.hid hAl
    have hLnH := Lib.hid hLn; have hlastH := Lib.hid hlast
    have hSH := Lib.hid hS; have hSBH := Lib.hid hSB; have b0H := Lib.hid b0'; have b1H := Lib.hid b1'; have b2H := Lib.hid b2'; have hb1H := Lib.hid hb1; have htbH := Lib.hid htb
    clear hS hSB b0' b1' b2' hb1 hAl hvl htb hLn hlast
    refine calls_of_wp_calm 4 Tryd.func17 rfl ?_
    simp only [Tryd.ntmps17, List.size_toArray, List.length_cons, List.length_nil, Nat.reduceAdd, Nat.reduceSub, Array.replicate_succ, Array.replicate_zero, List.push_toArray, List.append_toArray, List.nil_append, List.cons_append]
    subst hv
    obtain ⟨m, hm⟩ : ∃ m, L.length = m := ⟨_, rfl⟩
    have hml : m = l + 1 := by omega
    have hlw2 : (m : Int) - 1 = (l : Int) := by omega
    have hlw : IntKind.i64.wrap ((m : Int) - 1) = (l : Int) := by rw [hlw2]; exact IntWalk.i64_in _ (by omega)
    have hlw3 : IntKind.i64.wrap (l : Int) = (l : Int) := IntWalk.i64_in _ (by omega)
    have hms : ((m : Int) == (size : Int)) = false := by simp; omega
    have hlm : (l : Int) < m := by omega
    have hlm2 : l < m := by omega
    have hl0 : (0 : Int) ≤ l := by omega
    have hmH := Lib.hid hml; have hmLH := Lib.hid hm
    clear hml hm
    go_upto_region 1 with fail
    simp only [Nat.add_assoc, Nat.reduceAdd]
    generalize ((w.alloc (.cells #[.pointer (some ⟨p, 0, none⟩)] 44)).alloc (.cells #[.int .u32 (x : Int)] 36)).alloc (.cells #[.bool false] 4) = wB at *
    have c0 := b0H.out.cell
    have k1 := hSBH.out.bk.cell (j := 1) (v := .slice (some ⟨gl, 0, none⟩) L.length cl) rfl
    have kl := hSBH.out.bk.lt
    rw [hmLH.out] at k1
    go_upto_region 2 with fail
    have hszC : (wB.alloc (.cells #[.int .i64 (m : Int)] 3)).heap.size = w.heap.size + 4 := by simp [hszB]
    have b0C := b0H.out.alloc (.cells #[.int .i64 (m : Int)] 3)
    have b1C := b1H.out.alloc (.cells #[.int .i64 (m : Int)] 3)
    have b2C := b2H.out.alloc (.cells #[.int .i64 (m : Int)] 3)
    have b3C := Boxed.new wB 3 (.int .i64 (m : Int))
    rw [hszB] at b3C
    have hbC := hb1H.out.alloc (by omega) (.cells #[.int .i64 (m : Int)] 3)
    have hSC := hSH.out.later hbC
    generalize wB.alloc (.cells #[.int .i64 (m : Int)] 3) = wC at *
    have c0 := b0C.cell; have c3 := b3C.cell; have kl := hSC.bk.lt
    have k2 := hSC.bk.cell (j := 2) (v := .int .i64 (size : Int)) rfl
    have b0CH := Lib.hid b0C; have b1CH := Lib.hid b1C; have b2CH := Lib.hid b2C; have b3CH := Lib.hid b3C; have hbCH := Lib.hid hbC; have hSCH := Lib.hid hSC
    clear b0H b1H b2H hb1H hSBH b0C b1C b2C b3C hbC hSC k1 hszB
    go_quiet (fail)
    have b0q : Boxed (wC.drewN nq).drew w.heap.size 44 (.pointer (some ⟨p, 0, none⟩)) := b0CH.out
    have b1q : Boxed (wC.drewN nq).drew (w.heap.size + 1) 36 (.int .u32 (x : Int)) := b1CH.out
    have b2q : Boxed (wC.drewN nq).drew (w.heap.size + 2) 4 (.bool false) := b2CH.out
    have b3q : Boxed (wC.drewN nq).drew (w.heap.size + 3) 3 (.int .i64 (m : Int)) := b3CH.out
    have hSq := (hSCH.out.drewN nq).drew
    have hbq := (below_drewN hbCH.out nq).drew
    have hsq : (wC.drewN nq).drew.heap.size = w.heap.size + 4 := hszC
    have k1 := hSq.bk.cell (j := 1) (v := .slice (some ⟨gl, 0, none⟩) L.length cl) rfl
    have ca := hSq.cellL (show l < L.length by rw [hmLH.out]; exact hlm2)
    rw [hmLH.out] at k1
    rw [ha] at ca
    have hHeld0 : (fun w' : World => w'.cell? ⟨w.heap.size, 0, none⟩ = some (.pointer (some ⟨p, 0, none⟩)) ∧ w'.cell? ⟨p, 1, none⟩ = some (.slice (some ⟨gl, 0, none⟩) m cl) ∧ w'.cell? ⟨w.heap.size + 3, 0, none⟩ = some (.int .i64 (m : Int)) ∧ w'.cell? ⟨gl, l, none⟩ = some (.int .i64 (a : Int)) ∧ p < w'.heap.size) (wC.drewN nq).drew := ⟨b0q.cell, k1, b3q.cell, ca, hSq.bk.lt⟩
    clear c0 c3 kl k2 b0CH b1CH b2CH b3CH hbCH hSCH k1 ca hszC
    go_wp2
    refine region_last (fun w' : World => w'.cell? ⟨w.heap.size, 0, none⟩ = some (.pointer (some ⟨p, 0, none⟩)) ∧ w'.cell? ⟨p, 1, none⟩ = some (.slice (some ⟨gl, 0, none⟩) m cl) ∧ w'.cell? ⟨w.heap.size + 3, 0, none⟩ = some (.int .i64 (m : Int)) ∧ w'.cell? ⟨gl, l, none⟩ = some (.int .i64 (a : Int)) ∧ p < w'.heap.size) (by kernel_rfl) rfl (by kernel_rfl) hHeld0 (fun hHeld => ?_)
    dsimp only [List.dropLast]
    generalize (wC.drewN nq).drew = w2 at *
    (refine wpAnyH_take (i := 0) (v := ?_) rfl (by kernel_rfl) (by kernel_rfl) (by kernel_rfl) (fun _ _ _ h => h) (Or.inl ⟨by rfl, ?_⟩) hHeld ?_; rotate_left; first | (intro w' hSw; (have hq := hSw.1); go_simp; done) | (intro w' hSw; (have hq := hSw.1); go_simp; with_reducible rfl))
    simp only [Act.put, List.getElem_toArray, List.getElem_cons_zero, List.getElem_cons_succ, List.setIfInBounds_toArray, List.set_cons_zero, List.set_cons_succ]
    (refine wpAnyH_take (i := 1) (v := ?_) rfl (by kernel_rfl) (by kernel_rfl) (by kernel_rfl) (fun _ _ _ h => h) (Or.inl ⟨by rfl, ?_⟩) hHeld ?_; rotate_left; first | (intro w' hSw; (have hq := hSw.2.2.2.2); go_simp; done) | (intro w' hSw; (have hq := hSw.2.2.2.2); go_simp; with_reducible rfl))
    simp only [Act.put, List.getElem_toArray, List.getElem_cons_zero, List.getElem_cons_succ, List.setIfInBounds_toArray, List.set_cons_zero, List.set_cons_succ]
    (refine wpAnyH_take (i := 2) (v := ?_) rfl (by kernel_rfl) (by kernel_rfl) (by kernel_rfl) (fun _ _ _ h => h) (Or.inl ⟨by rfl, ?_⟩) hHeld ?_; rotate_left; first | (intro w' hSw; go_simp; done) | (intro w' hSw; go_simp; with_reducible rfl))
    simp only [Act.put, List.getElem_toArray, List.getElem_cons_zero, List.getElem_cons_succ, List.setIfInBounds_toArray, List.set_cons_zero, List.set_cons_succ]
    (refine wpAnyH_take (i := 3) (v := ?_) rfl (by kernel_rfl) (by kernel_rfl) (by kernel_rfl) (fun _ _ _ h => h) (Or.inl ⟨by rfl, ?_⟩) hHeld ?_; rotate_left; first | (intro w' hSw; (have hq := hSw.2.1); go_simp; done) | (intro w' hSw; (have hq := hSw.2.1); go_simp; with_reducible rfl))
    simp only [Act.put, List.getElem_toArray, List.getElem_cons_zero, List.getElem_cons_succ, List.setIfInBounds_toArray, List.set_cons_zero, List.set_cons_succ]
    (refine wpAnyH_take (i := 4) (v := ?_) rfl (by kernel_rfl) (by kernel_rfl) (by kernel_rfl) (fun _ _ _ h => h) (Or.inl ⟨by rfl, ?_⟩) hHeld ?_; rotate_left; first | (intro w' hSw; (have hq := hSw.2.2.1); go_simp; done) | (intro w' hSw; (have hq := hSw.2.2.1); go_simp; with_reducible rfl))
    simp only [Act.put, List.getElem_toArray, List.getElem_cons_zero, List.getElem_cons_succ, List.setIfInBounds_toArray, List.set_cons_zero, List.set_cons_succ]
    (refine wpAnyH_take (i := 5) (v := ?_) rfl (by kernel_rfl) (by kernel_rfl) (by kernel_rfl) (fun _ _ _ h => h) (Or.inl ⟨by rfl, ?_⟩) hHeld ?_; rotate_left; first | (intro w' hSw; go_simp; done) | (intro w' hSw; go_simp; with_reducible rfl))
    simp only [Act.put, List.getElem_toArray, List.getElem_cons_zero, List.getElem_cons_succ, List.setIfInBounds_toArray, List.set_cons_zero, List.set_cons_succ]
    (refine wpAnyH_take (i := 6) (v := ?_) rfl (by kernel_rfl) (by kernel_rfl) (by kernel_rfl) (fun _ _ _ h => h) (Or.inl ⟨by rfl, ?_⟩) hHeld ?_; rotate_left; first | (intro w' hSw; go_simp; done) | (intro w' hSw; go_simp; with_reducible rfl))
    simp only [Act.put, List.getElem_toArray, List.getElem_cons_zero, List.getElem_cons_succ, List.setIfInBounds_toArray, List.set_cons_zero, List.set_cons_succ]
    (refine wpAnyH_take (i := 7) (v := ?_) rfl (by kernel_rfl) (by kernel_rfl) (by kernel_rfl) (fun _ _ _ h => h) (Or.inl ⟨by rfl, ?_⟩) hHeld ?_; rotate_left; first | (intro w' hSw; (have hq := hSw.2.2.2.1); go_simp; done) | (intro w' hSw; (have hq := hSw.2.2.2.1); go_simp; with_reducible rfl))
    simp only [Act.put, List.getElem_toArray, List.getElem_cons_zero, List.getElem_cons_succ, List.setIfInBounds_toArray, List.set_cons_zero, List.set_cons_succ]
    refine wpAnyH_ready (rs := [8]) (by kernel_rfl) (by simp) ?_
    refine AllReadyH.cons rfl (fun K hK => ?_) AllReadyH.nil
    go_simp
    have hS1 : (fun w' : World => w'.cell? ⟨w.heap.size, 0, none⟩ = some (.pointer (some ⟨p, 0, none⟩)) ∧ w'.cell? ⟨p, 1, none⟩ = some (.slice (some ⟨gl, 0, none⟩) m cl) ∧ w'.cell? ⟨w.heap.size + 3, 0, none⟩ = some (.int .i64 (m : Int)) ∧ w'.cell? ⟨gl, l, none⟩ = some (.int .i64 (a : Int)) ∧ p < w'.heap.size) (w2.alloc (.cells #[.int .i64 0] 3)) := ⟨alloc_cell (World.block_lt_of_cell? w2 _ hHeld.1) hHeld.1 _, alloc_cell hHeld.2.2.2.2 hHeld.2.1 _, alloc_cell (World.block_lt_of_cell? w2 _ hHeld.2.2.1) hHeld.2.2.1 _, alloc_cell (World.block_lt_of_cell? w2 _ hHeld.2.2.2.1) hHeld.2.2.2.1 _, by simp; exact Nat.lt_succ_of_lt hHeld.2.2.2.2⟩
    refine hK.out _ _ hS1 (fun _ => ?_)
    clear hK K
    refine wpAnyH_done (by kernel_rfl) ?_ _
    show Oper.wp _ _ _ _ _ _
    have e4 := (Boxed.new w2 3 (.int .i64 0)).cell; have f4 := (Boxed.new w2 3 (.int .i64 0)).frozen
    have b4d := Boxed.new w2 3 (.int .i64 (a : Int))
    rw [hsq] at b4d e4 f4
    have hsd : (w2.alloc (.cells #[.int .i64 (a : Int)] 3)).heap.size = w.heap.size + 5 := by simp [hsq]
    have b0d := b0q.alloc (.cells #[.int .i64 (a : Int)] 3); have b1d := b1q.alloc (.cells #[.int .i64 (a : Int)] 3); have b2d := b2q.alloc (.cells #[.int .i64 (a : Int)] 3); have b3d := b3q.alloc (.cells #[.int .i64 (a : Int)] 3)
    have hSd := hSq.later ((Below.refl _ w2).alloc (Nat.le_refl _) (.cells #[.int .i64 (a : Int)] 3))
    have hbd := hbq.alloc (by omega) (.cells #[.int .i64 (a : Int)] 3)
    clear hS1 hHeld hHeld0 b0q b1q b2q b3q hSq hbq
    go_simp
    generalize w2.alloc (.cells #[.int .i64 (a : Int)] 3) = w4 at *
    clear e4 f4 hsq
    obtain ⟨ga, go, hAe, hga, hca⟩ := hSd.rn.wd han
    have hyb := Nat.lt_of_lt_of_le (g.lt a) hp10
    have hzA := Lib.hid (fun j (h : (ns.getD a 0 &&& x).testBit j = true) => show nb ns a j = true ∧ x.testBit j = true by rw [Nat.testBit_and, Bool.and_eq_true] at h; exact h)
    have hzB := Lib.hid (fun j (h1 : nb ns a j = true) (h2 : x.testBit j = true) => show (ns.getD a 0 &&& x).testBit j = true by rw [Nat.testBit_and, Bool.and_eq_true]; exact ⟨h1, h2⟩)
    have k0 := hSd.bk.cell (j := 0) (v := .slice A n cn) rfl
    generalize ns.getD a 0 = y at *
    rw [hAe] at k0
    have d0 : w4.drew.cell? ⟨w.heap.size, 0, none⟩ = _ := b0d.cell
    have d1 : w4.drew.cell? ⟨p, 0, none⟩ = _ := k0
    have d2 : w4.drew.cell? ⟨w.heap.size + 1, 0, none⟩ = _ := b1d.cell
    have d3 : w4.drew.cell? ⟨w.heap.size + 4, 0, none⟩ = _ := b4d.cell
    have d4 : w4.drew.cell? ⟨ga, go + a, none⟩ = _ := hca
    have d5 : p < w4.drew.heap.size := hSd.bk.lt
    have han' : (a : Int) < n := by omega
    have ha0 : (0 : Int) ≤ a := by omega
    have hand := u32_and_nat y x (by omega) (by omega)
    have hzx : y &&& x ≤ x := Nat.and_le_right
    obtain ⟨z, hze⟩ : ∃ z, y &&& x = z := ⟨_, rfl⟩
    rw [hze] at hand hzx hzA hzB
    clear hze
    have b0dH := Lib.hid (boxed_drew b0d); have b1dH := Lib.hid (boxed_drew b1d); have b2dH := Lib.hid (boxed_drew b2d); have b3dH := Lib.hid (boxed_drew b3d); have b4dH := Lib.hid (boxed_drew b4d); have hSdH := Lib.hid hSd.drew; have hbdH := Lib.hid hbd.drew; have hsdH := Lib.hid (show w4.drew.heap.size = w.heap.size + 5 from hsd)
    clear k0 hca b0d b1d b2d b3d b4d hSd hbd hsd hga
    go_upto_region 5 with fail
    go_still_tail 9, (by kernel_rfl)
    change wpList _ _ _ _ _ w4.drew
    generalize w4.drew = wd at *
    clear d0 d1 d2 d3 d4 d5
    go_wp2_with fail
    refine (each_any z wd).mono ?_
    rintro e w6 ⟨rfl, rfl⟩
    have hsd := hsdH.out
    have bE := Boxed.new wd 36 (.int .u32 (z : Int))
    rw [hsd] at bE
    have hszC : (wd.alloc (.cells #[.int .u32 (z : Int)] 36)).heap.size = w.heap.size + 6 := by simp [hsd]
    have hbC := hbdH.out.alloc (by omega) (.cells #[.int .u32 (z : Int)] 36)
    have h0I : SI ns n p size cn b0 A (.slice (some ⟨gl, 0, none⟩) L.length cl) L a x d w.heap.size (w.heap.size + 6) w ([] : List (Bt z)) (wd.alloc (.cells #[.int .u32 (z : Int)] 36)) :=
      ⟨b0dH.out.alloc _, b1dH.out.alloc _, b2dH.out.alloc _, by rw [hmLH.out]; exact b3dH.out.alloc _, b4dH.out.alloc _, Gr2.of_below hbC, by omega, ⟨_, hSdH.out.later ((Below.refl _ wd).alloc (Nat.le_refl _) _), fun g h => .inl h⟩, fun c hc => by cases hc⟩
    have htC := htbH.out.below (by omega) hbC
    have hz32 : z < 4294967296 := by omega
    clear b0dH b1dH b2dH b3dH b4dH hSdH hbdH hand
    go_wp2
    refine (wpIn_wide (n := 4)).1 ?_
    generalize wd.alloc (.cells #[.int .u32 (z : Int)] 36) = wC2 at *
    generalize hss : w.heap.size = s at *
    have hvs := hvlH.out
    refine' rangeFunc_box (n := 4) (α := Bt z) (gf := 23) (lb := #[.pointer (some ⟨s + 5, 0, none⟩)]) (by omega) rfl (enters_of Tryd.func23 (by kernel_rfl) rfl)
      (each_stops 3 (by omega) (s + 5) b0 z hz32 wC2 htC hgB (by omega) bE (by omega)) (by omega) (fun h h' => KpE.trans h h') (kpE_b (by omega) (by omega)) (Below.refl _ _) (fun _ => rfl)
      (SI ns n p size cn b0 A (.slice (some ⟨gl, 0, none⟩) L.length cl) L a x d s (s + 6) w) (SX ns n p size cn b0 A (.slice (some ⟨gl, 0, none⟩) L.length cl) L x d s (s + 6) w) ?hI ?hIb ?hX ?hXb h0I _ ?assign ?body ?done ?stop
    case hI => exact fun pre A C row h hg hr => h.abides hss hpl (by omega) hvs hg (fun r e => by have := hr r e; omega) (.inl fun k e => (hr k e).2)
    case hIb => exact fun pre A C row h hg hr => h.abides hss hpl (by omega) hvs hg (fun r e => by have := hr r e; omega) (.inr fun k e => by have := hr k e; omega)
    case hX => exact fun c pre A C row h hg hr => h.abides hss hpl (by omega) hvs hg (fun r e => by have := hr r e; omega) (.inl fun k e => (hr k e).2)
    case hXb => exact fun c pre A C row h hg hr => h.abides hss hpl (by omega) hvs hg (fun r e => by have := hr r e; omega) (.inr fun k e => by have := hr k e; omega)
    case assign =>
      intro l0 y W K hK
      gi_wp2
      exact hK
    case body =>
      rintro l0 pre yy W ⟨x0, x1, x2, x3, x4, hg, hsW, ⟨v', hS, hvo⟩, hno⟩ _
      obtain ⟨c, hcy⟩ : ∃ c, yy.1 = c := ⟨_, rfl⟩
      have hcz : z.testBit c = true := by rw [← hcy]; exact yy.2.2
      have hsn := Lib.hid (show unS (pre ++ [yy]) = unS pre ++ [c] by rw [unS_snoc, hcy])
      simp only [hcy]
      obtain ⟨hcn, hcx⟩ := hzA.out c hcz
      have hcl : c < n := lt_bit hx hcx
      have hpc : 2 ^ c < 2 ^ 32 := Nat.pow_lt_pow_right (by omega) (by omega)
      have hpwH := Lib.hid (show IntKind.u32.wrap ((2 : Int) ^ c) = ((2 ^ c : Nat) : Int) by rw [IntKind.wrap_u32']; exact two_pow_u32 c (by omega))
      have hdwH := Lib.hid (show bits .andNot .u32 (x : Int) ((2 ^ c : Nat) : Int) = ((delB x c : Nat) : Int) from u32_andNot_nat x (2 ^ c) (by omega) (by omega))
      have hdle := delB_le x c
      have hExt := Lib.hid (fun (h1 : okC ns size L c) M => show Ext ns size (L ++ [c]) (delB x c) M → Ext ns size L x (c :: M) from fun h => ⟨by rw [hlastH.out]; exact hcn, hcx, h1, h⟩)
      have hnoC := Lib.hid (fun (h : ∀ M : List Nat, M.length = d → ¬ (okC ns size L c ∧ Ext ns size (L ++ [c]) (delB x c) M)) => show ∀ c' ∈ unS (pre ++ [yy]), ∀ M, M.length = d → ¬ (okC ns size L c' ∧ Ext ns size (L ++ [c']) (delB x c') M) from fun c' hc' => by
        rw [hsn.out] at hc'
        rcases List.mem_append.1 hc' with h' | h'
        · exact hno c' h'
        · obtain rfl : c' = c := by simpa using h'
          exact h)
      obtain ⟨xc, hxc⟩ : ∃ xc, delB x c = xc := ⟨_, rfl⟩
      rw [hxc] at hdwH hdle hExt hnoC
      clear hxc
      obtain ⟨gv, cv, hv', hcv, hgv, hgvb, _⟩ := hS.at (show l < L.length by omega)
      subst hv'
      have hlH := Lib.hid hl
      have hL0 : 0 < L.length := by omega
      have hLne : L ≠ [] := List.length_pos_iff.1 hL0
      -- what the test reads
      obtain ⟨ga2, go2, hAe2, _, hcc⟩ := hS.rn.wd hcl
      rw [hAe] at hAe2
      injection hAe2 with hAe2; injection hAe2 with hA1 hA2 _
      subst hA1; subst hA2
      have hyc := Nat.lt_of_lt_of_le (g.lt c) hp10
      have hsw := seenW_lt hLnH.out
      have hf0 : L.getD 0 0 < n := hLnH.out _ (by simp [List.getD, hL0])
      have hokI := Lib.hid (show okC ns size L c ↔ ns.getD c 0 &&& seenW L = wantW size L from Iff.rfl)
      have hwt := Lib.hid (show wantW size L = if L.length + 1 = size then 2 ^ a ||| 2 ^ L.getD 0 0 else 2 ^ a by unfold wantW; rw [hlastH.out])
      have c53 := hS.cellL hL0
      have HSN0 := fun k k' => seen_any ns n p size cn b0 A _ L ((W.drewN k).drewN k') ((hS.drewN k).drewN k') hLnH.out hn10 (by omega) hLne
      generalize ns.getD c 0 = yc at *
      generalize seenW L = sw at *
      generalize wantW size L = po at *
      generalize L.getD 0 0 = f at *
      have handc := u32_and_nat yc sw (by omega) (by omega)
      obtain ⟨ps, hps⟩ : ∃ ps, yc &&& sw = ps := ⟨_, rfl⟩
      rw [hps] at handc hokI
      have hpa : (2 : Int) ^ a % 4294967296 = ((2 ^ a : Nat) : Int) := two_pow_u32 a (by omega)
      have hpf : (2 : Int) ^ f % 4294967296 = ((2 ^ f : Nat) : Int) := two_pow_u32 f (by omega)
      have hpaL : 2 ^ a < 2 ^ 32 := Nat.pow_lt_pow_right (by omega) (by omega)
      have hpfL : 2 ^ f < 2 ^ 32 := Nat.pow_lt_pow_right (by omega) (by omega)
      have hor := u32_or_nat (2 ^ a) (2 ^ f) (by omega) (by omega)
      obtain ⟨mm, hmm⟩ : ∃ mm, L.length + 1 = mm := ⟨_, rfl⟩
      have hq1 : (L.length : Int) + 1 = (mm : Int) := by omega
      have hq2 : IntKind.i64.wrap ((L.length : Int) + 1) = (mm : Int) := by rw [hq1]; exact IntWalk.i64_in _ (by omega)
      have hq3 : IntKind.i64.wrap (mm : Int) = (mm : Int) := IntWalk.i64_in _ (by omega)
      rw [hmm] at hwt
      obtain ⟨pa, hpae⟩ : ∃ pa, 2 ^ a = pa := ⟨_, rfl⟩
      obtain ⟨pf, hpfe⟩ : ∃ pf, 2 ^ f = pf := ⟨_, rfl⟩
      rw [hpae] at hpa hor hwt hpaL
      rw [hpfe] at hpf hor hwt hpfL
      have hmsz : mm = size ↔ d = 0 := by omega
      have hcases : (((mm : Int) == (size : Int)) = true ∧ bits .or .u32 (pa : Int) (pf : Int) = (po : Int)) ∨ (((mm : Int) == (size : Int)) = false ∧ po = pa) := by
        by_cases hd0 : d = 0
        · left
          have := hmsz.2 hd0
          refine ⟨by simp; omega, ?_⟩
          rw [hor, hwt.out, if_pos this]
        · right
          have : ¬ mm = size := fun e => hd0 (hmsz.1 e)
          refine ⟨by simp; omega, ?_⟩
          rw [hwt.out, if_neg this]
      have hmmH := Lib.hid hmm
      clear hps hmm hmsz hl hpae hpfe hwt hor
      have k0 := hS.bk.cell (j := 0) (v := .slice A n cn) rfl
      rw [hAe] at k0
      have k1 := hS.bk.cell (j := 1) (v := .slice (some ⟨gv, 0, none⟩) L.length cv) rfl
      have k2 := hS.bk.cell (j := 2) (v := .int .i64 (size : Int)) rfl
      have c0 := x0.cell; have c3 := x3.cell; have c4 := x4.cell
      have kl := hS.bk.lt
      have hpc' := hS.pc
      have hoc' := hS.oc
      have hgvs : gv < s ∨ s + 6 ≤ gv := by
        rcases hvo gv rfl with e | e
        · exact .inl (hvs gv e)
        · exact .inr e
      have x0H := Lib.hid x0; have x1H := Lib.hid x1; have x2H := Lib.hid x2; have x3H := Lib.hid x3; have x4H := Lib.hid x4; have hgH := Lib.hid hg; have hSH2 := Lib.hid hS; have hvoH := Lib.hid hvo; have hpcH := Lib.hid hpc'; have hocH := Lib.hid hoc'; have HSN := Lib.hid HSN0
      have hnoH0 := Lib.hid hno
      clear x0 x1 x2 x3 x4 hg hS hvo hno hpc' hoc' HSN0
      have ha32 : (a : Int) < 32 := by omega
      have ha00 : (0 : Int) ≤ a := by omega
      have hf32 : (f : Int) < 32 := by omega
      have hf00 : (0 : Int) ≤ f := by omega
      have hc00 : (0 : Int) ≤ c := by omega
      have hcn' : (c : Int) < n := by omega
      have hL0' : (0 : Int) < L.length := by omega
      go_upto_region 8 with fail
      gi_wp2
      rcases hcases with ⟨hz1, hpo⟩ | ⟨hz1, rfl⟩
      all_goals
        refine region_round_lit (by kernel_rfl) rfl (by kernel_rfl) (by kernel_rfl) ?_
        dsimp only [List.dropLast]
        repeat (gi_big_quiet_step (fail))
        refine wpQuietIn_nil ?_
        rintro _ ⟨nq, rfl⟩
        have hVK := Lib.hid (fun Wf (h : KeepsFrom (s + 6) (W.drewN nq) Wf) => show KeepsFrom (s + 6) W Wf from ⟨h.size, h.same⟩)
        have hVP := Lib.hid (fun Wf (h : KpE b0 (s + 5) (W.drewN nq) Wf) => show KpE b0 (s + 5) W Wf from ⟨⟨h.1.os, h.1.tape, h.1.output, h.1.size, h.1.block⟩, h.2⟩)
        have d0 : (W.drewN nq).cell? ⟨s, 0, none⟩ = _ := c0
        have d4 : (W.drewN nq).cell? ⟨s + 4, 0, none⟩ = _ := c4
        have dk0 : (W.drewN nq).cell? ⟨p, 0, none⟩ = _ := k0
        have dk1 : (W.drewN nq).cell? ⟨p, 1, none⟩ = _ := k1
        have d53 : (W.drewN nq).cell? ⟨gv, 0, none⟩ = _ := c53
        have dcc : (W.drewN nq).cell? ⟨ga, go + c, none⟩ = _ := hcc
        have x0V := Lib.hid (show Boxed (W.drewN nq) s 44 (.pointer (some ⟨p, 0, none⟩)) from x0H.out)
        have x1V := Lib.hid (show Boxed (W.drewN nq) (s + 1) 36 (.int .u32 (x : Int)) from x1H.out)
        have x2V := Lib.hid (show Boxed (W.drewN nq) (s + 2) 4 (.bool false) from x2H.out)
        have x3V := Lib.hid (show Boxed (W.drewN nq) (s + 3) 3 (.int .i64 (L.length : Int)) from x3H.out)
        have x4V := Lib.hid (show Boxed (W.drewN nq) (s + 4) 3 (.int .i64 (a : Int)) from x4H.out)
        have hgV := Lib.hid (show Gr2 p (some gl) w (W.drewN nq) from ⟨hgH.out.os, hgH.out.tape, hgH.out.output, hgH.out.size, hgH.out.block⟩)
        have hSV := Lib.hid (hSH2.out.drewN nq)
        have hsV : s + 6 ≤ (W.drewN nq).heap.size := hsW
        have hgvV : gv < (W.drewN nq).heap.size := hgv
        have HSV := Lib.hid (HSN.out nq)
        have dkl : p < (W.drewN nq).heap.size := kl
        clear c0 c3 c4 k0 k1 k2 c53 hcc kl x0H x1H x2H x3H x4H hgH hSH2 hsW hgv HSN hpcH hocH
        generalize W.drewN nq = V at *
        gi_wp2
        refine region_round_lit (by kernel_rfl) rfl (by kernel_rfl) (by kernel_rfl) ?_
        dsimp only [List.dropLast]
        iterate 8 (first | (gi_big_quiet_step (fail)) | (refine wpQuietIn_step (asked_wide _ _ _ _) (fun K hK => ?_); go_simp; refine hK _ ?_; clear hK K))
        refine wpQuietIn_step (asked_wide _ _ _ _) (fun K hK => ?_)
        go_simp
        apply Exists.intro
        refine ⟨fun _ => ?_, hK _ ?_⟩
        · first
            | rfl
            | (refine (callsIn_wide.2 (HSV.out _)).mono ?_; rintro e W2 ⟨rfl, rfl⟩; exact ⟨rfl, _, rfl⟩)
        clear hK K
        iterate 2 (first | (gi_big_quiet_step (fail)) | (refine wpQuietIn_step (asked_wide _ _ _ _) (fun K hK => ?_); go_simp; refine hK _ ?_; clear hK K))
        refine wpQuietIn_nil ?_
        rintro _ ⟨nq2, rfl⟩
        have hWK := Lib.hid (fun Wf (h : KeepsFrom (s + 6) (V.drewN nq2) Wf) => show KeepsFrom (s + 6) W Wf from hVK.out _ ⟨h.size, h.same⟩)
        have hWP := Lib.hid (fun Wf (h : KpE b0 (s + 5) (V.drewN nq2) Wf) => show KpE b0 (s + 5) W Wf from hVP.out _ ⟨⟨h.1.os, h.1.tape, h.1.output, h.1.size, h.1.block⟩, h.2⟩)
        have x0H := Lib.hid (show Boxed (V.drewN nq2) s 44 (.pointer (some ⟨p, 0, none⟩)) from x0V.out)
        have x1H := Lib.hid (show Boxed (V.drewN nq2) (s + 1) 36 (.int .u32 (x : Int)) from x1V.out)
        have x2H := Lib.hid (show Boxed (V.drewN nq2) (s + 2) 4 (.bool false) from x2V.out)
        have x3H := Lib.hid (show Boxed (V.drewN nq2) (s + 3) 3 (.int .i64 (L.length : Int)) from x3V.out)
        have x4H := Lib.hid (show Boxed (V.drewN nq2) (s + 4) 3 (.int .i64 (a : Int)) from x4V.out)
        have hgH := Lib.hid (show Gr2 p (some gl) w (V.drewN nq2) from ⟨hgV.out.os, hgV.out.tape, hgV.out.output, hgV.out.size, hgV.out.block⟩)
        have hSH2 := Lib.hid (hSV.out.drewN nq2)
        have hsW : s + 6 ≤ (V.drewN nq2).heap.size := hsV
        have hgv : gv < (V.drewN nq2).heap.size := hgvV
        clear d0 d4 dk0 dk1 d53 dcc dkl x0V x1V x2V x3V x4V hgV hSV hsV hgvV HSV hVK hVP
        generalize V.drewN nq2 = Wx at *
        clear hpa hpf hpaL hpfL hq1 hq2 hq3 hz1
        have hpcH := Lib.hid hSH2.out.pc; have hocH := Lib.hid hSH2.out.oc
        by_cases hpq : ps = po
        case neg =>
          have hnI := Lib.hid (hnoC.out (fun M _ h => hpq (hokI.out.1 h.1)))
          have hI := Lib.hid (show SI ns n p size cn b0 A (.slice (some ⟨gl, 0, none⟩) L.length cl) L a x d s (s + 6) w (pre ++ [yy]) Wx from ⟨x0H.out, x1H.out, x2H.out, x3H.out, x4H.out, hgH.out, hsW, ⟨_, hSH2.out, fun g hg => hvoH.out g hg⟩, hnI.out⟩)
          have hKF := hWK.out Wx ⟨Nat.le_refl _, fun _ _ _ h _ => h⟩
          have hKp := hWP.out Wx (KpE.refl _ _ _)
          rw [hAe] at hI
          have ht1 : ((ps : Int) == (po : Int)) = false := by simp; omega
          have ht2 : ((ps : Int) != (po : Int)) = true := by simp; omega
          have hKFH := Lib.hid hKF; have hKpH := Lib.hid hKp
          clear hpq hKF hKp
          gi_wp2
          exact ⟨hKFH.out, hKpH.out, hI.out⟩
        have hokc := Lib.hid (hokI.out.2 hpq)
        have ht1 : ((ps : Int) == (po : Int)) = true := by simp; omega
        have ht2 : ((ps : Int) != (po : Int)) = false := by simp; omega
        clear hpq
        have hm33 : L.length ≤ 32 := by have := hlH.out; omega
        have hHeld0 : (fun w' : World => w'.cell? ⟨s, 0, none⟩ = some (.pointer (some ⟨p, 0, none⟩)) ∧ w'.cell? ⟨p, 1, none⟩ = some (.slice (some ⟨gv, 0, none⟩) L.length cv) ∧ p < w'.heap.size) Wx.drew := ⟨x0H.out.cell, hSH2.out.bk.cell (j := 1) (v := .slice (some ⟨gv, 0, none⟩) L.length cv) rfl, hSH2.out.bk.lt⟩
        gi_wp2
        refine region_round_last (fun w' => w'.cell? ⟨s, 0, none⟩ = some (.pointer (some ⟨p, 0, none⟩)) ∧ w'.cell? ⟨p, 1, none⟩ = some (.slice (some ⟨gv, 0, none⟩) L.length cv) ∧ p < w'.heap.size) (by kernel_rfl) rfl (by kernel_rfl) (by kernel_rfl) (by rintro ⟨a, w, h⟩; exact h) hHeld0 (fun hHeld => ?_)
        dsimp only [List.dropLast]
        (refine wpAnyH_take (i := 0) (v := ?_) rfl (by kernel_rfl) (by kernel_rfl) (by kernel_rfl) (fun _ _ _ h => h) (Or.inl ⟨by rfl, ?_⟩) hHeld ?_; rotate_left; first | (intro w' hSw; (have hq := hSw.1); go_simp; done) | (intro w' hSw; (have hq := hSw.1); go_simp; with_reducible rfl))
        simp only [Act.put, List.getElem_toArray, List.getElem_cons_zero, List.getElem_cons_succ, List.setIfInBounds_toArray, List.set_cons_zero, List.set_cons_succ]
        (refine wpAnyH_take (i := 1) (v := ?_) rfl (by kernel_rfl) (by kernel_rfl) (by kernel_rfl) (fun _ _ _ h => h) (Or.inl ⟨by rfl, ?_⟩) hHeld ?_; rotate_left; first | (intro w' hSw; (have hq := hSw.1); go_simp; done) | (intro w' hSw; (have hq := hSw.1); go_simp; with_reducible rfl))
        simp only [Act.put, List.getElem_toArray, List.getElem_cons_zero, List.getElem_cons_succ, List.setIfInBounds_toArray, List.set_cons_zero, List.set_cons_succ]
        (refine wpAnyH_take (i := 2) (v := ?_) rfl (by kernel_rfl) (by kernel_rfl) (by kernel_rfl) (fun _ _ _ h => h) (Or.inl ⟨by rfl, ?_⟩) hHeld ?_; rotate_left; first | (intro w' hSw; (have hq := hSw.2.2); go_simp; done) | (intro w' hSw; (have hq := hSw.2.2); go_simp; with_reducible rfl))
        simp only [Act.put, List.getElem_toArray, List.getElem_cons_zero, List.getElem_cons_succ, List.setIfInBounds_toArray, List.set_cons_zero, List.set_cons_succ]
        (refine wpAnyH_take (i := 3) (v := ?_) rfl (by kernel_rfl) (by kernel_rfl) (by kernel_rfl) (fun _ _ _ h => h) (Or.inl ⟨by rfl, ?_⟩) hHeld ?_; rotate_left; first | (intro w' hSw; go_simp; done) | (intro w' hSw; go_simp; with_reducible rfl))
        simp only [Act.put, List.getElem_toArray, List.getElem_cons_zero, List.getElem_cons_succ, List.setIfInBounds_toArray, List.set_cons_zero, List.set_cons_succ]
        (refine wpAnyH_take (i := 4) (v := ?_) rfl (by kernel_rfl) (by kernel_rfl) (by kernel_rfl) (fun _ _ _ h => h) (Or.inl ⟨by rfl, ?_⟩) hHeld ?_; rotate_left; first | (intro w' hSw; (have hq := hSw.2.1); go_simp; done) | (intro w' hSw; (have hq := hSw.2.1); go_simp; with_reducible rfl))
        simp only [Act.put, List.getElem_toArray, List.getElem_cons_zero, List.getElem_cons_succ, List.setIfInBounds_toArray, List.set_cons_zero, List.set_cons_succ]
        (refine wpAnyH_take (i := 5) (v := ?_) rfl (by kernel_rfl) (by kernel_rfl) (by kernel_rfl) (fun _ _ _ h => h) (Or.inl ⟨by rfl, ?_⟩) hHeld ?_; rotate_left; first | (intro w' hSw; go_simp; done) | (intro w' hSw; go_simp; with_reducible rfl))
        simp only [Act.put, List.getElem_toArray, List.getElem_cons_zero, List.getElem_cons_succ, List.setIfInBounds_toArray, List.set_cons_zero, List.set_cons_succ]
        refine wpAnyH_ready (rs := [6]) (by kernel_rfl) (by simp) ?_
        refine AllReadyH.cons rfl (fun K hK => ?_) AllReadyH.nil
        go_simp
        have hS1 : (fun w' : World => w'.cell? ⟨s, 0, none⟩ = some (.pointer (some ⟨p, 0, none⟩)) ∧ w'.cell? ⟨p, 1, none⟩ = some (.slice (some ⟨gv, 0, none⟩) L.length cv) ∧ p < w'.heap.size) (Wx.drew.alloc (.cells #[.int .i64 (c : Int)] 3)) := ⟨alloc_cell (World.block_lt_of_cell? Wx.drew _ hHeld.1) hHeld.1 _, alloc_cell hHeld.2.2 hHeld.2.1 _, by simp; exact Nat.lt_succ_of_lt hSH2.out.bk.lt⟩
        refine hK.out _ _ hS1 (fun _ => ?_)
        clear hK K hS1
        refine wpAnyH_ready (rs := [7]) (by kernel_rfl) (by simp) ?_
        refine AllReadyH.cons rfl (fun K hK => ?_) AllReadyH.nil
        refine step_app (s := .tmp 73) (x := .tmp 75) _ tiIs (own_drew (hSH2.out.ow.alloc (.cells #[.int .i64 (c : Int)] 3))) ((rd_new1 Wx (.int .i64 (c : Int)) 3).drew) (ints_one (l := [(c : Int)])) (by omega) (by omega) (by have := hSH2.out.ob gv rfl; simp; omega) rfl rfl rfl rfl ?_
        intro vA wA ownA gA hatA
        obtain ⟨gA2, cA2, rfl⟩ := ownsRow_succ ownA
        have hA2l := ownA.lt gA2 rfl
        have gA' : (Wx.drew.alloc (.cells #[.int .i64 (c : Int)] 3)).grownBy wA (Value.slice (some ⟨gv, 0, none⟩) L.length cv).ownBlock := gA
        have hSd := hSH2.out.drew
        have hatA' : (Value.slice (some ⟨gA2, 0, none⟩) (L.length + 1) cA2).ownBlock = (Value.slice (some ⟨gv, 0, none⟩) L.length cv).ownBlock ∨ (Value.slice (some ⟨gA2, 0, none⟩) (L.length + 1) cA2).ownBlock = some (Wx.drew.heap.size + 1) := by simpa using hatA
        have hSm := hSd.more (c := c) gA' (by simpa [ints] using ownA) hatA'
        have hG1 := gr2_more (p := p) (vA := .slice (some ⟨gA2, 0, none⟩) (L.length + 1) cA2) gA'
        have hsA : (fun w' : World => w'.cell? ⟨s, 0, none⟩ = some (.pointer (some ⟨p, 0, none⟩)) ∧ w'.cell? ⟨p, 1, none⟩ = some (.slice (some ⟨gv, 0, none⟩) L.length cv) ∧ p < w'.heap.size) wA :=
          ⟨gA'.cell (alloc_cell (World.block_lt_of_cell? Wx.drew _ hHeld.1) hHeld.1 _) (fun e => by have e' : s = gv := Option.some.inj e; omega), gA'.cell (alloc_cell hHeld.2.2 hHeld.2.1 _) (fun e => hSH2.out.np e.symm), Nat.lt_of_lt_of_le (show p < (Wx.drew.alloc (.cells #[.int .i64 (c : Int)] 3)).heap.size from by rw [World.size_alloc]; exact Nat.lt_succ_of_lt hSH2.out.bk.lt) gA'.size⟩
        refine hK.out _ _ hsA (fun hHeld => ?_)
        clear hK K
        (refine wpAnyH_take (i := 8) (v := ?_) rfl (by kernel_rfl) (by kernel_rfl) (by kernel_rfl) (fun _ _ _ h => h) (Or.inl ⟨by rfl, ?_⟩) hHeld ?_; rotate_left; first | (intro w' hSw; (have hq := hSw.2.2); go_simp; done) | (intro w' hSw; (have hq := hSw.2.2); go_simp; with_reducible rfl))
        simp only [Act.put, List.getElem_toArray, List.getElem_cons_zero, List.getElem_cons_succ, List.setIfInBounds_toArray, List.set_cons_zero, List.set_cons_succ]
        (refine wpAnyH_take (i := 9) (v := ?_) rfl (by kernel_rfl) (by kernel_rfl) (by kernel_rfl) (fun _ _ _ h => h) (Or.inl ⟨by rfl, ?_⟩) hHeld ?_; rotate_left; first | (intro w' hSw; go_simp; done) | (intro w' hSw; go_simp; with_reducible rfl))
        simp only [Act.put, List.getElem_toArray, List.getElem_cons_zero, List.getElem_cons_succ, List.setIfInBounds_toArray, List.set_cons_zero, List.set_cons_succ]
        refine wpAnyH_done (by kernel_rfl) ?_ _
        show Oper.wp _ _ _ _ _ _
        have kA := hsA.2.1
        have kAl := hsA.2.2
        have kAf : wA.frozen? ⟨p, 1, none⟩ = false := by
          have := ((hSd.bk.alloc (.cells #[.int .i64 (c : Int)] 3)).kept gA' (fun e => hSH2.out.np e.symm)).frozen 1
          exact this
        have hSmH := Lib.hid hSm; have hG1H := Lib.hid (show Gr2 p (some gv) Wx.drew _ from hG1); have hatH := Lib.hid hatA'
        clear hHeld hsA gA gA' ownA hatA hatA' hSd hSm hG1
        go_simp
        have hgA2 : gA2 < s ∨ s + 6 ≤ gA2 := by
          rcases hatH.out with e | e
          · have e' : gA2 = gv := Option.some.inj e
            omega
          · have e' : gA2 = Wx.heap.size + 1 := Option.some.inj e
            omega
        generalize wA.setCell ⟨p, 1, none⟩ (.slice (some ⟨gA2, 0, none⟩) (L.length + 1) cA2) = w7 at *
        clear kA kAl kAf
        gi_wp2
        have hW7 : Wx.heap.size ≤ w7.heap.size := hG1H.out.size
        have y0 := hG1H.out.boxed (show Boxed Wx.drew s 44 (.pointer (some ⟨p, 0, none⟩)) from x0H.out) (by omega) (neS (by omega))
        have y1 := hG1H.out.boxed (show Boxed Wx.drew (s + 1) 36 (.int .u32 (x : Int)) from x1H.out) (by omega) (neS (by omega))
        have y2 := hG1H.out.boxed (show Boxed Wx.drew (s + 2) 4 (.bool false) from x2H.out) (by omega) (neS (by omega))
        have y3 := hG1H.out.boxed (show Boxed Wx.drew (s + 3) 3 (.int .i64 (L.length : Int)) from x3H.out) (by omega) (neS (by omega))
        have y4 := hG1H.out.boxed (show Boxed Wx.drew (s + 4) 3 (.int .i64 (a : Int)) from x4H.out) (by omega) (neS (by omega))
        have hGW := Lib.hid (show Gr2 p (some gv) Wx w7 from Gr2.trans (Gr2.of_grown (World.grownBy_alloc Wx (.cells #[] 3) none |> fun _ => (⟨rfl, rfl, rfl, Nat.le_refl _, fun _ _ _ => rfl⟩ : Wx.grownBy Wx.drew none)) (fun r e => by cases e)) hG1H.out (fun k e => .inl e))
        have htW : Tb w7.drew := (show Tb w7 from htbH.out.below (B := b0) (by omega) (Below.trans (hgH.out.below (by omega) hb0p (fun k e => by cases e; exact hgb)) (hGW.out.below (n := b0) (by omega) hb0p (fun k e => by cases e; exact hgvb))))
        have HR := Lib.hid (ih c xc (L ++ [c]) (l + 1) (.slice (some ⟨gA2, 0, none⟩) (L.length + 1) cA2) w7.drew (by rw [List.length_append, hlH.out]; rfl) (by rw [← hlH.out]; simp [List.getD]) (by omega) (fun q hq => by
          rcases List.mem_append.1 hq with h | h
          · exact hLnH.out q h
          · obtain rfl : q = c := by simpa using h
            exact hcl) (by omega) hSmH.out.drew htW)
        have z0 : w7.drew.cell? ⟨s, 0, none⟩ = some (.pointer (some ⟨p, 0, none⟩)) := y0.cell
        have z1 : w7.drew.cell? ⟨s + 1, 0, none⟩ = some (.int .u32 (x : Int)) := y1.cell
        have hc0 : (0 : Int) ≤ c := by omega
        have hc32 : (c : Int) < 32 := by omega
        have hpw := hpwH.out; have hdw := hdwH.out
        have hdw2 : bits .andNot .u32 (x : Int) ((2 : Int) ^ c) = (xc : Int) := by rw [show ((2 : Int) ^ c) = ((2 ^ c : Nat) : Int) by simp]; exact hdwH.out
        clear ih htW y0 y1 y2 y3 y4 hG1H
        refine region_round_tail 5 (by kernel_rfl) (by kernel_rfl) (by kernel_rfl) (by rintro ⟨a, w, h⟩; exact h) ?_
        simp only [List.take_succ_cons, List.take_zero, List.drop_succ_cons, List.drop_zero]
        still_step
        still_step
        still_step
        still_step
        still_step
        refine wpStill_nil ?_
        change wpList _ _ _ _ _ w7.drew
        clear z0 z1
        go_wp2_with fail
        refine HR.out.mono ?_
        rintro e W3 ⟨hG3, v3, hv3, hcase⟩
        clear HR
        have hG3' : Gr2 p (some gA2) w7.drew W3 := hG3
        have hGall : Gr2 p (some gv) Wx W3 := (show Gr2 p (some gv) Wx w7.drew from ⟨hGW.out.os, hGW.out.tape, hGW.out.output, hGW.out.size, hGW.out.block⟩).trans hG3' (fun k e => by
          cases e
          rcases hatH.out with e | e
          · exact .inl e.symm
          · have e' : gA2 = Wx.heap.size + 1 := Option.some.inj e
            exact .inr (by omega))
        have hGtot : Gr2 p (some gl) w W3 := (show Gr2 p (some gl) w Wx from hgH.out).trans hGall (fun k e => by
          cases e
          rcases hvoH.out gv rfl with e | e
          · exact .inl e
          · exact .inr (by omega))
        have hWs3 := hGall.size
        have y0 := hGall.boxed x0H.out (by omega) (neS (by omega))
        have y1 := hGall.boxed x1H.out (by omega) (neS (by omega))
        have y2 := hGall.boxed x2H.out (by omega) (neS (by omega))
        have y3 := hGall.boxed x3H.out (by omega) (neS (by omega))
        have y4 := hGall.boxed x4H.out (by omega) (neS (by omega))
        have hvo3 : ∀ g, v3.ownBlock = some g → (Value.slice (some ⟨gl, 0, none⟩) L.length cl).ownBlock = some g ∨ s + 6 ≤ g := fun g hg => by
          rcases hv3 with e | ⟨g', e, hg'⟩
          · rw [hg] at e
            have e' : g = gA2 := Option.some.inj e
            rcases hatH.out with e2 | e2
            · have e3 : gA2 = gv := Option.some.inj e2
              rw [e', e3]; exact hvoH.out gv rfl
            · have e3 : gA2 = Wx.heap.size + 1 := Option.some.inj e2
              exact .inr (by omega)
          · rw [hg] at e
            have e' : g = g' := Option.some.inj e
            have : w7.heap.size ≤ g' := hg'
            exact .inr (by omega)
        have hv3s : ∀ g, v3.ownBlock = some g → g < s ∨ s + 6 ≤ g := fun g hg => by
          rcases hvo3 g hg with e | e
          · exact .inl (hvs g e)
          · exact .inr e
        have hkeep := (hGall.keeps hpcH.out (fun k e => hocH.out k e)).from wC2.heap.size
        rcases hcase with ⟨rfl, M, hM, hE, hS3⟩ | ⟨rfl, hnoM, hS3⟩
        · have e2 := y2.cell; have f2 := y2.frozen; have l2 := y2.lt
          have hgs := grS W3 (s + 2) 0 (.bool true)
          have hX : SX ns n p size cn b0 A (.slice (some ⟨gl, 0, none⟩) L.length cl) L x d s (s + 6) w .ret (pre ++ [yy]) (W3.setCell ⟨s + 2, 0, none⟩ (.bool true)) :=
            ⟨rfl, y2.set _, hGtot.grown hgs (fun r e => by cases e; exact .inr (.inr (by omega))), c :: M, v3, by simp [hM], hExt.out hokc.out M hE, by
              have hS4 := hS3.grown hgs (neS (by omega)) (fun b o e => neS (by have := hAlH.out b o e; omega)) (by
                rcases hq : v3.ownBlock with _ | q
                · exact .inl rfl
                · exact .inr (fun e => by injection e with e; have := hv3s q hq; omega))
              rwa [List.append_assoc] at hS4, hvo3⟩
          have hKF := hWK.out _ (by rw [← hszC]; exact hkeep.trans ((KeepsOthers.setCell W3 ⟨s + 2, 0, none⟩ (.bool true)).from wC2.heap.size))
          have hXH := Lib.hid hX
          clear hX hS3 hE hgs y0 y1 y2 y3 y4 hGtot hG3 hG3' hGall hkeep hvo3 hv3s
          go_upto_region 13 with fail
          gi_wp2
          have hXF := hXH.out
          rw [hAe] at hXF
          exact ⟨hKF, hXF⟩
        · obtain ⟨g3, c3, hv3e, hc3, _, _, _⟩ := hS3.at (show 0 < (L ++ [c]).length by simp)
          obtain ⟨m1, hm1⟩ : ∃ m1, (L ++ [c]).length = m1 := ⟨_, rfl⟩
          rw [hm1] at hv3e hc3
          obtain ⟨m2, hm2⟩ : ∃ m2, L.length = m2 := ⟨_, rfl⟩
          have hm12 : m1 = m2 + 1 := by rw [← hm1, ← hm2]; simp
          subst hv3e
          have k1 := hS3.bk.cell (j := 1) (v := .slice (some ⟨g3, 0, none⟩) m1 c3) rfl
          have kf := hS3.bk.frozen 1
          have kl3 := hS3.bk.lt
          have c0 := y0.cell
          have c3n := y3.cell
          rw [hm2] at c3n
          have hq1 : (m1 : Int) - 1 = (m2 : Int) := by omega
          have hq2 : IntKind.i64.wrap ((m1 : Int) - 1) = (m2 : Int) := by rw [hq1]; exact IntWalk.i64_in _ (by omega)
          have hq3 : (0 : Int) ≤ m2 := by omega
          have hq4 : (m2 : Int) ≤ c3 := by omega
          have hq5 : m2 ≤ c3 := by omega
          have hq6 : wrap64 (m2 : Int) = (m2 : Int) := by unfold wrap64; omega
          have hless := Lib.hid (fun nq => show SS ns n p size cn b0 A ((W3.drewN nq).setCell ⟨p, 1, none⟩ (.slice (some ⟨g3, 0, none⟩) m2 c3)) (.slice (some ⟨g3, 0, none⟩) m2 c3) L from SS.less hm2 (hm12 ▸ hS3.drewN nq))
          have y0H := Lib.hid y0; have y1H := Lib.hid y1; have y2H := Lib.hid y2; have y3H := Lib.hid y3; have y4H := Lib.hid y4; have hGtH := Lib.hid hGtot; have hGaH := Lib.hid hGall; have hvo3H := Lib.hid hvo3; have hv3sH := Lib.hid hv3s; have hkeepH := Lib.hid hkeep; have hnoMH := Lib.hid (hnoC.out (fun M hM h => hnoM M hM h.2))
          clear hm12 hm1 hm2 hS3 y0 y1 y2 y3 y4 hGtot hGall hvo3 hv3s hkeep hG3 hG3' hnoM hv3
          go_upto_region 14 with fail
          gi_wp2
          refine region_round_lit (by kernel_rfl) rfl (by kernel_rfl) (by kernel_rfl) ?_
          dsimp only [List.dropLast]
          repeat (first | (gi_big_quiet_step (fail)) | (refine wpQuietIn_step (asked_wide _ _ _ _) (fun K hK => ?_); go_simp; refine hK _ ?_; clear hK K))
          refine wpQuietIn_nil ?_
          rintro _ ⟨nq, rfl⟩
          gi_wp2
          have hgs := grS (W3.drewN nq) p 1 (.slice (some ⟨g3, 0, none⟩) m2 c3)
          have hGf : Gr2 p (some gv) Wx ((W3.drewN nq).setCell ⟨p, 1, none⟩ (.slice (some ⟨g3, 0, none⟩) m2 c3)) := (show Gr2 p (some gv) Wx (W3.drewN nq) from ⟨hGaH.out.os, hGaH.out.tape, hGaH.out.output, hGaH.out.size, hGaH.out.block⟩).grown hgs (fun r e => .inl (by cases e; rfl))
          have hGt : Gr2 p (some gl) w ((W3.drewN nq).setCell ⟨p, 1, none⟩ (.slice (some ⟨g3, 0, none⟩) m2 c3)) := (show Gr2 p (some gl) w (W3.drewN nq) from ⟨hGtH.out.os, hGtH.out.tape, hGtH.out.output, hGtH.out.size, hGtH.out.block⟩).grown hgs (fun r e => .inl (by cases e; rfl))
          have hKF : KeepsFrom (s + 6) Wx ((W3.drewN nq).setCell ⟨p, 1, none⟩ (.slice (some ⟨g3, 0, none⟩) m2 c3)) := by
            rw [← hszC]
            exact hkeepH.out.trans (((⟨Nat.le_refl _, fun _ _ h _ => h⟩ : KeepsOthers W3 (W3.drewN nq)).trans (KeepsOthers.setCell _ _ _)).from _)
          have hKp : KpE b0 (s + 5) Wx ((W3.drewN nq).setCell ⟨p, 1, none⟩ (.slice (some ⟨g3, 0, none⟩) m2 c3)) :=
            ⟨hGf.below (by omega) hb0p (fun k e => by cases e; exact hgvb), hGf.block (s + 5) (by omega) (by omega) (neS (by omega))⟩
          have hI : SI ns n p size cn b0 A (.slice (some ⟨gl, 0, none⟩) L.length cl) L a x d s (s + 6) w (pre ++ [yy]) ((W3.drewN nq).setCell ⟨p, 1, none⟩ (.slice (some ⟨g3, 0, none⟩) m2 c3)) :=
            ⟨(show Boxed (W3.drewN nq) s _ _ from y0H.out).kept hgs (neS (by omega)), (show Boxed (W3.drewN nq) (s + 1) _ _ from y1H.out).kept hgs (neS (by omega)), (show Boxed (W3.drewN nq) (s + 2) _ _ from y2H.out).kept hgs (neS (by omega)), (show Boxed (W3.drewN nq) (s + 3) _ _ from y3H.out).kept hgs (neS (by omega)), (show Boxed (W3.drewN nq) (s + 4) _ _ from y4H.out).kept hgs (neS (by omega)), hGt, by have := hGf.size; omega, ⟨_, hless.out nq, fun g hg => hvo3H.out g hg⟩, hnoMH.out⟩
          rw [hAe] at hI
          exact ⟨hWK.out _ hKF, hWP.out _ hKp, hI⟩
    case done =>
      rintro D ys W hD hys ⟨x0, x1, x2, x3, x4, hg, hsW, ⟨v', hS, hvo⟩, hno⟩ hK
      have hys' : unS ys = bitsL z := hys
      have hno2 : ∀ M : List Nat, M.length = d + 1 → ¬ Ext ns size L x M := fun M hM hE => by
        cases M with
        | nil => cases hM
        | cons c M =>
          obtain ⟨h1, h2, h4, h3⟩ := hE
          rw [hlastH.out] at h1
          have hcz := hzB.out c h1 h2
          have hc32 : c < 32 := Nat.lt_of_not_le fun hle => by
            rw [Nat.testBit_lt_two_pow (Nat.lt_of_lt_of_le hz32 (show 4294967296 ≤ 2 ^ c from Nat.pow_le_pow_right (n := 2) (by omega) hle))] at hcz; cases hcz
          exact hno c (by rw [hys']; exact mem_bitsL.2 ⟨hc32, hcz⟩) M (by simpa using hM) ⟨h4, h3⟩
      have e2 := x2.cell; have f2 := x2.frozen; have l2 := x2.lt
      have hgs := grS W (s + 2) 0 (.bool false)
      have x2f := x2.set (.bool false)
      have hSf := hS.grown hgs (neS (by omega)) (fun b o e => neS (by have := hAlH.out b o e; omega)) (by
        rcases hq : v'.ownBlock with _ | q
        · exact .inl rfl
        · refine .inr (fun e => ?_)
          have e' : q = s + 2 := Option.some.inj e
          rcases hvo q hq with h | h
          · have := hvs q h; omega
          · omega)
      have hgf := hg.grown hgs (fun r e => .inr (.inr (by cases e; omega)))
      have hDF : (W.setCell ⟨s + 2, 0, none⟩ (.bool false)).heap[D]? = some (.deferred (some [])) := (hgs.block D (Array.getElem?_eq_some_iff.1 hK).1 (neS (by omega))).trans hK
      have hSfH := Lib.hid hSf; have hgfH := Lib.hid hgf; have x2fH := Lib.hid x2f; have hDH := Lib.hid hDF; have hnoH := Lib.hid hno2; have hvoH := Lib.hid hvo
      clear x0 x1 x2 x3 x4 hg hS hvo hno hK hys hys' hno2 x2f hSf hgf hDF hgs
      go_wp2
      refine leaves_marksJ (B := s + 5) (J := fun W' => Boxed W' (s + 2) 4 (.bool false) ∧ Gr2 p (some gl) w W' ∧ SS ns n p size cn b0 A W' v' L) (Marks.push (T := s + 5) (ds := []) trivial (by omega) (by omega) hDH.out) ⟨x2fH.out, hgfH.out, hSfH.out⟩
        (fun V r o' hV hd hr => ⟨hV.1.kept (grownBy_putObj' V r o') (by simp; omega), hV.2.1.grown (grownBy_putObj' V r o') (fun r' e => .inr (.inr (by cases e; omega))), hV.2.2.grown (grownBy_putObj' V r o') (neS (by omega)) (fun b o e => neS (by have := hAlH.out b o e; omega)) (by
          rcases hq : v'.ownBlock with _ | q
          · exact .inl rfl
          · refine .inr (fun e => ?_)
            have e' : q = r := Option.some.inj e
            obtain ⟨o1, q1, q2⟩ := hV.2.2.oc q hq
            rw [e', hd] at q1; cases q1; cases q2)⟩)
        fun w' hw' => ⟨.bool false, by have k6 := hw'.1.cell; simp [results, Tryd.results17, go_sem, k6], hw'.2.1, v', ?_, .inr ⟨rfl, hnoH.out, hw'.2.2⟩⟩
      rcases hq : v'.ownBlock with _ | q
      · obtain ⟨_, _, e, _⟩ := hSfH.out.at (show l < L.length by omega)
        subst e; cases hq
      · rcases hvoH.out q hq with h | h
        · exact .inl h.symm
        · exact .inr ⟨q, rfl, by omega⟩
    case stop =>
      rintro D c pre W hD _ ⟨rfl, x2, hg, M, v', hM, hE, hS, hvo⟩ hK
      have x2H := Lib.hid x2; have hgH := Lib.hid hg; have hSH3 := Lib.hid hS; have hDH := Lib.hid hK; have hvoH := Lib.hid hvo; have hEH := Lib.hid hE; have hMH := Lib.hid hM
      have hsW : s ≤ W.heap.size := by have := x2.lt; omega
      clear x2 hg hS hvo hK hE hM
      gi_wp2
      refine leaves_marksJ (B := s + 5) (J := fun W' => Boxed W' (s + 2) 4 (.bool true) ∧ Gr2 p (some gl) w W' ∧ SS ns n p size cn b0 A W' v' (L ++ M)) (Marks.push (T := s + 5) (ds := []) trivial (by omega) (by omega) hDH.out) ⟨x2H.out, hgH.out, hSH3.out⟩
        (fun V r o' hV hd hr => ⟨hV.1.kept (grownBy_putObj' V r o') (by simp; omega), hV.2.1.grown (grownBy_putObj' V r o') (fun r' e => .inr (.inr (by cases e; omega))), hV.2.2.grown (grownBy_putObj' V r o') (neS (by omega)) (fun b o e => neS (by have := hAlH.out b o e; omega)) (by
          rcases hq : v'.ownBlock with _ | q
          · exact .inl rfl
          · refine .inr (fun e => ?_)
            have e' : q = r := Option.some.inj e
            obtain ⟨o1, q1, q2⟩ := hV.2.2.oc q hq
            rw [e', hd] at q1; cases q1; cases q2)⟩)
        fun w' hw' => ⟨.bool true, by have k6 := hw'.1.cell; simp [results, Tryd.results17, go_sem, k6], hw'.2.1, v', ?_, .inl ⟨rfl, M, hMH.out, hEH.out, hw'.2.2⟩⟩
      rcases hq : v'.ownBlock with _ | q
      · obtain ⟨_, _, e, _⟩ := hSH3.out.at (show l < (L ++ M).length by rw [List.length_append]; omega)
        subst e; cases hq
      · rcases hvoH.out q hq with h | h
        · exact .inl h.symm
        · exact .inr ⟨q, rfl, by omega⟩
end Go.Proofs.YtcbmbofbiodhmaaDoor
