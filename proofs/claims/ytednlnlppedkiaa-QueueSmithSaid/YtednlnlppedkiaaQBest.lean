/- queue.best: the first order of which a number is the least. -/
import Derived.Test.YtednlnlppedkiaaOrdersB
import Derived.Test.YtednlnlppedkiaaCloneI
import Derived.Test.YtednlnlppedkiaaCalm
import Derived.Test.YtednlnlppedkiaaMarks
import Derived.Test.YtednlnlppedkiaaLast
namespace Go.Proofs.Ytednlnlppedkiaa
open Go.RowKit Go.Shelf
attribute [local go_sem] Oper.semAt_some

/-- what best holds -/
def BI (s n hi : Nat) (ofV : Value) (F : List Nat → Int) (w : World) (pre : List (List Nat)) (W : World) : Prop :=
  Boxed W (s + 1) 44 ofV ∧ Below s w W ∧ ((pre = [] ∧ Boxed W (s + 2) 23 (.slice none 0 0) ∧ Boxed W (s + 3) 2 (.int .i64 0) ∧ Boxed W (s + 4) 4 (.bool false)) ∨
    ∃ x g c, x ∈ pre ∧ x.Perm (List.range n) ∧ Boxed W (s + 2) 23 (.slice (some ⟨g, 0, none⟩) n c) ∧ W.ownsRow hi 3 1 (.slice (some ⟨g, 0, none⟩) n c) n (ints .i64 (natI x)) ∧ Boxed W (s + 3) 2 (.int .i64 (F x)) ∧ Boxed W (s + 4) 4 (.bool true) ∧ ∀ y ∈ pre, F x ≤ F y)
theorem BI.apart {s n lo hi : Nat} {ofV : Value} {F : List Nat → Int} {w : World} (hs : w.heap.size = s) (hlo : s + 5 ≤ lo) : Apart lo hi (BI s n hi ofV F w) := by
  rintro pre A B row ⟨h1, h2, h3⟩ hg hr
  have hne : ∀ k, k < s + 5 → some k ≠ row := fun k hk e => by have := hr k e.symm; omega
  refine ⟨h1.kept hg (hne _ (by omega)), h2.grown hg (by have := h2.size; omega) (fun g e => by have := hr g e; omega), ?_⟩
  rcases h3 with ⟨h4, h5, h6, h7⟩ | ⟨x, g, c, h4, h5, h6, h7, h8, h9, h10⟩
  · exact .inl ⟨h4, h5.kept hg (hne _ (by omega)), h6.kept hg (hne _ (by omega)), h7.kept hg (hne _ (by omega))⟩
  · exact .inr ⟨x, g, c, h4, h5, h6.kept hg (hne _ (by omega)), h7.kept hg (.inr fun e => by
      have h11 := h7.lt g rfl
      have h12 := hr g (by rw [← e]; rfl)
      omega), h8.kept hg (hne _ (by omega)), h9.kept hg (hne _ (by omega)), h10⟩
/-- what a round may do -/
def Cal (s lo hi : Nat) (W W' : World) : Prop := KeepsFrom (s + 5) W W' ∧ KpR lo hi W W' ∧ Below s W W'
theorem Cal.trans {s lo hi : Nat} {A B C : World} (h : Cal s lo hi A B) (h' : Cal s lo hi B C) : Cal s lo hi A C := ⟨h.1.trans h'.1, h.2.1.trans h'.2.1, h.2.2.trans h'.2.2⟩
theorem Cal.below {s lo hi : Nat} {A B : World} (h : Below A.heap.size A B) (hhi : hi ≤ A.heap.size) (hs : s ≤ A.heap.size) : Cal s lo hi A B :=
  ⟨⟨h.size, fun k _ _ hk _ => (h.block k (Array.getElem?_eq_some_iff.1 hk).1).trans hk⟩, (KpR.refl lo hi A).below h hhi, h.mono hs⟩
theorem Cal.set {s lo hi k : Nat} {A : World} (v : Value) (hk : s ≤ k) (hk5 : k < s + 5) (hlo : s + 5 ≤ lo) (hhi : hi ≤ A.heap.size) (hs : s ≤ A.heap.size) : Cal s lo hi A (A.setCell ⟨k, 0, none⟩ v) := by
  have hg := setRow A k 0 v
  exact ⟨KeepsFrom.of_grownBy hg (fun j e => by cases e; exact hk5), (KpR.refl lo hi A).grown hg hhi (fun r e => by cases e; omega), (Below.refl s A).grown hg hs (fun r e => by cases e; exact hk)⟩
theorem stored3 {s lo hi n : Nat} {W2 : World} {t1 t2 t3 t4 e : TypeId} {v1 v2 v3 v4 fl x b : Value} {xs : List Value} (hlo : s + 5 ≤ lo) (hlh : lo ≤ hi) (hhi : hi ≤ W2.heap.size) (h1 : Boxed W2 (s + 1) t1 v1) (h2 : Boxed W2 (s + 2) t2 v2) (h3 : Boxed W2 (s + 3) t3 v3) (h4 : Boxed W2 (s + 4) t4 v4)
    (hown : W2.ownsRow hi e 1 fl n xs) {W' : World} (hW : ((W2.setCell ⟨s + 2, 0, none⟩ fl).setCell ⟨s + 3, 0, none⟩ x).setCell ⟨s + 4, 0, none⟩ b = W') :
    Boxed W' (s + 1) t1 v1 ∧ Boxed W' (s + 2) t2 fl ∧ Boxed W' (s + 3) t3 x ∧ Boxed W' (s + 4) t4 b ∧ W'.ownsRow hi e 1 fl n xs ∧ Cal s lo hi W2 W' := by
  have g1 := setRow W2 (s + 2) 0 fl
  have g2 := setRow (W2.setCell ⟨s + 2, 0, none⟩ fl) (s + 3) 0 x
  have g3 := setRow ((W2.setCell ⟨s + 2, 0, none⟩ fl).setCell ⟨s + 3, 0, none⟩ x) (s + 4) 0 b
  have hn : ∀ k, s ≤ k → k < s + 5 → fl.ownBlock = none ∨ fl.ownBlock ≠ some k := fun k _ hk => .inr fun e => by have := (hown.lt k e).1; omega
  subst hW
  have z1 := g1.size
  have z2 := g2.size
  refine ⟨((h1.kept g1 (by simp)).kept g2 (by simp)).kept g3 (by simp), ((h2.set fl).kept g2 (by simp)).kept g3 (by simp), (((h3.kept g1 (by simp)).set x)).kept g3 (by simp), ((h4.kept g1 (by simp)).kept g2 (by simp)).set b,
    ((hown.kept g1 (hn _ (by omega) (by omega))).kept g2 (hn _ (by omega) (by omega))).kept g3 (hn _ (by omega) (by omega)), ?_⟩
  exact ((Cal.set fl (by omega) (by omega) hlo hhi (by omega)).trans (Cal.set x (by omega) (by omega) hlo (by omega) (by omega))).trans (Cal.set b (by omega) (by omega) hlo (by omega) (by omega))
set_option maxHeartbeats 3200000 in
set_option maxRecDepth 100000 in
theorem best_any (n : Nat) (hn : n ≤ 7) (gof : Nat) (lb : Array Value) (F : List Nat → Int) (w : World)
    (eg : ∀ args w, (callFunc gof args).run Try.prog w = .ok (.enter gof args) w)
    (hof : ∀ x g c W, Below w.heap.size w W → x.Perm (List.range n) → Rd W (some ⟨g, 0, none⟩) n 1 (ints .i64 (natI x)) → Calls Try.prog gof (#[.slice (some ⟨g, 0, none⟩) n c] ++ lb) W fun e W' => e = .returned (.int .i64 (F x)) ∧ Below W.heap.size W W') :
    Calls Try.prog 18 #[.int .i64 n, .func (.func gof) #[] lb] w fun e w' => ∃ x g c, e = .returned (.tuple #[.slice (some ⟨g, 0, none⟩) n c, .int .i64 (F x)]) ∧ x.Perm (List.range n) ∧
      w'.ownsRow w.heap.size 3 1 (.slice (some ⟨g, 0, none⟩) n c) n (ints .i64 (natI x)) ∧ (∀ y, y.Perm (List.range n) → F x ≤ F y) ∧ Below w.heap.size w w' := by
  have hofH := Lib.hid hof; have egH := Lib.hid eg
  clear hof eg
  refine calls_of_wp_calm 6 Try.func18 rfl ?_
  simp only [Try.ntmps18, List.size_toArray, List.length_cons, List.length_nil, Nat.reduceAdd, Nat.reduceSub, Array.replicate_succ, Array.replicate_zero, List.push_toArray, List.append_toArray, List.nil_append, List.cons_append]
  go_wp2
  refine (wpIn_wide (n := 6)).1 ?_
  generalize hwB : (((((w.alloc (.cells #[.int .i64 n] 3)).alloc (.cells #[.func (.func gof) #[] lb] 44)).alloc (.cells #[.slice none 0 0] 23)).alloc (.cells #[.int .i64 0] 2)).alloc (.cells #[.bool false] 4)) = wB
  have hszB : wB.heap.size = w.heap.size + 5 := by rw [← hwB]; simp
  have hbB : Below w.heap.size w wB := by
    rw [← hwB]; exact (((((Below.refl _ w).alloc (Nat.le_refl _) _).alloc (by simp) _).alloc (by simp; omega) _).alloc (by simp; omega) _).alloc (by simp; omega) _
  have hbn : Boxed wB w.heap.size 3 (.int .i64 n) := by rw [← hwB]; exact ((((Boxed.new w _ _).alloc _).alloc _).alloc _).alloc _
  have h0 : BI w.heap.size n (wB.heap.size + 2 + 5) (.func (.func gof) #[] lb) F w [] wB := by
    refine ⟨?_, hbB, .inl ⟨rfl, ?_, ?_, ?_⟩⟩ <;> rw [← hwB]
    · have h := (((Boxed.new (w.alloc (.cells #[.int .i64 n] 3)) 44 (.func (.func gof) #[] lb)).alloc (.cells #[.slice none 0 0] 23)).alloc (.cells #[.int .i64 0] 2)).alloc (.cells #[.bool false] 4)
      simp only [World.size_alloc] at h
      exact h
    · have h := ((Boxed.new ((w.alloc (.cells #[.int .i64 n] 3)).alloc (.cells #[.func (.func gof) #[] lb] 44)) 23 (.slice none 0 0)).alloc (.cells #[.int .i64 0] 2)).alloc (.cells #[.bool false] 4)
      simp only [World.size_alloc] at h
      exact h
    · have h := (Boxed.new (((w.alloc (.cells #[.int .i64 n] 3)).alloc (.cells #[.func (.func gof) #[] lb] 44)).alloc (.cells #[.slice none 0 0] 23)) 2 (.int .i64 0)).alloc (.cells #[.bool false] 4)
      simp only [World.size_alloc] at h
      exact h
    · have h := Boxed.new ((((w.alloc (.cells #[.int .i64 n] 3)).alloc (.cells #[.func (.func gof) #[] lb] 44)).alloc (.cells #[.slice none 0 0] 23)).alloc (.cells #[.int .i64 0] 2)) 4 (.bool false)
      simp only [World.size_alloc] at h
      exact h
  clear hwB
  generalize hs : w.heap.size = s at *
  refine' rangeFunc_fresh (n := 6) (α := List Nat) (gf := 28) (lb := #[.pointer (some ⟨s, 0, none⟩)]) (m := 5) (by omega) rfl (enters_of Try.func28 (by kernel_rfl) rfl)
    (best1_any (w := wB) hn hbn) ?hMem (fun _ => rfl) (BI s n (wB.heap.size + 2 + 5) (.func (.func gof) #[] lb) F w) (BI.apart hs (by omega)) h0 _ ?assign ?body ?done
  case hMem => exact fun x A B r h hg hr => ⟨h.1, h.2.kept hg (by simp; omega)⟩
  case assign =>
    intro l0 y W K hK
    gi_wp2
    exact hK
  case body =>
    rintro l0 pre x W ⟨hbx, hb, hcase⟩ hszW ⟨hperm, hrow⟩
    have hrd := hrow.rd (by simpa using hperm.length_eq)
    simp only [hszB] at hszW
    have hC := Lib.hid (hofH.out x (s + 5 + 2 + 2) n W hb hperm (by rw [← hszB]; exact hrd))
    have hcl := Lib.hid (fun W1 (h : Below W.heap.size W W1) => cloneI_any (s + 5 + 2 + 2) n n (natI x) W1 ((show Rd W (some ⟨s + 5 + 2 + 2, 0, none⟩) n 1 (ints .i64 (natI x)) by rw [← hszB]; exact hrd).later h) (by omega))
    have hcx := hbx.cell
    have eg := egH.out
    have hbxH := Lib.hid hbx; have hbH := Lib.hid hb; have hpermH := Lib.hid hperm
    have hl1 : s + 1 < W.heap.size := by omega
    have hl2 : s + 2 < W.heap.size := by omega
    have hl3 : s + 3 < W.heap.size := by omega
    have hl4 : s + 4 < W.heap.size := by omega
    have hB1 := hbxH
    rcases hcase with ⟨rfl, u2, u3, u4⟩ | ⟨x0, g0, c0, u1, u5, u2, u6, u3, u4, u7⟩
    · have hB2 := Lib.hid u2; have hB3 := Lib.hid u3; have hB4 := Lib.hid u4
      clear hbx hb hperm hrow hrd h0 u2 u3 u4
      gi_wp2
      refine ⟨trivial, (callsIn_wide.2 hC.out).mono ?_⟩
      rintro _ W1 ⟨rfl, hb1⟩
      have hsz1 := hb1.size
      have e4 := Boxed.cell ((hb1.block _ hl4).trans hB4.out)
      have e3 := Boxed.cell ((hb1.block _ hl3).trans hB3.out)
      clear hcx
      gi_wp2
      refine ⟨trivial, (callsIn_wide.2 (hcl.out W1 hb1)).mono ?_⟩
      clear e3 e4
      rintro _ W2 ⟨g, c, rfl, hown, hb2⟩
      have hsz2 := hb2.size
      have k2 : ∀ k, k < W.heap.size → W2.heap[k]? = W.heap[k]? := fun k hk => (hb2.block k (by omega)).trans (hb1.block k hk)
      have hb12 : Below W.heap.size W W2 := hb1.trans (hb2.mono hb1.size)
      have c1 := (k2 _ hl1).trans hB1.out
      have c2 := (k2 _ hl2).trans hB2.out
      have c3 := (k2 _ hl3).trans hB3.out
      have c4 := (k2 _ hl4).trans hB4.out
      have f2 := Boxed.frozen c2; have f3 := Boxed.frozen c3; have f4 := Boxed.frozen c4
      have hst := Lib.hid (fun W' h => stored3 (s := s) (lo := s + 5 + 2) (hi := s + 5 + 2 + 5) (by omega) (by omega) (by omega) c1 c2 c3 c4 (own_base (by omega) hown) (x := .int .i64 (F x)) (b := .bool true) (W' := W') h)
      have hsz2' : s + 4 < W2.heap.size := by omega
      have e2 := Boxed.cell c2; have e3 := Boxed.cell c3; have e4 := Boxed.cell c4
      clear c1 c2 c3 c4 k2 hown hb2
      gi_wp2
      obtain ⟨q1, q2, q3, q4, q5, q6⟩ := hst.out _ rfl
      have hcal := (Cal.below hb12 hszW (by omega)).trans q6
      exact ⟨by rw [hszB]; exact hcal.1, by rw [hszB]; exact hcal.2.1, q1, hbH.out.trans hcal.2.2, .inr ⟨x, g, c, by simp, hpermH.out, q2, by rw [hszB]; exact q5, q3, q4, by simp⟩⟩
    · have hB2 := Lib.hid u2; have hB3 := Lib.hid u3; have hB4 := Lib.hid u4; have hB6 := Lib.hid u6; have h7 := Lib.hid u7; have h5 := Lib.hid u5; have h1 := Lib.hid u1
      clear hbx hb hperm hrow hrd h0 u2 u3 u4 u6 u7 u5 u1
      gi_wp2
      refine ⟨trivial, (callsIn_wide.2 hC.out).mono ?_⟩
      rintro _ W1 ⟨rfl, hb1⟩
      have hsz1 := hb1.size
      have e4 := Boxed.cell ((hb1.block _ hl4).trans hB4.out)
      have e3 := Boxed.cell ((hb1.block _ hl3).trans hB3.out)
      clear hcx
      cases hlt : decide (F x < F x0)
      · gi_wp2
        have hcal : Cal s (s + 5 + 2) (s + 5 + 2 + 5) W W1 := Cal.below hb1 hszW (by omega)
        have q : ∀ {k t v}, k < W.heap.size → Boxed W k t v → Boxed W1 k t v := fun hk h => (hb1.block _ hk).trans h
        exact ⟨by rw [hszB]; exact hcal.1, by rw [hszB]; exact hcal.2.1, q hl1 hB1.out, hbH.out.trans hcal.2.2, .inr ⟨x0, g0, c0, List.mem_append_left _ h1.out, h5.out, q hl2 hB2.out, own_below hB6.out hb1, q hl3 hB3.out, q hl4 hB4.out, fun y hy => by
          have := of_decide_eq_false hlt
          rcases List.mem_append.1 hy with hy | hy
          · exact h7.out y hy
          · simp at hy; subst hy; omega⟩⟩
      ·
        gi_wp2
        refine ⟨trivial, (callsIn_wide.2 (hcl.out W1 hb1)).mono ?_⟩
        clear e3 e4
        rintro _ W2 ⟨g, c, rfl, hown, hb2⟩
        have hsz2 := hb2.size
        have k2 : ∀ k, k < W.heap.size → W2.heap[k]? = W.heap[k]? := fun k hk => (hb2.block k (by omega)).trans (hb1.block k hk)
        have hb12 : Below W.heap.size W W2 := hb1.trans (hb2.mono hb1.size)
        have c1 := (k2 _ hl1).trans hB1.out
        have c2 := (k2 _ hl2).trans hB2.out
        have c3 := (k2 _ hl3).trans hB3.out
        have c4 := (k2 _ hl4).trans hB4.out
        have f2 := Boxed.frozen c2; have f3 := Boxed.frozen c3; have f4 := Boxed.frozen c4
        have hst := Lib.hid (fun W' h => stored3 (s := s) (lo := s + 5 + 2) (hi := s + 5 + 2 + 5) (by omega) (by omega) (by omega) c1 c2 c3 c4 (own_base (by omega) hown) (x := .int .i64 (F x)) (b := .bool true) (W' := W') h)
        have hsz2' : s + 4 < W2.heap.size := by omega
        have e2 := Boxed.cell c2; have e3 := Boxed.cell c3; have e4 := Boxed.cell c4
        clear c1 c2 c3 c4 k2 hown hb2
        gi_wp2
        obtain ⟨q1, q2, q3, q4, q5, q6⟩ := hst.out _ rfl
        have hcal := (Cal.below hb12 hszW (by omega)).trans q6
        exact ⟨by rw [hszB]; exact hcal.1, by rw [hszB]; exact hcal.2.1, q1, hbH.out.trans hcal.2.2, .inr ⟨x, g, c, by simp, hpermH.out, q2, by rw [hszB]; exact q5, q3, q4, fun y hy => by
          have := of_decide_eq_true hlt
          rcases List.mem_append.1 hy with hy | hy
          · exact Int.le_trans (Int.le_of_lt this) (h7.out y hy)
          · simp at hy; subst hy; exact Int.le_refl _⟩⟩
  case done =>
    rintro D ys W hD hS ⟨hbx, hb, hcase⟩ hK
    have hmk : Marks s wB.heap.size [] W := trivial
    have hid := hS (List.range n) (List.Perm.refl _)
    rcases hcase with ⟨rfl, _⟩ | ⟨x0, g0, c0, u1, u5, u2, u6, u3, u4, u7⟩
    · cases hid
    have e2 := u2.cell; have e3 := u3.cell
    have hl := u4.lt
    have hbH := Lib.hid hb; have h5 := Lib.hid u5; have h6 := Lib.hid u6; have h7 := Lib.hid u7; have hSH := Lib.hid hS; have hKH := Lib.hid hK
    clear hbx hb u1 u5 u2 u6 u3 u4 u7 hS hid h0 hK
    go_wp2
    go_quiet (fail)
    go_wp2
    refine leaves_marksJ (J := fun W' => W'.ownsRow s 3 1 (.slice (some ⟨g0, 0, none⟩) n c0) n (ints .i64 (natI x0)) ∧ Below s w W') (Marks.push (T := wB.heap.size) (hmk) (by omega) hD hKH.out) ⟨own_drewN (own_base (by omega) h6.out) nq, below_drewN hbH.out nq⟩
      (fun V r o' hV hr hsr => ⟨ownsRow_putObj hV.1 o' hr rfl, hV.2.grown (grownBy_putObj' V r _) (by have := hV.2.size; omega) (fun k e => by cases e; omega)⟩)
      fun w' hw' => ⟨.tuple #[.slice (some ⟨g0, 0, none⟩) n c0, .int .i64 (F x0)], by simp [results, Try.results18, go_sem], x0, g0, c0, rfl, h5.out, by rw [hs]; exact hw'.1, fun y hy => h7.out y (hSH.out y hy), by rw [hs]; exact hw'.2⟩
end Go.Proofs.Ytednlnlppedkiaa
