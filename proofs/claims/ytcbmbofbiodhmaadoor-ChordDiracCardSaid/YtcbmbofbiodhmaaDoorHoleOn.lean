/- chord: on. -/
import Derived.Test.YtcbmbofbiodhmaaDoorHoleSeen
import Derived.Test.YtcbmbofbiodhmaaDoorStillRound
import Derived.Test.YtcbmbofbiodhmaaDoorLastC
import Derived.StillTailTactics
import Derived.BigQuiet
import Derived.Deep.RegionLaw
namespace Go.Proofs.YtcbmbofbiodhmaaDoor
open Go.RowKit Go.Shelf
attribute [local go_sem] Oper.semAt_some

theorem neS {a b : Nat} (h : a ≠ b) : some a ≠ some b := fun e => h (by simpa using e)
theorem grS (a : World) (g i : Nat) (v : Value) : a.grownBy (a.setCell ⟨g, i, none⟩ v) (some g) :=
  ⟨rfl, rfl, rfl, by simp, fun k _ hk => heap_setCell_other a ⟨g, i, none⟩ k v (fun e => hk (by simp [e]))⟩
set_option maxHeartbeats 3200000 in
set_option maxRecDepth 100000 in
set_option linter.unusedSimpArgs false in
theorem on_zero (ns : List Nat) (n p size cn b0 : Nat) (A : Option Addr) (x : Nat) (w : World) (v : Value) (L : List Nat) (hS : SS ns n p size cn b0 A w v L) (hl : L.length = size) (hs0 : 0 < size) (h32 : size ≤ 32) :
    Calls Tryd.prog 17 #[.pointer (some ⟨p, 0, none⟩), .int .u32 (x : Int)] w (OnP ns n p size cn b0 A v L x 0 w) := by
  have hb1 := (((Below.refl _ w).alloc (Nat.le_refl _) (.cells #[.pointer (some ⟨p, 0, none⟩)] 44)).alloc (by simp) (.cells #[.int .u32 (x : Int)] 36)).alloc (by simp; omega) (.cells #[.bool false] 4)
  have hSB := hS.later hb1
  have b0' := ((Boxed.new w 44 (.pointer (some ⟨p, 0, none⟩))).alloc (.cells #[.int .u32 (x : Int)] 36)).alloc (.cells #[.bool false] 4)
  have b2' := Boxed.new ((w.alloc (.cells #[.pointer (some ⟨p, 0, none⟩)] 44)).alloc (.cells #[.int .u32 (x : Int)] 36)) 4 (.bool false)
  simp only [World.size_alloc, Nat.add_assoc, Nat.reduceAdd] at b2'
  have hszB : (((w.alloc (.cells #[.pointer (some ⟨p, 0, none⟩)] 44)).alloc (.cells #[.int .u32 (x : Int)] 36)).alloc (.cells #[.bool false] 4)).heap.size = w.heap.size + 3 := by simp
  have hpl := hS.bk.lt
  obtain ⟨gl, cl, hv, hcl, hgl, hgb, _⟩ := hS.at (show 0 < L.length by omega)
  subst hv
  have hAl : ∀ b o, A = some ⟨b, o, none⟩ → b < w.heap.size := fun b o e => by have := (hS.nA b o e).2; omega
  have hAlH := Lib.hid hAl; have hSH := Lib.hid hS; have hSBH := Lib.hid hSB; have b0H := Lib.hid b0'; have b2H := Lib.hid b2'; have hb1H := Lib.hid hb1
  clear hS hSB b0' b2' hb1 hAl
  have hlH := Lib.hid hl
  obtain ⟨m, hm⟩ : ∃ m, L.length = m := ⟨_, rfl⟩
  have hmH := Lib.hid hm
  have hms : ((m : Int) == (size : Int)) = true := by simp; omega
  clear hl hm
  refine calls_of_wp_calm 4 Tryd.func17 rfl ?_
  simp only [Tryd.ntmps17, List.size_toArray, List.length_cons, List.length_nil, Nat.reduceAdd, Nat.reduceSub, Array.replicate_succ, Array.replicate_zero, List.push_toArray, List.append_toArray, List.nil_append, List.cons_append]
  go_upto_region 1 with fail
  simp only [Nat.add_assoc, Nat.reduceAdd]
  generalize ((w.alloc (.cells #[.pointer (some ⟨p, 0, none⟩)] 44)).alloc (.cells #[.int .u32 (x : Int)] 36)).alloc (.cells #[.bool false] 4) = wB at *
  have c0 := b0H.out.cell
  have k1 := hSBH.out.bk.cell (j := 1) (v := .slice (some ⟨gl, 0, none⟩) L.length cl) rfl
  have kl := hSBH.out.bk.lt
  rw [hmH.out] at k1
  go_upto_region 2 with fail
  have hszC : (wB.alloc (.cells #[.int .i64 (m : Int)] 3)).heap.size = w.heap.size + 4 := by simp [hszB]
  have b0C := b0H.out.alloc (.cells #[.int .i64 (m : Int)] 3)
  have b2C := b2H.out.alloc (.cells #[.int .i64 (m : Int)] 3)
  have b3C := Boxed.new wB 3 (.int .i64 (m : Int))
  rw [hszB] at b3C
  have hbC := hb1H.out.alloc (by omega) (.cells #[.int .i64 (m : Int)] 3)
  have hSC := hSH.out.later hbC
  generalize wB.alloc (.cells #[.int .i64 (m : Int)] 3) = wC at *
  have c0 := b0C.cell; have c3 := b3C.cell; have kl := hSC.bk.lt
  have k2 := hSC.bk.cell (j := 2) (v := .int .i64 (size : Int)) rfl
  have e2 := b2C.cell; have f2 := b2C.frozen; have l2 := b2C.lt
  have b2CH := Lib.hid b2C; have hbCH := Lib.hid hbC; have hSCH := Lib.hid hSC
  clear b0H b2H hb1H hSBH b0C b2C b3C hbC hSC k1
  go_quiet (fail)
  have b2f := Lib.hid (show Boxed ((wC.drewN nq).setCell ⟨w.heap.size + 2, 0, none⟩ (.bool true)) (w.heap.size + 2) 4 (.bool true) from Boxed.set (W := wC.drewN nq) (.bool true) b2CH.out)
  have hgs := grS (wC.drewN nq) (w.heap.size + 2) 0 (.bool true)
  have hSf := Lib.hid ((hSCH.out.drewN nq).grown hgs (neS (by omega)) (fun b o e => neS (by have := hAlH.out b o e; omega)) (.inr (by simp [Value.ownBlock]; omega)))
  have hbf := Lib.hid ((below_drewN hbCH.out nq).grown hgs (show w.heap.size ≤ wC.heap.size by omega) (fun r e => by cases e; omega))
  have e2q : (wC.drewN nq).cell? ⟨w.heap.size + 2, 0, none⟩ = some (.bool false) := e2
  have f2q : (wC.drewN nq).frozen? ⟨w.heap.size + 2, 0, none⟩ = false := f2
  have l2q : w.heap.size + 2 < (wC.drewN nq).heap.size := l2
  clear c0 c3 kl k2 e2 f2 l2 hgs
  generalize wC.drewN nq = w3 at *
  have hs3 := l2q
  go_wp2
  refine leaves_marks (B := w.heap.size + 3) (T := 0) (ds := []) trivial fun w' hb' => ⟨.bool true, by have k6 := Boxed.cell ((hb'.block _ (by omega)).trans b2f.out); simp [results, Tryd.results17, go_sem, k6], ?_⟩
  have hbw := hbf.out.trans (hb'.mono (by omega))
  exact ⟨Gr2.of_below hbw, _, .inl rfl, .inl ⟨rfl, [], rfl, trivial, by rw [List.append_nil]; exact hSH.out.later hbw⟩⟩
end Go.Proofs.YtcbmbofbiodhmaaDoor
