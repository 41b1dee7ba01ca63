/- sides: on. -/
import Derived.Test.YtfeihakciioheaaDoorSeeker
import Derived.Test.YtfeihakciioheaaDoorLastC
import Derived.StillTailTactics
import Derived.BigQuiet
import Derived.Deep.RegionLaw
namespace Go.Proofs.YtfeihakciioheaaDoor
open Go.RowKit Go.Shelf
attribute [local go_sem] Oper.semAt_some

theorem neS {a b : Nat} (h : a ≠ b) : some a ≠ some b := fun e => h (by simpa using e)
theorem grS (a : World) (g i : Nat) (v : Value) : a.grownBy (a.setCell ⟨g, i, none⟩ v) (some g) :=
  ⟨rfl, rfl, rfl, by simp, fun k _ hk => heap_setCell_other a ⟨g, i, none⟩ k v (fun e => hk (by simp [e]))⟩
theorem shr_one (x i : Nat) (hx : x < 4294967296) : (bits .and .u32 ((x : Int) / 2 ^ i) 1 == 1) = x.testBit i := by
  have e : ((x : Int) / 2 ^ i) = ((x / 2 ^ i : Nat) : Int) := by simp
  rw [e, show (1 : Int) = ((1 : Nat) : Int) from rfl, u32_and_nat _ 1 (Nat.lt_of_le_of_lt (Nat.div_le_self ..) hx) (by omega), Nat.and_one_is_mod, Nat.testBit_eq_decide_div_mod_eq]
  rcases Nat.mod_two_eq_zero_or_one (x / 2 ^ i) with h | h <;> rw [h] <;> rfl
/-- what on reads -/
structure SC (p s n cn gl m cl size l a f y ga go x : Nat) (W : World) : Prop where
  c0 : W.cell? ⟨s, 0, none⟩ = some (.pointer (some ⟨p, 0, none⟩))
  c1 : W.cell? ⟨s + 1, 0, none⟩ = some (.int .u32 (x : Int))
  k0 : W.cell? ⟨p, 0, none⟩ = some (.slice (some ⟨ga, go, none⟩) n cn)
  k1 : W.cell? ⟨p, 1, none⟩ = some (.slice (some ⟨gl, 0, none⟩) m cl)
  k2 : W.cell? ⟨p, 2, none⟩ = some (.int .i64 (size : Int))
  kl : p < W.heap.size
  ca : W.cell? ⟨gl, l, none⟩ = some (.int .i64 (a : Int))
  cf : W.cell? ⟨gl, 0, none⟩ = some (.int .i64 (f : Int))
  hy : W.cell? ⟨ga, go + a, none⟩ = some (.int .u32 (y : Int))
theorem SC.drewN {p s n cn gl m cl size l a f y ga go x : Nat} {W : World} (h : SC p s n cn gl m cl size l a f y ga go x W) (k : Nat) : SC p s n cn gl m cl size l a f y ga go x (W.drewN k) :=
  ⟨h.c0, h.c1, h.k0, h.k1, h.k2, h.kl, h.ca, h.cf, h.hy⟩
theorem SS.cellL {ns : List Nat} {n p size cn b0 : Nat} {A : Option Addr} {W : World} {g m c : Nat} {L : List Nat} (h : SS ns n p size cn b0 A W (.slice (some ⟨g, 0, none⟩) m c) L) {k : Nat} (hk : k < L.length) : W.cell? ⟨g, k, none⟩ = some (.int .i64 ((L.getD k 0 : Nat) : Int)) := by
  obtain ⟨g', c', e, _, _, _, hc⟩ := h.at hk
  injection e with e _ _; injection e with e; injection e with e _ _
  subst e; exact hc
set_option maxHeartbeats 3200000 in
set_option maxRecDepth 100000 in
set_option linter.unusedSimpArgs false in
theorem on_zero (ns : List Nat) (n p size cn b0 : Nat) (A : Option Addr) (g : Gr n ns) (f a x : Nat) (w : World) (v : Value) (L : List Nat) (hS : SS ns n p size cn b0 A w v L) (hf : L.getD 0 0 = f) (l : Nat) (hl : L.length = l + 1) (ha : L.getD l 0 = a) (hsz : l + 1 = size) (h32 : size ≤ 32) (han : a < n) (hfn : f < n) :
    Calls Tryd.prog 15 #[.pointer (some ⟨p, 0, none⟩), .int .u32 (x : Int)] w (OnP ns n p size cn b0 A v L f a x 0 w) := by
  have hn10 := g.n10
  have hp10 : 2 ^ n ≤ 2 ^ 10 := Nat.pow_le_pow_right (by omega) hn10
  have hb1 := ((((Below.refl _ w).alloc (Nat.le_refl _) (.cells #[.pointer (some ⟨p, 0, none⟩)] 43)).alloc (by simp) (.cells #[.int .u32 (x : Int)] 47)).alloc (by simp; omega) (.cells #[.bool false] 4))
  have hSB := hS.later hb1
  have b0' := ((Boxed.new w 43 (.pointer (some ⟨p, 0, none⟩))).alloc (.cells #[.int .u32 (x : Int)] 47)).alloc (.cells #[.bool false] 4)
  have b1' := (Boxed.new (w.alloc (.cells #[.pointer (some ⟨p, 0, none⟩)] 43)) 47 (.int .u32 (x : Int))).alloc (.cells #[.bool false] 4)
  have b2' := Boxed.new ((w.alloc (.cells #[.pointer (some ⟨p, 0, none⟩)] 43)).alloc (.cells #[.int .u32 (x : Int)] 47)) 4 (.bool false)
  simp only [World.size_alloc, Nat.add_assoc, Nat.reduceAdd] at b1' b2'
  have hszB : (((w.alloc (.cells #[.pointer (some ⟨p, 0, none⟩)] 43)).alloc (.cells #[.int .u32 (x : Int)] 47)).alloc (.cells #[.bool false] 4)).heap.size = w.heap.size + 3 := by simp
  have hpl := hS.bk.lt
  obtain ⟨gl, cl, hv, hcl, hgl, hgb, _⟩ := hS.at (show l < L.length by omega)
  have hAl : ∀ b o, A = some ⟨b, o, none⟩ → b < w.heap.size := fun b o e => by have := (hS.nA b o e).2; omega
  have hAlH := Lib.hid hAl
  have hvn : v.ownBlock = some gl := by rw [hv]; rfl
  have hSH := Lib.hid hS; have hSBH := Lib.hid hSB; have b0H := Lib.hid b0'; have b1H := Lib.hid b1'; have b2H := Lib.hid b2'; have hb1H := Lib.hid hb1
  clear hS hSB b0' b1' b2' hb1 hAl
  refine calls_of_wp_calm 4 Tryd.func15 rfl ?_
  simp only [Tryd.ntmps15, List.size_toArray, List.length_cons, List.length_nil, Nat.reduceAdd, Nat.reduceSub, Array.replicate_succ, Array.replicate_zero, List.push_toArray, List.append_toArray, List.nil_append, List.cons_append]
  go_upto_region 1 with fail
  simp only [Nat.add_assoc, Nat.reduceAdd]
  generalize ((w.alloc (.cells #[.pointer (some ⟨p, 0, none⟩)] 43)).alloc (.cells #[.int .u32 (x : Int)] 47)).alloc (.cells #[.bool false] 4) = wB at *
  have c0 := b0H.out.cell; have c1 := b1H.out.cell
  have k0 := hSBH.out.bk.cell (j := 0) (v := .slice A n cn) rfl
  have k1 := hSBH.out.bk.cell (j := 1) (v := v) rfl
  have k2 := hSBH.out.bk.cell (j := 2) (v := .int .i64 (size : Int)) rfl
  have hpB := hSBH.out.bk.lt
  subst hv
  have ca := hSBH.out.cellL (show l < L.length by omega)
  have cf := hSBH.out.cellL (show 0 < L.length by omega)
  rw [ha] at ca
  rw [hf] at cf
  obtain ⟨m, hm⟩ : ∃ m, L.length = m := ⟨_, rfl⟩
  rw [hm] at k1
  have hml : m = l + 1 := by omega
  have hlw2 : (m : Int) - 1 = (l : Int) := by omega
  have hlw : IntKind.i64.wrap ((m : Int) - 1) = (l : Int) := by rw [hlw2]; exact IntWalk.i64_in _ (by omega)
  have hms : ((m : Int) == (size : Int)) = true := by simp; omega
  have hf0 : (0 : Int) < m := by omega
  have hlm : (l : Int) < m := by omega
  have hlm2 : l < m := by omega
  have hm0 : 0 < m := by omega
  have hmH := Lib.hid hml
  clear hml hm
  obtain ⟨ga, go, hAe, hga, hca⟩ := hSBH.out.rn.wd han
  have hyb := Nat.lt_of_lt_of_le (g.lt a) hp10
  have hbit := shr_one (ns.getD a 0) f (by omega)
  have hbitH := Lib.hid hbit
  have hEx := Lib.hid (show ∀ M : List Nat, M.length = 0 → (Ext ns f a x M ↔ (ns.getD a 0).testBit f = true) from fun M hM => by
    rw [List.length_eq_zero_iff] at hM; subst hM; exact Iff.rfl)
  obtain ⟨bt, hbt⟩ : ∃ bt, (ns.getD a 0).testBit f = bt := ⟨_, rfl⟩
  rw [hbt] at hEx hbit
  generalize ns.getD a 0 = y at *
  rw [hAe] at k0
  have hl0 : (0 : Int) ≤ l := by omega
  have scH := Lib.hid (show SC p w.heap.size n cn gl m cl size l a f y ga go x wB from ⟨c0, c1, k0, k1, k2, hpB, ca, cf, hca⟩)
  have hbx := Lib.hid hb1H.out
  clear hbt hbitH c1 k2
  go_quiet (fail)
  have sc := scH.out.drewN nq
  have b2q : Boxed (wB.drewN nq) (w.heap.size + 2) 4 (.bool false) := b2H.out
  have hSq := hSBH.out.drewN nq
  have hbq := below_drewN hb1H.out nq
  have hsq : (wB.drewN nq).heap.size = w.heap.size + 3 := hszB
  clear c0 k0 k1 hpB ca cf hca scH b0H b1H b2H hSBH hb1H hbx hszB hga
  generalize wB.drewN nq = w1 at *
  have scH := Lib.hid sc
  obtain ⟨c0, c1, k0, k1, k2, kl, ca, cf, hy⟩ := sc
  go_wp2
  go_quiet (fail)
  have sc := scH.out.drewN nq
  have b2 : Boxed (w1.drewN nq) (w.heap.size + 2) 4 (.bool false) := b2q
  have hS2 := hSq.drewN nq
  have hb2 := below_drewN hbq nq
  have hs2 : (w1.drewN nq).heap.size = w.heap.size + 3 := hsq
  clear c0 c1 k0 k1 k2 kl ca cf hy scH b2q hSq hbq hsq
  generalize w1.drewN nq = w2 at *
  obtain ⟨c0, c1, k0, k1, k2, kl, ca, cf, hy⟩ := sc
  have d0 : w2.drew.cell? ⟨w.heap.size, 0, none⟩ = _ := c0
  have d1 : w2.drew.cell? ⟨p, 0, none⟩ = _ := k0
  have d2 : w2.drew.cell? ⟨p, 1, none⟩ = _ := k1
  have d3 : w2.drew.cell? ⟨gl, 0, none⟩ = _ := cf
  have d4 : w2.drew.cell? ⟨ga, go + a, none⟩ = _ := hy
  have d5 : p < w2.drew.heap.size := kl
  have b2d : Boxed w2.drew (w.heap.size + 2) 4 (.bool false) := b2
  have e2 := b2d.cell; have f2 := b2d.frozen; have l2 := b2d.lt
  have hSd := hS2.drew
  have hbd := hb2.drew
  have han' : (a : Int) < n := by omega
  have ha0 : (0 : Int) ≤ a := by omega
  have hf32 : (f : Int) < 32 := by omega
  have hf00 : (0 : Int) ≤ f := by omega
  have hb2H := Lib.hid b2d; have hSdH := Lib.hid hSd; have hbdH := Lib.hid hbd
  clear c0 c1 k0 k1 k2 kl ca cf hy b2 hS2 hb2 hs2 b2d hSd hbd
  go_wp2
  go_still_tail 16, (by kernel_rfl)
  change wpList _ _ _ _ _ w2.drew
  have b2f := Lib.hid (hb2H.out.set (.bool bt))
  have hgs := grS w2.drew (w.heap.size + 2) 0 (.bool bt)
  have hSf := Lib.hid (hSdH.out.grown hgs (neS (by omega)) (fun b o e => neS (by have := hAlH.out b o e; omega)) (.inr (by simp [Value.ownBlock]; omega)))
  have hbf := Lib.hid (hbdH.out.grown hgs (by omega) (fun r e => by cases e; omega))
  generalize w2.drew = w3 at *
  clear hgs d0 d1 d2 d3 d4 d5
  have hs3 := l2
  go_wp2
  refine leaves_marks (B := w.heap.size + 3) (T := 0) (ds := []) trivial fun w' hb' => ⟨.bool bt, by have k6 := Boxed.cell ((hb'.block _ (by omega)).trans b2f.out); simp [results, Tryd.results15, go_sem, k6], ?_⟩
  have hbw := hbf.out.trans (hb'.mono (by omega))
  refine ⟨Gr2.of_below hbw, _, .inl rfl, ?_⟩
  cases bt
  · exact .inr ⟨rfl, fun M hM hE => Bool.noConfusion ((hEx.out M hM).1 hE), hSH.out.later hbw⟩
  · exact .inl ⟨rfl, [], rfl, (hEx.out [] rfl).2 rfl, by rw [List.append_nil]; exact hSH.out.later hbw⟩
end Go.Proofs.YtfeihakciioheaaDoor
