/- colour.Count: its closure, by induction on what is left to go. -/
import Derived.Test.YtnpgnohnpbdblaaDoorCountLaw
import Derived.Test.YtnpgnohnpbdblaaDoorLastC
namespace Go.Proofs.YtnpgnohnpbdblaaDoor
open Go.RowKit Go.Shelf
attribute [local go_sem] Oper.semAt_some

def cntV (bg bp bk bc : Nat) : Value := .func (.func 45) #[] #[.pointer (some ⟨bg, 0, none⟩), .pointer (some ⟨bp, 0, none⟩), .pointer (some ⟨bk, 0, none⟩), .pointer (some ⟨bc, 0, none⟩)]
/-- what the closure's variables hold -/
structure EV (n k p bg bp bk bc : Nat) (W : World) : Prop where
  g : W.cell? ⟨bg, 0, none⟩ = some (.int .i64 n)
  p : W.cell? ⟨bp, 0, none⟩ = some (.pointer (some ⟨p, 0, none⟩))
  k : W.cell? ⟨bk, 0, none⟩ = some (.int .i64 k)
  c : W.cell? ⟨bc, 0, none⟩ = some (cntV bg bp bk bc)
structure EVne (gl bg bp bk bc : Nat) : Prop where
  g : bg ≠ gl
  p : bp ≠ gl
  k : bk ≠ gl
  c : bc ≠ gl
theorem EV.grown {n k p bg bp bk bc gl : Nat} {W W' : World} (h : EV n k p bg bp bk bc W) (ne : EVne gl bg bp bk bc) (hg : W.grownBy W' (some gl)) : EV n k p bg bp bk bc W' :=
  ⟨hg.cell h.g (ne' ne.g), hg.cell h.p (ne' ne.p), hg.cell h.k (ne' ne.k), hg.cell h.c (ne' ne.c)⟩
theorem EV.keep {n k p bg bp bk bc : Nat} {W W' : World} {row : Option Nat} (h : EV n k p bg bp bk bc W) (hg : W.grownBy W' row) (hr : ∀ r, row = some r → r ≠ bg ∧ r ≠ bp ∧ r ≠ bk ∧ r ≠ bc) : EV n k p bg bp bk bc W' :=
  ⟨hg.cell h.g fun e => (hr _ e.symm).1 rfl, hg.cell h.p fun e => (hr _ e.symm).2.1 rfl, hg.cell h.k fun e => (hr _ e.symm).2.2.1 rfl, hg.cell h.c fun e => (hr _ e.symm).2.2.2 rfl⟩
theorem EV.lt {n k p bg bp bk bc : Nat} {W : World} (h : EV n k p bg bp bk bc W) : bg < W.heap.size ∧ bp < W.heap.size ∧ bk < W.heap.size ∧ bc < W.heap.size :=
  ⟨World.block_lt_of_cell? W _ h.g, World.block_lt_of_cell? W _ h.p, World.block_lt_of_cell? W _ h.k, World.block_lt_of_cell? W _ h.c⟩
/-- the worlds in which the colours are as they are -/
structure GW (B n : Nat) (ns : List Nat) (p ga gl : Nat) (L : Nat → Int) (w : World) where
  w' : World
  hg : w.grownBy w' (some gl)
  hP : PS B n ns p ga gl w' L
section
variable {B n : Nat} {ns : List Nat} {p ga gl : Nat} {L : Nat → Int} {w : World}
theorem GW.cell {a : Addr} {v : Value} (h : w.cell? a = some v) (hne : a.block ≠ gl) (q : GW B n ns p ga gl L w) : q.w'.cell? a = some v := q.hg.cell h (ne' hne)
end
def CntPost (B n : Nat) (ns : List Nat) (p ga gl k d i : Nat) (L : Nat → Int) (W : World) (e : Ending) (W' : World) : Prop :=
  e = .returned (.int .i64 (Cnt ns k d i L : Nat)) ∧ W.grownBy W' (some gl) ∧ PS B n ns p ga gl W' L
/-- what the loop over the colours holds -/
structure CtI (B n : Nat) (ns : List Nat) (p ga gl k u d i bg bp bk bc : Nat) (L : Nat → Int) (s t : Nat) (w : World) (pre : List Nat) (W : World) : Prop where
  b0 : Boxed W s 3 (.int .i64 i)
  b1 : Boxed W (s + 1) 3 (.int .i64 u)
  b2 : Boxed W (s + 2) 2 (.int .i64 ((pre.map (gC ns k u d i L)).sum : Nat))
  ps : PS B n ns p ga gl W L
  ev : EV n k p bg bp bk bc W
  gr : w.grownBy W (some gl)
  sz : t ≤ W.heap.size
section
variable {B n : Nat} {ns : List Nat} {p ga gl k u d i bg bp bk bc s t : Nat} {L : Nat → Int} {w : World}
theorem CtI.abides {pre : List Nat} {A C : World} {row : Option Nat} (h : CtI B n ns p ga gl k u d i bg bp bk bc L s t w pre A) (hs : w.heap.size = s) (hpl : p < s) (hal : ga < s) (hgl : gl < s) (he : bg < s ∧ bp < s ∧ bk < s ∧ bc < s) (hg : A.grownBy C row) (hr : ∀ r, row = some r → s + 3 ≤ r) :
    CtI B n ns p ga gl k u d i bg bp bk bc L s t w pre C := by
  have ne : ∀ b, b < s + 3 → some b ≠ row := fun b hb e => by have := hr b e.symm; omega
  exact ⟨h.b0.kept hg (ne _ (by omega)), h.b1.kept hg (ne _ (by omega)), h.b2.kept hg (ne _ (by omega)), h.ps.grown hg (ne _ (by omega)) (ne _ (by omega)) (ne _ (by omega)),
    h.ev.keep hg (fun r e => by have := hr r e; omega), grown_above h.gr hg (fun r e => by have := hr r e; omega), Nat.le_trans h.sz hg.size⟩
end
set_option maxHeartbeats 3200000 in
set_option maxRecDepth 100000 in
theorem count_any (B n : Nat) (ns : List Nat) (p ga gl k bg bp bk bc : Nat) (g : Gr n ns) (hk : k ≤ 12) (ne : EVne gl bg bp bk bc) (hgB : 0 < B) : ∀ (d i u : Nat), i + d = n → u ≤ i → ∀ (w : World) (L : Nat → Int), PS B n ns p ga gl w L → EV n k p bg bp bk bc w → Tb w → B ≤ w.heap.size → CPre k u i L →
    Calls Tryd.prog 45 #[.int .i64 i, .int .i64 u, .pointer (some ⟨bg, 0, none⟩), .pointer (some ⟨bp, 0, none⟩), .pointer (some ⟨bk, 0, none⟩), .pointer (some ⟨bc, 0, none⟩)] w (CntPost B n ns p ga gl k d i L w) := by
  intro d
  induction d with
  | zero =>
    intro i u hid hui w L hP hE htb hBw hpre
    obtain rfl : i = n := by omega
    have hn10 := g.n10
    have c1 := hE.g
    have hv1 := hE.lt.1
    have hb := ((Below.refl _ w).alloc (Nat.le_refl _) (.cells #[.int .i64 i] 3)).alloc (by simp) (.cells #[.int .i64 u] 3)
    have hP2 := Lib.hid (hP.later hb)
    have hbH := Lib.hid hb
    clear hP hE htb hpre hb
    go_enter Tryd.func45, Tryd.ntmps45
    go_wp2
    go_ret
    exact ⟨rfl, grown_of_below _ hbH.out, hP2.out⟩
  | succ d ih =>
    intro i u hid hui w L hP hE htb hBw hpre
    have hin : i < n := by omega
    have hn10 := g.n10
    have hb1 := (((Below.refl _ w).alloc (Nat.le_refl _) (.cells #[.int .i64 i] 3)).alloc (by simp) (.cells #[.int .i64 u] 3)).alloc (by simp; omega) (.cells #[.int .i64 0] 2)
    have hPB := hP.later hb1
    have b0 := ((Boxed.new w 3 (.int .i64 i)).alloc (.cells #[.int .i64 u] 3)).alloc (.cells #[.int .i64 0] 2)
    have b1 := (Boxed.new (w.alloc (.cells #[.int .i64 i] 3)) 3 (.int .i64 u)).alloc (.cells #[.int .i64 0] 2)
    have b2 := Boxed.new ((w.alloc (.cells #[.int .i64 i] 3)).alloc (.cells #[.int .i64 u] 3)) 2 (.int .i64 0)
    simp only [World.size_alloc, Nat.add_assoc, Nat.reduceAdd] at b1 b2
    have hplH := Lib.hid hP.lt; have hgaH := Lib.hid hP.ga_lt; have hgl := hP.gl_lt
    obtain ⟨hv1, hv2, hv3, hv4⟩ := hE.lt
    have c1 := hE.g; have c2 := hE.p; have c3 := hE.k
    have hEB := hE.keep (row := none) (World.grownBy_alloc w (.cells #[.int .i64 i] 3) none |> fun h => (World.grownBy.refl _ _ : w.grownBy w none) |> fun _ => ⟨hb1.os, hb1.tape, hb1.output, hb1.size, fun j hj _ => hb1.block j hj⟩) (fun r e => by cases e)
    have c2B := hEB.p; have c3B := hEB.k; have c4B := b0.cell; have c5B := b1.cell
    have hne : ((i : Int) == n) = false := by simp; omega
    have hu := hpre.uk
    obtain ⟨m, hm⟩ : ∃ m, min (u + 1) k = m := ⟨_, rfl⟩
    have hmk : m ≤ k := by omega
    have hmin : ((if (k : Int) < (u : Int) + 1 then (k : Int) else (u : Int) + 1)) = (m : Int) := by split <;> omega
    have hszB : (((w.alloc (.cells #[.int .i64 i] 3)).alloc (.cells #[.int .i64 u] 3)).alloc (.cells #[.int .i64 0] 2)).heap.size = w.heap.size + 3 := by simp
    have htB := htb.below (by omega) hb1
    have HM := Lib.hid (may_any B n ns p ga gl i m _ L hPB g hin (by omega) (fun j => hpre.pre.bd hk j) htB (by omega))
    have htbH := Lib.hid htb; have hpreH := Lib.hid hpre; have hPBH := Lib.hid hPB; have hEBH := Lib.hid hEB; have hb1H := Lib.hid hb1
    clear hP hE htb hpre hPB hEB hb1
    refine calls_of_wp_calm 4 Tryd.func45 rfl ?_
    simp only [Tryd.ntmps45, List.size_toArray, List.length_cons, List.length_nil, Nat.reduceAdd, Nat.reduceSub, Array.replicate_succ, Array.replicate_zero, List.push_toArray, List.append_toArray, List.nil_append, List.cons_append]
    go_wp2_with fail
    generalize ((w.alloc (.cells #[.int .i64 i] 3)).alloc (.cells #[.int .i64 u] 3)).alloc (.cells #[.int .i64 0] 2) = wB at *
    simp only [Nat.add_assoc, Nat.reduceAdd]
    refine HM.out.mono ?_
    rintro _ w1 ⟨rfl, hb1⟩
    have hs1 := hb1.size
    have hx32 : mayW ns L i m < 4294967296 := Nat.lt_of_lt_of_le (mayW_lt ns L i m) (Nat.le_trans (Nat.pow_le_pow_right (by omega) (show m ≤ 12 by omega)) (by decide))
    have hbk := Lib.hid (fun c (h : (mayW ns L i m).testBit c = true) => show c < m from lt_bit (mayW_lt ns L i m) h)
    have hsum := Lib.hid (show ((bitsL (mayW ns L i m)).map (gC ns k u d i L)).sum = Cnt ns k (d + 1) i L by rw [← hm]; exact count_sum g hk hpreH.out)
    obtain ⟨x, hxe⟩ : ∃ x, mayW ns L i m = x := ⟨_, rfl⟩
    rw [hxe] at hx32 hbk hsum
    simp only [hxe]
    clear hxe
    go_wp2_with fail
    refine (each_any x _).mono ?_
    rintro e w6 ⟨rfl, rfl⟩
    have b0w := Boxed.alloc ((hb1.block _ b0.lt).trans b0 : Boxed w1 w.heap.size _ _) (.cells #[.int .u32 (x : Int)] 29)
    have b1w := Boxed.alloc ((hb1.block _ b1.lt).trans b1 : Boxed w1 (w.heap.size + 1) _ _) (.cells #[.int .u32 (x : Int)] 29)
    have b2w := Boxed.alloc ((hb1.block _ b2.lt).trans b2 : Boxed w1 (w.heap.size + 2) _ _) (.cells #[.int .u32 (x : Int)] 29)
    have hPw := (hPBH.out.later hb1).later ((Below.refl _ w1).alloc (Nat.le_refl _) (.cells #[.int .u32 (x : Int)] 29))
    have hbw := (hb1H.out.trans (hb1.mono (by omega))).alloc (by omega) (.cells #[.int .u32 (x : Int)] 29)
    have hEw := (hEBH.out.keep (row := none) (grown_of_below none hb1) (fun r e => by cases e)).keep (row := none) (World.grownBy_alloc w1 (.cells #[.int .u32 (x : Int)] 29) none) (fun r e => by cases e)
    have bE := Boxed.new w1 29 (.int .u32 (x : Int))
    have h0I : CtI B n ns p ga gl k u d i bg bp bk bc L w.heap.size (w1.heap.size + 1) w (unA ([] : List (Bt x))) (w1.alloc (.cells #[.int .u32 (x : Int)] 29)) :=
      ⟨b0w, b1w, b2w, hPw, hEw, grown_of_below _ hbw, by simp⟩
    have htw := htbH.out.below (by omega) hbw
    have hszw : (w1.alloc (.cells #[.int .u32 (x : Int)] 29)).heap.size = w1.heap.size + 1 := by simp
    clear b0 b1 b2 b0w b1w b2w hPw hb1 hEw c1 c2 c3 c2B c3B c4B c5B htB HM
    go_wp2
    refine (wpIn_wide (n := 4)).1 ?_
    generalize w1.alloc (.cells #[.int .u32 (x : Int)] 29) = wC at *
    generalize hss : w.heap.size = s at *
    generalize hs1' : w1.heap.size = s1 at *
    have hpl := hplH.out
    have hga := hgaH.out
    refine' rangeFunc_box (n := 4) (α := Bt x) (gf := 55) (lb := #[.pointer (some ⟨s1, 0, none⟩)]) (by omega) rfl (enters_of Tryd.func55 (by kernel_rfl) rfl)
      (each_stops 3 (by omega) s1 B x hx32 wC htw hgB (by omega) bE (by omega)) (by omega) (fun h h' => KpE.trans h h') (kpE_b (by omega) (by omega)) (Below.refl _ _) (fun _ => rfl)
      (fun pre W => CtI B n ns p ga gl k u d i bg bp bk bc L s (s1 + 1) w (unA pre) W) (fun _ _ _ => False) ?hI ?hIb (fun _ _ _ _ _ h _ _ => h) (fun _ _ _ _ _ h _ _ => h) h0I _ ?assign ?body ?done (fun _ _ _ _ _ _ h _ => h.elim)
    case hI => exact fun pre A C row h hg hr => h.abides hss hpl hga hgl.2 ⟨hv1, hv2, hv3, hv4⟩ hg (fun r e => by have := hr r e; omega)
    case hIb => exact fun pre A C row h hg hr => h.abides hss hpl hga hgl.2 ⟨hv1, hv2, hv3, hv4⟩ hg (fun r e => by have := hr r e; omega)
    case assign =>
      intro l0 y W K hK
      gi_wp2
      exact hK
    case body =>
      rintro l0 pre y W hI hlen
      have hym := hbk.out y.1 y.2.2
      have hyk : y.1 < k := by omega
      have hyu : y.1 ≤ u := by omega
      have hWs := hI.gr.size
      have c0 := hI.b0.cell; have c1 := hI.b1.cell
      have p1 := hI.ps.cl; have pl := hI.ps.lt
      have e1 := hI.ev.p; have e2 := hI.ev.k; have e3 := hI.ev.c
      obtain ⟨hgl2, hcg⟩ := row_at' hI.ps.ol hin
      have hfz := hI.ps.ol.frozenAt i
      have hii : (i : Int) < n := by omega
      have hi0 : (0 : Int) ≤ i := by omega
      have hIH := Lib.hid hI
      clear hI
      have hw1 : IntKind.i64.wrap ((i : Int) + 1) = (i : Int) + 1 := IntWalk.i64_in _ (by omega)
      have hw2 : IntKind.i64.wrap ((u : Int) + 1) = (u : Int) + 1 := IntWalk.i64_in _ (by omega)
      have hw3 : IntKind.i64.wrap ((k : Int) - (u : Int)) = (k : Int) - (u : Int) := IntWalk.i64_in _ (by omega)
      have h12 : 12 ^ d ≤ 5159780352 := Nat.le_trans (Nat.pow_le_pow_right (by omega) (show d ≤ 9 by omega)) (by decide)
      have hcle := Nat.le_trans (Cnt_le (ns := ns) hk d (i + 1) (updN L i (y.1 : Int))) h12
      have hgle : ∀ c, gC ns k u d i L c ≤ 61917364224 := fun c => by
        have h1 := Nat.le_trans (Cnt_le (ns := ns) hk d (i + 1) (updN L i (c : Int))) h12
        unfold gC; split
        · exact Nat.le_trans (Nat.mul_le_mul (show k - u ≤ 12 by omega) h1) (by decide)
        · omega
      have hlen2 : (unA pre).length ≤ 32 := by
        have h1 : (bitsL x).length ≤ 32 := Nat.le_trans (List.length_filter_le _ _) (by simp)
        unfold unA; rw [List.length_map]; omega
      have hSle := sum_bd (l := unA pre) (f := gC ns k u d i L) (m := 61917364224) (fun a _ => hgle a)
      have hSle2 : ((unA pre).map (gC ns k u d i L)).sum ≤ 32 * 61917364224 := Nat.le_trans hSle (Nat.mul_le_mul_right _ hlen2)
      have hSn := Lib.hid (show ((unA (pre ++ [y])).map (gC ns k u d i L)).sum = ((unA pre).map (gC ns k u d i L)).sum + gC ns k u d i L y.1 by rw [unA_snoc, List.map_append, List.sum_append]; simp)
      have hgy := Lib.hid (show gC ns k u d i L y.1 = if y.1 = u then (k - u) * Cnt ns k d (i + 1) (updN L i (y.1 : Int)) else Cnt ns k d (i + 1) (updN L i (y.1 : Int)) from rfl)
      clear hgle hlen2 hSle
      obtain ⟨S, hS⟩ : ∃ S, ((unA pre).map (gC ns k u d i L)).sum = S := ⟨_, rfl⟩
      rw [hS] at hSn hSle2
      have hIS := Lib.hid (fun W (h : CtI B n ns p ga gl k u d i bg bp bk bc L s (s1 + 1) w (unA pre) W) => show Boxed W (s + 2) 2 (.int .i64 (S : Int)) from by have := h.b2; rwa [hS] at this)
      have c2 : W.cell? ⟨s + 2, 0, none⟩ = some (.int .i64 (S : Int)) := (hIS.out W hIH.out).cell
      clear hS
      by_cases hyeq : y.1 = u
      · have hq : ((y.1 : Int) == (u : Int)) = true := by simp; omega
        obtain ⟨Pq, hPq⟩ : ∃ Pq, (k - u) * Cnt ns k d (i + 1) (updN L i (y.1 : Int)) = Pq := ⟨_, rfl⟩
        have hPle : Pq ≤ 61917364224 := by rw [← hPq]; exact Nat.le_trans (Nat.mul_le_mul (show k - u ≤ 12 by omega) hcle) (by decide)
        have hwm : IntKind.i64.wrap (((k : Int) - (u : Int)) * ((Cnt ns k d (i + 1) (updN L i (y.1 : Int)) : Nat) : Int)) = (Pq : Int) := by
          rw [show (k : Int) - (u : Int) = ((k - u : Nat) : Int) by omega, ← hPq, ← Int.natCast_mul]
          exact IntWalk.i64_in _ (by rw [hPq]; omega)
        have hwa : IntKind.i64.wrap ((S : Int) + (Pq : Int)) = (S : Int) + (Pq : Int) := IntWalk.i64_in _ (by omega)
        have hSf := Lib.hid (show (((unA (pre ++ [y])).map (gC ns k u d i L)).sum : Int) = (S : Int) + (Pq : Int) by rw [hSn.out, hgy.out, if_pos hyeq, hPq]; simp)
        clear hPq
        have hstep := Lib.hid (show CPre k (u + 1) (i + 1) (updN L i (y.1 : Int)) by have := hpreH.out.step hyk hyu; rwa [if_pos hyeq] at this)
        have hyeqH := Lib.hid hyeq; clear hyeq
        gi_wp2
        refine region_round_lit (by kernel_rfl) rfl (by kernel_rfl) (by kernel_rfl) ?_
        dsimp only [List.dropLast]
        repeat (gi_big_quiet_step (fail))
        refine wpQuietIn_nil ?_
        rintro _ ⟨nq, rfl⟩
        gi_wp2
        have hgV := grown_trans (grown_drewN W nq (some gl)) (grown_set (W.drewN nq) gl i (.int .i64 (y.1 : Int)))
        have hPV := (hIH.out.ps.drewN nq).set i (y.1 : Int)
        generalize (W.drewN nq).setCell ⟨gl, i, none⟩ (.int .i64 (y.1 : Int)) = V at *
        have hEV := hIH.out.ev.grown ne hgV
        have b0V := hIH.out.b0.kept hgV (ne' (by omega))
        have b1V := hIH.out.b1.kept hgV (ne' (by omega))
        have b2V := (hIS.out W hIH.out).kept hgV (ne' (by omega))
        have hgrV := grown_trans hIH.out.gr hgV
        have htV := tb_grown htbH.out hgrV (by omega)
        have hszV := hgV.size
        have hcall0 := (fun (q : GW B n ns p ga gl (updN L i (y.1 : Int)) V) => ih (i + 1) (u + 1) (by omega) (by omega) q.w' (updN L i (y.1 : Int)) q.hP (hEV.grown ne q.hg) (tb_grown htV q.hg (by omega)) (by have := q.hg.size; omega) (hstep.out))
        simp only [show ((i + 1 : Nat) : Int) = (i : Int) + 1 by omega, show ((u + 1 : Nat) : Int) = (u : Int) + 1 by omega] at hcall0
        have hcall := Lib.hid hcall0
        clear hcall0
        have d0 := fun q : GW B n ns p ga gl (updN L i (y.1 : Int)) V => q.cell b0V.cell (show s ≠ gl by omega)
        have d1 := fun q : GW B n ns p ga gl (updN L i (y.1 : Int)) V => q.cell b1V.cell (show s + 1 ≠ gl by omega)
        have d2 := fun q : GW B n ns p ga gl (updN L i (y.1 : Int)) V => q.cell b2V.cell (show s + 2 ≠ gl by omega)
        have d3 := fun q : GW B n ns p ga gl (updN L i (y.1 : Int)) V => q.cell hEV.k (show bk ≠ gl from ne.k)
        have d4 := fun q : GW B n ns p ga gl (updN L i (y.1 : Int)) V => q.cell hEV.c (show bc ≠ gl from ne.c)
        unfold cntV at d4
        have hPVH := Lib.hid hPV; have hgVH := Lib.hid hgV; have hEVH := Lib.hid hEV; have b0VH := Lib.hid b0V; have b1VH := Lib.hid b1V; have b2VH := Lib.hid b2V; have hgrVH := Lib.hid hgrV
        have hC0 : (fun w' => ∃ q : GW B n ns p ga gl (updN L i (y.1 : Int)) V, w' = q.w') { V with drawn := V.drawn + 1 } := ⟨⟨_, grown_drewN V 1 _, hPV.drewN 1⟩, rfl⟩
        clear hPV hgV hEV b0V b1V b2V hgrV htV c0 c1 c2 e1 e2 e3 p1 hcg hfz
        gi_wp2
        refine region_round_c (fun w' => ∃ q : GW B n ns p ga gl (updN L i (y.1 : Int)) V, w' = q.w') (by kernel_rfl) rfl (by kernel_rfl) (by kernel_rfl) hC0 ?_
        dsimp only [List.dropLast]
        repeat (first | (gi_big_quiet_step (first | rfl | (refine (callsIn_wide.2 (hcall.out _)).mono ?_; rintro e W2 ⟨rfl, hg2, hP2⟩; exact ⟨rfl, ⟨W2, grown_trans (GW.hg _) hg2, hP2⟩, rfl⟩))) | (refine wpQuietIn_step (asked_wide _ _ _ _) (fun K hK => ?_); go_simp; first | (refine hK _ ?_; clear hK K) | (apply Exists.intro; refine ⟨fun _ => ?_, hK _ ?_⟩; (first | rfl | (refine (callsIn_wide.2 (hcall.out _)).mono ?_; rintro e W2 ⟨rfl, hg2, hP2⟩; exact ⟨rfl, ⟨W2, grown_trans (GW.hg _) hg2, hP2⟩, rfl⟩)); clear hK K)))
        refine wpQuietIn_nil ?_
        rintro W2 ⟨⟨_, hg2, hP2⟩, rfl⟩
        have hE2 := hEVH.out.grown ne hg2
        have z0 := b0VH.out.kept hg2 (ne' (by omega))
        have z1 := b1VH.out.kept hg2 (ne' (by omega))
        have z2 := b2VH.out.kept hg2 (ne' (by omega))
        have hgr2 := grown_trans hgrVH.out hg2
        have hgW2 := grown_trans hgVH.out hg2
        have cz2 := z2.cell; have fz2 := z2.frozen; have lz2 := z2.lt
        obtain ⟨xs, hxs⟩ : ∃ xs : Int, xs = ((unA (pre ++ [y])).map (gC ns k u d i L)).sum := ⟨_, rfl⟩
        rw [hSf.out] at hxs
        have hgs := grown_set W2 (s + 2) 0 (.int .i64 xs)
        have hP3 := hP2.grown hgs (ne' (by omega)) (ne' (by omega)) (ne' (by omega))
        have hE3 := hE2.keep hgs (fun r e => by cases e; omega)
        have y0 := z0.kept hgs (ne' (by omega))
        have y1 := z1.kept hgs (ne' (by omega))
        have y2 := z2.set (.int .i64 xs)
        have hszT : W.heap.size ≤ (W2.setCell ⟨s + 2, 0, none⟩ (.int .i64 xs)).heap.size := by have := hgW2.size; simpa using this
        have hgrT := grown_above hgr2 hgs (fun r e => by cases e; omega)
        have hbox : (W2.setCell ⟨s + 2, 0, none⟩ (.int .i64 xs)).heap[s1]? = W.heap[s1]? := (hgs.block s1 (by have := hgW2.size; have := hIH.out.sz; omega) (ne' (by omega))).trans (hgW2.block s1 (by have := hIH.out.sz; omega) (ne' (by omega)))
        have hbel : Below B W (W2.setCell ⟨s + 2, 0, none⟩ (.int .i64 xs)) := ((Below.refl B W).grown hgW2 (by omega) (fun k e => by cases e; omega)).grown hgs (by have := hgW2.size; omega) (fun k e => by cases e; omega)
        have hkf : KeepsFrom wC.heap.size W (W2.setCell ⟨s + 2, 0, none⟩ (.int .i64 xs)) := (KeepsFrom.of_grownBy hgW2 (fun j e => by cases e; omega)).trans (KeepsFrom.of_grownBy hgs (fun j e => by cases e; omega))
        have hxsH := Lib.hid hxs
        rw [hxs] at hgs hP3 hE3 y0 y1 y2 hszT hgrT hbox hbel hkf
        clear hxs
        have hgsH := Lib.hid hgs; have hP3H := Lib.hid hP3; have hE3H := Lib.hid hE3; have y0H := Lib.hid y0; have y1H := Lib.hid y1; have y2H := Lib.hid y2; have hgrTH := Lib.hid hgrT; have hboxH := Lib.hid hbox; have hbelH := Lib.hid hbel; have hkfH := Lib.hid hkf
        clear hgs hP3 hE3 y0 y1 y2 hgrT hbox hbel hkf z0 z1 z2 hgr2 hgW2 hE2 hg2 hP2 d0 d1 d2 d3 d4
        gi_wp2
        generalize W2.setCell ⟨s + 2, 0, none⟩ (.int .i64 ((S : Int) + (Pq : Int))) = V2 at *
        have p1 := hP3H.out.cl; have pl2 := hP3H.out.lt
        have e1 := hE3H.out.p
        have c0 := y0H.out.cell
        obtain ⟨hgl3, hcg⟩ := row_at' hP3H.out.ol hin
        have hfz := hP3H.out.ol.frozenAt i
        have hP4 := Lib.hid (fun nq => (hP3H.out.drewN nq).set i (-1))
        rw [updN_back hpreH.out.pre] at hP4
        gi_wp2
        refine region_round_lit (by kernel_rfl) rfl (by kernel_rfl) (by kernel_rfl) ?_
        dsimp only [List.dropLast]
        repeat (gi_big_quiet_step (fail))
        refine wpQuietIn_nil ?_
        rintro _ ⟨nq2, rfl⟩
        gi_wp2
        have hg3 := grown_trans (grown_drewN V2 nq2 (some gl)) (grown_set (V2.drewN nq2) gl i (.int .i64 (-1)))
        refine ⟨hkfH.out.trans (KeepsFrom.of_grownBy hg3 (fun j e => by cases e; omega)), ⟨hbelH.out.grown hg3 (by omega) (fun k e => by cases e; omega), (hg3.block s1 (by have := hIH.out.sz; omega) (ne' (by omega))).trans hboxH.out⟩,
          ⟨y0H.out.kept hg3 (ne' (by omega)), y1H.out.kept hg3 (ne' (by omega)), ?_, hP4.out nq2, hE3H.out.grown ne hg3, grown_trans hgrTH.out hg3, by have := hIH.out.sz; have := hg3.size; omega⟩⟩
        rw [hSf.out]
        exact y2H.out.kept hg3 (ne' (by omega))
      · have hq : ((y.1 : Int) == (u : Int)) = false := by simp; omega
        have hwa : IntKind.i64.wrap ((S : Int) + ((Cnt ns k d (i + 1) (updN L i (y.1 : Int)) : Nat) : Int)) = (S : Int) + ((Cnt ns k d (i + 1) (updN L i (y.1 : Int)) : Nat) : Int) := IntWalk.i64_in _ (by omega)
        have hSf := Lib.hid (show (((unA (pre ++ [y])).map (gC ns k u d i L)).sum : Int) = (S : Int) + ((Cnt ns k d (i + 1) (updN L i (y.1 : Int)) : Nat) : Int) by rw [hSn.out, hgy.out, if_neg hyeq]; simp)
        have hstep := Lib.hid (show CPre k u (i + 1) (updN L i (y.1 : Int)) by have := hpreH.out.step hyk hyu; rwa [if_neg hyeq] at this)
        have hyeqH := Lib.hid hyeq; clear hyeq
        gi_wp2
        refine region_round_lit (by kernel_rfl) rfl (by kernel_rfl) (by kernel_rfl) ?_
        dsimp only [List.dropLast]
        repeat (gi_big_quiet_step (fail))
        refine wpQuietIn_nil ?_
        rintro _ ⟨nq, rfl⟩
        gi_wp2
        have hgV := grown_trans (grown_drewN W nq (some gl)) (grown_set (W.drewN nq) gl i (.int .i64 (y.1 : Int)))
        have hPV := (hIH.out.ps.drewN nq).set i (y.1 : Int)
        generalize (W.drewN nq).setCell ⟨gl, i, none⟩ (.int .i64 (y.1 : Int)) = V at *
        have hEV := hIH.out.ev.grown ne hgV
        have b0V := hIH.out.b0.kept hgV (ne' (by omega))
        have b1V := hIH.out.b1.kept hgV (ne' (by omega))
        have b2V := (hIS.out W hIH.out).kept hgV (ne' (by omega))
        have hgrV := grown_trans hIH.out.gr hgV
        have htV := tb_grown htbH.out hgrV (by omega)
        have hszV := hgV.size
        have hcall0 := (fun (q : GW B n ns p ga gl (updN L i (y.1 : Int)) V) => ih (i + 1) u (by omega) (by omega) q.w' (updN L i (y.1 : Int)) q.hP (hEV.grown ne q.hg) (tb_grown htV q.hg (by omega)) (by have := q.hg.size; omega) (hstep.out))
        simp only [show ((i + 1 : Nat) : Int) = (i : Int) + 1 by omega] at hcall0
        have hcall := Lib.hid hcall0
        clear hcall0
        have d0 := fun q : GW B n ns p ga gl (updN L i (y.1 : Int)) V => q.cell b0V.cell (show s ≠ gl by omega)
        have d1 := fun q : GW B n ns p ga gl (updN L i (y.1 : Int)) V => q.cell b1V.cell (show s + 1 ≠ gl by omega)
        have d2 := fun q : GW B n ns p ga gl (updN L i (y.1 : Int)) V => q.cell b2V.cell (show s + 2 ≠ gl by omega)
        have d3 := fun q : GW B n ns p ga gl (updN L i (y.1 : Int)) V => q.cell hEV.k (show bk ≠ gl from ne.k)
        have d4 := fun q : GW B n ns p ga gl (updN L i (y.1 : Int)) V => q.cell hEV.c (show bc ≠ gl from ne.c)
        unfold cntV at d4
        have hPVH := Lib.hid hPV; have hgVH := Lib.hid hgV; have hEVH := Lib.hid hEV; have b0VH := Lib.hid b0V; have b1VH := Lib.hid b1V; have b2VH := Lib.hid b2V; have hgrVH := Lib.hid hgrV
        have hC0 : (fun w' => ∃ q : GW B n ns p ga gl (updN L i (y.1 : Int)) V, w' = q.w') { V with drawn := V.drawn + 1 } := ⟨⟨_, grown_drewN V 1 _, hPV.drewN 1⟩, rfl⟩
        clear hPV hgV hEV b0V b1V b2V hgrV htV c0 c1 c2 e1 e2 e3 p1 hcg hfz
        gi_wp2
        refine region_round_c (fun w' => ∃ q : GW B n ns p ga gl (updN L i (y.1 : Int)) V, w' = q.w') (by kernel_rfl) rfl (by kernel_rfl) (by kernel_rfl) hC0 ?_
        dsimp only [List.dropLast]
        repeat (first | (gi_big_quiet_step (first | rfl | (refine (callsIn_wide.2 (hcall.out _)).mono ?_; rintro e W2 ⟨rfl, hg2, hP2⟩; exact ⟨rfl, ⟨W2, grown_trans (GW.hg _) hg2, hP2⟩, rfl⟩))) | (refine wpQuietIn_step (asked_wide _ _ _ _) (fun K hK => ?_); go_simp; first | (refine hK _ ?_; clear hK K) | (apply Exists.intro; refine ⟨fun _ => ?_, hK _ ?_⟩; (first | rfl | (refine (callsIn_wide.2 (hcall.out _)).mono ?_; rintro e W2 ⟨rfl, hg2, hP2⟩; exact ⟨rfl, ⟨W2, grown_trans (GW.hg _) hg2, hP2⟩, rfl⟩)); clear hK K)))
        refine wpQuietIn_nil ?_
        rintro W2 ⟨⟨_, hg2, hP2⟩, rfl⟩
        have hE2 := hEVH.out.grown ne hg2
        have z0 := b0VH.out.kept hg2 (ne' (by omega))
        have z1 := b1VH.out.kept hg2 (ne' (by omega))
        have z2 := b2VH.out.kept hg2 (ne' (by omega))
        have hgr2 := grown_trans hgrVH.out hg2
        have hgW2 := grown_trans hgVH.out hg2
        have cz2 := z2.cell; have fz2 := z2.frozen; have lz2 := z2.lt
        obtain ⟨xs, hxs⟩ : ∃ xs : Int, xs = ((unA (pre ++ [y])).map (gC ns k u d i L)).sum := ⟨_, rfl⟩
        rw [hSf.out] at hxs
        have hgs := grown_set W2 (s + 2) 0 (.int .i64 xs)
        have hP3 := hP2.grown hgs (ne' (by omega)) (ne' (by omega)) (ne' (by omega))
        have hE3 := hE2.keep hgs (fun r e => by cases e; omega)
        have y0 := z0.kept hgs (ne' (by omega))
        have y1 := z1.kept hgs (ne' (by omega))
        have y2 := z2.set (.int .i64 xs)
        have hszT : W.heap.size ≤ (W2.setCell ⟨s + 2, 0, none⟩ (.int .i64 xs)).heap.size := by have := hgW2.size; simpa using this
        have hgrT := grown_above hgr2 hgs (fun r e => by cases e; omega)
        have hbox : (W2.setCell ⟨s + 2, 0, none⟩ (.int .i64 xs)).heap[s1]? = W.heap[s1]? := (hgs.block s1 (by have := hgW2.size; have := hIH.out.sz; omega) (ne' (by omega))).trans (hgW2.block s1 (by have := hIH.out.sz; omega) (ne' (by omega)))
        have hbel : Below B W (W2.setCell ⟨s + 2, 0, none⟩ (.int .i64 xs)) := ((Below.refl B W).grown hgW2 (by omega) (fun k e => by cases e; omega)).grown hgs (by have := hgW2.size; omega) (fun k e => by cases e; omega)
        have hkf : KeepsFrom wC.heap.size W (W2.setCell ⟨s + 2, 0, none⟩ (.int .i64 xs)) := (KeepsFrom.of_grownBy hgW2 (fun j e => by cases e; omega)).trans (KeepsFrom.of_grownBy hgs (fun j e => by cases e; omega))
        have hxsH := Lib.hid hxs
        rw [hxs] at hgs hP3 hE3 y0 y1 y2 hszT hgrT hbox hbel hkf
        clear hxs
        have hgsH := Lib.hid hgs; have hP3H := Lib.hid hP3; have hE3H := Lib.hid hE3; have y0H := Lib.hid y0; have y1H := Lib.hid y1; have y2H := Lib.hid y2; have hgrTH := Lib.hid hgrT; have hboxH := Lib.hid hbox; have hbelH := Lib.hid hbel; have hkfH := Lib.hid hkf
        clear hgs hP3 hE3 y0 y1 y2 hgrT hbox hbel hkf z0 z1 z2 hgr2 hgW2 hE2 hg2 hP2 d0 d1 d2 d3 d4
        gi_wp2
        generalize W2.setCell ⟨s + 2, 0, none⟩ (.int .i64 ((S : Int) + ((Cnt ns k d (i + 1) (updN L i (y.1 : Int)) : Nat) : Int))) = V2 at *
        have p1 := hP3H.out.cl; have pl2 := hP3H.out.lt
        have e1 := hE3H.out.p
        have c0 := y0H.out.cell
        obtain ⟨hgl3, hcg⟩ := row_at' hP3H.out.ol hin
        have hfz := hP3H.out.ol.frozenAt i
        have hP4 := Lib.hid (fun nq => (hP3H.out.drewN nq).set i (-1))
        rw [updN_back hpreH.out.pre] at hP4
        gi_wp2
        refine region_round_lit (by kernel_rfl) rfl (by kernel_rfl) (by kernel_rfl) ?_
        dsimp only [List.dropLast]
        repeat (gi_big_quiet_step (fail))
        refine wpQuietIn_nil ?_
        rintro _ ⟨nq2, rfl⟩
        gi_wp2
        have hg3 := grown_trans (grown_drewN V2 nq2 (some gl)) (grown_set (V2.drewN nq2) gl i (.int .i64 (-1)))
        refine ⟨hkfH.out.trans (KeepsFrom.of_grownBy hg3 (fun j e => by cases e; omega)), ⟨hbelH.out.grown hg3 (by omega) (fun k e => by cases e; omega), (hg3.block s1 (by have := hIH.out.sz; omega) (ne' (by omega))).trans hboxH.out⟩,
          ⟨y0H.out.kept hg3 (ne' (by omega)), y1H.out.kept hg3 (ne' (by omega)), ?_, hP4.out nq2, hE3H.out.grown ne hg3, grown_trans hgrTH.out hg3, by have := hIH.out.sz; have := hg3.size; omega⟩⟩
        rw [hSf.out]
        exact y2H.out.kept hg3 (ne' (by omega))
    case done =>
      rintro D ys W hD hys hI hK
      have hys' : unA ys = bitsL x := hys
      have hb2 := hI.b2
      rw [hys', hsum.out] at hb2
      have c2 := hb2.cell
      have hPSH := Lib.hid hI.ps; have hgrH := Lib.hid hI.gr; have hDH := Lib.hid hK
      obtain ⟨R, hR⟩ : ∃ R, Cnt ns k (d + 1) i L = R := ⟨_, rfl⟩
      have hRH := Lib.hid hR
      rw [hR] at c2
      clear hI hys hys' hK hb2 hR
      go_wp2
      refine leaves_marksJ (B := s1) (J := fun W' => PS B n ns p ga gl W' L ∧ w.grownBy W' (some gl)) (Marks.push (T := s1) (ds := []) trivial (by omega) (by omega) hDH.out) ⟨hPSH.out, hgrH.out⟩
        (fun V r o' hV _ hr => ⟨hV.1.grown (grownBy_putObj' V r o') (ne' (by omega)) (ne' (by omega)) (ne' (by omega)), grown_above hV.2 (grownBy_putObj' V r o') (fun r' e => by cases e; omega)⟩)
        fun w' hw' => ⟨.int .i64 (R : Int), by simp [results, Tryd.results45, go_sem], by rw [← hRH.out], hw'.2, hw'.1⟩
end Go.Proofs.YtnpgnohnpbdblaaDoor
