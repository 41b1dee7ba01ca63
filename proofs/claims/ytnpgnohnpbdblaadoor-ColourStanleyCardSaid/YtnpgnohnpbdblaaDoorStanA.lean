/- colour.apart: have some nodes no edge between them? -/
import Derived.Test.YtnpgnohnpbdblaaDoorPaintA
import Derived.Test.YtnpgnohnpbdblaaDoorBel
import Derived.Test.YtnpgnohnpbdblaaDoorStanLaw
namespace Go.Proofs.YtnpgnohnpbdblaaDoor
open Go.RowKit Go.Shelf
attribute [local go_sem] Oper.semAt_some

/-- has i no edge with one of the set x? -/
def nearNo (ns : List Nat) (x i : Nat) : Bool := ns.getD i 0 &&& x == 0
def apB (ns : List Nat) (x : Nat) : Bool := (bitsL x).all (nearNo ns x)
def ApI (At : Option Addr) (len cap x s t : Nat) (ns : List Nat) (w : World) {z : Nat} (pre : List (Bt z)) (W : World) : Prop :=
  Boxed W s 54 (.slice At len cap) ∧ Boxed W (s + 1) 29 (.int .u32 (x : Int)) ∧ Boxed W (s + 2) 4 (.bool false) ∧ Below s w W ∧ t ≤ W.heap.size ∧ (unA pre).all (nearNo ns x) = true
def ApX (x s : Nat) (ns : List Nat) (w : World) {z : Nat} (c : Code) (_ : List (Bt z)) (W : World) : Prop :=
  c = .ret ∧ Boxed W (s + 2) 4 (.bool false) ∧ Below s w W ∧ apB ns x = false
section
variable {At : Option Addr} {len cap x s t z : Nat} {ns : List Nat} {w : World}
theorem ApI.abides {pre : List (Bt z)} {A C : World} {row : Option Nat} (h : ApI At len cap x s t ns w pre A) (hst : s + 3 ≤ t) (hg : A.grownBy C row) (hr : ∀ r, row = some r → s + 3 ≤ r) : ApI At len cap x s t ns w pre C := by
  obtain ⟨h1, h2, h3, h4, h5, h6⟩ := h
  have ne : ∀ b, b < s + 3 → some b ≠ row := fun b hb e => by have := hr b e.symm; omega
  exact ⟨h1.kept hg (ne _ (by omega)), h2.kept hg (ne _ (by omega)), h3.kept hg (ne _ (by omega)), h4.grown hg (by omega) (fun r e => by have := hr r e; omega), Nat.le_trans h5 hg.size, h6⟩
theorem ApX.abides {pre : List (Bt z)} {c : Code} {A C : World} {row : Option Nat} (h : ApX x s ns w c pre A) (hg : A.grownBy C row) (hr : ∀ r, row = some r → s + 3 ≤ r) : ApX x s ns w c pre C := by
  obtain ⟨h1, h2, h3, h4⟩ := h
  have ne : ∀ b, b < s + 3 → some b ≠ row := fun b hb e => by have := hr b e.symm; omega
  exact ⟨h1, h2.kept hg (ne _ (by omega)), h3.grown hg (by have := h2.lt; omega) (fun r e => by have := hr r e; omega), h4⟩
end
set_option maxHeartbeats 3200000 in
set_option maxRecDepth 100000 in
theorem apart_any (At : Option Addr) (n cap x : Nat) (ns : List Nat) (w : World) (hr : Rd w At n 1 (wds ns)) (hn : n ≤ 10) (hx : x < 2 ^ n) (hns : ∀ i, i < n → ns.getD i 0 < 4294967296) (htb : Tb w) (hgw : 0 < w.heap.size) :
    Calls Tryd.prog 34 #[.slice At n cap, .int .u32 (x : Int)] w fun e w' => e = .returned (.bool (apB ns x)) ∧ Below w.heap.size w w' := by
  have hp10 : 2 ^ n ≤ 2 ^ 10 := Nat.pow_le_pow_right (by omega) hn
  have hb1 := (((Below.refl _ w).alloc (Nat.le_refl _) (.cells #[.slice At n cap] 54)).alloc (by simp) (.cells #[.int .u32 (x : Int)] 29)).alloc (by simp; omega) (.cells #[.bool false] 4)
  have b0 := ((Boxed.new w 54 (.slice At n cap)).alloc (.cells #[.int .u32 (x : Int)] 29)).alloc (.cells #[.bool false] 4)
  have b1 := (Boxed.new (w.alloc (.cells #[.slice At n cap] 54)) 29 (.int .u32 (x : Int))).alloc (.cells #[.bool false] 4)
  have b2 := Boxed.new ((w.alloc (.cells #[.slice At n cap] 54)).alloc (.cells #[.int .u32 (x : Int)] 29)) 4 (.bool false)
  have hsz : (((w.alloc (.cells #[.slice At n cap] 54)).alloc (.cells #[.int .u32 (x : Int)] 29)).alloc (.cells #[.bool false] 4)).heap.size = w.heap.size + 3 := by simp
  simp only [World.size_alloc, Nat.add_assoc, Nat.reduceAdd] at b1 b2
  have hrH := Lib.hid hr; have htbH := Lib.hid htb; have hnsH := Lib.hid hns
  clear hr htb hns
  refine calls_of_wp_calm 4 Tryd.func34 rfl ?_
  simp only [Tryd.ntmps34, List.size_toArray, List.length_cons, List.length_nil, Nat.reduceAdd, Nat.reduceSub, Array.replicate_succ, Array.replicate_zero, List.push_toArray, List.append_toArray, List.nil_append, List.cons_append]
  go_upto_region 1 with fail
  simp only [Nat.add_assoc, Nat.reduceAdd]
  generalize ((w.alloc (.cells #[.slice At n cap] 54)).alloc (.cells #[.int .u32 (x : Int)] 29)).alloc (.cells #[.bool false] 4) = wB at *
  have c1 := b1.cell
  have b0H := Lib.hid b0; have b1H := Lib.hid b1; have b2H := Lib.hid b2; have hb1H := Lib.hid hb1
  have hszH := Lib.hid hsz
  clear b0 b1 b2 hb1 hsz
  go_wp2_with fail
  refine (each_any x _).mono ?_
  rintro e w6 ⟨rfl, rfl⟩
  have hsz := hszH.out
  have hbw := hb1H.out.alloc (by omega) (.cells #[.int .u32 (x : Int)] 29)
  have bE := Boxed.new wB 29 (.int .u32 (x : Int))
  have h0I : ApI At n cap x w.heap.size (wB.heap.size + 1) ns w ([] : List (Bt x)) (wB.alloc (.cells #[.int .u32 (x : Int)] 29)) :=
    ⟨Boxed.alloc b0H.out _, Boxed.alloc b1H.out _, Boxed.alloc b2H.out _, hbw, by simp, rfl⟩
  have htw := htbH.out.below hgw hbw
  have hszw : (wB.alloc (.cells #[.int .u32 (x : Int)] 29)).heap.size = wB.heap.size + 1 := by simp
  clear b0H b1H b2H hb1H hsz
  go_wp2
  refine (wpIn_wide (n := 4)).1 ?_
  generalize wB.alloc (.cells #[.int .u32 (x : Int)] 29) = wC at *
  have hsz := hszH.out
  generalize hss : w.heap.size = s at *
  generalize hs1' : wB.heap.size = s1 at *
  refine' rangeFunc_box (n := 4) (α := Bt x) (gf := 55) (lb := #[.pointer (some ⟨s1, 0, none⟩)]) (by omega) rfl (enters_of Tryd.func55 (by kernel_rfl) rfl)
    (each_stops 3 (by omega) s1 s x (by omega) wC htw hgw (by omega) bE (by omega)) (by omega) (fun h h' => KpE.trans h h') (kpE_b (by omega) (by omega)) (Below.refl _ _) (fun _ => rfl)
    (ApI At n cap x s (s1 + 1) ns w) (ApX x s ns w) ?hI ?hIb ?hX ?hXb h0I _ ?assign ?body ?done ?stop
  case hI => exact fun pre A C row h hg hr => h.abides (by omega) hg (fun r e => by have := hr r e; omega)
  case hIb => exact fun pre A C row h hg hr => h.abides (by omega) hg (fun r e => by have := hr r e; omega)
  case hX => exact fun c pre A C row h hg hr => h.abides hg (fun r e => by have := hr r e; omega)
  case hXb => exact fun c pre A C row h hg hr => h.abides hg (fun r e => by have := hr r e; omega)
  case assign =>
    intro l0 y W K hK
    gi_wp2
    exact hK
  case body =>
    rintro l0 pre y W ⟨b0, b1, b2, hbW, htW0, hall⟩ _
    have hyx : x.testBit y.1 = true := y.2.2
    have hyn : y.1 < n := lt_bit hx hyx
    have hsn := unA_snoc pre y
    have hmem : y.1 ∈ bitsL x := mem_bitsL.2 ⟨by omega, hyx⟩
    obtain ⟨c, hcy⟩ : ∃ c, y.1 = c := ⟨_, rfl⟩
    rw [hcy] at hyx hyn hsn hmem
    simp only [hcy]
    clear hcy
    obtain ⟨b, o, rfl, hab, hcn⟩ := (hrH.out.later (by rw [hss]; exact hbW)).wd hyn
    have hy := hnsH.out c hyn
    have hand := u32_and_nat (ns.getD c 0) x hy (by omega)
    have hnA : nearNo ns x c = (ns.getD c 0 &&& x == 0) := rfl
    have hcI : (c : Int) < n := by omega
    have hc0 : (0 : Int) ≤ c := by omega
    generalize ns.getD c 0 &&& x = d at *
    generalize ns.getD c 0 = yy at *
    have c0 := b0.cell; have c1 := b1.cell; have c2 := b2.cell; have f2 := b2.frozen; have l2 := b2.lt
    have hbWH := Lib.hid hbW; have b0H := Lib.hid b0; have b1H := Lib.hid b1; have b2H := Lib.hid b2; have hsnH := Lib.hid hsn; have hallH := Lib.hid hall; have hmemH := Lib.hid hmem; have hnAH := Lib.hid hnA
    clear hbW b0 b1 b2 hsn hall hmem hnA
    by_cases hdp : d = 0
    · have hne : ((d : Int) != 0) = false := by simp [hdp]
      have hnA2 : nearNo ns x c = true := by rw [hnAH.out, hdp]; simp
      have hnA2H := Lib.hid hnA2
      clear hdp hnA2 hnAH
      gi_wp2
      refine region_round_lit (by kernel_rfl) rfl (by kernel_rfl) (by kernel_rfl) ?_
      dsimp only [List.dropLast]
      repeat (gi_big_quiet_step (fail))
      refine wpQuietIn_nil ?_
      rintro _ ⟨nq, rfl⟩
      gi_wp2
      have hdk : KeepsOthers W (W.drewN nq) := ⟨Nat.le_refl _, fun _ _ h _ => h⟩
      exact ⟨hdk.from _, (KpE.refl _ _ W).drewN nq, b0H.out, b1H.out, b2H.out, below_drewN hbWH.out nq, htW0, by rw [hsnH.out, List.all_append, hallH.out]; simp [hnA2H.out]⟩
    · have hne : ((d : Int) != 0) = true := by simp; omega
      have hnA2 : apB ns x = false := by
        unfold apB
        rw [List.all_eq_false]
        exact ⟨c, hmemH.out, by rw [hnAH.out]; simp [hdp]⟩
      have hnA2H := Lib.hid hnA2
      clear hdp hnA2 hnAH
      gi_wp2
      refine region_round_lit (by kernel_rfl) rfl (by kernel_rfl) (by kernel_rfl) ?_
      dsimp only [List.dropLast]
      repeat (gi_big_quiet_step (fail))
      refine wpQuietIn_nil ?_
      rintro _ ⟨nq, rfl⟩
      gi_wp2
      have hdk : KeepsOthers W (W.drewN nq) := ⟨Nat.le_refl _, fun _ _ h _ => h⟩
      have hgs := grownBy_setCell' (W.drewN nq) (s + 2) (.bool false)
      exact ⟨(hdk.trans (KeepsOthers.setCell _ _ _)).from _, rfl, Boxed.set (W := W.drewN nq) _ b2H.out, (below_drewN hbWH.out nq).grown hgs (by simp; omega) (fun r e => by cases e; omega), hnA2H.out⟩
  case done =>
    rintro D ys W hD hys ⟨b0, b1, b2, hbW, htW0, hall⟩ hK
    have hys' : unA ys = bitsL x := hys
    have hfin : apB ns x = true := by unfold apB; rw [← hys']; exact hall
    have c2 := b2.cell; have f2 := b2.frozen; have l2 := b2.lt
    have hgs := grownBy_setCell' W (s + 2) (.bool true)
    have bf := b2.set (.bool true)
    have hb2 := hbW.grown hgs (by omega) (fun r e => by cases e; omega)
    have hDl : (W.setCell ⟨s + 2, 0, none⟩ (.bool true)).heap[D]? = some (.deferred (some [])) := (hgs.block D (Array.getElem?_eq_some_iff.1 hK).1 (by simp; omega)).trans hK
    have bfH := Lib.hid bf; have hb2H := Lib.hid hb2; have hDH := Lib.hid hDl; have hfH := Lib.hid hfin
    clear b0 b1 b2 hbW hall hys hys' hgs bf hb2 hK hDl hfin
    go_wp2
    refine leaves_marksJ (B := s1) (J := fun W' => Boxed W' (s + 2) 4 (.bool true) ∧ Below s w W' ∧ s ≤ W'.heap.size) (Marks.push (T := s1) (ds := []) trivial (by omega) (by omega) hDH.out) ⟨bfH.out, hb2H.out, by have := hb2H.out.size; omega⟩
      (fun V r o' hV _ hr => ⟨hV.1.kept (grownBy_putObj' V r o') (by simp; omega), hV.2.1.grown (grownBy_putObj' V r o') hV.2.2 (fun r' e => by cases e; omega), by have := (grownBy_putObj' V r o').size; omega⟩)
      fun w' hw' => ⟨.bool true, by have k6 := hw'.1.cell; simp [results, Tryd.results34, go_sem, k6], by rw [hfH.out], by rw [← hss] at hw'; exact hw'.2.1⟩
  case stop =>
    rintro D c pre W hD _ ⟨rfl, b2, hbW, hfin⟩ hK
    have bH := Lib.hid b2; have hbH := Lib.hid hbW; have hfH := Lib.hid hfin; have hDH := Lib.hid hK
    have hsW : s ≤ W.heap.size := by have := b2.lt; omega
    clear b2 hbW hfin hK
    gi_wp2
    refine leaves_marksJ (B := s1) (J := fun W' => Boxed W' (s + 2) 4 (.bool false) ∧ Below s w W' ∧ s ≤ W'.heap.size) (Marks.push (T := s1) (ds := []) trivial (by omega) (by omega) hDH.out) ⟨bH.out, hbH.out, hsW⟩
      (fun V r o' hV _ hr => ⟨hV.1.kept (grownBy_putObj' V r o') (by simp; omega), hV.2.1.grown (grownBy_putObj' V r o') hV.2.2 (fun r' e => by cases e; omega), by have := (grownBy_putObj' V r o').size; omega⟩)
      fun w' hw' => ⟨.bool false, by have k6 := hw'.1.cell; simp [results, Tryd.results34, go_sem, k6], by rw [hfH.out], by rw [← hss] at hw'; exact hw'.2.1⟩
end Go.Proofs.YtnpgnohnpbdblaaDoor
