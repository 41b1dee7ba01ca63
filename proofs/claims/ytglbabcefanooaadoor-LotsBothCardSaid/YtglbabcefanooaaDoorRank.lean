/- lots.rank: how many of a set are free. -/
import Derived.Test.YtglbabcefanooaaDoorAdd
import Derived.Test.YtglbabcefanooaaDoorEachBits
import Derived.Test.YtglbabcefanooaaDoorCalm
import Derived.Test.YtglbabcefanooaaDoorMarks
import Derived.Test.YtglbabcefanooaaDoorLast
namespace Go.Proofs.YtglbabcefanooaaDoor
open Go.RowKit Go.Shelf Go.Maps
attribute [local go_sem] Oper.semAt_some

theorem pick_fits {ws : List Nat} {x k : Nat} (h : x < 2 ^ k) : ∀ m, pick ws x (k + m) = pick ws x k
  | 0 => rfl
  | m + 1 => by
    show (if x.testBit (k + m) then ws.getD (k + m) 0 :: pick ws x (k + m) else pick ws x (k + m)) = pick ws x k
    rw [pick_fits h m, Nat.testBit_lt_two_pow (Nat.lt_of_lt_of_le h (Nat.pow_le_pow_right (by omega) (by omega)))]
    rfl
theorem pick_bits {ws : List Nat} {x : Nat} : ∀ k, pick ws x k = (((List.range k).filter fun i => x.testBit i).map fun i => ws.getD i 0).reverse
  | 0 => rfl
  | k + 1 => by
    rw [List.range_succ, List.filter_append, List.map_append, List.reverse_append]
    show (if x.testBit k then ws.getD k 0 :: pick ws x k else pick ws x k) = _
    rw [pick_bits k]
    cases hb : x.testBit k <;> simp [hb]
theorem pick_all {ws : List Nat} {x n : Nat} (hn : n ≤ 10) (h : x < 2 ^ n) : ((bitsL x).map fun i => ws.getD i 0).reverse = pick ws x n := by
  have := pick_fits (ws := ws) h (32 - n)
  rw [show n + (32 - n) = 32 by omega] at this
  rw [← this, pick_bits]
  rfl
theorem turned_size {w w' : World} {b : Nat} (h : w.mapTurned w' b) : w'.heap.size = w.heap.size := by
  obtain ⟨es, cl, es', cl', hb, rfl⟩ := h
  exact Array.size_setIfInBounds ..
theorem lt_bitL {x n j : Nat} (h : x < 2 ^ n) (hj : x.testBit j = true) : j < n := Nat.lt_of_not_le fun hle => by
  have := Nat.testBit_lt_two_pow (Nat.lt_of_lt_of_le h (Nat.pow_le_pow_right (by omega) hle))
  rw [hj] at this; cases this
theorem turned_other {w w' : World} {b k : Nat} (h : w.mapTurned w' b) (hk : k ≠ b) : w'.heap[k]? = w.heap[k]? := by
  have hg := h.grown
  rcases Nat.lt_or_ge k w.heap.size with h1 | h1
  · exact hg.block k h1 (fun e => hk (by injection e))
  · rw [Array.getElem?_eq_none h1, Array.getElem?_eq_none (by have := turned_size h; omega)]
/-- what the base has come to -/
def RkI (n₀ bm bb b0 : Nat) (A : Option Addr) (len cap : Nat) (ns : List Nat) (w : World) (ys : List Nat) (W : World) : Prop :=
  (∃ f s, BMap W bm s f ∧ Bs f s (ys.map fun i => ns.getD i 0).reverse ∧ s ≤ ys.length) ∧ Boxed W bb 41 (.map (some bm)) ∧ Boxed W b0 22 (.slice A len cap) ∧ Below n₀ w W
set_option maxHeartbeats 3200000 in
set_option maxRecDepth 100000 in
theorem rank_any (A : Option Addr) (len cap : Nat) (ns : List Nat) (x : Nat) (w : World) (hr : Rd w A len 1 (wds ns)) (hlen : len ≤ 10) (hlt : ∀ i, ns.getD i 0 < 1024) (hx : x < 2 ^ len) (htb : Tb w) (hg : 0 < w.heap.size) :
    Calls Tryd.prog 11 #[.slice A len cap, .int .u32 x] w fun e w' => e = .returned (.int .i64 (rkS ns len x : Nat)) ∧ Below w.heap.size w w' := by
  have hrH := Lib.hid hr; have htbH := Lib.hid htb; have hltH := Lib.hid hlt
  have hx10 : x < 1024 := Nat.lt_of_lt_of_le hx (Nat.pow_le_pow_right (n := 2) (by omega) hlen)
  have hx32 : x < 4294967296 := by omega
  have hpk := Lib.hid (pick_all (ws := ns) hlen hx)
  have hyN := Lib.hid (fun y (hy : x.testBit y = true) => show y < len from lt_bitL hx hy)
  clear hr htb hlt
  refine calls_of_wp_calm 6 Tryd.func11 rfl ?_
  simp only [Tryd.ntmps11, List.size_toArray, List.length_cons, List.length_nil, Nat.reduceAdd, Nat.reduceSub, Array.replicate_succ, Array.replicate_zero, List.push_toArray, List.append_toArray, List.nil_append, List.cons_append]
  have hbx := Boxed.new w 22 (.slice A len cap)
  have hbb := (Below.refl _ w).alloc (Nat.le_refl _) (.cells #[.slice A len cap] 22)
  have hsz1 : (w.alloc (.cells #[.slice A len cap] 22)).heap.size = w.heap.size + 1 := by simp
  have hmm := @run_makeMap Tryd.prog
  go_wp2_with fail
  refine (each_any x _).mono ?_
  rintro e w6 ⟨rfl, rfl⟩
  have k0 := ((hbx.alloc (.map #[] 0)).alloc (.cells #[.map (some (w.heap.size + 1))] 41)).alloc (.cells #[.int .u32 (x : Int)] 23)
  have km := (((NMap.made (P := Tryd.prog) (k := 3) (e := 23) (q := .u32) (w.alloc (.cells #[.slice A len cap] 22))).alloc (.cells #[.map (some (w.heap.size + 1))] 41)).alloc (.cells #[.int .u32 (x : Int)] 23))
  have kb := (Boxed.new ((w.alloc (.cells #[.slice A len cap] 22)).alloc (.map #[] 0)) 41 (.map (some (w.heap.size + 1)))).alloc (.cells #[.int .u32 (x : Int)] 23)
  have ke := Boxed.new (((w.alloc (.cells #[.slice A len cap] 22)).alloc (.map #[] 0)).alloc (.cells #[.map (some (w.heap.size + 1))] 41)) 23 (.int .u32 (x : Int))
  have hbB := ((hbb.alloc (by omega) (.map #[] 0)).alloc (by simp; omega) (.cells #[.map (some (w.heap.size + 1))] 41)).alloc (by simp; omega) (.cells #[.int .u32 (x : Int)] 23)
  have hszB : ((((w.alloc (.cells #[.slice A len cap] 22)).alloc (.map #[] 0)).alloc (.cells #[.map (some (w.heap.size + 1))] 41)).alloc (.cells #[.int .u32 (x : Int)] 23)).heap.size = w.heap.size + 4 := by simp
  simp only [World.size_alloc] at km kb ke
  clear hbx hbb hsz1 hmm
  go_wp2
  refine (wpIn_wide (n := 6)).1 ?_
  generalize (((w.alloc (.cells #[.slice A len cap] 22)).alloc (.map #[] 0)).alloc (.cells #[.map (some (w.heap.size + 1))] 41)).alloc (.cells #[.int .u32 (x : Int)] 23) = wB at *
  have htB := htbH.out.below hg hbB
  generalize hb0 : w.heap.size = n₀ at *
  refine' rangeFunc_box (n := 6) (α := Bt x) (gf := 20) (lb := #[.pointer (some ⟨n₀ + 1 + 1 + 1, 0, none⟩)]) (by omega) rfl (enters_of Tryd.func20 (by kernel_rfl) rfl)
    (each_stops 5 (by omega) (n₀ + 1 + 1 + 1) n₀ x hx32 wB htB hg (by omega) ke (by omega)) (by omega) (fun h h' => KpE.trans h h') (kpE_b (by omega) (by omega)) (Below.refl _ _) (fun _ => rfl)
    (fun pre W => RkI n₀ (n₀ + 1) (n₀ + 1 + 1) n₀ A len cap ns w (pre.map (·.1)) W)
    (fun _ _ _ => False) ?hI ?hIb (fun _ _ _ _ _ h _ _ => h) (fun _ _ _ _ _ h _ _ => h) ⟨⟨_, 0, km, Bs.start, Nat.zero_le _⟩, kb, k0, hbB⟩ _ ?assign ?body ?done (fun _ _ _ _ _ _ h _ => h.elim)
  case hI =>
    rintro pre X Y row ⟨⟨f, s, h1, h2, h3⟩, h4, h5, h6⟩ hg' hr
    have hne : ∀ k, k < wB.heap.size → some k ≠ row := fun k hk e => by have := (hr k e.symm).1; omega
    exact ⟨⟨f, s, h1.kept hg' (hne _ (by omega)), h2, h3⟩, h4.kept hg' (hne _ (by omega)), h5.kept hg' (hne _ (by omega)), h6.grown hg' (by have := h6.size; omega) (fun g e => by have := (hr g e).1; omega)⟩
  case hIb =>
    rintro pre X Y row ⟨⟨f, s, h1, h2, h3⟩, h4, h5, h6⟩ hg' hr
    have hne : ∀ k, k < n₀ + 1 + 1 + 1 → some k ≠ row := fun k hk e => by have := hr k e.symm; omega
    exact ⟨⟨f, s, h1.kept hg' (hne _ (by omega)), h2, h3⟩, h4.kept hg' (hne _ (by omega)), h5.kept hg' (hne _ (by omega)), h6.grown hg' (by have := h6.size; omega) (fun g e => by have := hr g e; omega)⟩
  case assign =>
    intro l0 y W K hK
    gi_wp2
    exact hK
  case body =>
    rintro l0 pre y W ⟨⟨f, s, hm, hB, hs⟩, hbx, hb0', hb⟩ hpre
    have hjn := hyN.out y.1 y.2.2
    obtain ⟨b, o, rfl, hab, hcy⟩ := (hrH.out.later (show Below w.heap.size w W by rw [hb0]; exact hb)).wd hjn
    have hzl := hltH.out y.1
    have hcA := hbx.cell
    have hcX := hb0'.cell
    have hyi : (y.1 : Int) < len := by omega
    have hy0 : (0 : Int) ≤ (y.1 : Int) := by omega
    have hsz := hbx.lt
    have hs10 := Lib.hid (show s ≤ 1000 by
      have h2 : (bitsL x).length ≤ 32 := by unfold bitsL; exact Nat.le_trans (List.length_filter_le ..) (by simp)
      simp at hs; omega)
    have hmH := Lib.hid hm; have hBH := Lib.hid hB; have hsH := Lib.hid hs; have hbxH := Lib.hid hbx; have hb0H := Lib.hid hb0'; have hbH2 := Lib.hid hb
    clear hm hB hs hbx hb
    have hadd := Lib.hid fun nq => add_any (n₀ + 1) s (ns.getD y.1 0) f _ (W.drewN nq) (hmH.out.drewN nq) hBH.out hzl hs10.out
    have hzw := Lib.hid (show ((pre ++ [y]).map (·.1)).map (fun i => ns.getD i 0) = ((pre.map (·.1)).map (fun i => ns.getD i 0)) ++ [ns.getD y.1 0] by simp)
    generalize ns.getD y.1 0 = z at *
    gi_wp2
    refine region_round_lit (by kernel_rfl) rfl (by kernel_rfl) (by kernel_rfl) ?_
    dsimp only [List.dropLast]
    repeat (gi_big_quiet_step (fail))
    refine wpQuietIn_nil ?_
    rintro _ ⟨nq, rfl⟩
    gi_wp2
    refine ⟨trivial, (callsIn_wide.2 (hadd.out nq)).mono ?_⟩
    rintro _ w' ⟨bo, f', s', rfl, hm', hB', hs', ht⟩
    have hdr : Below n₀ W (W.drewN nq) := below_drewN (Below.refl _ _) nq
    have hgr := ht.grown
    have hsw : (W.drewN nq).heap.size = W.heap.size := rfl
    have hszb := hbH2.out.size
    have hml := hmH.out.lt
    gi_wp2
    have hr1 : ∀ j, some (n₀ + 1) = some j → n₀ ≤ j := fun j e => by injection e with e; omega
    refine ⟨((⟨Nat.le_refl _, fun _ _ h _ => h⟩ : KeepsOthers W (W.drewN nq)).from _).trans (KeepsFrom.of_grownBy hgr fun j e => by injection e with e; omega), ⟨hdr.grown hgr (by omega) hr1, (turned_other ht (by omega)).trans rfl⟩, ⟨f', s', hm', ?_, ?_⟩, ?_, ?_, ?_⟩
    · rw [hzw.out, List.reverse_append]; exact hB'
    · have := hsH.out
      simp at this ⊢; omega
    · exact Boxed.kept (W := W.drewN nq) hbxH.out hgr (by simp)
    · exact Boxed.kept (W := W.drewN nq) hb0H.out hgr (by simp)
    · exact (below_drewN hbH2.out nq).grown hgr (by omega) hr1
  case done =>
    rintro D ys W hD hys ⟨⟨f, s, hm, hB, hs⟩, hbx, hb0', hb⟩ hK
    have hys' : ys.map (·.1) = bitsL x := hys
    rw [hys'] at hB
    rw [hpk.out] at hB
    have hrk := Lib.hid (show rkS ns len x = s from hB.sz.symm)
    have hln := hm.len (t := 41) rfl 3
    have hcx := hbx.cell
    have hbH2 := Lib.hid hb
    have hmk : Marks n₀ wB.heap.size [] W := trivial
    have hKH := Lib.hid hK
    clear hb hbx hb0' hB hs hys hys' hK
    go_wp2
    have hszb := hbB.size
    refine leaves_marks (Marks.push (T := wB.heap.size) hmk (by omega) hD hKH.out) fun w' hb' => ⟨.int .i64 (s : Int), by simp [results, Tryd.results11, go_sem], by rw [hrk.out], ?_⟩
    rw [hb0]
    exact hbH2.out.trans hb'
end Go.Proofs.YtglbabcefanooaaDoor
