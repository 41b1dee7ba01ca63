/- pairs: right, Cover, Short. -/
import Derived.Test.YtepphkloghaihaaDoorBerLawB
import Derived.Test.YtepphkloghaihaaDoorOnes
namespace Go.Proofs.YtepphkloghaihaaDoor
open Go.RowKit Go.Shelf
attribute [local go_sem] Oper.semAt_some

def rgF (ns : List Nat) : List Nat → Nat → Nat
  | [], a => a
  | i :: l, a => rgF ns l (a ||| ns.getD i 0)
theorem rgF_snoc (ns : List Nat) : ∀ (l : List Nat) (i a : Nat), rgF ns (l ++ [i]) a = rgF ns l a ||| ns.getD i 0
  | [], _, _ => rfl
  | _ :: l, i, _ => rgF_snoc ns l i _
theorem rgF_lt {ns : List Nat} (h : ∀ i, ns.getD i 0 < 256) : ∀ (l : List Nat) (a : Nat), a < 256 → rgF ns l a < 256
  | [], _, ha => ha
  | i :: l, _, ha => rgF_lt h l _ (Nat.or_lt_two_pow (n := 8) ha (h i))
theorem rgF_bit (ns : List Nat) (j : Nat) : ∀ (l : List Nat) (a : Nat), (rgF ns l a).testBit j = (a.testBit j || l.any fun i => nbr ns i j)
  | [], _ => by simp [rgF]
  | i :: l, a => by
    rw [rgF, rgF_bit ns j l, Nat.testBit_or, List.any_cons, Bool.or_assoc]; rfl
theorem frW_bit (ns : List Nat) (m j : Nat) : ∀ k, (frW ns m k).testBit j = (List.range k).any fun i => m.testBit i && nbr ns i j
  | 0 => by simp [frW]
  | k + 1 => by
    rw [frW, List.range_succ, List.any_append, ← frW_bit ns m j k]
    cases h : m.testBit k
    · simp [h]
    · simp [h, nbr, Nat.testBit_or]
theorem lt_of_bit {m n i : Nat} (hm : m < 2 ^ n) (h : m.testBit i = true) : i < n := Nat.lt_of_not_le fun hle => by
  have := Nat.testBit_lt_two_pow (Nat.lt_of_lt_of_le hm (Nat.pow_le_pow_right (n := 2) (by omega) hle))
  rw [h] at this; cases this
theorem rg_fr {ns : List Nat} {m n : Nat} (hm : m < 2 ^ n) (hn : n ≤ 8) : rgF ns (bitsL m) 0 = frW ns m n := by
  apply Nat.eq_of_testBit_eq
  intro j
  rw [rgF_bit, frW_bit, Nat.zero_testBit, Bool.false_or, Bool.eq_iff_iff]
  simp only [List.any_eq_true, mem_bitsL, List.mem_range, Bool.and_eq_true]
  constructor
  · rintro ⟨i, ⟨_, h1⟩, h2⟩
    exact ⟨i, lt_of_bit hm h1, h1, h2⟩
  · rintro ⟨i, hi, h1, h2⟩
    exact ⟨i, ⟨by omega, h1⟩, h2⟩
theorem fr_NS {ns : List Nat} {m n : Nat} (hm : m < 2 ^ n) (hn : n ≤ 8) (j : Nat) : (frW ns m n).testBit j = NS ns m.testBit j := by
  rw [frW_bit, Bool.eq_iff_iff, NS_iff]
  simp only [List.any_eq_true, List.mem_range, Bool.and_eq_true]
  constructor
  · rintro ⟨i, hi, h1, h2⟩; exact ⟨i, by omega, h1, h2⟩
  · rintro ⟨i, _, h1, h2⟩; exact ⟨i, lt_of_bit hm h1, h1, h2⟩
set_option maxHeartbeats 3200000 in
set_option maxRecDepth 100000 in
theorem right_any (A : Option Addr) (n cap : Nat) (ns : List Nat) (x : Nat) (w : World) (hr : Rd w A n 1 (wds ns)) (hn8 : n ≤ 8) (hns : ∀ i, ns.getD i 0 < 256) (hx : x < 2 ^ n) (htb : Tb w) (hg : 0 < w.heap.size) :
    Calls Tryd.prog 23 #[.slice A n cap, .int .u32 (x : Int)] w fun e w' => e = .returned (.int .u32 (frW ns x n : Nat)) ∧ Below w.heap.size w w' := by
  have hrH := Lib.hid hr; have htbH := Lib.hid htb; have hnsH := Lib.hid hns
  have hall := Lib.hid (rg_fr (ns := ns) hx hn8)
  have hxH := Lib.hid hx
  have hz32 : x < 4294967296 := Nat.lt_of_lt_of_le hx (Nat.le_trans (Nat.pow_le_pow_right (n := 2) (by omega) hn8) (by omega))
  clear hr htb hns hx
  have hbx := Boxed.new w 22 (.slice A n cap)
  have hb1 := (Below.refl _ w).alloc (Nat.le_refl _) (.cells #[.slice A n cap] 22)
  have hb2 := hb1.alloc (by simp) (.cells #[.int .u32 0] 30)
  have bXX := hbx.alloc (.cells #[.int .u32 0] 30)
  have bWW := Boxed.new (w.alloc (.cells #[.slice A n cap] 22)) 30 (.int .u32 0)
  rw [World.size_alloc] at bWW
  have hszB : ((w.alloc (.cells #[.slice A n cap] 22)).alloc (.cells #[.int .u32 0] 30)).heap.size = w.heap.size + 2 := by simp
  refine calls_of_wp_calm 4 Tryd.func23 rfl ?_
  simp only [Tryd.ntmps23, List.size_toArray, List.length_cons, List.length_nil, Nat.reduceAdd, Nat.reduceSub, Array.replicate_succ, Array.replicate_zero, List.push_toArray, List.append_toArray, List.nil_append, List.cons_append]
  go_wp2_with fail
  refine (each_any x _).mono ?_
  rintro e w6 ⟨rfl, rfl⟩
  have bX := bXX.alloc (.cells #[.int .u32 (x : Int)] 30)
  have bW : Boxed _ (w.heap.size + 1) 30 (.int .u32 ((0 : Nat) : Int)) := bWW.alloc (.cells #[.int .u32 (x : Int)] 30)
  have bE := Boxed.new ((w.alloc (.cells #[.slice A n cap] 22)).alloc (.cells #[.int .u32 0] 30)) 30 (.int .u32 (x : Int))
  rw [hszB] at bE
  have hbB := hb2.alloc (by simp; omega) (.cells #[.int .u32 (x : Int)] 30)
  have hszC : (((w.alloc (.cells #[.slice A n cap] 22)).alloc (.cells #[.int .u32 0] 30)).alloc (.cells #[.int .u32 (x : Int)] 30)).heap.size = w.heap.size + 3 := by simp
  have htB := htbH.out.below hg hbB
  clear hbx hb1 hb2 bXX bWW hszB
  go_wp2
  refine (wpIn_wide (n := 4)).1 ?_
  generalize ((w.alloc (.cells #[.slice A n cap] 22)).alloc (.cells #[.int .u32 0] 30)).alloc (.cells #[.int .u32 (x : Int)] 30) = wB at *
  refine' rangeFunc_box (n := 4) (α := Bt x) (gf := 27) (lb := #[.pointer (some ⟨w.heap.size + 2, 0, none⟩)]) (by omega) rfl (enters_of Tryd.func27 (by kernel_rfl) rfl)
    (each_stops 3 (by omega) (w.heap.size + 2) w.heap.size x hz32 wB htB hg (by omega) bE (by omega)) (by omega) (fun h h' => KpE.trans h h') (kpE_b (by omega) (by omega)) (Below.refl _ _) (fun _ => rfl)
    (fun pre W => (Boxed W (w.heap.size + 1) 30 (.int .u32 ((rgF ns (unB pre) 0 : Nat) : Int)) ∧ Boxed W w.heap.size 22 (.slice A n cap)) ∧ Below w.heap.size w W)
    (fun _ _ _ => False) ?hI ?hIb (fun _ _ _ _ _ h _ _ => h) (fun _ _ _ _ _ h _ _ => h) ⟨⟨bW, bX⟩, hbB⟩ _ ?assign ?body ?done (fun _ _ _ _ _ _ h _ => h.elim)
  case hI => exact OwnFrom.and (OwnFrom.and (Own.from (boxed_own _ _ _) _) (Own.from (boxed_own _ _ _) _)) (ownFrom_below (Nat.le_refl _) (by omega))
  case hIb => exact Boxy.and (Boxy.and (boxed_boxy _ (by omega)) (boxed_boxy _ (by omega))) (below_boxy (Nat.le_refl _) (by omega))
  case assign =>
    intro l0 y W K hK
    gi_wp2
    exact hK
  case body =>
    rintro l0 pre y W ⟨⟨hba, hbx⟩, hb⟩ _
    obtain ⟨j, hjy⟩ : ∃ j, y.1 = j := ⟨_, rfl⟩
    have hjn : j < n := lt_of_bit hxH.out (by rw [← hjy]; exact y.2.2)
    have hsn := Lib.hid (show rgF ns (unB (pre ++ [y])) 0 = rgF ns (unB pre) 0 ||| ns.getD j 0 by rw [unB_snoc, rgF_snoc, hjy])
    simp only [hjy]
    have hcl := rgF_lt hnsH.out (unB pre) 0 (by omega)
    have hnj := hnsH.out j
    obtain ⟨b', o', rfl, hab, hc3⟩ := (hrH.out.later hb).wd hjn
    have hcA := hba.cell
    have hfA := hba.frozen
    have hcX := hbx.cell
    generalize rgF ns (unB pre) 0 = cur at *
    generalize ns.getD j 0 = z at *
    have hor : bits .or .u32 (cur : Int) (z : Int) = ((cur ||| z : Nat) : Int) := u32_or_nat cur z (by omega) (by omega)
    have hyi : (j : Int) < n := by omega
    have hy0 : (0 : Int) ≤ (j : Int) := by omega
    have hbH2 := Lib.hid hb; have hbaH := Lib.hid hba; have hbxH := Lib.hid hbx
    clear hb hba hbx
    gi_wp2
    refine region_round_lit (by kernel_rfl) rfl (by kernel_rfl) (by kernel_rfl) ?_
    dsimp only [List.dropLast]
    repeat (gi_big_quiet_step (fail))
    refine wpQuietIn_nil ?_
    rintro _ ⟨nq, rfl⟩
    gi_wp2
    have hdk : KeepsOthers W (W.drewN nq) := ⟨Nat.le_refl _, fun _ _ h _ => h⟩
    refine ⟨(hdk.trans (KeepsOthers.setCell _ _ _)).from _, ((KpE.refl _ _ W).drewN nq).set (g := w.heap.size + 1) (by omega) (by omega) _, ⟨?_, ?_⟩, (below_drewN hbH2.out nq).setCell (p := ⟨w.heap.size + 1, 0, none⟩) (by simp) _⟩
    · rw [hsn.out]
      exact Boxed.set (W := W.drewN nq) _ hbaH.out
    · exact Boxed.kept (W := W.drewN nq) hbxH.out (grownBy_setCell' _ (w.heap.size + 1) _) (by simp)
  case done =>
    rintro D ys W hD hys ⟨⟨hba, hbx⟩, hb⟩ hK
    have hys' : unB ys = bitsL x := hys
    rw [hys', hall.out] at hba
    have hcA := hba.cell
    have hbH2 := Lib.hid hb; have hKH := Lib.hid hK
    clear hb hba hbx hK hys hys' hall
    obtain ⟨mw, hmw⟩ : ∃ mw, frW ns x n = mw := ⟨_, rfl⟩
    have hmwH := Lib.hid hmw
    rw [hmw] at hcA
    clear hmw
    go_wp2
    refine leaves_marks (Marks.push (B := w.heap.size) (T := wB.heap.size) (ds := []) trivial (by omega) hD hKH.out) fun w' hb' => ⟨.int .u32 (mw : Int), by simp [results, Tryd.results23, go_sem], by rw [hmwH.out], hbH2.out.trans hb'⟩
end Go.Proofs.YtepphkloghaihaaDoor
