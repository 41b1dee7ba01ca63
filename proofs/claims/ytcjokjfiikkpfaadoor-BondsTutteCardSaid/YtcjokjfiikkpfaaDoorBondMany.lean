/- bonds: maker.many: as many edges apart as some nodes can have. -/
import Derived.Test.YtcjokjfiikkpfaaDoorBondM
import Derived.Test.YtcjokjfiikkpfaaDoorLastC
import Derived.Test.YtcjokjfiikkpfaaDoorEachBits
import Derived.StillTailTactics
import Derived.BigQuiet
namespace Go.Proofs.YtcjokjfiikkpfaaDoor
open Go.RowKit Go.Shelf Go.Maps
attribute [local go_sem] Oper.semAt_some

def del (x c : Nat) : Nat := x &&& (4294967295 - 2 ^ c)
theorem sub_bit {x c : Nat} (hx : x < 2 ^ 32) (hc : c < 32) (m : Nat) : (del x c).testBit m = (x.testBit m && !decide (c = m)) := by
  unfold del
  rw [Nat.testBit_and, show 4294967295 - 2 ^ c = 2 ^ 32 - (2 ^ c + 1) by omega, Nat.testBit_two_pow_sub_succ (Nat.pow_lt_pow_right (by omega) hc), Nat.testBit_two_pow]
  by_cases hm : m < 32
  · simp [hm]
  · have : x.testBit m = false := Nat.testBit_lt_two_pow (Nat.lt_of_lt_of_le hx (Nat.pow_le_pow_right (by omega) (by omega)))
    simp [this]
theorem IsMM.ex : ∀ (es : List (Int × Int × Int)) (P : VS), ∃ c, IsMM es P c
  | [], P => ⟨0, .nil, fun c h => by cases h; exact Nat.le_refl _⟩
  | e :: es, P => by
    obtain ⟨c1, h1⟩ := IsMM.ex es P
    by_cases hx : P (eA e) = true ∧ P (eB e) = true ∧ eA e ≠ eB e
    · obtain ⟨c2, h2⟩ := IsMM.ex es (rmv (rmv P (eA e)) (eB e))
      by_cases hle : c1 ≤ c2 + 1
      · refine ⟨c2 + 1, .take hx.1 hx.2.1 hx.2.2 h2.has, fun c h => ?_⟩
        cases h with
        | skip h => have := h1.most _ h; omega
        | take _ _ _ h => have := h2.most _ h; omega
      · refine ⟨c1, .skip h1.has, fun c h => ?_⟩
        cases h with
        | skip h => exact h1.most _ h
        | take _ _ _ h => have := h2.most _ h; omega
    · refine ⟨c1, .skip h1.has, fun c h => ?_⟩
      cases h with
      | skip h => exact h1.most _ h
      | take a b c' _ => exact absurd ⟨a, b, c'⟩ hx
def wS (x : Nat) : VS := fun k => x.testBit k
theorem rmv_del {x c : Nat} (hx : x < 2 ^ 32) (hc : c < 32) : rmv (wS x) c = wS (del x c) := by
  funext k
  unfold rmv wS
  rw [sub_bit hx hc]
  by_cases e : k = c
  · subst e; simp
  · simp [e, Ne.symm e]
theorem del_lt {x c : Nat} (hx : x < 2 ^ 32) (h : x.testBit c = true) : del x c < x := by
  have hle : del x c ≤ x := Nat.and_le_left
  have hc : c < 32 := Nat.lt_of_not_le fun hle => by
    rw [Nat.testBit_lt_two_pow (Nat.lt_of_lt_of_le hx (Nat.pow_le_pow_right (by omega) hle))] at h; cases h
  rcases Nat.lt_or_eq_of_le hle with h1 | h1
  · exact h1
  · have := sub_bit hx hc c
    rw [h1, h] at this
    simp at this
theorem bitsL_sub {x c : Nat} (hx : x < 2 ^ 32) (h : x.testBit c = true) : (c :: bitsL (del x c)).Perm (bitsL x) := by
  have hc : c < 32 := Nat.lt_of_not_le fun hle => by
    rw [Nat.testBit_lt_two_pow (Nat.lt_of_lt_of_le hx (Nat.pow_le_pow_right (by omega) hle))] at h; cases h
  refine (List.perm_ext_iff_of_nodup ?_ (bitsL_nodup x)).2 fun m => ?_
  · rw [List.nodup_cons]
    refine ⟨fun hm => ?_, bitsL_nodup _⟩
    have := (mem_bitsL.1 hm).2
    rw [sub_bit hx hc] at this
    simp at this
  · rw [List.mem_cons, mem_bitsL, mem_bitsL, sub_bit hx hc]
    constructor
    · rintro (rfl | ⟨h1, h2⟩)
      · exact ⟨hc, h⟩
      · simp at h2; exact ⟨h1, h2.1⟩
    · rintro ⟨h1, h2⟩
      by_cases e : m = c
      · exact .inl e
      · exact .inr ⟨h1, by simp [h2]; omega⟩
theorem or_back {x c : Nat} (hx : x < 2 ^ 32) (h : x.testBit c = true) : del x c ||| 2 ^ c = x := by
  have hc : c < 32 := Nat.lt_of_not_le fun hle => by
    rw [Nat.testBit_lt_two_pow (Nat.lt_of_lt_of_le hx (Nat.pow_le_pow_right (by omega) hle))] at h; cases h
  refine Nat.eq_of_testBit_eq fun k => ?_
  rw [Nat.testBit_or, sub_bit hx hc, Nat.testBit_two_pow]
  by_cases e : c = k
  · subst e; simp [h]
  · simp [e]
def ManyPost (es : List (Int × Int × Int)) (ns : List Nat) (n p B cn : Nat) (A : Option Addr) (f : Nat → Option Int) (x m : Nat) (w : World) (e : Ending) (w' : World) : Prop :=
  e = .returned (.int .i64 (m : Int)) ∧ w.grownBy w' (some B) ∧ ∃ f' : Nat → Option Int, BK es ns n p B cn A w' f' ∧ ∀ k, x < k → f k = none → f' k = none
theorem grown_trans {a b c : World} {r : Option Nat} (h : a.grownBy b r) (h' : b.grownBy c r) : a.grownBy c r :=
  ⟨h'.os.trans h.os, h'.tape.trans h.tape, h'.output.trans h.output, Nat.le_trans h.size h'.size, fun k hk hr => (h'.block k (Nat.lt_of_lt_of_le hk h.size) hr).trans (h.block k hk hr)⟩
theorem grown_of_below {a b : World} (r : Option Nat) (h : Below a.heap.size a b) : a.grownBy b r := ⟨h.os, h.tape, h.output, h.size, fun k hk _ => h.block k hk⟩
theorem grown_drewN (a : World) (k : Nat) (r : Option Nat) : a.grownBy (a.drewN k) r := ⟨rfl, rfl, rfl, Nat.le_refl _, fun _ _ _ => rfl⟩
theorem grown_set (a : World) (g i : Nat) (v : Value) : a.grownBy (a.setCell ⟨g, i, none⟩ v) (some g) :=
  ⟨rfl, rfl, rfl, by simp, fun k _ hk => heap_setCell_other a ⟨g, i, none⟩ k v (fun e => hk (by simp [e]))⟩
theorem grown_above {w A C : World} {B : Nat} {row : Option Nat} (h : w.grownBy A (some B)) (hg : A.grownBy C row) (hr : ∀ r, row = some r → w.heap.size ≤ r) : w.grownBy C (some B) :=
  ⟨hg.os.trans h.os, hg.tape.trans h.tape, hg.output.trans h.output, Nat.le_trans h.size hg.size, fun k hk hne => (hg.block k (Nat.lt_of_lt_of_le hk h.size) (fun e => by have := hr k e.symm; omega)).trans (h.block k hk hne)⟩
theorem tb_grown {w w' : World} {r : Nat} (h : Tb w) (hg : w.grownBy w' (some r)) (hr : 0 < r) : Tb w' := fun j hj => by
  have := h j hj
  exact hg.cell this (fun e => by simp at e; omega)
theorem ne' {a b : Nat} (h : a ≠ b) : some a ≠ some b := fun e => h (by simpa using e)
def unA {x : Nat} (l : List (Bt x)) : List Nat := l.map (·.1)
theorem unA_snoc {x : Nat} (l : List (Bt x)) (y : Bt x) : unA (l ++ [y]) = unA l ++ [y.1] := by simp [unA]
/-- what the loop over the next ones holds -/
structure MI (es : List (Int × Int × Int)) (ns : List Nat) (n p B cn : Nat) (A : Option Addr) (f : Nat → Option Int) (x x1 i s q t : Nat) (w : World) {z : Nat} (pre : List (Bt z)) (W : World) : Prop where
  b0 : Boxed W s 39 (.pointer (some ⟨p, 0, none⟩))
  b1 : Boxed W (s + 1) 26 (.int .u32 (x1 : Int))
  b2 : ∃ cur : Nat, Boxed W q 3 (.int .i64 (cur : Int)) ∧ MxS es (wS x) i (unA pre) cur
  g : w.grownBy W (some B)
  sz : t ≤ W.heap.size
  st : ∃ f' : Nat → Option Int, BK es ns n p B cn A W f' ∧ ∀ k, x1 < k → f k = none → f' k = none
theorem MI.abides {es : List (Int × Int × Int)} {ns : List Nat} {n p B cn x x1 i s q t z : Nat} {A : Option Addr} {f : Nat → Option Int} {w : World} {pre : List (Bt z)} {X C : World} {row : Option Nat} (h : MI es ns n p B cn A f x x1 i s q t w pre X) (hs : w.heap.size = s) (hsq : s + 2 ≤ q) (hp : p < s) (hB : B < s) (hA : ∀ b o, A = some ⟨b, o, none⟩ → b < s) (hg : X.grownBy C row) (hr : ∀ r, row = some r → q + 1 ≤ r) : MI es ns n p B cn A f x x1 i s q t w pre C := by
  have ne : ∀ b, b < q + 1 → some b ≠ row := fun b hb e => by have := hr b e.symm; omega
  obtain ⟨f', h1, h2⟩ := h.st
  obtain ⟨cur, h3, h4⟩ := h.b2
  exact ⟨h.b0.kept hg (ne _ (by omega)), h.b1.kept hg (ne _ (by omega)), ⟨cur, h3.kept hg (ne _ (by omega)), h4⟩, grown_above h.g hg (fun r e => by have := hr r e; omega), Nat.le_trans h.sz hg.size, ⟨f', h1.grown hg (ne _ (by omega)) (fun b o e => ne _ (by have := hA b o e; omega)) (ne _ (by omega)), h2⟩⟩
/-- the worlds that a round's region goes through -/
structure MwB (es : List (Int × Int × Int)) (ns : List Nat) (n p B cn : Nat) (A : Option Addr) (f : Nat → Option Int) (x1 : Nat) (W : World) where
  w' : World
  hg : W.grownBy w' (some B)
  st : ∃ f' : Nat → Option Int, BK es ns n p B cn A w' f' ∧ ∀ k, x1 < k → f k = none → f' k = none
theorem MwB.cell {es : List (Int × Int × Int)} {ns : List Nat} {n p B cn x1 : Nat} {A : Option Addr} {f : Nat → Option Int} {W : World} {a : Addr} {v : Value} (h : W.cell? a = some v) (hne : a.block ≠ B) (q : MwB es ns n p B cn A f x1 W) : q.w'.cell? a = some v := q.hg.cell h (ne' hne)
set_option maxHeartbeats 3200000 in
set_option maxRecDepth 100000 in
set_option linter.unusedSimpArgs false in
theorem many_any (es : List (Int × Int × Int)) (ns : List Nat) (n p B cn : Nat) (A : Option Addr) (g : Gr n ns) (hadj : ∀ i j, nb ns i j = true ↔ EdgeOf es i j) (hlen : es.length ≤ 1000) (hgB : 0 < B) : ∀ (x : Nat), x < 2 ^ n → ∀ (f : Nat → Option Int) (w : World) (m : Nat), BK es ns n p B cn A w f → Tb w → IsMM es (wS x) m →
    Calls Tryd.prog 14 #[.pointer (some ⟨p, 0, none⟩), .int .u32 (x : Int)] w (ManyPost es ns n p B cn A f x m w) := by
  have hn10 := g.n10
  have hp10 : 2 ^ n ≤ 2 ^ 10 := Nat.pow_le_pow_right (by omega) hn10
  intro x
  induction x using Nat.strongRecOn with
  | _ x ih =>
    intro hx f w m hS htb hm
    have hx32 : x < 2 ^ 32 := by omega
    have hb1 := (((Below.refl _ w).alloc (Nat.le_refl _) (.cells #[.pointer (some ⟨p, 0, none⟩)] 39)).alloc (by simp) (.cells #[.int .u32 (x : Int)] 26))
    have hSB := hS.later hb1
    have b0 := (Boxed.new w 39 (.pointer (some ⟨p, 0, none⟩))).alloc (.cells #[.int .u32 (x : Int)] 26)
    have b1 := Boxed.new (w.alloc (.cells #[.pointer (some ⟨p, 0, none⟩)] 39)) 26 (.int .u32 (x : Int))
    simp only [World.size_alloc] at b1
    have hsz : ((w.alloc (.cells #[.pointer (some ⟨p, 0, none⟩)] 39)).alloc (.cells #[.int .u32 (x : Int)] 26)).heap.size = w.heap.size + 2 := by simp
    have hpl := hS.bk.lt
    have hBl := hS.mp.lt
    have hAl : ∀ b o, A = some ⟨b, o, none⟩ → 0 < n → b < w.heap.size := fun b o e h0 => by
      obtain ⟨b', o', e', hlt, _⟩ := hS.rn.2 (by omega)
      rw [e] at e'; cases e'; exact hlt
    have hSH := Lib.hid hS; have htbH := Lib.hid htb; have hAlH := Lib.hid hAl; have hmH := Lib.hid hm
    clear hS htb hAl hm
    refine calls_of_wp_calm 4 Tryd.func14 rfl ?_
    simp only [Tryd.ntmps14, List.size_toArray, List.length_cons, List.length_nil, Nat.reduceAdd, Nat.reduceSub, Array.replicate_succ, Array.replicate_zero, List.push_toArray, List.append_toArray, List.nil_append, List.cons_append]
    go_upto_region 1 with fail
    generalize (w.alloc (.cells #[.pointer (some ⟨p, 0, none⟩)] 39)).alloc (.cells #[.int .u32 (x : Int)] 26) = wB at *
    have c0 := b0.cell; have c1 := b1.cell
    have hb1H := Lib.hid hb1; have b0H := Lib.hid b0; have b1H := Lib.hid b1; have hSBH := Lib.hid hSB
    clear hb1 b0 b1 hSB
    by_cases hx0 : x = 0
    · subst hx0
      have hm0 : m = 0 := hmH.out.same (IsMM.none fun k => Nat.zero_testBit k)
      subst hm0
      have c1' : wB.cell? ⟨w.heap.size + 1, 0, none⟩ = some (.int .u32 0) := c1
      go_wp2
      refine leaves_marks (B := w.heap.size + 2) (T := 0) (ds := []) trivial fun w' hb' => ⟨.int .i64 0, by simp [results, Tryd.results14, go_sem], ?_⟩
      have hbw := hb1H.out.trans (hb'.mono (by omega))
      exact ⟨rfl, grown_of_below _ hbw, f, hSH.out.later hbw, fun _ _ h => h⟩
    · have hx0b : ((x : Int) == 0) = false := by simp; omega
      have k1 := hSBH.out.bk.cell (j := 1) (v := .map (some B)) rfl
      have hpB := hSBH.out.bk.lt
      have hlk := fun k => MMap.look (w := wB.drewN k) (hSBH.out.drewN k).mp (show x < 1024 by omega)
      cases hf : f x with
      | some c =>
        rw [hf] at hlk
        obtain ⟨m', rfl, hm'⟩ := hSBH.out.ok x c hf
        obtain rfl : m = m' := hmH.out.same hm'
        simp only [Option.getD_some, Option.isSome_some] at hlk
        go_wp2
        go_quiet (fail)
        have hbq := below_drewN hb1H.out nq
        clear hlk k1 c0 c1
        go_wp2
        refine leaves_marks (B := w.heap.size + 2) (T := 0) (ds := []) trivial fun w' hb' => ⟨.int .i64 (m : Int), by simp [results, Tryd.results14, go_sem], ?_⟩
        have hbw := hbq.trans (hb'.mono (by omega))
        exact ⟨rfl, grown_of_below _ hbw, f, hSH.out.later hbw, fun _ _ h => h⟩
      | none =>
        rw [hf] at hlk
        simp only [Option.getD_none, Option.isSome_none] at hlk
        go_wp2
        go_quiet (fail)
        have b0q : Boxed (wB.drewN nq) w.heap.size 39 (.pointer (some ⟨p, 0, none⟩)) := b0H.out
        have b1q : Boxed (wB.drewN nq) (w.heap.size + 1) 26 (.int .u32 (x : Int)) := b1H.out
        have hbq := below_drewN hb1H.out nq
        have hSq := hSBH.out.drewN nq
        have hsq : (wB.drewN nq).heap.size = w.heap.size + 2 := hsz
        have htq := htbH.out.below (by omega) hbq
        generalize wB.drewN nq = wq at *
        clear hlk k1 c0 c1 b0H b1H hb1H hSBH hsz
        obtain ⟨hlow, _, _⟩ := low_bits x hx0 (by omega)
        have HT := Lib.hid (tz_any x (by omega) hx0 wq htq)
        obtain ⟨i, hi⟩ : ∃ i, Lib.ctz 32 x = i := ⟨_, rfl⟩
        rw [hi] at hlow HT
        clear hi
        have c1 := b1q.cell
        go_wp2_with fail
        refine HT.out.mono ?_
        rintro _ _ ⟨rfl, rfl⟩
        have hin : i < n := Nat.lt_of_not_le fun hle => by
          rw [Nat.testBit_lt_two_pow (Nat.lt_of_lt_of_le hx (Nat.pow_le_pow_right (by omega) hle))] at hlow; cases hlow
        have hpw : IntKind.u32.wrap ((2 : Int) ^ i) = ((2 ^ i : Nat) : Int) := by rw [IntKind.wrap_u32']; exact two_pow_u32 i (by omega)
        have hpc : 2 ^ i < 2 ^ 32 := Nat.pow_lt_pow_right (by omega) (by omega)
        have hdw : bits .andNot .u32 (x : Int) ((2 ^ i : Nat) : Int) = ((del x i : Nat) : Int) := u32_andNot_nat x (2 ^ i) (by omega) (by omega)
        have hdw2 : bits .andNot .u32 (x : Int) ((2 : Int) ^ i) = ((del x i : Nat) : Int) := by rw [show ((2 : Int) ^ i) = ((2 ^ i : Nat) : Int) by simp]; exact hdw
        have hdl := del_lt hx32 hlow
        have hrd := rmv_del hx32 (show i < 32 by omega)
        have hob := Lib.hid (or_back hx32 hlow)
        obtain ⟨x1, hx1⟩ : ∃ x1, del x i = x1 := ⟨_, rfl⟩
        rw [hx1] at hdw hdw2 hdl hrd hob
        have hx1H := Lib.hid hx1
        have hrdH := Lib.hid hrd
        clear hx1 hrd HT
        have hi32 : (i : Int) < 32 := by omega
        have hi0 : (0 : Int) ≤ i := by omega
        have f1 := b1q.frozen
        have lq := b1q.lt
        have hgs := grown_set wq (w.heap.size + 1) 0 (.int .u32 (x1 : Int))
        have hAn := fun b o e => hAlH.out b o e (show 0 < n by omega)
        have b02' := b0q.kept hgs (ne' (show w.heap.size ≠ w.heap.size + 1 by omega))
        have b02 : Boxed (wq.setCell ⟨w.heap.size + 1, 0, none⟩ (.int .u32 (x1 : Int))).drew w.heap.size 39 (.pointer (some ⟨p, 0, none⟩)) := b02'
        have b12 : Boxed (wq.setCell ⟨w.heap.size + 1, 0, none⟩ (.int .u32 (x1 : Int))).drew (w.heap.size + 1) 26 (.int .u32 (x1 : Int)) := b1q.set _
        have hS2 := (hSq.grown hgs (ne' (by omega)) (fun b o e => ne' (by have := hAn b o e; omega)) (ne' (by omega))).drew
        have hb2 := (hbq.setCell (p := ⟨w.heap.size + 1, 0, none⟩) (by simp) (.int .u32 (x1 : Int))).drew
        have hs2 : (wq.setCell ⟨w.heap.size + 1, 0, none⟩ (.int .u32 (x1 : Int))).drew.heap.size = w.heap.size + 2 := by simp [hsq]
        clear hgs b02'
        go_wp2
        go_region
        generalize (wq.setCell ⟨w.heap.size + 1, 0, none⟩ (.int .u32 (x1 : Int))).drew = w2 at *
        have d0 := b02.cell; have d1 := b12.cell
        obtain ⟨m1, hm1⟩ := IsMM.ex es (wS x1)
        have HR := Lib.hid (ih x1 hdl (by omega) f w2 m1 hS2 (htbH.out.below (by omega) hb2) hm1)
        have hm1H := Lib.hid hm1
        have b02H := Lib.hid b02; have b12H := Lib.hid b12; have hS2H := Lib.hid hS2; have hb2H := Lib.hid hb2
        clear b02 b12 hS2 hb2 b0q b1q hbq hSq hsq htq c1 f1 lq hm1
        go_wp2_with fail
        refine HR.out.mono ?_
        rintro _ w3 ⟨rfl, hg3, f3, hS3, hf3⟩
        clear HR
        have hs3 := hg3.size
        have hs2 := hs2
        have b03 := (b02H.out.kept hg3 (ne' (by omega)))
        have b13 := (b12H.out.kept hg3 (ne' (by omega)))
        have hgw3 := grown_trans (grown_of_below _ hb2H.out) hg3
        have bn := Boxed.new w3 3 (.int .i64 (m1 : Int))
        have lnn := (Boxed.new w3 3 (.int .i64 0)).lt; have fnn := (Boxed.new w3 3 (.int .i64 0)).frozen
        have b03n := b03.alloc (.cells #[.int .i64 (m1 : Int)] 3)
        have b13n := b13.alloc (.cells #[.int .i64 (m1 : Int)] 3)
        have hgn := grown_above hgw3 (World.grownBy_alloc w3 (.cells #[.int .i64 (m1 : Int)] 3) none) (fun r e => by cases e)
        have hSn := hS3.later ((Below.refl _ w3).alloc (Nat.le_refl _) (.cells #[.int .i64 (m1 : Int)] 3))
        have hszn : (w3.alloc (.cells #[.int .i64 (m1 : Int)] 3)).heap.size = w3.heap.size + 1 := by simp
        have b0H := Lib.hid b03n; have b1H := Lib.hid b13n; have hgnH := Lib.hid hgn; have bnH := Lib.hid bn; have hSnH := Lib.hid hSn; have hf3H := Lib.hid hf3; have hsznH := Lib.hid hszn
        clear b03 b13 hgw3 bn hS3 hf3 hg3 b02H b12H hS2H hb2H d0 d1 b03n b13n hgn hSn hszn
        go_upto_region 9 with fail
        clear lnn fnn
        generalize w3.alloc (.cells #[.int .i64 (m1 : Int)] 3) = wn at *
        have hyb := Nat.lt_of_lt_of_le (g.lt i) hp10
        have hzA := Lib.hid (fun j (h : (ns.getD i 0 &&& x1).testBit j = true) => show nb ns i j = true ∧ x1.testBit j = true by rw [Nat.testBit_and, Bool.and_eq_true] at h; exact h)
        have hzB := Lib.hid (fun j (h1 : nb ns i j = true) (h2 : x1.testBit j = true) => show (ns.getD i 0 &&& x1).testBit j = true by rw [Nat.testBit_and, Bool.and_eq_true]; exact ⟨h1, h2⟩)
        obtain ⟨ga, go, hAe, hga, hca⟩ := hSnH.out.rn.wd hin
        generalize ns.getD i 0 = y at *
        have hx1l : x1 < 2 ^ 10 := by omega
        have hand := u32_and_nat y x1 (by omega) (by omega)
        have hzx : y &&& x1 ≤ x1 := Nat.and_le_right
        obtain ⟨z, hze⟩ : ∃ z, y &&& x1 = z := ⟨_, rfl⟩
        rw [hze] at hand hzx hzA hzB
        clear hze
        have c0 : wn.drew.cell? ⟨w.heap.size, 0, none⟩ = some (.pointer (some ⟨p, 0, none⟩)) := b0H.out.cell
        have c1 : wn.drew.cell? ⟨w.heap.size + 1, 0, none⟩ = some (.int .u32 (x1 : Int)) := b1H.out.cell
        have k0' := hSnH.out.bk.cell (j := 0) rfl
        rw [hAe] at k0'
        have k0 : wn.drew.cell? ⟨p, 0, none⟩ = some (.slice (some ⟨ga, go, none⟩) n cn) := k0'
        have ka : wn.drew.cell? ⟨ga, go + i, none⟩ = some (.int .u32 (y : Int)) := hca
        have hpn := hSnH.out.bk.lt
        have h0i : (0 : Int) ≤ i := by omega
        have hin' : (i : Int) < n := by omega
        clear k0' hca
        go_still_tail 9, (by kernel_rfl)
        change wpList _ _ _ _ _ wn.drew
        have b0d : Boxed wn.drew w.heap.size 39 (.pointer (some ⟨p, 0, none⟩)) := b0H.out
        have b1d : Boxed wn.drew (w.heap.size + 1) 26 (.int .u32 (x1 : Int)) := b1H.out
        have bnd : Boxed wn.drew w3.heap.size 3 (.int .i64 (m1 : Int)) := bnH.out
        have hgd : w.grownBy wn.drew (some B) := grown_trans hgnH.out (grown_drewN wn 1 _)
        have hSd := hSnH.out.drew
        have hsd : wn.drew.heap.size = w3.heap.size + 1 := hsznH.out
        clear b0H b1H bnH hgnH hSnH hsznH c0 c1 k0 ka hpn
        generalize wn.drew = wd at *
        have hsdH := Lib.hid hsd
        clear hsd
        go_wp2_with fail
        refine (each_any z wd).mono ?_
        rintro e w6 ⟨rfl, rfl⟩
        have hsd := hsdH.out
        have hgd' := hgd.size
        have bE := Boxed.new wd 26 (.int .u32 (z : Int))
        rw [hsd] at bE
        have hszC : (wd.alloc (.cells #[.int .u32 (z : Int)] 26)).heap.size = w3.heap.size + 2 := by simp [hsd]
        have hgC := grown_above hgd (World.grownBy_alloc wd (.cells #[.int .u32 (z : Int)] 26) none) (fun r e => by cases e)
        have h0I : MI es ns n p B cn A f x x1 i w.heap.size w3.heap.size (w3.heap.size + 2) w ([] : List (Bt z)) (wd.alloc (.cells #[.int .u32 (z : Int)] 26)) :=
          ⟨b0d.alloc _, b1d.alloc _, ⟨m1, bnd.alloc _, MxS.start (by rw [hrdH.out]; exact hm1H.out)⟩, hgC, by omega, ⟨f3, hSd.later ((Below.refl _ wd).alloc (Nat.le_refl _) _), hf3H.out⟩⟩
        have htC := tb_grown htbH.out hgC hgB
        have hz32 : z < 4294967296 := by omega
        clear b0d b1d bnd hgd hSd hand hgC
        go_wp2
        refine (wpIn_wide (n := 4)).1 ?_
        generalize wd.alloc (.cells #[.int .u32 (z : Int)] 26) = wC2 at *
        generalize hss : w.heap.size = s at *
        generalize hqq : w3.heap.size = q at *
        have hAs := hAn
        have hsq : s + 2 ≤ q := by omega
        refine' rangeFunc_box (n := 4) (α := Bt z) (gf := 29) (lb := #[.pointer (some ⟨q + 1, 0, none⟩)]) (by omega) rfl (enters_of Tryd.func29 (by kernel_rfl) rfl)
          (each_stops 3 (by omega) (q + 1) B z hz32 wC2 htC hgB (by omega) bE (by omega)) (by omega) (fun h h' => KpE.trans h h') (kpE_b (by omega) (by omega)) (Below.refl _ _) (fun _ => rfl)
          (MI es ns n p B cn A f x x1 i s q (q + 2) w) (fun _ _ _ => False) ?hI ?hIb (fun _ _ _ _ _ h _ _ => h) (fun _ _ _ _ _ h _ _ => h) h0I _ ?assign ?body ?done (fun _ _ _ _ _ _ h _ => h.elim)
        case hI => exact fun pre A C row h hg hr => h.abides hss hsq hpl hBl hAs hg (fun r e => by have := hr r e; omega)
        case hIb => exact fun pre A C row h hg hr => h.abides hss hsq hpl hBl hAs hg (fun r e => by have := hr r e; omega)
        case assign =>
          intro l0 y W K hK
          gi_wp2
          exact hK
        case body =>
          rintro l0 pre yy W hI _
          obtain ⟨j, hjy⟩ : ∃ j, yy.1 = j := ⟨_, rfl⟩
          have hjz : z.testBit j = true := by rw [← hjy]; exact yy.2.2
          have hsn := Lib.hid (show unA (pre ++ [yy]) = unA pre ++ [j] by rw [unA_snoc, hjy])
          simp only [hjy]
          obtain ⟨hjn, hjx⟩ := hzA.out j hjz
          have hj32 : j < 32 := Nat.lt_of_not_le fun hle => by
            rw [Nat.testBit_lt_two_pow (Nat.lt_of_lt_of_le hx1l (Nat.pow_le_pow_right (by omega) (show 10 ≤ j by omega)))] at hjx; cases hjx
          have hjpw : IntKind.u32.wrap ((2 : Int) ^ j) = ((2 ^ j : Nat) : Int) := by rw [IntKind.wrap_u32']; exact two_pow_u32 j (by omega)
          have hjpc : 2 ^ j < 2 ^ 32 := Nat.pow_lt_pow_right (by omega) (by omega)
          have hjw : bits .andNot .u32 (x1 : Int) ((2 ^ j : Nat) : Int) = ((del x1 j : Nat) : Int) := u32_andNot_nat x1 (2 ^ j) (by omega) (by omega)
          have hjw2 : bits .andNot .u32 (x1 : Int) ((2 : Int) ^ j) = ((del x1 j : Nat) : Int) := by rw [show ((2 : Int) ^ j) = ((2 ^ j : Nat) : Int) by simp]; exact hjw
          have hjl := del_lt (show x1 < 2 ^ 32 by omega) hjx
          have hjr := rmv_del (show x1 < 2 ^ 32 by omega) hj32
          have hxi : x1.testBit i = false := by rw [← hx1H.out, sub_bit hx32 (by omega)]; simp
          have hji : j ≠ i := fun e => by rw [e, hxi] at hjx; cases hjx
          have hxj : x.testBit j = true := by
            have h1 := hjx; rw [← hx1H.out, sub_bit hx32 (by omega)] at h1
            simp at h1; exact h1.1
          obtain ⟨x2, hx2⟩ : ∃ x2, del x1 j = x2 := ⟨_, rfl⟩
          rw [hx2] at hjw hjw2 hjl hjr
          obtain ⟨mc, hmc⟩ := IsMM.ex es (wS x2)
          have hmcl := hmc.has.small
          obtain ⟨cur, hbq, hMx⟩ := hI.b2
          have hcl := hMx.has.small
          have hMn := Lib.hid (hMx.next (j := j) (c := mc) hlow hxj hji ((hadj i j).1 hjn) (by rw [hrdH.out, hjr]; exact hmc))
          have hmx : (if (cur : Int) < 1 + (mc : Int) then 1 + (mc : Int) else (cur : Int)) = ((max cur (1 + mc) : Nat) : Int) := by split <;> omega
          have hw1 : IntKind.i64.wrap (1 + (mc : Int)) = 1 + (mc : Int) := IntWalk.i64_in _ (by omega)
          have hWs := hI.g.size
          have hIH := Lib.hid hI
          have hsW := hI.sz
          have htW := tb_grown htbH.out hI.g hgB
          have hcall := Lib.hid (fun (qq : MwB es ns n p B cn A f x1 W) => show Calls Tryd.prog 14 #[.pointer (some ⟨p, 0, none⟩), .int .u32 (x2 : Int)] qq.w' (fun e W' => e = .returned (.int .i64 (mc : Int)) ∧ W.grownBy W' (some B) ∧ ∃ f' : Nat → Option Int, BK es ns n p B cn A W' f' ∧ ∀ k, x1 < k → f k = none → f' k = none) from by
            obtain ⟨f1, h1, h2⟩ := qq.st
            refine (ih x2 (by omega) (by omega) f1 qq.w' mc h1 (tb_grown htW qq.hg hgB) hmc).mono ?_
            rintro e W' ⟨rfl, hg', f2, h3, h4⟩
            exact ⟨rfl, grown_trans qq.hg hg', f2, h3, fun k hk hn => h4 k (by omega) (h2 k hk hn)⟩)
          have d0 := fun qq : MwB es ns n p B cn A f x1 W => qq.cell hbq.cell (show q ≠ B by omega)
          have d1 := fun qq : MwB es ns n p B cn A f x1 W => qq.cell hI.b0.cell (show s ≠ B by omega)
          have d2 := fun qq : MwB es ns n p B cn A f x1 W => qq.cell hI.b1.cell (show s + 1 ≠ B by omega)
          have hbqH := Lib.hid hbq
          have hj0 : (0 : Int) ≤ j := by omega
          have hj32' : (j : Int) < 32 := by omega
          have hC0 : (fun w' => ∃ qq : MwB es ns n p B cn A f x1 W, w' = qq.w') { W with drawn := W.drawn + 1 } := ⟨⟨_, grown_drewN W 1 _, by obtain ⟨f1, h1, h2⟩ := hI.st; exact ⟨f1, h1.drewN 1, h2⟩⟩, rfl⟩
          clear hI hbq hMx hmc htW hjx hxj hx2 hjr hjn
          gi_wp2
          refine region_round_c (fun w' => ∃ qq : MwB es ns n p B cn A f x1 W, w' = qq.w') (by kernel_rfl) rfl (by kernel_rfl) (by kernel_rfl) hC0 ?_
          dsimp only [List.dropLast]
          repeat (first | (gi_big_quiet_step (first | rfl | (refine (callsIn_wide.2 (hcall.out _)).mono ?_; rintro e W2 ⟨rfl, hg2, hP2⟩; exact ⟨rfl, ⟨W2, hg2, hP2⟩, rfl⟩))) | (refine wpQuietIn_step (asked_wide _ _ _ _) (fun K hK => ?_); go_simp; first | (refine hK _ ?_; clear hK K) | (apply Exists.intro; refine ⟨fun _ => ?_, hK _ ?_⟩; (first | rfl | (refine (callsIn_wide.2 (hcall.out _)).mono ?_; rintro e W2 ⟨rfl, hg2, hP2⟩; exact ⟨rfl, ⟨W2, hg2, hP2⟩, rfl⟩)); clear hK K)))
          refine wpQuietIn_nil ?_
          rintro W2 ⟨⟨_, hg2, hP2⟩, rfl⟩
          have z0 := hIH.out.b0.kept hg2 (ne' (by omega))
          have z1 := hIH.out.b1.kept hg2 (ne' (by omega))
          have z2 := hbqH.out.kept hg2 (ne' (by omega))
          have hgr2 := grown_trans hIH.out.g hg2
          have cz2 := z2.cell; have fz2 := z2.frozen; have lz2 := z2.lt
          have z0H := Lib.hid z0; have z1H := Lib.hid z1; have z2H := Lib.hid z2; have hgr2H := Lib.hid hgr2; have hg2H := Lib.hid hg2; have hP2H := Lib.hid hP2
          clear z0 z1 z2 hgr2 hg2 hP2 hcall ih hIH d0 d1 d2 hC0
          gi_wp2
          have hgs := grown_set W2 q 0 (.int .i64 ((max cur (1 + mc) : Nat) : Int))
          have hgT := grown_above hgr2H.out hgs (fun r e => by cases e; omega)
          have hsz2 := hg2H.out.size
          have hWt := hsW
          obtain ⟨f2, hf2, hf2'⟩ := hP2H.out
          refine ⟨(KeepsFrom.of_grownBy hg2H.out (fun j e => by cases e; omega)).trans ((KeepsOthers.setCell _ _ _).from _),
            ⟨((Below.refl B W).grown hg2H.out (by omega) (fun k e => by cases e; omega)).grown hgs (by omega) (fun k e => by cases e; omega), (hgs.block (q + 1) (by omega) (ne' (by omega))).trans (hg2H.out.block (q + 1) (by omega) (ne' (by omega)))⟩,
            ⟨z0H.out.kept hgs (ne' (by omega)), z1H.out.kept hgs (ne' (by omega)), ⟨_, z2H.out.set _, by rw [hsn.out]; exact hMn.out⟩, hgT, by simp; omega, ⟨f2, hf2.grown hgs (ne' (by omega)) (fun b o e => ne' (by have := hAs b o e; omega)) (ne' (by omega)), hf2'⟩⟩⟩
        case done =>
          rintro D ys W hD hys ⟨b0, b1, ⟨cur, bq, hM⟩, hg, hsW, ⟨f', hS, hf'⟩⟩ hK
          have hys' : unA ys = bitsL z := hys
          have hmm : IsMM es (wS x) cur := hM.done fun j hj hji hE => by
            rw [hys']
            have h1 : x1.testBit j = true := by rw [← hx1H.out, sub_bit hx32 (by omega)]; simp; exact ⟨hj, fun e => hji e.symm⟩
            have h2 := hzB.out j ((hadj i j).2 hE) h1
            refine mem_bitsL.2 ⟨?_, h2⟩
            refine Nat.lt_of_not_le fun hle => ?_
            rw [Nat.testBit_lt_two_pow (Nat.lt_of_lt_of_le hz32 (show 4294967296 ≤ 2 ^ j from Nat.pow_le_pow_right (n := 2) (by omega) hle))] at h2; cases h2
          obtain rfl : cur = m := hmm.same hmH.out
          have hcl := hmm.has.small
          have hfx := hf' x hdl hf
          have hor : bits .or .u32 (x1 : Int) ((2 ^ i : Nat) : Int) = (x : Int) := by
            have h1 := u32_or_nat x1 (2 ^ i) (by omega) (by omega); rw [hob.out] at h1; exact h1
          have hor2 : bits .or .u32 (x1 : Int) ((2 : Int) ^ i) = (x : Int) := by rw [show ((2 : Int) ^ i) = ((2 ^ i : Nat) : Int) by simp]; exact hor
          have c0 : W.drew.cell? ⟨s, 0, none⟩ = some (.pointer (some ⟨p, 0, none⟩)) := b0.cell
          have c1 : W.drew.cell? ⟨s + 1, 0, none⟩ = some (.int .u32 (x1 : Int)) := b1.cell
          have c2 : W.drew.cell? ⟨q, 0, none⟩ = some (.int .i64 (cur : Int)) := bq.cell
          have k1 : W.drew.cell? ⟨p, 1, none⟩ = some (.map (some B)) := hS.bk.cell (j := 1) rfl
          have kl : p < W.drew.heap.size := hS.bk.lt
          have hSd := Lib.hid hS.drew
          have hgd := Lib.hid (show w.grownBy W.drew (some B) from grown_trans hg (grown_drewN W 1 (some B)))
          have bqd : Boxed W.drew q 3 (.int .i64 (cur : Int)) := bq
          have hmmH := Lib.hid hmm
          have hKd : W.drew.heap[D]? = some (.deferred (some [])) := hK
          have hKH := Lib.hid hKd; have bqH := Lib.hid bqd; have hf'H := Lib.hid hf'; have hfxH := Lib.hid hfx
          clear hM hmm hg hS hf' hfx b0 b1 bq hK hys hys' hKd bqd
          go_upto_region 12 with fail
          go_still_tail 9, (by kernel_rfl)
          change wpList _ _ _ _ _ W.drew
          generalize W.drew = wd2 at *
          clear c0 c1 k1 kl c2
          refine wp_kmap_update wd2 rfl _ _ _ 42 rfl kw_inj (int_keyed Tryd.underlying26) Tryd.underlying42 Tryd.underlying3 rfl hSd.out.mp (by have := cardO_le f'; unfold maxLen; omega) (i := x) (keyOf_int_mk Tryd.underlying26 (wf_u32k (by omega))) rfl rfl (wf_i64n (by omega)) ?_
          intro w4 hm4 ht4
          have hg4 := ht4.grown
          have bq4 := bqH.out.kept hg4 (ne' (by omega))
          have hD4 : w4.heap[D]? = some (.deferred (some [])) := (hg4.block D (Array.getElem?_eq_some_iff.1 hKH.out).1 (ne' (by omega))).trans hKH.out
          have hS4 : BK es ns n p B cn A w4 (updK f' x (cur : Int)) :=
            ⟨hSd.out.bk.kept hg4 (ne' hSd.out.np), hSd.out.rn.grown hg4 (fun b o e => ne' (hSd.out.ne b o e).symm), by unfold MMap; rw [cardO_upd (by omega) hfxH.out]; exact hm4, hSd.out.ne, hSd.out.np, fun a c hac => by
              by_cases e : a = x
              · subst e
                simp [updK] at hac
                exact ⟨cur, hac.symm, hmmH.out⟩
              · simp [updK, e] at hac
                exact hSd.out.ok a c hac⟩
          have hgw4 := grown_trans hgd.out hg4
          have hf4 : ∀ k, x < k → f k = none → updK f' x (cur : Int) k = none := fun k hk hn => by
            have e : k ≠ x := by omega
            simp [updK, e]
            exact hf'H.out k (by omega) hn
          have c4 := bq4.cell
          have hS4H := Lib.hid hS4; have hgH := Lib.hid hgw4; have hf4H := Lib.hid hf4; have hDH := Lib.hid hD4
          clear hm4 ht4 hg4 bq4 hS4 hgw4 hf4 hD4
          go_wp2
          refine leaves_marksJ (B := q + 1) (J := fun W' => w.grownBy W' (some B) ∧ BK es ns n p B cn A W' (updK f' x (cur : Int))) (Marks.push (T := q + 1) (ds := []) trivial (by omega) (by omega) hDH.out) ⟨hgH.out, hS4H.out⟩
            (fun V r o' hV hd hr => ⟨grown_above hV.1 (grownBy_putObj' V r o') (fun r' e => by cases e; omega), hV.2.grown (grownBy_putObj' V r o') (ne' (by omega)) (fun b o e => ne' (by have := hAs b o e; omega)) (ne' (by omega))⟩)
            fun w' hw' => ⟨.int .i64 (cur : Int), by simp [results, Tryd.results14, go_sem], rfl, hw'.1, _, hw'.2, hf4H.out⟩
end Go.Proofs.YtcjokjfiikkpfaaDoor
