/- span: the words of a tree, leaf by leaf. Plain. -/
import Derived.Test.YtdmbbddkbfknlaaDoorPruferD
namespace Go.Proofs.YtdmbbddkbfknlaaDoor
open Go.RowKit

/-- the words ns hold r -/
structure Wd (n : Nat) (ns : List Nat) (r : Nat → Nat → Bool) : Prop where
  len : ns.length = n
  bit : ∀ x y, x < n → ((ns.getD x 0).testBit y = r x y)
  lt : ∀ x, ns.getD x 0 < 2 ^ n
def setW (ns : List Nat) (i j : Nat) : List Nat := (ns.set i 0).set j (ns.getD j 0 &&& (4294967295 - 2 ^ i))
theorem and_not_bit {x i m : Nat} (hi : i < 32) (hm : m < 32) : (x &&& (4294967295 - 2 ^ i)).testBit m = (x.testBit m && !decide (i = m)) := by
  rw [Nat.testBit_and, show 4294967295 - 2 ^ i = 2 ^ 32 - (2 ^ i + 1) by omega, Nat.testBit_two_pow_sub_succ (Nat.pow_lt_pow_right (by omega) hi), Nat.testBit_two_pow]
  simp [hm]
theorem Wd.cut {n : Nat} {ns : List Nat} {r : Nat → Nat → Bool} (hn : n ≤ 10) (h : Wd n ns r) (hs : ∀ x y, r x y = true → r y x = true) (hr : ∀ x, r x x = false) {i j : Nat} (hi : i < n) (hj : j < n) (hl : ∀ y, r i y = true ↔ y = j) : Wd n (setW ns i j) (cutN r i) := by
  have hij : i ≠ j := fun e => by
    have := (hl j).2 rfl
    rw [← e, hr] at this; cases this
  have hlen : (setW ns i j).length = n := by simp [setW, h.len]
  have hget : ∀ x, x < n → (setW ns i j).getD x 0 = if x = j then ns.getD j 0 &&& (4294967295 - 2 ^ i) else if x = i then 0 else ns.getD x 0 := fun x hx => by
    have hxl : x < n := hx
    unfold setW
    simp only [List.getD, List.getElem?_set, List.length_set, h.len, hi, hj]
    by_cases e1 : j = x
    · subst e1; simp
    · have e1' : ¬ x = j := fun e => e1 e.symm
      by_cases e2 : i = x
      · subst e2; simp [e1, e1']
      · have e2' : ¬ x = i := fun e => e2 e.symm
        simp [e1, e1', e2, e2']
  have hle : ∀ x, x < n → (setW ns i j).getD x 0 ≤ ns.getD x 0 := fun x hx => by
    rw [hget x hx]
    split
    · rename_i e; subst e; exact Nat.and_le_left
    · split
      · omega
      · exact Nat.le_refl _
  refine ⟨hlen, fun x y hx => ?_, fun x => ?_⟩
  · rw [hget x hx]
    have hbig : ∀ y, 32 ≤ y → (ns.getD x 0).testBit y = false := fun y hy => Nat.testBit_lt_two_pow (Nat.lt_of_lt_of_le (h.lt x) (Nat.pow_le_pow_right (by omega) (by omega)))
    rw [Bool.eq_iff_iff, cutN_iff]
    split
    · rename_i e; subst e
      by_cases hy : y < 32
      · rw [and_not_bit (by omega) hy, h.bit x y hx, Bool.and_eq_true, Bool.not_eq_true', decide_eq_false_iff_not]
        exact ⟨fun ⟨h1, h2⟩ => ⟨h1, fun e => hij e.symm, fun e => h2 e.symm⟩, fun ⟨h1, _, h3⟩ => ⟨h1, fun e => h3 e.symm⟩⟩
      · rw [Nat.testBit_and, hbig y (by omega), ← h.bit x y hx, hbig y (by omega)]
        simp
    · rename_i hxj
      split
      · rename_i e; subst e; simp
      · rename_i hxi
        rw [h.bit x y hx]
        refine ⟨fun h1 => ⟨h1, hxi, fun e => ?_⟩, fun h1 => h1.1⟩
        subst e
        exact hxj ((hl x).1 (hs _ _ h1))
  · by_cases hx : x < n
    · exact Nat.lt_of_le_of_lt (hle x hx) (h.lt x)
    · rw [show (setW ns i j).getD x 0 = 0 by simp [List.getD, show (setW ns i j)[x]? = none by rw [List.getElem?_eq_none_iff, hlen]; omega]]
      exact Nat.two_pow_pos n
theorem popc_one {n : Nat} {ns : List Nat} {r : Nat → Nat → Bool} (hn : n ≤ 10) (h : Wd n ns r) {x : Nat} (hx : x < n) : popc 10 (ns.getD x 0) = 1 ↔ Lf r x := by
  have hlt : ∀ y, (ns.getD x 0).testBit y = true → y < 10 := fun y hy => by
    have := h.lt x
    refine Nat.lt_of_not_le fun hle => ?_
    rw [Nat.testBit_lt_two_pow (Nat.lt_of_lt_of_le this (Nat.pow_le_pow_right (by omega) (by omega)))] at hy; cases hy
  have hc : popc 10 (ns.getD x 0) = (List.range 10).countP fun y => (ns.getD x 0).testBit y := by
    unfold popc; rw [List.countP_eq_length_filter]
  rw [hc]
  constructor
  · intro h1
    obtain ⟨j, hj, hu⟩ := countP_one List.nodup_range h1
    refine ⟨j, fun y => ?_⟩
    rw [← h.bit x y hx]
    refine ⟨fun hy => (hu y (List.mem_range.2 (hlt y hy))).1 hy, fun e => ?_⟩
    subst e
    exact (hu y hj).2 rfl
  · rintro ⟨j, hj⟩
    have hjb : (ns.getD x 0).testBit j = true := by rw [h.bit x j hx]; exact (hj j).2 rfl
    have : ((List.range 10).countP fun y => (ns.getD x 0).testBit y) = (List.range 10).count j := by
      rw [List.count_eq_countP]
      exact List.countP_congr fun y _ => by rw [h.bit x y hx, hj, beq_iff_eq]
    rw [this, List.Nodup.count List.nodup_range, if_pos (List.mem_range.2 (hlt j hjb))]
/-- what the making of a code holds -/
structure CI (n : Nat) (es : List E) (k : Nat) (ns : List Nat) (l : List Nat) : Prop where
  ex : ∃ W r, Tre W r ∧ Srt W ∧ W.length + k = n ∧ (∀ x ∈ W, x < n) ∧ Wd n ns r ∧ ∀ c', PR W r c' → PR (List.range n) (adj es) (l ++ c')
  ll : l.length = k
theorem CI.beg {n : Nat} {es : List E} (h : gchk n es = 0) (ht : Tcond n es) : CI n es 0 (nearW n es) [] := by
  have g := nearGr h
  refine ⟨⟨List.range n, adj es, ht.tre h, List.pairwise_lt_range, by simp, fun x hx => List.mem_range.1 hx, ⟨nearW_length _ _, fun x y hx => adj_nb h x y, g.lt⟩, fun c' hc => hc⟩, rfl⟩
theorem CI.step {n : Nat} {es : List E} {k : Nat} {ns l : List Nat} (hn : n ≤ 10) (h : CI n es k ns l) (hk : k + 2 < n) : ∃ i j, i < n ∧ j < n ∧ i ≠ j ∧ popc 10 (ns.getD i 0) = 1 ∧ (∀ m, m < i → popc 10 (ns.getD m 0) ≠ 1) ∧ ns.getD i 0 = 2 ^ j ∧ CI n es (k + 1) (setW ns i j) (l ++ [j]) := by
  obtain ⟨⟨W, r, hT, hS, hl, hW, hd, hc⟩, hll⟩ := h
  obtain ⟨i, hi, hli, hmin⟩ := least_of (hT.leaf (by omega))
  obtain ⟨j, hj⟩ := hli
  have hin := hW i hi
  have hij : r i j = true := (hj j).2 rfl
  have hjW : j ∈ W := hT.su j i (hT.sy _ _ hij)
  have hjn := hW j hjW
  have hne : i ≠ j := fun e => by rw [← e, hT.ir] at hij; cases hij
  refine ⟨i, j, hin, hjn, hne, (popc_one hn hd hin).2 ⟨j, hj⟩, fun m hm hp => ?_, ?_, ⟨W.erase i, cutN r i, hT.cut hi hj, hS.erase i, ?_, fun x hx => hW x (List.mem_of_mem_erase hx), hd.cut hn hT.sy hT.ir hin hjn hj, fun c' hc' => ?_⟩, by simp [hll]⟩
  · have hlm := (popc_one hn hd (by omega)).1 hp
    have hmW : m ∈ W := by
      obtain ⟨z, hz⟩ := hlm
      exact hT.su m z ((hz z).2 rfl)
    exact hmin m hmW hm hlm
  · apply Nat.eq_of_testBit_eq
    intro m
    rw [hd.bit i m hin, Nat.testBit_two_pow, Bool.eq_iff_iff, hj, decide_eq_true_iff]
    exact ⟨Eq.symm, Eq.symm⟩
  · rw [List.length_erase_of_mem hi]; omega
  · rw [List.append_assoc]
    exact hc _ (hT.step hi hj hmin hc')
theorem CI.end_ {n : Nat} {es : List E} {k : Nat} {ns l : List Nat} (h : CI n es k ns l) (hk : k + 2 = n) : PR (List.range n) (adj es) l := by
  obtain ⟨⟨W, r, hT, hS, hl, _, _, hc⟩, _⟩ := h
  have := hc [] (hT.base hS (by omega))
  rwa [List.append_nil] at this
end Go.Proofs.YtdmbbddkbfknlaaDoor
