/- queue.orders: all orders of a few things, one after the other. -/
import Derived.Test.YtednlnlppedkiaaRows
import Derived.Test.YtednlnlppedkiaaFresh
import Derived.Deep.RegionHeld3
namespace Go.Proofs.Ytednlnlppedkiaa
open Go.RowKit Go.Shelf

def OnV (lo : Nat) : Value := .func (.func 33) #[] #[.pointer (some ⟨lo + 1, 0, none⟩), .pointer (some ⟨lo + 3, 0, none⟩), .pointer (some ⟨lo, 0, none⟩), .pointer (some ⟨lo + 4, 0, none⟩)]
def natI (p : List Nat) : List Int := p.map fun (i : Nat) => (i : Int)
/-- the row: its first numbers are those of p -/
def RowAt (b n : Nat) (p : List Nat) (W : World) : Prop := ∃ zs : List Int, zs.length = n ∧ zs.take p.length = natI p ∧ W.heap[b]? = some (.cells (zs.map (Value.int .i64)).toArray 3 (0, 0))
structure OSt (n lo l : Nat) (p : List Nat) (W : World) : Prop where
  nb : Boxed W lo 3 (.int .i64 n)
  yb : Boxed W (lo + 1) 50 (.func (.yield l) #[] #[])
  row : RowAt (lo + 2) n p W
  lb : Boxed W (lo + 3) 23 (.slice (some ⟨lo + 2, 0, none⟩) p.length n)
  ob : Boxed W (lo + 4) 56 (OnV lo)
section
variable {b n lo l i : Nat} {p : List Nat} {W W' : World}
theorem RowAt.lt (h : RowAt b n p W) : b < W.heap.size := by obtain ⟨_, _, _, h⟩ := h; exact (Array.getElem?_eq_some_iff.1 h).1
theorem RowAt.same (h : RowAt b n p W) (hg : W'.heap[b]? = W.heap[b]?) : RowAt b n p W' := by obtain ⟨zs, h1, h2, h3⟩ := h; exact ⟨zs, h1, h2, hg.trans h3⟩
theorem RowAt.kept {row : Option Nat} (h : RowAt b n p W) (hg : W.grownBy W' row) (hne : some b ≠ row) : RowAt b n p W' := h.same (hg.block b h.lt hne)
theorem RowAt.push (h : RowAt b n p W) (hp : p.length < n) (i : Nat) : RowAt b n (p ++ [i]) (W.setCell ⟨b, p.length, none⟩ (.int .i64 i)) := by
  have hlt := h.lt
  obtain ⟨zs, h1, h2, h3⟩ := h
  refine ⟨zs.set p.length (i : Int), by simpa using h1, ?_, ?_⟩
  · rw [List.length_append, List.length_singleton, take_succ_getD' _ 0 _ (by simp; omega), List.take_set_of_le (Nat.le_refl _), h2]
    simp [natI, List.getD, h1, hp]
  · show (W.heap.modify b _)[b]? = _
    have h4 := (Array.getElem?_eq_some_iff.1 h3).2
    rw [Array.getElem?_eq_getElem (by rw [Array.size_modify]; exact hlt), Array.getElem_modify_self, h4]
    simp [List.map_set]
theorem RowAt.pop (h : RowAt b n (p ++ [i]) W) : RowAt b n p W := by
  obtain ⟨zs, h1, h2, h3⟩ := h
  refine ⟨zs, h1, ?_, h3⟩
  have := congrArg (List.take p.length) h2
  rw [List.take_take] at this
  simpa [natI] using this
theorem RowAt.cellAt (h : RowAt b n p W) {k : Nat} (hk : k < n) : (W.cell? ⟨b, k, none⟩).isSome = true ∧ W.frozen? ⟨b, k, none⟩ = false := by
  obtain ⟨zs, h1, h2, h3⟩ := h
  constructor
  · simp [World.cell?, h3, h1, hk]
  · simp [World.frozen?, h3]
theorem RowAt.rd (h : RowAt b n p W) (hp : p.length = n) : Rd W (some ⟨b, 0, none⟩) n 1 (ints .i64 (natI p)) := by
  have hlt := h.lt
  obtain ⟨zs, h1, h2, h3⟩ := h
  rw [hp, List.take_of_length_le (by omega)] at h2
  refine ⟨by simp [ints, natI, hp], fun _ => ⟨b, 0, rfl, hlt, fun j hj => ?_⟩⟩
  rw [← h2]
  simp only [World.cell?, h3, ints]
  have : j < zs.length := by omega
  simp [this]
theorem OSt.kp (h : OSt n lo l p W) (hk : KpR lo (lo + 5) W W') : OSt n lo l p W' :=
  ⟨(hk.2 _ (by omega) (by omega)).trans h.nb, (hk.2 _ (by omega) (by omega)).trans h.yb, h.row.same (hk.2 _ (by omega) (by omega)), (hk.2 _ (by omega) (by omega)).trans h.lb, (hk.2 _ (by omega) (by omega)).trans h.ob⟩
theorem OSt.alloc (h : OSt n lo l p W) (o : Obj) : OSt n lo l p (W.alloc o) := h.kp ⟨by simp, fun r h1 h2 => Below.heap_alloc _ _ _ (by have := h.ob.lt; omega)⟩
theorem setRow (W : World) (b k : Nat) (v : Value) : W.grownBy (W.setCell ⟨b, k, none⟩ v) (some b) :=
  ⟨rfl, rfl, rfl, (KeepsWalks.setCell W _ v).size, fun k _ hk => Below.heap_setCell _ _ _ k (fun e => hk (by rw [e]))⟩
theorem OSt.push (h : OSt n lo l p W) (hp : p.length < n) (i : Nat) : OSt n lo l (p ++ [i]) ((W.setCell ⟨lo + 2, p.length, none⟩ (.int .i64 i)).setCell ⟨lo + 3, 0, none⟩ (.slice (some ⟨lo + 2, 0, none⟩) (p.length + 1) n)) := by
  have g1 := setRow W (lo + 2) p.length (.int .i64 i)
  have g2 := setRow (W.setCell ⟨lo + 2, p.length, none⟩ (.int .i64 i)) (lo + 3) 0 (.slice (some ⟨lo + 2, 0, none⟩) (p.length + 1) n)
  refine ⟨(h.nb.kept g1 (by simp)).kept g2 (by simp), (h.yb.kept g1 (by simp)).kept g2 (by simp), (h.row.push hp i).kept g2 (by simp), ?_, (h.ob.kept g1 (by simp)).kept g2 (by simp)⟩
  have := (h.lb.kept g1 (by simp)).set (.slice (some ⟨lo + 2, 0, none⟩) (p.length + 1) n)
  simpa using this
theorem OSt.pop (h : OSt n lo l (p ++ [i]) W) : OSt n lo l p (W.setCell ⟨lo + 3, 0, none⟩ (.slice (some ⟨lo + 2, 0, none⟩) p.length n)) := by
  have g1 := setRow W (lo + 3) 0 (.slice (some ⟨lo + 2, 0, none⟩) p.length n)
  exact ⟨h.nb.kept g1 (by simp), h.yb.kept g1 (by simp), (h.row.pop).kept g1 (by simp), h.lb.set _, h.ob.kept g1 (by simp)⟩
end
/-- which are left -/
def LeftOk (n : Nat) (p : List Nat) (left : Nat) : Prop := left < 2 ^ n ∧ ∀ j, j < n → left.testBit j = !p.contains j
theorem bitF : ∀ x : Nat, x < 128 → ∀ i : Nat, i < 7 → (bits .and .i64 ((x : Int) / (2 : Int) ^ i) 1 == 1) = x.testBit i := by decide +kernel
theorem dropF : ∀ x : Nat, x < 128 → ∀ i : Nat, i < 7 → bits .andNot .i64 (x : Int) (IntKind.i64.wrap ((2 : Int) ^ i)) = ((x - (if x.testBit i then 2 ^ i else 0) : Nat) : Int) := by decide +kernel
theorem dropB : ∀ x : Nat, x < 128 → ∀ i : Nat, i < 7 → ∀ j : Nat, j < 7 → (x - (if x.testBit i then 2 ^ i else 0)).testBit j = (x.testBit j && !(i == j)) := by decide +kernel
theorem LeftOk.zero {n : Nat} {p : List Nat} {left : Nat} (h : LeftOk n p left) (h0 : left = 0) (hp : p.Nodup) (hlt : ∀ i ∈ p, i < n) : p.Perm (List.range n) := by
  subst h0
  refine (List.perm_ext_iff_of_nodup hp List.nodup_range).2 fun a => ⟨fun ha => List.mem_range.2 (hlt a ha), fun ha => ?_⟩
  have := h.2 a (List.mem_range.1 ha)
  simpa using this
theorem LeftOk.next {n : Nat} {p : List Nat} {left i : Nat} (h : LeftOk n p left) (hn : n ≤ 7) (hi : i < n) : LeftOk n (p ++ [i]) (left - (if left.testBit i then 2 ^ i else 0)) := by
  have h7 : left < 128 := Nat.lt_of_lt_of_le h.1 (Nat.pow_le_pow_right (n := 2) (by omega) hn)
  refine ⟨Nat.lt_of_le_of_lt (Nat.sub_le _ _) h.1, fun j hj => ?_⟩
  rw [dropB left h7 i (by omega) j (by omega), h.2 j hj]
  simp only [List.contains_eq_mem, List.mem_append, List.mem_singleton]
  by_cases hij : i = j
  · subst hij; simp
  · have : ¬ j = i := fun e => hij e.symm
    simp [hij, this]
theorem LeftOk.full (n : Nat) : LeftOk n [] (2 ^ n - 1) := ⟨by have := Nat.pow_pos (a := 2) (n := n) (by omega); omega, fun j hj => by rw [Nat.testBit_two_pow_sub_one]; simp [hj]⟩
/-- the row holds an order of all -/
def MemQ (n b : Nat) (x : List Nat) (W : World) : Prop := x.Perm (List.range n) ∧ RowAt b n x W
theorem perm_of_sub {n : Nat} {p : List Nat} (hp : p.Nodup) (hlt : ∀ i ∈ p, i < n) (hl : n ≤ p.length) : p.Perm (List.range n) := by
  refine (List.perm_ext_iff_of_nodup hp List.nodup_range).2 fun a => ⟨fun ha => List.mem_range.2 (hlt a ha), fun ha => ?_⟩
  refine Classical.byContradiction fun hno => ?_
  have h1 : (p ++ [a]).Nodup := by rw [List.nodup_append]; exact ⟨hp, by simp, fun x hx b hb e => by simp at hb; subst hb; subst e; exact hno hx⟩
  have h2 := h1.length_le_of_subset (l₂ := List.range n) fun x hx => by
    rcases List.mem_append.1 hx with h | h
    · exact List.mem_range.2 (hlt x h)
    · simp at h; rw [h]; exact ha
  simp at h2; omega
set_option maxHeartbeats 3200000 in
set_option maxRecDepth 100000 in
theorem on_any {n lo l : Nat} (hn : n ≤ 7) {J : List (List Nat) → World → Prop} (hJ : Apart lo (lo + 5) J)
    (hY : ∀ pre x W1, J pre W1 → lo + 5 ≤ W1.heap.size → MemQ n (lo + 2) x W1 → YieldAt Fence.wide 0 Try.prog l #[.slice (some ⟨lo + 2, 0, none⟩) n n] W1 fun e W' => e = .returned (.bool true) ∧ J (pre ++ [x]) W' ∧ KpR lo (lo + 5) W1 W') :
    ∀ (k : Nat) (p : List Nat) (left : Nat) (pre : List (List Nat)) (W : World), p.length + k = n → p.Nodup → (∀ i ∈ p, i < n) → LeftOk n p left → OSt n lo l p W → lo + 5 ≤ W.heap.size → J pre W →
    Calls Try.prog 33 #[.int .i64 left, .pointer (some ⟨lo + 1, 0, none⟩), .pointer (some ⟨lo + 3, 0, none⟩), .pointer (some ⟨lo, 0, none⟩), .pointer (some ⟨lo + 4, 0, none⟩)] W fun e W' =>
      e = .returned (.bool true) ∧ OSt n lo l p W' ∧ lo + 5 ≤ W'.heap.size ∧ ∃ ys, J (pre ++ ys) W' ∧ ∀ q, (p ++ q).Perm (List.range n) → p ++ q ∈ ys := by
  intro k
  induction k using Nat.strongRecOn with
  | ind k ih =>
    intro p left pre W hk hnd hlt hL hS hsz hJW
    have hl7 : left < 128 := Nat.lt_of_lt_of_le hL.1 (Nat.pow_le_pow_right (n := 2) (by omega) hn)
    have hnb := hS.nb.cell; have hyb := hS.yb.cell; have hlb := hS.lb.cell; have hob := hS.ob.cell
    refine (callsIn_wide (n := 1)).1 (callsIn_of_wp Try.func33 rfl trivial ?_ rfl)
    simp only [Try.ntmps33, List.size_toArray, List.length_cons, List.length_nil, Nat.reduceAdd, Nat.reduceSub, Array.replicate_succ, Array.replicate_zero, List.push_toArray, List.append_toArray, List.nil_append, List.cons_append]
    by_cases h0 : left = 0
    · have hp := hL.zero h0 hnd hlt
      have hpl : p.length = n := by simpa using hp.length_eq
      subst h0
      obtain ⟨fn, tmps, assign, body, hy, hR⟩ := hY pre p W hJW hsz ⟨hp, hS.row⟩
      rw [hpl] at hlb
      have hSH := Lib.hid hS; have hszH := Lib.hid hsz; have hpH := Lib.hid hp; have hplH := Lib.hid hpl
      clear hS hsz hJW hY hL hp
      gi_wp2
      refine hR.mono ?_
      rintro e W3 ⟨rfl, hJ3, hk3⟩
      gi_wp2
      refine bodyPost_ret (results_tmp rfl _ _ _) rfl ?_
      refine ⟨rfl, hSH.out.kp hk3, Nat.le_trans hszH.out hk3.1, [p], hJ3, fun q hq => ?_⟩
      have h2 := hq.length_eq
      rw [List.length_append, List.length_range, hplH.out] at h2
      obtain rfl : q = [] := List.eq_nil_of_length_eq_zero (by omega)
      simp
    · have h0i : ((left : Int) == 0) = false := by simp; omega
      gi_wp2
      gi_loopw [7, 14] (fun _ i wr => ∃ (m : Nat) (ys : List (List Nat)), m ≤ n ∧ i = .int .i64 m ∧ OSt n lo l p wr ∧ lo + 5 ≤ wr.heap.size ∧ J (pre ++ ys) wr ∧ ∀ i' q, i' < m → (p ++ i' :: q).Perm (List.range n) → p ++ i' :: q ∈ ys) (fun _ i _ => n - (intOf i).toNat)
      case atStart => exact ⟨0, [], Nat.zero_le _, rfl, hS, hsz, by simpa using hJW, fun i' q hi' => absurd hi' (by omega)⟩
      case round =>
        clear hS hsz hJW hnb hyb hlb hob
        obtain ⟨m, ys, hm, rfl, hS, hsz, hJW, hall⟩ := hrel
        have hnb := hS.nb.cell; have hlb := hS.lb.cell; have hob := hS.ob.cell; unfold OnV at hob
        by_cases hmn : m < n
        · have hbit := bitF left hl7 m (by omega)
          have hdrop := dropF left hl7 m (by omega)
          have hmi : (m : Int) < n := by omega
          have hLb := hL.2 m hmn
          have hk1 : p.length + k = n := hk
          cases hb : left.testBit m
          · rw [hb] at hbit hLb
            have hallH := Lib.hid hall
            have hSH := Lib.hid hS; have hLbH := Lib.hid hLb; have hJH := Lib.hid hJW
            clear hall hb hdrop hS hLb hL hnd hlt hJW hk hk1 hJ hY ih h0
            gi_wp2
            go_roundw
            case rel =>
              refine ⟨m + 1, ys, by omega, by go_num, hSH.out, hsz, hJH.out, fun i' q hi' hq => ?_⟩
              by_cases he : i' = m
              · subst he
                exfalso
                have hin : i' ∈ p := by simpa using hLbH.out
                have := (hq.nodup_iff.2 List.nodup_range)
                rw [List.nodup_append] at this
                exact this.2.2 i' hin i' (by simp) rfl
              · exact hallH.out i' q (by omega) hq
            case measure => simp [intOf]; omega
          · rw [hb] at hbit hLb hdrop
            simp only [if_true] at hdrop
            have hnm : m ∉ p := by simpa using hLb
            have hpn : p.length < n := by
              refine Nat.lt_of_not_le fun h => ?_
              obtain rfl : k = 0 := by omega
              have : p.Perm (List.range n) := by
                refine perm_of_sub hnd (fun a ha => hlt a ha) (by omega)
              exact hnm (this.mem_iff.2 (List.mem_range.2 hmn))
            have hk1 : 1 ≤ k := by omega
            have hIH := Lib.hid fun W' (h : OSt n lo l (p ++ [m]) W') (h2 : lo + 5 ≤ W'.heap.size) (h3 : J (pre ++ ys) W') => ih (k - 1) (by omega) (p ++ [m]) (left - 2 ^ m) (pre ++ ys) W' (by simp; omega) (by
              rw [List.nodup_append]; exact ⟨hnd, by simp, fun a ha b hb e => by simp at hb; subst hb; subst e; exact hnm ha⟩) (fun i hi => by
              rcases List.mem_append.1 hi with h | h
              · exact hlt i h
              · simp at h; omega) (by have := hL.next hn hmn; rw [hb] at this; exact this) h h2 h3
            have hallH := Lib.hid hall
            have hSH := Lib.hid hS
            have hJH := Lib.hid hJ
            have hJWH := Lib.hid hJW
            obtain ⟨hc1, hf1⟩ := hS.row.cellAt hpn
            obtain ⟨v1, hc1⟩ := Option.isSome_iff_exists.1 hc1
            have hlf := hS.lb.frozen
            have hl5 : lo + 2 < wr.heap.size := by omega
            have hl6 : lo + 3 < wr.heap.size := by omega
            have hl7' : lo + 4 < wr.heap.size := by omega
            have hS2 := (hS.push hpn m).alloc (.cells #[.int .i64 m] 3)
            have g1 := setRow wr (lo + 2) p.length (.int .i64 m)
            have g2 := setRow (wr.setCell ⟨lo + 2, p.length, none⟩ (.int .i64 m)) (lo + 3) 0 (.slice (some ⟨lo + 2, 0, none⟩) (p.length + 1) n)
            have g3 := World.grownBy_alloc ((wr.setCell ⟨lo + 2, p.length, none⟩ (.int .i64 m)).setCell ⟨lo + 3, 0, none⟩ (.slice (some ⟨lo + 2, 0, none⟩) (p.length + 1) n)) (.cells #[.int .i64 m] 3) none
            have hJ2 := hJ _ _ _ _ (hJ _ _ _ _ (hJ _ _ _ _ hJW g1 (by simp)) g2 (by simp)) g3 (by simp)
            have hs2 : lo + 5 ≤ (((wr.setCell ⟨lo + 2, p.length, none⟩ (.int .i64 m)).setCell ⟨lo + 3, 0, none⟩ (.slice (some ⟨lo + 2, 0, none⟩) (p.length + 1) n)).alloc (.cells #[.int .i64 m] 3)).heap.size := Nat.le_trans hsz (Nat.le_trans g1.size (Nat.le_trans g2.size g3.size))
            have hC := Lib.hid (hIH.out ((((wr.setCell ⟨lo + 2, p.length, none⟩ (.int .i64 m)).setCell ⟨lo + 3, 0, none⟩ (.slice (some ⟨lo + 2, 0, none⟩) (p.length + 1) n)).alloc (.cells #[.int .i64 m] 3)).drew) (hS2.kp ⟨Nat.le_refl _, fun _ _ _ => rfl⟩) hs2 (hJ _ _ _ none hJ2 ⟨rfl, rfl, rfl, Nat.le_refl _, fun _ _ _ => rfl⟩ (by simp)))
            clear hall hb hS hLb hL hnd hlt hJW hk hk1 hJ hY ih h0 hnm hS2 g1 g2 g3 hJ2 hs2
            gi_wp2
            refine wpIn_wide.2 ?_
            go_region_held3 (fun w' => w'.cell? ⟨lo + 4, 0, none⟩ = some (.func (.func 33) #[] #[.pointer (some ⟨lo + 1, 0, none⟩), .pointer (some ⟨lo + 3, 0, none⟩), .pointer (some ⟨lo, 0, none⟩), .pointer (some ⟨lo + 4, 0, none⟩)])) ((first | go_keep | assumption)) ((first
              | (go_at_call 33
                 (go_loud (with_reducible refine hC.out.mono ?_))
                 rintro e W3 ⟨rfl, hS3, hsz3, ys2, hJ3, hall3⟩
                 have hob3 := hS3.ob.cell; unfold OnV at hob3
                 have hlb3 := hS3.lb.cell
                 have hlf3 := hS3.lb.frozen)
              | fail))
            gi_wp2
            go_roundw
            case rel =>
              have g4 := setRow W3 (lo + 3) 0 (.slice (some ⟨lo + 2, 0, none⟩) p.length n)
              refine ⟨m + 1, ys ++ ys2, by omega, by go_num, hS3.pop, Nat.le_trans hsz3 g4.size, ?J, ?all⟩
              case J =>
                have h5 := hJH.out _ _ _ _ hJ3 g4 (by simp)
                rwa [List.append_assoc] at h5
              case all =>
                intro i' q hi' hq
                by_cases he : i' = m
                · subst he
                  have h5 := hall3 q (by simpa using hq)
                  rw [List.append_assoc] at h5
                  exact List.mem_append_right _ h5
                · exact List.mem_append_left _ (hallH.out i' q (by omega) hq)
            case measure => simp [intOf]; omega
        · obtain rfl : m = n := by omega
          have hallH := Lib.hid hall
          clear hall
          gi_wp2
          refine bodyPost_ret (results_tmp rfl _ _ _) rfl ?_
          refine ⟨rfl, hS, hsz, ys, hJW, fun q hq => ?_⟩
          cases q with
          | nil =>
            exfalso
            have := hL.1
            refine h0 (Nat.eq_of_testBit_eq fun j => ?_)
            rw [Nat.zero_testBit]
            rcases Nat.lt_or_ge j m with hj | hj
            · rw [hL.2 j hj]
              have : j ∈ p := by
                rw [List.append_nil] at hq
                exact hq.mem_iff.2 (List.mem_range.2 hj)
              simpa using this
            · exact Nat.testBit_lt_two_pow (Nat.lt_of_lt_of_le hL.1 (Nat.pow_le_pow_right (by omega) hj))
          | cons i' q =>
            have : i' ∈ List.range m := hq.mem_iff.1 (by simp)
            exact hallH.out i' q (List.mem_range.1 this) hq
end Go.Proofs.Ytednlnlppedkiaa
