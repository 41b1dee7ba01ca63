/- split.Best: the walk. -/
import Derived.Test.YtecillikakfdnaaSplitLaw
namespace Go.Proofs.Ytecillikakfdnaa
open Go.RowKit

/-- the sums of all sets, as far as the first k things go -/
def sumTo (ts : List Int) (w k : Nat) : Int := ((List.range k).map fun i => if inW w i then ts.getD i 0 else 0).sum
theorem sumTo_succ (ts : List Int) (w k : Nat) : sumTo ts w (k + 1) = sumTo ts w k + if inW w k then ts.getD k 0 else 0 := by simp [sumTo, List.range_succ, List.sum_append]
theorem sumTo_full (ts : List Int) (w : Nat) : sumTo ts w ts.length = sumW ts w := rfl
theorem sumTo_bound {ts : List Int} (h : ∀ i, 0 ≤ ts.getD i 0 ∧ ts.getD i 0 ≤ 1048576) (w : Nat) : ∀ k : Nat, 0 ≤ sumTo ts w k ∧ sumTo ts w k ≤ k * 1048576
  | 0 => by simp [sumTo]
  | k + 1 => by
    have ih := sumTo_bound h w k
    have hk := h k
    rw [sumTo_succ]
    split <;> omega
/-- the table of sums: done below w, and as far as k at w -/
def sums (ts : List Int) (S w k : Nat) : List Int := (List.range S).map fun j => if j < w then sumW ts j else if j = w then sumTo ts w k else 0

theorem sums_start (ts : List Int) (S : Nat) : List.replicate S (Value.int .i64 0) = ints .i64 (sums ts S 1 0) := by
  unfold sums ints
  rw [List.map_map]
  apply List.ext_getElem?
  intro j
  by_cases hj : j < S
  · have h0 : sumW ts 0 = 0 := by
      have : sumW ts 0 = ((List.range ts.length).map fun _ => (0 : Int)).sum := sum_congr fun i _ => by simp [inW]
      rw [this]
      generalize ts.length = n
      induction n with
      | zero => rfl
      | succ n ih => rw [List.range_succ, List.map_append, List.sum_append, ih]; simp
    have h1 : (if j < 1 then sumW ts j else if j = 1 then sumTo ts 1 0 else 0) = 0 := by
      split
      · have : j = 0 := by omega
        subst this; exact h0
      · split <;> simp [sumTo]
    simp only [List.getElem?_replicate, hj, if_true, List.getElem?_map, List.getElem?_range, Option.map_some, Function.comp_apply]
    rw [h1]
  · simp [hj]
theorem sums_get {ts : List Int} {S w k j : Nat} (hj : j < S) : (sums ts S w k).getD j 0 = if j < w then sumW ts j else if j = w then sumTo ts w k else 0 := by
  simp [sums, List.getD, hj]
theorem sums_length (ts : List Int) (S w k : Nat) : (sums ts S w k).length = S := by simp [sums]
theorem list_ext_getD {a b : List Int} (hl : a.length = b.length) (h : ∀ j, j < a.length → a.getD j 0 = b.getD j 0) : a = b := by
  apply List.ext_getElem hl
  intro j h1 h2
  have := h j h1
  simpa [List.getD, h1, h2] using this
theorem sums_set (ts : List Int) (S w k : Nat) : (sums ts S w k).set w (sumTo ts w (k + 1)) = sums ts S w (k + 1) := by
  apply list_ext_getD (by simp [sums])
  intro j hj
  rw [List.length_set, sums_length] at hj
  rw [sums_get hj]
  by_cases h : w = j
  · subst h
    simp [List.getD, sums, hj]
  · have := sums_get (ts := ts) (w := w) (k := k) hj
    simp only [List.getD] at this ⊢
    rw [List.getElem?_set_ne h, this, if_neg (show ¬ j = w by omega), if_neg (show ¬ j = w by omega)]
theorem sums_next (ts : List Int) (S w : Nat) : sums ts S w ts.length = sums ts S (w + 1) 0 := by
  apply list_ext_getD (by simp [sums])
  intro j hj
  rw [sums_length] at hj
  rw [sums_get hj, sums_get hj, sumTo_full]
  by_cases h : j < w
  · rw [if_pos h, if_pos (by omega)]
  · by_cases h' : j = w
    · subst h'; rw [if_neg h, if_pos rfl, if_pos (by omega)]
    · rw [if_neg h, if_neg h', if_neg (by omega)]
      split <;> simp [sumTo]
theorem ofInt_i64' (a : Nat) (ha : a < 9223372036854775808) : (BitVec.ofInt 64 (a : Int)).toNat = a := by
  rw [BitVec.ofInt_natCast, BitVec.toNat_ofNat]; exact Nat.mod_eq_of_lt (by omega)
theorem i64_and (a b : Nat) (ha : a < 9223372036854775808) (hb : b < 9223372036854775808) : bits .and .i64 (a : Int) (b : Int) = ((a &&& b : Nat) : Int) := by
  have hx : a &&& b < 2 ^ 63 := Nat.and_lt_two_pow _ (by omega)
  show IntKind.i64.wrap ((BitVec.ofInt 64 (a : Int) &&& BitVec.ofInt 64 (b : Int)).toNat : Int) = _
  rw [BitVec.toNat_and, ofInt_i64' a ha, ofInt_i64' b hb, IntKind.wrap_i64]
  omega
theorem bit_i64 (v k : Nat) (hv : v < 65536) : (bits .and .i64 ((v : Int) / 2 ^ k) 1 == 1) = v.testBit k := by
  have h1 : ((v : Int) / 2 ^ k) = ((v / 2 ^ k : Nat) : Int) := by simp
  have h2 : v / 2 ^ k ≤ v := Nat.div_le_self ..
  have h := i64_and (v / 2 ^ k) 1 (by omega) (by omega)
  rw [h1, show (1 : Int) = ((1 : Nat) : Int) from rfl, h, nat_mask1, Nat.testBit_eq_decide_div_mod_eq]
  rcases Nat.mod_two_eq_zero_or_one (v / 2 ^ k) with h | h <;> simp [h]

/-- within the round of y: what next[y] is, when all sets above k have been tried -/
structure InnerB (ts : List Int) (r y v k : Nat) (Lb Ln Lm : List Int) : Prop where
  other : ∀ d, d < v → d ≠ y → Lm.getD d 0 = Ln.getD d 0
  le0 : Lm.getD y 0 ≤ Lb.getD y 0
  le : ∀ u d, k < u → u &&& y = u → Less d y u → Lm.getD y 0 ≤ max (sumW ts u) (Lb.getD d 0)
  ach : Lm.getD y 0 = Lb.getD y 0 ∨ ∃ u d, u &&& y = u ∧ Less d y u ∧ Lm.getD y 0 = max (sumW ts u) (Lb.getD d 0)
theorem inner_start {ts : List Int} {r y v : Nat} {Lb Ln : List Int} (hy : y < v) (hrest : ∀ d, y ≤ d → d < v → Ln.getD d 0 = Lb.getD d 0) : InnerB ts r y v y Lb Ln Ln where
  other := fun _ _ _ => rfl
  le0 := by rw [hrest y (Nat.le_refl _) hy]; exact Int.le_refl _
  le := fun u d hu hs _ => by
    have : u &&& y ≤ y := Nat.and_le_right
    omega
  ach := .inl (hrest y (Nat.le_refl _) hy)
theorem getD_set_int (l : List Int) (i j : Nat) (v : Int) (hi : i < l.length) : (l.set i v).getD j 0 = if i = j then v else l.getD j 0 := by
  simp only [List.getD, List.getElem?_set]
  by_cases h : i = j
  · subst h; simp [hi]
  · simp [h]
theorem less_unique {d d' y u : Nat} (h : Less d y u) (h' : Less d' y u) : d = d' := by
  apply Nat.eq_of_testBit_eq
  intro i
  rw [h i, h' i]
theorem inner_step {ts : List Int} {r y v k : Nat} {Lb Ln Lm : List Int} (hl : Lm.length = v) (hy : y < v) (hk0 : 0 < k) (hky : k &&& y = k) (h : InnerB ts r y v k Lb Ln Lm) {x : Int} (hx : x = min (Lm.getD y 0) (max (sumW ts k) (Lb.getD (y ^^^ k) 0))) :
    InnerB ts r y v ((k - 1) &&& y) Lb Ln (Lm.set y x) where
  other := fun d hd hne => by rw [getD_set_int _ _ _ _ (by omega), if_neg (Ne.symm hne)]; exact h.other d hd hne
  le0 := by rw [getD_set_int _ _ _ _ (by omega), if_pos rfl, hx]; have := h.le0; omega
  le := fun u d hu hs hd => by
    rw [getD_set_int _ _ _ _ (by omega), if_pos rfl, hx]
    by_cases hku : k < u
    · have := h.le u d hku hs hd; omega
    · by_cases he : u = k
      · subst he
        rw [less_unique hd (less_xor y u hs)]
        omega
      · have := sub_next k u y (by omega) hs hky
        omega
  ach := by
    rw [getD_set_int _ _ _ _ (by omega), if_pos rfl, hx]
    by_cases hc : Lm.getD y 0 ≤ max (sumW ts k) (Lb.getD (y ^^^ k) 0)
    · rw [show min (Lm.getD y 0) (max (sumW ts k) (Lb.getD (y ^^^ k) 0)) = Lm.getD y 0 by omega]
      exact h.ach
    · exact .inr ⟨k, y ^^^ k, hky, less_xor y k hky, by omega⟩
theorem inner_end {ts : List Int} {r y v : Nat} {Lb Ln Lm : List Int} (hy : y < v) (hopt : ∀ d, d < v → Opt ts (r + 1) d (Lb.getD d 0)) (ht : ∀ i, 0 ≤ ts.getD i 0) (h : InnerB ts r y v 0 Lb Ln Lm) : Opt ts (r + 1 + 1) y (Lm.getD y 0) := by
  refine opt_step ht (by omega) (best := fun d => Lb.getD d 0) (fun d hd => hopt d ?_) h.le0 (fun s d hs hsy hd => h.le s d hs hsy hd) h.ach
  have : d &&& y ≤ y := Nat.and_le_right
  omega

set_option maxHeartbeats 1600000 in
set_option maxRecDepth 100000 in
theorem best_ok (A : Option Addr) (len cap : Nat) (ts : List Int) (h : Nat) (w : World) (hr : Rd w A len 1 (ints .i64 ts)) (hok : schk ts h = 0) :
    Calls Try.prog 6 #[.slice A len cap, .int .i64 h] w fun e w' => ∃ x, e = .returned (.tuple #[.int .i64 x, .int .i64 0]) ∧ Opt ts h (2 ^ len - 1) x ∧ Below w.heap.size w w' := by
  have hel : ts.length = len := by simpa [ints] using hr.1
  have hf : len ≤ 8 ∧ 1 ≤ h ∧ h ≤ 4 ∧ ts.any badT = false := by
    unfold schk at hok
    split at hok
    · omega
    · split at hok
      · omega
      · split at hok
        · omega
        · rename_i h1 h2 h3
          exact ⟨by omega, by omega, by omega, by simpa using h3⟩
  obtain ⟨hl8, hh1, hh4, hbad⟩ := hf
  have hb : ∀ i, 0 ≤ ts.getD i 0 ∧ ts.getD i 0 ≤ 1048576 := by
    intro i
    by_cases hi : i < ts.length
    · have := List.any_eq_false.1 hbad ts[i] (List.getElem_mem _)
      simp [badT] at this
      simp [List.getD, hi]
      omega
    · simp [List.getD, hi]
  have HW := Lib.hid (wrong_any A len cap ts h w hr (by omega))
  rw [hok] at HW
  have hrH := Lib.hid hr; have hbH := Lib.hid hb; have helH := Lib.hid hel; have hokH := Lib.hid hok
  clear hr hb hbad hel hok
  go_enter Try.func6, Try.ntmps6
  go_wp2_with fail
  refine HW.out.mono ?_
  rintro e w1 ⟨rfl, hb1⟩
  have hr1 := Lib.hid (hrH.out.later hb1)
  obtain ⟨S, hS⟩ : ∃ S : Nat, S = 2 ^ len := ⟨_, rfl⟩
  have hS1 : 1 ≤ S := by rw [hS]; exact Nat.one_le_two_pow
  have hS256 : S ≤ 256 := by rw [hS]; exact Nat.pow_le_pow_right (n := 2) (by omega) hl8
  have hw64 : wrap64 ((2 : Int) ^ len) = (S : Int) := by
    have : ((2 : Int) ^ len) = (S : Int) := by rw [hS]; simp
    rw [this]
    exact IntWalk.wrap64_in _ (by omega)
  have hSH := Lib.hid hS; have hw64H := Lib.hid hw64; clear hS hw64
  go_wp2_with (at_make; refine wpList_mk1 _ tiL w1.heap.size S (by omega) (by omega) (Nat.le_refl _) rfl rfl rfl rfl rfl hw64H.out hw64H.out ?_)
  intro w2 hown hg
  have hb2 := below_grown hg
  clear hg
  have hst : List.replicate S (Value.int .i64 0) = ints .i64 (sums ts S 1 0) := sums_start ts S
  rw [hst] at hown
  clear hst
  go_wp2
  go_loopw [8] (fun i wr => ∃ v : Nat, 1 ≤ v ∧ v ≤ S ∧ i = .int .i64 v ∧ wr.ownsRow w1.heap.size 2 1 (.slice (some ⟨w1.heap.size, 0, none⟩) S S) S (ints .i64 (sums ts S v 0)) ∧ Below w1.heap.size w1 wr) (fun i _ => S - (intOf i).toNat)
  case atStart => exact ⟨1, Nat.le_refl _, hS1, rfl, hown, hb2⟩
  case round =>
    clear hown hb2
    obtain ⟨v, hv1, hvS, rfl, hown, hb⟩ := hrel
    by_cases hlt : v < S
    · obtain ⟨wo, rfl⟩ : ∃ wo : World, wo = wr := ⟨_, rfl⟩
      go_wp2
      go_loopw [33] (fun i wr => ∃ k : Nat, k ≤ len ∧ i = .int .i64 k ∧ wr.ownsRow w1.heap.size 2 1 (.slice (some ⟨w1.heap.size, 0, none⟩) S S) S (ints .i64 (sums ts S v k)) ∧ Below w1.heap.size w1 wr) (fun i _ => len - (intOf i).toNat)
      case atStart => exact ⟨0, Nat.zero_le _, rfl, hown, hb⟩
      case round =>
        clear hown hb
        obtain ⟨k, hk, rfl, hown, hb⟩ := hrel
        by_cases hlt2 : k < len
        · obtain ⟨b, o, rfl, hab, hc1⟩ := (hr1.out.later hb).int hlt2
          have hk8 : k < 8 := by omega
          have hbit := bit_i64 v k (by omega)
          have hcell := (hown.cellAt v (by omega)).trans (ints_get (by rw [sums_length]; exact hlt))
          rw [sums_get hlt, if_neg (by omega), if_pos rfl] at hcell
          have hfr := hown.frozenAt v
          have hgS := (hown.lt _ rfl).2
          have hsb := sumTo_bound hbH.out v k
          have hsucc := sumTo_succ ts v k
          have htk := hbH.out k
          have hset := Lib.hid (sums_set ts S v k)
          have hownH := Lib.hid hown; clear hown
          have hbelow := Lib.hid hb
          generalize ts.getD k 0 = t at *
          cases hq : v.testBit k
          · rw [hq] at hbit
            have hs' : sumTo ts v (k + 1) = sumTo ts v k := by rw [hsucc, inW, hq]; simp
            have hs'H := Lib.hid hs'; clear hsucc hs'
            go_wp2
            go_roundw
            case rel =>
              refine ⟨k + 1, by omega, by go_num, ?_, hbelow.out⟩
              have he : sums ts S v (k + 1) = sums ts S v k := by
                apply list_ext_getD (by simp [sums])
                intro j hj
                rw [sums_length] at hj
                rw [sums_get hj, sums_get hj, hs'H.out]
              rw [he]
              exact hownH.out
            case measure => simp [intOf]; omega
          · rw [hq] at hbit
            have hs' : sumTo ts v (k + 1) = sumTo ts v k + t := by rw [hsucc, inW, hq]; simp
            have hs'H := Lib.hid hs'; clear hsucc hs'
            generalize sumTo ts v k = x at *
            obtain ⟨hx0, hx1⟩ := hsb
            obtain ⟨ht0, ht1⟩ := htk
            have hv0 : 0 ≤ (v : Int) := by omega
            have hvS' : (v : Int) < S := by omega
            go_wp2
            go_roundw
            case rel =>
              refine ⟨k + 1, by omega, by go_num, ?_, hbelow.out.setCell (Nat.le_refl _) _⟩
              rw [← hset.out, hs'H.out]
              have := (hownH.out.stored v (.int .i64 (x + t))).1
              simpa [ints, List.map_set] using this
            case measure => simp [intOf]; omega
        · obtain rfl : k = len := by omega
          have hnx := sums_next ts S v
          rw [helH.out] at hnx
          rw [hnx] at hown
          go_wp2
          go_roundw
          case rel => exact ⟨v + 1, by omega, by omega, by go_num, hown, hb⟩
          case measure => simp [intOf]; omega
    · obtain rfl : v = S := by omega
      have hrs := Lib.hid (Rd.of_own hown)
      have hcl := Lib.hid (cloneL_any w1.heap.size v v (sums ts v v 0) wr hrs.out (by omega))
      have hbr := hb1.trans (hb.mono hb1.size)
      clear hown hb hlt
      obtain ⟨wo, rfl⟩ : ∃ wo : World, wo = wr := ⟨_, rfl⟩
      go_wp2_with fail
      refine hcl.out.mono ?_
      rintro e w3 ⟨g3, c3, rfl, hown3, hb3⟩
      have hrs3 := Lib.hid (hrs.out.later hb3)
      have hbr3 := hbr.trans (hb3.mono hbr.size)
      have hown3 := own_base (Nat.zero_le _) hown3
      clear hcl hb3 hbr
      have hopt : ∀ d, d < v → Opt ts 1 d ((sums ts v v 0).getD d 0) := fun d hd => by rw [sums_get hd, if_pos hd]; exact opt_one ts d
      have hr0 : 0 + 1 ≤ h := hh1
      go_wp2
      go_loopw [11, 55] (fun bst c wr => ∃ (r g cp : Nat) (Lb : List Int), r + 1 ≤ h ∧ c = .int .i64 r ∧ bst = .slice (some ⟨g, 0, none⟩) v cp ∧ wr.ownsRow 0 2 1 (.slice (some ⟨g, 0, none⟩) v cp) v (ints .i64 Lb) ∧ (∀ d, d < v → Opt ts (r + 1) d (Lb.getD d 0)) ∧ Below w3.heap.size w3 wr) (fun _ c _ => h - (intOf c).toNat)
      case atStart => exact ⟨0, g3, c3, _, hh1, rfl, rfl, hown3, hopt, Below.refl _ _⟩
      case round =>
        clear hown3 hopt
        obtain ⟨r, g, cp, Lb, hr1', rfl, rfl, hownb, hopt, hb⟩ := hrel
        have hoptH := Lib.hid hopt; clear hopt
        by_cases hrl : r + 1 < h
        · have hrb := Lib.hid (Rd.of_own hownb)
          have hcl := Lib.hid (cloneL_any g v cp Lb wr hrb.out (by omega))
          have hrL : (r : Int) < (h : Int) - 1 := by omega
          obtain ⟨wq, rfl⟩ : ∃ wq : World, wq = wr := ⟨_, rfl⟩
          go_wp2_with fail
          refine hcl.out.mono ?_
          rintro e w4 ⟨g4, c4, rfl, hown4, hb4⟩
          have hrb4 := Lib.hid (hrb.out.later hb4)
          have hrs4 := Lib.hid ((hrs3.out.later hb).later hb4)
          clear hcl hownb
          have hrsq := Lib.hid (hrs3.out.later hb)
          clear hrb4 hrs4
          have hbq4 := hb4
          go_wp2
          go_loopw [61] (fun i wr => ∃ (y : Nat) (Ln : List Int), y ≤ v ∧ i = .int .i64 y ∧ wr.ownsRow wq.heap.size 2 1 (.slice (some ⟨g4, 0, none⟩) v c4) v (ints .i64 Ln) ∧ (∀ d, d < y → Opt ts (r + 1 + 1) d (Ln.getD d 0)) ∧ (∀ d, y ≤ d → d < v → Ln.getD d 0 = Lb.getD d 0) ∧ Below wq.heap.size wq wr) (fun i _ => v - (intOf i).toNat)
          case atStart => exact ⟨0, Lb, Nat.zero_le _, rfl, hown4, fun d hd => absurd hd (by omega), fun d _ _ => rfl, hb4⟩
          case round =>
            clear hown4 hb4 hbq4
            obtain ⟨y, Ln, hyv, rfl, hownn, hdone, hrest, hbn⟩ := hrel
            have hdoneH := Lib.hid hdone; have hrestH := Lib.hid hrest; clear hdone hrest
            by_cases hyl : y < v
            · obtain ⟨wm, rfl⟩ : ∃ wm : World, wm = wr := ⟨_, rfl⟩
              go_wp2
              go_loopw [14] (fun s wr => ∃ (k : Nat) (Lm : List Int), s = .int .i64 k ∧ k &&& y = k ∧ wr.ownsRow wq.heap.size 2 1 (.slice (some ⟨g4, 0, none⟩) v c4) v (ints .i64 Lm) ∧ InnerB ts r y v k Lb Ln Lm ∧ Below wq.heap.size wq wr) (fun s _ => (intOf s).toNat)
              case atStart => exact ⟨y, Ln, rfl, Nat.and_self y, hownn, inner_start hyl hrestH.out, hbn⟩
              case round =>
                clear hownn hbn
                obtain ⟨k, Lm, rfl, hky, hownm, hinn, hbm⟩ := hrel
                by_cases hk0 : 0 < k
                · have hkle : k ≤ y := by have : k &&& y ≤ y := Nat.and_le_right; omega
                  have hd0 : y ^^^ k < v := by
                    have h1 := less_xor y k hky
                    have : (y ^^^ k) &&& y = y ^^^ k := by
                      apply Nat.eq_of_testBit_eq
                      intro i
                      rw [Nat.testBit_and, h1 i]
                      cases y.testBit i <;> simp
                    have : (y ^^^ k) &&& y ≤ y := Nat.and_le_right
                    omega
                  have hlm : Lm.length = v := by have := hownm.1; simpa [ints] using this
                  have hcN := (hownm.cellAt y (by omega)).trans (ints_get (by omega))
                  have hfN := hownm.frozenAt y
                  have hg4 := (hownm.lt _ rfl).1
                  have hgS := (hownm.lt _ rfl).2
                  obtain ⟨_, _, hA, _, hcS⟩ := (hrsq.out.later hbm).int (show k < v by omega)
                  injection hA with hA; injection hA with hA hA2 _
                  subst hA; subst hA2
                  rw [Nat.zero_add, sums_get (by omega), if_pos (by omega)] at hcS
                  obtain ⟨_, _, hA, _, hcB⟩ := (hrb.out.later hbm).int hd0
                  injection hA with hA; injection hA with hA hA2 _
                  subst hA; subst hA2
                  rw [Nat.zero_add] at hcB
                  have hand := i64_andNot y k (by omega) (by omega) hky
                  have hnx : bits .and .i64 ((k : Int) - 1) (y : Int) = (((k - 1) &&& y : Nat) : Int) := by
                    rw [show ((k : Int) - 1) = ((k - 1 : Nat) : Int) by omega]
                    exact i64_and _ _ (by omega) (by omega)
                  have hstep := fun x hx => inner_step (x := x) hlm hyl hk0 hky hinn hx
                  have hstepH := Lib.hid hstep; have hownmH := Lib.hid hownm; have hbmH := Lib.hid hbm
                  have hlt' : (k - 1) &&& y ≤ k - 1 := Nat.and_le_left
                  have hsub' : ((k - 1) &&& y) &&& y = (k - 1) &&& y := by rw [Nat.and_assoc, Nat.and_self]
                  have hsubH := Lib.hid hsub'
                  have hkyH := Lib.hid hky
                  clear hstep hownm hinn hsub' hky hlm
                  generalize Lm.getD y 0 = a at *
                  generalize sumW ts k = b at *
                  generalize Lb.getD (y ^^^ k) 0 = c at *
                  generalize y ^^^ k = d0 at *
                  generalize (k - 1) &&& y = k2 at *
                  have hy0 : 0 ≤ (y : Int) := by omega
                  have hyv' : (y : Int) < v := by omega
                  have hk00 : 0 ≤ (k : Int) := by omega
                  have hkv : (k : Int) < v := by omega
                  have hd00 : 0 ≤ (d0 : Int) := by omega
                  have hdv : (d0 : Int) < v := by omega
                  have hkpos : (0 : Int) < (k : Int) := by omega
                  go_wp2
                  go_region
                  go_wp2
                  go_roundw
                  case rel =>
                    refine ⟨k2, Lm.set y (if (if b < c then c else b) < a then if b < c then c else b else a), rfl, hsubH.out, ?_, hstepH.out _ ?_, (hbmH.out.setCell (p := ⟨g4, y, none⟩) hg4 _).drew⟩
                    · have := own_drew ((hownmH.out.stored y (.int .i64 (if (if b < c then c else b) < a then if b < c then c else b else a))).1)
                      simpa [ints, List.map_set] using this
                    · by_cases h1 : b < c
                      · rw [if_pos h1]; split <;> omega
                      · rw [if_neg h1]; split <;> omega
                  case measure => simp [intOf]; omega
                · obtain rfl : k = 0 := by omega
                  have hfin := inner_end (by omega) hoptH.out (fun i => (hbH.out i).1) hinn
                  go_wp2
                  go_roundw
                  case rel =>
                    refine ⟨y + 1, Lm, by omega, by go_num, hownm, fun d hd => ?_, fun d h1 h2 => ?_, hbm⟩
                    · rcases Nat.lt_or_ge d y with h | h
                      · rw [hinn.other d (by omega) (by omega)]; exact hdoneH.out d h
                      · obtain rfl : d = y := by omega
                        exact hfin
                    · rw [hinn.other d h2 (by omega)]; exact hrestH.out d (by omega) h2
                  case measure => simp [intOf]; omega
            · obtain rfl : y = v := by omega
              go_wp2
              go_roundw
              case rel => exact ⟨r + 1, g4, c4, Ln, by omega, by go_num, rfl, own_base (Nat.zero_le _) hownn, hdoneH.out, hb.trans (hbn.mono hb.size)⟩
              case measure => simp [intOf]; omega
        · obtain rfl : h = r + 1 := by omega
          have hlast := hoptH.out (v - 1) (by omega)
          have hc1 := (hownb.cellAt (v - 1) (by omega)).trans (ints_get (by have := hownb.1; simp [ints] at this; omega))
          have hgS := (hownb.lt _ rfl).2
          have hv1 : ((v : Int) - 1) = ((v - 1 : Nat) : Int) := by omega
          have hlastH := Lib.hid hlast
          have hbf := hbr3.trans (hb.mono hbr3.size)
          have hrL : ¬ (r : Int) < ((r + 1 : Nat) : Int) - 1 := by omega
          clear hlast
          go_wp2
          go_ret2
          exact ⟨_, rfl, by rw [← hSH.out]; exact hlastH.out, hbf⟩
end Go.Proofs.Ytecillikakfdnaa
