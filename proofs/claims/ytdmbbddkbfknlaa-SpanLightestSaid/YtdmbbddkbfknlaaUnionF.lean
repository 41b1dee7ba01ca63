/- span's union: find, join, alone. -/
import Derived.Test.YtdmbbddkbfknlaaSwapR
import Derived.Test.YtdmbbddkbfknlaaKruskal
namespace Go.Proofs.Ytdmbbddkbfknlaa
open Go.RowKit

/-- u tells the labels L -/
structure UF (n : Nat) (U L : Nat → Nat) : Prop where
  le : ∀ i, i < n → U i ≤ i
  same : ∀ i, i < n → L (U i) = L i
  root : ∀ i, i < n → (U i = i ↔ L i = i)
theorem UF.start (n : Nat) : UF n (fun i => i) (lab []) := ⟨fun i _ => Nat.le_refl i, fun _ _ => rfl, fun _ _ => ⟨fun _ => rfl, fun _ => rfl⟩⟩
theorem UF.join {n : Nat} {U : Nat → Nat} {A : List E} (h : UF n U (lab A)) (e : E) : UF n (fun p => if p = max (lab A e.1.toNat) (lab A e.2.1.toNat) then min (lab A e.1.toNat) (lab A e.2.1.toNat) else U p) (lab (e :: A)) := by
  have hmin : lab A (min (lab A e.1.toNat) (lab A e.2.1.toNat)) = min (lab A e.1.toNat) (lab A e.2.1.toNat) := by
    by_cases hx : lab A e.1.toNat ≤ lab A e.2.1.toNat
    · rw [Nat.min_eq_left hx, lab_lab]
    · rw [Nat.min_eq_right (by omega), lab_lab]
  have hmax : lab A (max (lab A e.1.toNat) (lab A e.2.1.toNat)) = max (lab A e.1.toNat) (lab A e.2.1.toNat) := by
    by_cases hx : lab A e.1.toNat ≤ lab A e.2.1.toNat
    · rw [Nat.max_eq_right hx, lab_lab]
    · rw [Nat.max_eq_left (by omega), lab_lab]
  have hle : min (lab A e.1.toNat) (lab A e.2.1.toNat) ≤ max (lab A e.1.toNat) (lab A e.2.1.toNat) := by omega
  refine ⟨fun i hi => ?_, fun i hi => ?_, fun i hi => ?_⟩
  · show (if i = _ then _ else U i) ≤ i
    split
    · omega
    · exact h.le i hi
  · show lab (e :: A) (if i = _ then _ else U i) = _
    rw [lab_cons e A i]
    by_cases hm : i = max (lab A e.1.toNat) (lab A e.2.1.toNat)
    · rw [if_pos hm, lab_cons, hmin, hm, hmax, if_pos rfl]; split <;> rfl
    · rw [if_neg hm, lab_cons, h.same i hi]
  · show (if i = _ then _ else U i) = i ↔ _
    rw [lab_cons e A i]
    by_cases hm : i = max (lab A e.1.toNat) (lab A e.2.1.toNat)
    · rw [if_pos hm, hm, hmax, if_pos rfl]
    · rw [if_neg hm, h.root i hi]
      by_cases hl : lab A i = max (lab A e.1.toNat) (lab A e.2.1.toNat)
      · rw [if_pos hl]
        constructor
        · intro h2; exact absurd (h2.symm.trans hl) hm
        · intro h2
          rw [← h2, hmin]
      · rw [if_neg hl]
theorem UF.keep {n : Nat} {U : Nat → Nat} {A : List E} (h : UF n U (lab A)) {e : E} (hl : linkd A e) (ha : lab A e.1.toNat < n) : (fun p => if p = max (lab A e.1.toNat) (lab A e.2.1.toNat) then min (lab A e.1.toNat) (lab A e.2.1.toNat) else U p) = U := by
  funext p
  unfold linkd at hl
  rw [← hl, Nat.max_self, Nat.min_self]
  by_cases hp : p = lab A e.1.toNat
  · rw [if_pos hp, hp]; exact ((h.root _ ha).2 (lab_lab A _)).symm
  · rw [if_neg hp]
set_option maxHeartbeats 800000 in
theorem find_any (A : Option Addr) (n c B i : Nat) (U : Nat → Nat) (X : List E) (w : World) (hown : w.ownsRow B 3 1 (.slice A n c) n (rowN n U)) (hU : UF n U (lab X)) (hi : i < n) :
    Calls Try.prog 27 #[.slice A n c, .int .i64 (i : Int)] w fun e w' => e = .returned (.int .i64 ((lab X i : Nat) : Int)) ∧ w = w' := by
  have hownH := Lib.hid hown; have hUH := Lib.hid hU
  clear hown hU
  go_enter Try.func27, Try.ntmps27
  go_wp2
  go_loop [1] (fun x => ∃ k : Nat, k < n ∧ x = .int .i64 (k : Int) ∧ lab X k = lab X i) (fun x => (intOf x).toNat)
  case atStart => exact ⟨i, hi, rfl, rfl⟩
  case round =>
    obtain ⟨k, hk, rfl, hl⟩ := hrel
    obtain ⟨g, rfl, hBg, hgl, hc⟩ := own_atN hownH.out hk
    have h1 := hUH.out.le k hk
    have h2 := hUH.out.same k hk
    have h3 := hUH.out.root k hk
    have hlH := Lib.hid hl; have h2H := Lib.hid h2; have h3H := Lib.hid h3
    clear hl h2 h3 hi
    by_cases he : U k = k
    · have hz := Lib.hid (show ((k : Nat) : Int) = ((lab X i : Nat) : Int) by rw [← hlH.out, h3H.out.1 he])
      rw [he] at hc
      clear he h1 h2H h3H hlH
      have hne : ((k : Int) != (k : Int)) = false := by simp
      go_wp2
      go_ret
      exact ⟨by rw [← hz.out]; rfl, rfl⟩
    · obtain ⟨y, hy⟩ : ∃ y, U k = y := ⟨_, rfl⟩
      rw [hy] at hc he h1 h2H
      have hne : ((y : Int) != (k : Int)) = true := by simp; omega
      have hyk : y < k := by omega
      clear hy he h1 h3H
      go_wp2
      go_round
      case rel => exact ⟨y, by omega, rfl, h2H.out.trans hlH.out⟩
      case measure => simp [intOf]; omega
set_option maxHeartbeats 800000 in
theorem join_any (A : Option Addr) (n c B i j : Nat) (U : Nat → Nat) (X : List E) (w : World) (hown : w.ownsRow B 3 1 (.slice A n c) n (rowN n U)) (hU : UF n U (lab X)) (hi : i < n) (hj : j < n) :
    Calls Try.prog 16 #[.slice A n c, .int .i64 (i : Int), .int .i64 (j : Int)] w fun e w' => e = .returned (.bool (decide (lab X i ≠ lab X j))) ∧
      w'.ownsRow B 3 1 (.slice A n c) n (rowN n fun p => if p = max (lab X i) (lab X j) then min (lab X i) (lab X j) else U p) ∧ Below B w w' ∧ ∃ g, A = some ⟨g, 0, none⟩ ∧ B ≤ g ∧ g < w.heap.size ∧ w' = w.setCell ⟨g, max (lab X i) (lab X j), none⟩ (.int .i64 ((min (lab X i) (lab X j) : Nat) : Int)) := by
  have H1 := Lib.hid (find_any A n c B i U X w hown hU hi)
  have H2 := Lib.hid (find_any A n c B j U X w hown hU hj)
  have l1 := lab_le X i
  have l2 := lab_le X j
  obtain ⟨x, hx⟩ : ∃ x, lab X i = x := ⟨_, rfl⟩
  obtain ⟨y, hy⟩ : ∃ y, lab X j = y := ⟨_, rfl⟩
  rw [hx] at H1 l1 ⊢
  rw [hy] at H2 l2 ⊢
  have hxn : x < n := by omega
  have hyn : y < n := by omega
  obtain ⟨bq, hbq⟩ : ∃ bq, decide (x ≠ y) = bq := ⟨_, rfl⟩
  rw [hbq]
  have hd := Lib.hid (show ((x : Int) != (y : Int)) = bq by
    rw [← hbq]
    by_cases h : x = y
    · subst h; simp
    · have : (x : Int) ≠ (y : Int) := by omega
      simp [h, this])
  clear hx hy hU l1 l2 hbq
  by_cases hlt : x < y
  · have e1 : max x y = y := by omega
    have e2 : min x y = x := by omega
    rw [e1, e2]
    obtain ⟨g, rfl, hBg, hgl, hc⟩ := own_atN hown hyn
    have hf := hown.frozenAt y
    have hst := (hown.stored y (.int .i64 (x : Int))).1
    have hb := (Below.refl B w).setCell (p := ⟨g, y, none⟩) hBg (.int .i64 (x : Int))
    have hrs : (rowN n U).set y (.int .i64 (x : Int)) = rowN n fun p => if p = y then x else U p := by
      unfold rowN; rw [row_set]; congr 1; funext p
      show (if p = y then ((x : Nat) : Int) else ((U p : Nat) : Int)) = ((if p = y then x else U p : Nat) : Int)
      by_cases h : p = y
      · rw [if_pos h, if_pos h]
      · rw [if_neg h, if_neg h]
    rw [hrs] at hst
    have hstH := Lib.hid hst; have hbH := Lib.hid hb
    have hlt' : (x : Int) < y := by omega
    clear hst hb hown hrs
    go_enter Try.func16, Try.ntmps16
    go_wp2_with fail
    refine H1.out.mono ?_
    rintro _ _ ⟨rfl, rfl⟩
    go_wp2_with fail
    refine H2.out.mono ?_
    rintro _ _ ⟨rfl, rfl⟩
    go_wp2
    go_ret
    exact ⟨by rw [← hd.out]; rfl, hstH.out, hbH.out, g, rfl, hBg, hgl, rfl⟩
  · by_cases hlt2 : y < x
    · have e1 : max x y = x := by omega
      have e2 : min x y = y := by omega
      rw [e1, e2]
      obtain ⟨g, rfl, hBg, hgl, hc⟩ := own_atN hown hxn
      have hf := hown.frozenAt x
      have hst := (hown.stored x (.int .i64 (y : Int))).1
      have hb := (Below.refl B w).setCell (p := ⟨g, x, none⟩) hBg (.int .i64 (y : Int))
      have hrs : (rowN n U).set x (.int .i64 (y : Int)) = rowN n fun p => if p = x then y else U p := by
        unfold rowN; rw [row_set]; congr 1; funext p
        show (if p = x then ((y : Nat) : Int) else ((U p : Nat) : Int)) = ((if p = x then y else U p : Nat) : Int)
        by_cases h : p = x
        · rw [if_pos h, if_pos h]
        · rw [if_neg h, if_neg h]
      rw [hrs] at hst
      have hstH := Lib.hid hst; have hbH := Lib.hid hb
      have hlt' : (y : Int) < x := by omega
      clear hst hb hown hrs
      go_enter Try.func16, Try.ntmps16
      go_wp2_with fail
      refine H1.out.mono ?_
      rintro _ _ ⟨rfl, rfl⟩
      go_wp2_with fail
      refine H2.out.mono ?_
      rintro _ _ ⟨rfl, rfl⟩
      go_wp2
      go_ret
      exact ⟨by rw [← hd.out]; rfl, hstH.out, hbH.out, g, rfl, hBg, hgl, rfl⟩
    · obtain rfl : x = y := by omega
      have e1 : max x x = x := by omega
      have e2 : min x x = x := by omega
      rw [e1, e2]
      obtain ⟨g, rfl, hBg, hgl, hc⟩ := own_atN hown hxn
      have hf := hown.frozenAt x
      have hst := (hown.stored x (.int .i64 (x : Int))).1
      have hb := (Below.refl B w).setCell (p := ⟨g, x, none⟩) hBg (.int .i64 (x : Int))
      have hrs : (rowN n U).set x (.int .i64 (x : Int)) = rowN n fun p => if p = x then x else U p := by
        unfold rowN; rw [row_set]; congr 1; funext p
        show (if p = x then ((x : Nat) : Int) else ((U p : Nat) : Int)) = ((if p = x then x else U p : Nat) : Int)
        by_cases h : p = x
        · rw [if_pos h, if_pos h]
        · rw [if_neg h, if_neg h]
      rw [hrs] at hst
      have hstH := Lib.hid hst; have hbH := Lib.hid hb
      clear hst hb hown hrs
      go_enter Try.func16, Try.ntmps16
      go_wp2_with fail
      refine H1.out.mono ?_
      rintro _ _ ⟨rfl, rfl⟩
      go_wp2_with fail
      refine H2.out.mono ?_
      rintro _ _ ⟨rfl, rfl⟩
      go_wp2
      go_ret
      exact ⟨by rw [← hd.out, show ((x : Int) != (x : Int)) = false by simp]; rfl, hstH.out, hbH.out, g, rfl, hBg, hgl, rfl⟩
theorem tiU : TI Try.prog 42 3 (.int .i64 0) 1 8 := TI.mk' Try.underlying42 (by kernel_rfl) rfl (by decide)
theorem rowN_one {n : Nat} {F : Nat → Nat} : ∀ u ∈ rowN n F, u.oneCell' = true := row_one
theorem rowN_snoc (n : Nat) (F : Nat → Nat) : rowN n F ++ [.int .i64 ((F n : Nat) : Int)] = rowN (n + 1) F := (row_snoc n _).symm
set_option maxHeartbeats 800000 in
theorem alone_any (n : Nat) (w : World) (hn : n ≤ 10) :
    Calls Try.prog 15 #[.int .i64 (n : Int)] w fun e w' => ∃ v, e = .returned v ∧ w'.ownsRow w.heap.size 3 1 v n (rowN n fun i => i) ∧ Below w.heap.size w w' := by
  go_enter Try.func15, Try.ntmps15
  go_wp2
  go_loopw [3, 4, 6] (fun v _ i wr => ∃ k : Nat, k ≤ n ∧ i = .int .i64 k ∧ wr.ownsRow w.heap.size 3 1 v k (rowN k fun i => i) ∧ Below w.heap.size w wr) (fun _ _ i _ => n - (intOf i).toNat)
  case atStart => exact ⟨0, Nat.zero_le _, rfl, ⟨rfl, .inl ⟨rfl, rfl⟩⟩, Below.refl _ _⟩
  case round =>
    obtain ⟨k, hk, rfl, hown, hb⟩ := hrel
    obtain ⟨A1, c1, rfl⟩ := own_slice hown
    by_cases hlt : k < n
    · have hownH := Lib.hid hown; have hbH := Lib.hid hb
      clear hown hb
      go_wp2_with (at_builtin; refine wpList_app (s := .tmp 9) (x := .tmp 11) _ tiU (hownH.out.alloc _) (rd_new1 _ (.int .i64 k) 3) (ints_one (l := [(k : Int)])) (by omega) (by omega) (by have := hbH.out.size; simp; omega) rfl rfl rfl rfl ?_)
      intro v' w5 hown5 hg5 _
      have hne : ∀ g, (some g : Option Nat) = (Value.slice A1 k c1).ownBlock → w.heap.size ≤ g := fun g e => (hownH.out.lt g e.symm).1
      have hb5 : Below w.heap.size w w5 := (hbH.out.alloc hbH.out.size _).grown hg5 (by have := hbH.out.size; simp; omega) (fun g e => hne g e.symm)
      have h1 := Lib.hid hown5; have h2 := Lib.hid hb5
      clear hown5 hb5 hg5 hne
      go_wp2
      go_roundw
      case rel => exact ⟨k + 1, by omega, by go_num, by rw [← rowN_snoc]; exact h1.out, h2.out⟩
      case measure => simp [intOf]; omega
    · obtain rfl : k = n := by omega
      have hownH := Lib.hid hown; have hbH := Lib.hid hb
      clear hown hb
      go_wp2
      go_ret
      exact ⟨_, rfl, hownH.out, hbH.out⟩
end Go.Proofs.Ytdmbbddkbfknlaa
