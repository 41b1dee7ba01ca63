/- QueueAny: for any times of two who work and any order: it ends no earlier than the best one; which is an order that ends so. -/
import Derived.Test.YtednlnlppedkiaaTwo
namespace Go.Proofs.Ytednlnlppedkiaa
open Go.RowKit

theorem natI_nodup {x : List Nat} : (natI x).Nodup ↔ x.Nodup := by
  unfold natI
  rw [List.Nodup, List.pairwise_map, List.Nodup]
  constructor <;> intro h <;> refine h.imp fun h => ?_ <;> omega
theorem hasB_mem (zs : List Int) (x : Int) : hasB zs x = true ↔ x ∈ zs := by
  unfold hasB
  rw [List.any_eq_true]
  exact ⟨fun ⟨y, h1, h2⟩ => by have := eq_of_beq h2; subst this; exact h1, fun h => ⟨x, h, by simp⟩⟩
/-- what Each says -/
theorem eachB_iff (n : Nat) (zs : List Int) : eachB n zs = true ↔ ∃ x : List Nat, x.Perm (List.range n) ∧ zs = natI x := by
  constructor
  · intro h
    unfold eachB at h
    simp only [Bool.and_eq_true, Bool.not_eq_true', decide_eq_true_eq] at h
    obtain ⟨h1, h2⟩ := h
    have hb : ∀ k, k < zs.length → 0 ≤ zs.getD k 0 ∧ zs.getD k 0 < n ∧ zs.getD k 0 ∉ zs.take k := fun k hk => by
      have := List.any_eq_false.1 h1 k (by simpa using hk)
      unfold badE at this
      simp only [Bool.or_eq_true, decide_eq_true_eq, not_or, hasB_mem] at this
      exact ⟨by omega, by omega, this.2⟩
    have hz : zs = natI (zs.map Int.toNat) := by
      unfold natI
      rw [List.map_map]
      refine (List.ext_getElem (by simp) fun i h3 h4 => ?_)
      have := hb i h3
      simp only [List.getD, List.getElem?_eq_getElem h3, Option.getD_some] at this
      simp; omega
    refine ⟨zs.map Int.toNat, ?_, hz⟩
    refine perm_of_sub ?_ ?_ (by simp; omega)
    · rw [← natI_nodup, ← hz, List.nodup_iff_pairwise_ne, List.pairwise_iff_getElem]
      intro i j hi hj hij he
      have := (hb j hj).2.2
      simp only [List.getD, List.getElem?_eq_getElem hj, Option.getD_some] at this
      exact this (by rw [← he]; exact List.mem_take_iff_getElem.2 ⟨i, by omega, rfl⟩)
    · intro a ha
      obtain ⟨y, hy, rfl⟩ := List.mem_map.1 ha
      obtain ⟨i, hi, rfl⟩ := List.getElem_of_mem hy
      have := hb i hi
      simp only [List.getD, List.getElem?_eq_getElem hi, Option.getD_some] at this
      omega
  · rintro ⟨x, hp, rfl⟩
    have hl : x.length = n := by simpa using hp.length_eq
    have hnd : x.Nodup := hp.nodup_iff.2 List.nodup_range
    unfold eachB
    simp only [Bool.and_eq_true, Bool.not_eq_true', decide_eq_true_eq]
    refine ⟨List.any_eq_false.2 fun k hk => ?_, by simp [natI]; omega⟩
    have hk : k < n := by simpa [natI, hl] using hk
    obtain ⟨g1, g2⟩ := natI_getD hp k hk
    unfold badE
    simp only [Bool.or_eq_true, decide_eq_true_eq, not_or, hasB_mem]
    refine ⟨⟨by omega, by omega⟩, fun hm => ?_⟩
    have hn2 := natI_nodup.2 hnd
    have hkl : k < (natI x).length := by simp [natI]; omega
    simp only [List.getD, List.getElem?_eq_getElem hkl, Option.getD_some] at hm
    obtain ⟨i, hi, he⟩ := List.mem_take_iff_getElem.1 hm
    have := (List.pairwise_iff_getElem.1 (List.nodup_iff_pairwise_ne.1 hn2)) i k (by omega) hkl (by omega)
    exact this he
theorem own_cap {w : World} {b e s n c : Nat} {A : Option Addr} {xs : List Value} (h : w.ownsRow b e s (.slice A n c) n xs) : n ≤ c := by
  rcases h.2 with ⟨h1, h2⟩ | ⟨g, cap, cur, h1, h2⟩
  · injection h1 with h3 h4 h5; omega
  · injection h1 with h3 h4 h5
    subst h5
    exact h2.2.2.1
set_option maxHeartbeats 1600000 in
theorem queueAny_walk (A A2 A3 : Option Addr) (len cap len2 cap2 len3 cap3 : Nat) (fs ss l : List Int) (w : World) (hr : Rd w A len 1 (ints .i64 fs)) (hr2 : Rd w A2 len2 1 (ints .i64 ss)) (hr3 : Rd w A3 len3 1 (ints .i64 l))
    (hl : len ≤ 9223372036854775807) (hl2 : len2 ≤ 9223372036854775807) (hl3 : len3 ≤ 9223372036854775807) (hcap3 : len3 ≤ cap3) :
    Calls Try.prog 3 #[.slice A len cap, .slice A2 len2 cap2, .slice A3 len3 cap3] w fun e w' => e = .returned (.bool true) ∧ Below w.heap.size w w' := by
  have hel : fs.length = len := by simpa [ints] using hr.1
  have hel2 : ss.length = len2 := by simpa [ints] using hr2.1
  have hel3 : l.length = len3 := by simpa [ints] using hr3.1
  by_cases hok : tchk fs ss = 0
  · obtain ⟨h7, hle, hbf, hbs⟩ := tchk_zero hok
    obtain rfl : len = len2 := by omega
    rw [hel] at h7
    have HT := Lib.hid (two_ok A A2 len cap cap2 fs ss w hr hr2 hok)
    have HC := Lib.hid (fun W (h : Below w.heap.size w W) => twoCheck_any A A2 len cap len cap2 fs ss W (hr.later h) (hr2.later h) hl hl2)
    rw [hok] at HC
    have HE3 := Lib.hid (fun W (h : Below w.heap.size w W) => each_any (len : Int) A3 len3 cap3 l W (hr3.later h) hl3 hcap3)
    have HF := Lib.hid (fun W (h : Below w.heap.size w W) A' m c zs (hR : Rd W A' m 1 (ints .i64 zs)) h1 h2 => twoEnd_any A A2 A' len cap len cap2 m c fs ss zs W (hr.later h) (hr2.later h) hR (by omega) rfl h1 hbf hbs h2)
    have hr3H := Lib.hid hr3
    clear hr hr2 hr3
    go_enter Try.func3, Try.ntmps3
    go_wp2_with fail
    refine HT.out.mono ?_
    rintro _ w1 ⟨x, g, c, rfl, hp, hown, hmin, hb⟩
    have hRx := Rd.of_own hown
    have hnc := own_cap hown
    have HC1 := Lib.hid (HC.out w1 hb)
    have hbH := Lib.hid hb
    have hE1 := each_any (len : Int) (some ⟨g, 0, none⟩) len c (natI x) w1 hRx (by omega) hnc
    rw [(eachB_iff len (natI x)).2 ⟨x, hp, rfl⟩] at hE1
    have HE1 := Lib.hid hE1
    have HF1 := Lib.hid (HF.out w1 hb (some ⟨g, 0, none⟩) len c (natI x) hRx h7 (natI_getD hp))
    have HE2 := Lib.hid (HE3.out w1 hb)
    cases he : eachB len l
    · rw [he] at HE2
      clear hp hown hmin hb hRx hE1 hnc hbf hbs hok hel hel2 hel3 he
      generalize tend fs ss (natI x) = v at *
      go_wp2_with fail
      refine HC1.out.mono ?_
      rintro _ w2 ⟨rfl, rfl⟩
      go_wp2_with fail
      refine HE1.out.mono ?_
      rintro _ w2 ⟨rfl, rfl⟩
      go_wp2_with fail
      refine HF1.out.mono ?_
      rintro _ w2 ⟨rfl, rfl⟩
      go_wp2_with fail
      refine HE2.out.mono ?_
      rintro _ w2 ⟨rfl, rfl⟩
      go_wp2
      go_ret
      exact ⟨rfl, hbH.out⟩
    · rw [he] at HE2
      obtain ⟨y, hpy, rfl⟩ := (eachB_iff len l).1 he
      have hly : len3 = len := by have := hpy.length_eq; simp [natI] at hel3 this; omega
      have hle2 := hmin y hpy
      subst hly
      have HF2 := Lib.hid (HF.out w1 hb A3 len3 cap3 (natI y) (hr3H.out.later hb) h7 (natI_getD hpy))
      clear hp hown hmin hb hRx hE1 hnc hbf hbs hok hel hel2 hel3 he hpy
      generalize tend fs ss (natI x) = v at *
      generalize tend fs ss (natI y) = v2 at *
      go_wp2_with fail
      refine HC1.out.mono ?_
      rintro _ w2 ⟨rfl, rfl⟩
      go_wp2_with fail
      refine HE1.out.mono ?_
      rintro _ w2 ⟨rfl, rfl⟩
      go_wp2_with fail
      refine HF1.out.mono ?_
      rintro _ w2 ⟨rfl, rfl⟩
      go_wp2_with fail
      refine HE2.out.mono ?_
      rintro _ w2 ⟨rfl, rfl⟩
      go_wp2_with fail
      refine HF2.out.mono ?_
      rintro _ w2 ⟨rfl, rfl⟩
      go_wp2
      go_ret
      exact ⟨rfl, hbH.out⟩
  · have HT := Lib.hid (two_bad A A2 len cap len2 cap2 fs ss w hr hr2 hl hl2 hok)
    have HC := Lib.hid (fun W (h : Below w.heap.size w W) => twoCheck_any A A2 len cap len2 cap2 fs ss W (hr.later h) (hr2.later h) hl hl2)
    have hne : (tchk fs ss != 0) = true := by simpa using hok
    clear hr hr2 hr3 hok hel hel2 hel3
    generalize tchk fs ss = y at *
    go_enter Try.func3, Try.ntmps3
    go_wp2_with fail
    refine HT.out.mono ?_
    rintro _ w1 ⟨z, rfl, hz, hb⟩
    have hz' : (z != 0) = true := by simpa using hz
    have HC1 := Lib.hid (HC.out w1 hb)
    have hbH := Lib.hid hb
    clear hz hb
    go_wp2_with fail
    refine HC1.out.mono ?_
    rintro _ w2 ⟨rfl, rfl⟩
    go_wp2
    go_ret
    exact ⟨rfl, hbH.out⟩
theorem queueAny_any (A : Option Addr) (len cap : Nat) (fs : List Int) (A2 : Option Addr) (len2 cap2 : Nat) (ss : List Int) (A3 : Option Addr) (len3 cap3 : Nat) (l : List Int) (w : World) (hr : Rd w A len 1 (ints .i64 fs)) (hl : len ≤ maxLen) (_ : len ≤ cap) (_ : ∀ z ∈ fs, (Lit.int .i64 z).wf = true)
    (hr2 : Rd w A2 len2 1 (ints .i64 ss)) (hl2 : len2 ≤ maxLen) (_ : len2 ≤ cap2) (_ : ∀ z ∈ ss, (Lit.int .i64 z).wf = true) (hr3 : Rd w A3 len3 1 (ints .i64 l)) (hl3 : len3 ≤ maxLen) (hcap3 : len3 ≤ cap3) (_ : ∀ z ∈ l, (Lit.int .i64 z).wf = true) :
    Calls Try.prog 3 #[.slice A len cap, .slice A2 len2 cap2, .slice A3 len3 cap3] w fun e w' => e = .returned (.bool true) ∧ Below w.heap.size w w' := by
  unfold maxLen at hl hl2 hl3
  exact queueAny_walk A A2 A3 len cap len2 cap2 len3 cap3 fs ss l w hr hr2 hr3 (by omega) (by omega) (by omega) hcap3
end Go.Proofs.Ytednlnlppedkiaa
