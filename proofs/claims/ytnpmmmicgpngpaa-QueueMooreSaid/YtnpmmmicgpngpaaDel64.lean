/- slices.Delete at int64, of one place. -/
import Derived.Test.YtnpmmmicgpngpaaMax64
import Derived.Test.YtnpmmmicgpngpaaBlk
import Derived.Deep.RegionLaw
import Derived.BigQuiet
namespace Go.Proofs.Ytnpmmmicgpngpaa
open Go.RowKit

theorem grown_trans {a b c : World} {r : Option Nat} (h : a.grownBy b r) (h' : b.grownBy c r) : a.grownBy c r :=
  ⟨h'.os.trans h.os, h'.tape.trans h.tape, h'.output.trans h.output, Nat.le_trans h.size h'.size, fun j hj hne => (h'.block j (Nat.lt_of_lt_of_le hj h.size) hne).trans (h.block j hj hne)⟩
theorem own_short {w : World} {b e n cap g : Nat} {xs : List Value} (h : w.ownsRow b e 1 (.slice (some ⟨g, 0, none⟩) n cap) n xs) {i : Nat} (hi : i ≤ n) : w.ownsRow b e 1 (.slice (some ⟨g, 0, none⟩) i cap) i (xs.take i) := by
  refine ⟨by rw [List.length_take, h.1]; omega, .inr ?_⟩
  rcases h.2 with ⟨h1, _⟩ | ⟨g', cap', cur, h1, h2, h3, h4, h5, h6, h7⟩
  · cases h1
  · cases h1
    exact ⟨g, cap, cur, rfl, h2, h3, by omega, h5, h6, by rw [← h7, List.take_take]; congr 1; omega⟩
/-- some cells of a row are overwritten -/
theorem own_over {b e n cap g : Nat} : ∀ (us : List Value) (o : Nat) (w : World) (xs : List Value), o + us.length ≤ n → w.ownsRow b e 1 (.slice (some ⟨g, 0, none⟩) n cap) n xs →
    (∃ ys, (w.setCells g o us).ownsRow b e 1 (.slice (some ⟨g, 0, none⟩) n cap) n ys ∧ (∀ i, i < o → ys[i]? = xs[i]?) ∧ ∀ i, i < us.length → ys[o + i]? = us[i]?) ∧ w.grownBy (w.setCells g o us) (some g)
  | [], o, w, xs, _, h => ⟨⟨xs, h, fun _ _ => rfl, fun i hi => absurd hi (by simp)⟩, World.grownBy.refl _ _⟩
  | u :: us, o, w, xs, ho, h => by
    simp only [List.length_cons] at ho
    have hs := h.stored o u
    obtain ⟨⟨ys, h1, h2, h3⟩, h4⟩ := own_over us (o + 1) _ _ (by omega) hs.1
    have hxl : xs.length = n := by have := h.1; omega
    refine ⟨⟨ys, h1, fun i hi => ?_, fun i hi => ?_⟩, grown_trans hs.2 h4⟩
    · rw [h2 i (by omega), List.getElem?_set_ne (by omega)]
    · cases i with
      | zero => rw [Nat.add_zero, h2 o (by omega), List.getElem?_set_self (by omega)]; rfl
      | succ i =>
        rw [show o + (i + 1) = o + 1 + i by omega, h3 i (by simpa using hi)]; rfl
theorem own_delete {w : World} {b e n cap g k : Nat} {zs : List Int} (h : w.ownsRow b e 1 (.slice (some ⟨g, 0, none⟩) n cap) n (ints .i64 zs)) (hk : k < n) :
    (∃ ys, (w.setCells g k (ints .i64 (zs.drop (k + 1)))).ownsRow b e 1 (.slice (some ⟨g, 0, none⟩) n cap) n ys ∧ ys.take (n - 1) = ints .i64 (zs.eraseIdx k)) ∧ w.grownBy (w.setCells g k (ints .i64 (zs.drop (k + 1)))) (some g) := by
  have hzl : zs.length = n := by simpa [ints] using h.1
  obtain ⟨⟨ys, h1, h2, h3⟩, h4⟩ := own_over (ints .i64 (zs.drop (k + 1))) k w _ (by simp [ints]; omega) h
  have hyl : ys.length = n := by have := h1.1; omega
  refine ⟨⟨ys, h1, ?_⟩, h4⟩
  refine List.ext_getElem? fun i => ?_
  rw [List.getElem?_take]
  by_cases hi : i < n - 1
  · rw [if_pos hi]
    simp only [ints, List.getElem?_map, List.getElem?_eraseIdx] at h2 h3 ⊢
    by_cases hik : i < k
    · rw [if_pos hik, h2 i hik]
    · rw [if_neg hik]
      have := h3 (i - k) (by simp; omega)
      rw [show k + (i - k) = i by omega, List.getElem?_drop, show k + 1 + (i - k) = i + 1 by omega] at this
      exact this
  · rw [if_neg hi, List.getElem?_eq_none]
    simp [ints, List.length_eraseIdx, hzl, hk]; omega
set_option maxHeartbeats 1600000 in
theorem del_any (base n : Nat) (v : Value) (zs : List Int) (w : World) (hown : w.ownsRow base 2 1 v n (ints .i64 zs)) (hn : n ≤ 65536) (k : Nat) (hk : k < n) :
    Calls Try.prog 15 #[v, .int .i64 k, .int .i64 (k + 1 : Nat)] w fun e w' => ∃ v', e = .returned v' ∧ w'.ownsRow base 2 1 v' (n - 1) (ints .i64 (zs.eraseIdx k)) ∧ w.grownBy w' v.ownBlock := by
  obtain ⟨g, cap, rfl⟩ : ∃ g cap, v = .slice (some ⟨g, 0, none⟩) n cap := by
    rcases hown.2 with ⟨_, h⟩ | ⟨g, cap, _, h, _⟩
    · omega
    · exact ⟨g, cap, h⟩
  have hcap : n ≤ cap ∧ cap ≤ 9223372036854775807 := by
    rcases hown.2 with ⟨h, _⟩ | ⟨g', cap', cur, h, _, _, h4, h5, _⟩
    · cases h
    · cases h; exact ⟨h4, h5⟩
  obtain ⟨hc1, hc2⟩ := hcap
  have hzl : zs.length = n := by simpa [ints] using hown.1
  have hR := Rd.of_own hown
  obtain ⟨⟨ys, hy1, hy2⟩, hy3⟩ := own_delete (own_drew hown) hk
  have hcat : ∀ j, j < n → w.cell? ⟨g, j, none⟩ = some (.int .i64 (zs.getD j 0)) := fun j hj => by rw [hown.cellAt j (by omega)]; simp [ints, List.getD, show j < zs.length by omega]
  have hfr := hown.frozenAt
  obtain ⟨q, hq⟩ : ∃ q, k + 1 = q := ⟨_, rfl⟩
  rw [hq] at hy1 hy3 ⊢
  obtain ⟨m, hm⟩ : ∃ m, n - 1 = m := ⟨_, rfl⟩
  rw [hm] at hy2 ⊢
  have hnl : (ints .i64 (zs.drop q)).length = n - q := by simp [ints, hzl]
  have hsrc : ∀ j u, (ints .i64 (zs.drop q))[j]? = some u → w.cell? ⟨g, q + j, none⟩ = some u := fun j u h => by
    have hj : j < n - q := by rw [← hnl]; exact (List.getElem?_eq_some_iff.1 h).1
    rw [hcat (q + j) (by omega), ← h]
    simp [ints, List.getD, show q + j < zs.length by omega]
  have hsp : ∀ j, j < (ints .i64 (zs.drop q)).length → (w.drew.cell? ⟨g, 0 + k * 1 + j, none⟩).isSome = true ∧ w.drew.frozen? ⟨g, 0 + k * 1 + j, none⟩ = false := fun j hj => by
    rw [hnl] at hj
    refine ⟨?_, hfr _⟩
    show (w.cell? _).isSome = true
    rw [hcat _ (by omega)]; rfl
  have hone := ints_one (k := .i64) (l := zs.drop q)
  have hcl := Lib.hid (show ∀ ty, (Builtin.clear_ #[38] ty #[.slice (some ⟨g, m, none⟩) (n - m) (cap - m)]).run Try.prog (w.drew.setCells g k (ints .i64 (zs.drop q))) = .ok (.tuple #[]) ((w.drew.setCells g k (ints .i64 (zs.drop q))).setCells g m (List.replicate (n - m) (.int .i64 0))) from
    fun ty => Lib.run_clear_slice _ _ _ ty _ Try.underlying38 (by intro w; rfl) rfl rfl g m _ _ (by omega) (fun j hj => by
      have := hy1.cellAt (m + j) (by omega)
      have hyl : ys.length = n := by have := hy1.1; omega
      rw [this, List.getElem?_eq_getElem (by omega)]; rfl) (fun j hj => hy1.frozenAt (m + j)))
  obtain ⟨⟨zs2, hz1, hz2, _⟩, hz3⟩ := own_over (List.replicate (n - m) (.int .i64 0)) m _ _ (by simp; omega) hy1
  have hz4 := own_short hz1 (show m ≤ n by omega)
  have hz5 : zs2.take m = ys.take m := by
    refine List.ext_getElem? fun i => ?_
    rw [List.getElem?_take, List.getElem?_take]
    by_cases hi : i < m
    · rw [if_pos hi, if_pos hi, hz2 i hi]
    · rw [if_neg hi, if_neg hi]
  rw [hz5, hy2] at hz4
  have hfin := Lib.hid (And.intro hz4 (grown_trans (show w.grownBy w.drew (some g) from ⟨rfl, rfl, rfl, Nat.le_refl _, fun _ _ _ => rfl⟩) (grown_trans hy3 hz3)))
  have hmn : m + 1 = n := by omega
  have hmH := Lib.hid hmn
  have hkq : (k : Int) ≤ q := by omega
  have hqn : (q : Int) ≤ n := by omega
  have hnc : (n : Int) ≤ cap := by omega
  have hmn2 : (m : Int) ≤ n := by omega
  have hkn2 : (k : Int) ≤ cap := by omega
  have hqc : (q : Int) ≤ cap := by omega
  have hmc : (m : Int) ≤ cap := by omega
  have hkm : k + (n - q) = m := by omega
  have hne : (((k : Int)) == (q : Int)) = false := beq_false_of_ne (by omega)
  have hknn : (k : Int) ≤ n := by omega
  clear hown hR hy1 hy2 hy3 hz1 hz2 hz3 hz4 hz5 hcat hmn
  go_enter Try.func15, Try.ntmps15
  obtain ⟨i0, hi0, hzp0, hzp1, hzp2⟩ := @info_parts Try.prog 2 (.int .i64 0) 1 8 (by kernel_rfl)
  by_cases hcq : cap = q
  · have hnq : n - q = 0 := by omega
    subst hcq
    obtain rfl : k = m := by omega
    go_wp2
    go_region_law (
      refine step_append_room rfl (.tmp 22) (.tmp 25) 38 rfl 2 i0 1 Try.underlying38 hi0 hzp1 g 0 k cap (by simp [Act.eval, Act.put]) ⟨g, 0, none⟩ 0 0 (ints .i64 (zs.drop cap)) (by simp [Act.eval, Act.put]) (by rw [hnl]; omega) (fun j u h => by have := hsrc j u h; rw [List.drop_eq_nil_of_le (by omega)] at h; simp [ints] at h) hone (by omega) hsp ?_)
    all_goals
      have hcl' := hcl.out
      have hcm0 : ¬ cap - k = 0 := by omega
      go_wp2
      go_ret
      exact ⟨_, rfl, hfin.out.1, hfin.out.2⟩
  · have hcq0 : ¬ cap - q = 0 := by omega
    go_wp2
    go_region_law (
      refine step_append_room rfl (.tmp 22) (.tmp 25) 38 rfl 2 i0 1 Try.underlying38 hi0 hzp1 g 0 k cap (by simp [Act.eval, Act.put]) ⟨g, q, none⟩ (n - q) (cap - q) (ints .i64 (zs.drop q)) (by simp [Act.eval, Act.put]; done) (by rw [hnl]; omega) (fun j u h => by rw [Addr.add_lit]; exact hsrc j u h) hone (by omega) hsp ?_)
    all_goals
      have hcl' := hcl.out
      have hcm0 : ¬ cap - m = 0 := by omega
      go_wp2
      go_ret
      exact ⟨_, rfl, hfin.out.1, hfin.out.2⟩
end Go.Proofs.Ytnpmmmicgpngpaa
