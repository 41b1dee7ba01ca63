/- queue.Two: the best order of two who work one behind the other. -/
import Derived.Test.YtednlnlppedkiaaTwoA
import Derived.Test.YtednlnlppedkiaaQBest
namespace Go.Proofs.Ytednlnlppedkiaa
open Go.RowKit

theorem natI_getD {x : List Nat} {n : Nat} (hp : x.Perm (List.range n)) (k : Nat) (hk : k < n) : 0 ≤ (natI x).getD k 0 ∧ (natI x).getD k 0 < n := by
  have hl : x.length = n := by simpa using hp.length_eq
  have hm : x[k]'(by omega) ∈ List.range n := hp.mem_iff.1 (List.getElem_mem _)
  rw [List.mem_range] at hm
  simp only [natI, List.getD, List.getElem?_map, List.getElem?_eq_getElem (show k < x.length by omega), Option.map_some, Option.getD_some]
  omega
theorem entTwo1 (args : Array Value) (w : World) : (callFunc 19 args).run Try.prog w = .ok (.enter 19 args) w := by go_simp
theorem two_bad (A A2 : Option Addr) (len cap len2 cap2 : Nat) (fs ss : List Int) (w : World) (hr : Rd w A len 1 (ints .i64 fs)) (hr2 : Rd w A2 len2 1 (ints .i64 ss)) (hl : len ≤ 9223372036854775807) (hl2 : len2 ≤ 9223372036854775807) (hbad : tchk fs ss ≠ 0) :
    Calls Try.prog 7 #[.slice A len cap, .slice A2 len2 cap2] w fun e w' => ∃ z, e = .returned (.tuple #[.slice none 0 0, .int .i64 0, .int .i64 z]) ∧ z ≠ 0 ∧ Below w.heap.size w w' := by
  have hel : fs.length = len := by simpa [ints] using hr.1
  have hel2 : ss.length = len2 := by simpa [ints] using hr2.1
  have hbx := (Boxed.new w 22 (.slice A len cap)).alloc (.cells #[.slice A2 len2 cap2] 22)
  have hbx2 := Boxed.new (w.alloc (.cells #[.slice A len cap] 22)) 22 (.slice A2 len2 cap2)
  have hbB : Below w.heap.size w ((w.alloc (.cells #[.slice A len cap] 22)).alloc (.cells #[.slice A2 len2 cap2] 22)) := ((Below.refl _ w).alloc (Nat.le_refl _) _).alloc (by simp) _
  rcases Nat.lt_trichotomy len len2 with hlt | heq | hlt
  · by_cases h8 : 7 < len2
    · clear hr hr2 hbx hbx2
      go_enter Try.func7, Try.ntmps7
      go_wp2
      all_goals first
        | (exfalso; omega)
        | (go_ret3; exact ⟨1, rfl, by simp, hbB⟩)
    · clear hr hr2 hbx hbx2
      have hne : ((len : Int) != (len2 : Int)) = true := by simp; omega
      go_enter Try.func7, Try.ntmps7
      go_wp2
      all_goals first
        | (exfalso; omega)
        | (go_ret3; exact ⟨3, rfl, by simp, hbB⟩)
  · subst heq
    by_cases h8 : 7 < len
    · clear hr hr2 hbx hbx2
      go_enter Try.func7, Try.ntmps7
      go_wp2
      all_goals first
        | (exfalso; omega)
        | (go_ret3; exact ⟨1, rfl, by simp, hbB⟩)
    · have hv : tchk fs ss = if fs.any badT = true ∨ ss.any badT = true then 4 else 0 := by rw [tchk, if_neg (by omega), if_neg (by omega)]
      have HC := Lib.hid (contains_out A len cap fs _ (hr.later hbB) hl)
      have HC2 := Lib.hid (fun W (h : Below w.heap.size w W) => contains_out A2 len cap2 ss W (hr2.later h) hl2)
      have hb1 := hbx.cell
      have hb2 := hbx2.cell
      simp only [World.size_alloc] at hb2
      have hbxH := Lib.hid hbx2
      clear hr hr2 hbx hbx2
      cases hf : fs.any badT
      · have hg : ss.any badT = true := by
          cases hg : ss.any badT
          · rw [hf, hg] at hv; exact absurd hv (by simpa using hbad)
          · rfl
        rw [hf] at HC
        rw [hg] at HC2
        clear hv hf hg hbad
        go_enter Try.func7, Try.ntmps7
        go_wp2_with fail
        refine HC.out.mono ?_
        rintro _ w1 ⟨rfl, hw1⟩
        have e2 := Boxed.cell ((hw1.block _ hbxH.out.lt).trans hbxH.out)
        simp only [World.size_alloc] at e2
        have hs1 := hw1.size
        simp only [World.size_alloc] at hs1
        have HC3 := Lib.hid (HC2.out w1 (hbB.trans (hw1.mono (by simp; omega))))
        go_wp2_with fail
        refine HC3.out.mono ?_
        rintro _ w2 ⟨rfl, hw2⟩
        go_wp2
        go_ret3
        exact ⟨4, rfl, by simp, (hbB.trans (hw1.mono (by simp; omega))).trans (hw2.mono (by omega))⟩
      · rw [hf] at HC
        clear hv hf hbad
        go_enter Try.func7, Try.ntmps7
        go_wp2_with fail
        refine HC.out.mono ?_
        rintro _ w1 ⟨rfl, hw1⟩
        go_wp2
        go_ret3
        exact ⟨4, rfl, by simp, hbB.trans (hw1.mono (by simp; omega))⟩
  · by_cases h8 : 7 < len
    · clear hr hr2 hbx hbx2
      go_enter Try.func7, Try.ntmps7
      go_wp2
      all_goals first
        | (exfalso; omega)
        | (go_ret3; exact ⟨1, rfl, by simp, hbB⟩)
    · clear hr hr2 hbx hbx2
      have hne : ((len : Int) != (len2 : Int)) = true := by simp; omega
      go_enter Try.func7, Try.ntmps7
      go_wp2
      all_goals first
        | (exfalso; omega)
        | (go_ret3; exact ⟨3, rfl, by simp, hbB⟩)
set_option maxHeartbeats 800000 in
theorem two_ok (A A2 : Option Addr) (n cap cap2 : Nat) (fs ss : List Int) (w : World) (hr : Rd w A n 1 (ints .i64 fs)) (hr2 : Rd w A2 n 1 (ints .i64 ss)) (hok : tchk fs ss = 0) :
    Calls Try.prog 7 #[.slice A n cap, .slice A2 n cap2] w fun e w' => ∃ x g c, e = .returned (.tuple #[.slice (some ⟨g, 0, none⟩) n c, .int .i64 (tend fs ss (natI x)), .int .i64 0]) ∧ x.Perm (List.range n) ∧
      w'.ownsRow w.heap.size 3 1 (.slice (some ⟨g, 0, none⟩) n c) n (ints .i64 (natI x)) ∧ (∀ y, y.Perm (List.range n) → tend fs ss (natI x) ≤ tend fs ss (natI y)) ∧ Below w.heap.size w w' := by
  have hel : fs.length = n := by simpa [ints] using hr.1
  obtain ⟨h7, hle, hbf, hbs⟩ := tchk_zero hok
  rw [hel] at h7
  have hbx := (Boxed.new w 22 (.slice A n cap)).alloc (.cells #[.slice A2 n cap2] 22)
  have hbx2 := Boxed.new (w.alloc (.cells #[.slice A n cap] 22)) 22 (.slice A2 n cap2)
  have hbB : Below w.heap.size w ((w.alloc (.cells #[.slice A n cap] 22)).alloc (.cells #[.slice A2 n cap2] 22)) := ((Below.refl _ w).alloc (Nat.le_refl _) _).alloc (by simp) _
  have hff : fs.any badT = false ∧ ss.any badT = false := by
    rw [tchk, if_neg (by omega), if_neg (by omega)] at hok
    split at hok
    · cases hok
    · rename_i h; simpa [not_or] using h
  have HC := Lib.hid (contains_out A n cap fs _ (hr.later hbB) (by omega))
  have HC2 := Lib.hid (fun W (h : Below w.heap.size w W) => contains_out A2 n cap2 ss W (hr2.later h) (by omega))
  rw [hff.1] at HC
  rw [hff.2] at HC2
  have hrH := Lib.hid hr; have hr2H := Lib.hid hr2; have hbfH := Lib.hid hbf; have hbsH := Lib.hid hbs
  have hb1 := hbx.cell
  have hb2 := hbx2.cell
  simp only [World.size_alloc] at hb2 hbx2
  have hbxH := Lib.hid hbx; have hbx2H := Lib.hid hbx2
  clear hr hr2 hbx hbx2 hff hok hel hle hbf hbs
  go_enter Try.func7, Try.ntmps7
  go_wp2_with fail
  refine HC.out.mono ?_
  rintro _ w1 ⟨rfl, hw1⟩
  have hs1 := hw1.size
  have e1 := (hw1.block _ hbxH.out.lt).trans hbxH.out
  have e2 := (hw1.block _ hbx2H.out.lt).trans hbx2H.out
  simp only [World.size_alloc] at hs1
  have c2 := Boxed.cell e2
  have hb3 := hbB.trans (hw1.mono (by simp; omega))
  have HC3 := Lib.hid (HC2.out w1 hb3)
  go_wp2_with fail
  refine HC3.out.mono ?_
  rintro _ w2 ⟨rfl, hw2⟩
  have hs2 := hw2.size
  have e3 := (hw2.block _ (Boxed.lt e1)).trans e1
  have e4 := (hw2.block _ (Boxed.lt e2)).trans e2
  have hb4 := hb3.trans (hw2.mono (by omega))
  have c3 := Boxed.cell e3
  have HB := Lib.hid (best_any n h7 19 #[.pointer (some ⟨w.heap.size, 0, none⟩), .pointer (some ⟨w.heap.size + 1, 0, none⟩)] (fun x => tend fs ss (natI x)) w2 entTwo1 (fun x g c W hW hp hR => by
    refine (two1_any A A2 (some ⟨g, 0, none⟩) n cap n cap2 n c w.heap.size (w.heap.size + 1) fs ss (natI x) W (Boxed.cell ((hW.block _ (Boxed.lt e3)).trans e3)) (Boxed.cell ((hW.block _ (Boxed.lt e4)).trans e4)) (hrH.out.later (hb4.trans (hW.mono (by omega)))) (hr2H.out.later (hb4.trans (hW.mono (by omega)))) hR h7 rfl h7 hbfH.out hbsH.out (natI_getD hp)).mono ?_
    rintro e W' ⟨rfl, rfl⟩
    exact ⟨rfl, Below.refl _ _⟩))
  have hb4H := Lib.hid hb4
  clear e1 e2 e3 e4 c2 hb3 hb4 hw1 hw2 hbB hb1 hb2
  go_wp2_with fail
  refine HB.out.mono ?_
  rintro _ w3 ⟨x, g, c, rfl, hp, hown, hmin, hb5⟩
  have hpH := Lib.hid hp; have hownH := Lib.hid hown; have hminH := Lib.hid hmin
  clear hp hown hmin
  go_wp2
  go_ret3
  exact ⟨x, g, c, rfl, hpH.out, own_base (by omega) hownH.out, hminH.out, hb4H.out.trans (hb5.mono (by omega))⟩
end Go.Proofs.Ytednlnlppedkiaa
