/- slices.Reverse at int. -/
import Derived.Test.YtfbomimkjiaohaaSortInt
namespace Go.Proofs.Ytfbomimkjiaohaa
open Go.RowKit

theorem iat_set (L : List Int) (k : Nat) (x : Int) (j : Nat) (hk : k < L.length) : (L.set k x).getD j 0 = if j = k then x else L.getD j 0 := by
  rw [List.getD, List.getElem?_set]
  by_cases h : k = j
  · subst h; simp [hk]
  · rw [if_neg h, if_neg (Ne.symm h)]; rfl
/-- the first k at either end are changed -/
structure RevI (ws : List Int) (k : Nat) (L : List Int) : Prop where
  len : L.length = ws.length
  at' : ∀ j, j < ws.length → L.getD j 0 = if j < k ∨ ws.length - 1 - k < j ∧ 0 < k ∧ ws.length - k ≤ j then ws.getD (ws.length - 1 - j) 0 else ws.getD j 0
theorem RevI.start (ws : List Int) : RevI ws 0 ws := ⟨rfl, fun j _ => by rw [if_neg (by omega)]⟩
theorem RevI.step {ws : List Int} {k : Nat} {L : List Int} (h : RevI ws k L) (hk : k < ws.length - 1 - k) : RevI ws (k + 1) ((L.set k (L.getD (ws.length - 1 - k) 0)).set (ws.length - 1 - k) (L.getD k 0)) := by
  have hl := h.len
  refine ⟨by simpa using hl, fun j hj => ?_⟩
  rw [iat_set _ _ _ _ (by simp; omega), iat_set _ _ _ _ (by omega)]
  have e1 : L.getD (ws.length - 1 - k) 0 = ws.getD (ws.length - 1 - k) 0 := by rw [h.at' _ (by omega), if_neg (by omega)]
  have e2 : L.getD k 0 = ws.getD k 0 := by rw [h.at' _ (by omega), if_neg (by omega)]
  by_cases h1 : j = ws.length - 1 - k
  · subst h1
    rw [if_pos rfl, e2, if_pos (by omega)]
    congr 1; omega
  · rw [if_neg h1]
    by_cases h2 : j = k
    · subst h2
      rw [if_pos rfl, e1, if_pos (by omega)]
    · rw [if_neg h2, h.at' j hj]
      by_cases h3 : j < k ∨ ws.length - 1 - k < j ∧ 0 < k ∧ ws.length - k ≤ j
      · rw [if_pos h3, if_pos (by omega)]
      · rw [if_neg h3, if_neg (by omega)]
theorem RevI.done {ws : List Int} {k : Nat} {L : List Int} (h : RevI ws k L) (hk : ¬ (k : Int) < (ws.length : Int) - 1 - k) : L = ws.reverse := by
  refine List.ext_getElem (by rw [h.len]; simp) fun j h1 h2 => ?_
  have hj : j < ws.length := by rw [← h.len]; exact h1
  have := h.at' j hj
  have e1 : L.getD j 0 = L[j] := by simp [List.getD, h1]
  have e2 : (ws.reverse)[j] = ws.getD (ws.length - 1 - j) 0 := by rw [List.getElem_reverse]; simp [List.getD, show ws.length - 1 - j < ws.length by omega]
  rw [← e1, this, e2]
  split
  · rfl
  · congr 1; omega
set_option maxHeartbeats 3200000 in
theorem revI_any (B : Nat) (A : Option Addr) (n c : Nat) (ws : List Int) (w : World) (h : w.ownsRow B 3 1 (.slice A n c) n (ints .i64 ws)) (hn : n ≤ 64) :
    Calls Try.prog 13 #[.slice A n c] w fun e w' => e = .returned (.tuple #[]) ∧ w'.ownsRow B 3 1 (.slice A n c) n (ints .i64 ws.reverse) ∧ Below B w w' := by
  have hel : ws.length = n := by have := h.1; simpa [ints] using this
  have hH := Lib.hid h; have helH := Lib.hid hel
  clear h hel
  have hw0 : IntKind.i64.wrap ((n : Int) - 1) = (n : Int) - 1 := IntWalk.i64_in _ (by omega)
  go_enter Try.func13, Try.ntmps13
  go_wp2
  go_loopw [2, 3] (fun i j wr => ∃ (k : Nat) (L : List Int), i = .int .i64 k ∧ j = .int .i64 ((n : Int) - 1 - k) ∧ k ≤ n ∧ RevI ws k L ∧ wr.ownsRow B 3 1 (.slice A n c) n (ints .i64 L) ∧ Below B w wr) (fun i _ _ => n - (intOf i).toNat)
  case atStart => exact ⟨0, ws, rfl, by simp, Nat.zero_le _, RevI.start ws, hH.out, Below.refl _ _⟩
  case round =>
    obtain ⟨k, L, rfl, rfl, hkn, hR, hown, hg⟩ := hrel
    by_cases hlt : (k : Int) < (n : Int) - 1 - k
    · have hl2 : k < ws.length - 1 - k := by rw [helH.out]; omega
      obtain ⟨q, hq⟩ : ∃ q : Nat, (n : Int) - 1 - k = q := ⟨n - 1 - k, by omega⟩
      have hqn : ws.length - 1 - k = q := by rw [helH.out]; omega
      have hstep := hR.step hl2
      rw [hqn] at hstep
      rw [hq] at hlt ⊢
      obtain ⟨g, rfl, hBg, hgl, x0⟩ := own_atI hown (show k < n by omega)
      obtain ⟨_, hA, _, _, y0⟩ := own_atI hown (show q < n by omega)
      cases hA
      have f0 := hown.frozenAt k; have f2 := hown.frozenAt q
      generalize hX : L.getD k 0 = x at *
      generalize hY : L.getD q 0 = y at *
      have hkI : (k : Int) < n := by omega
      have hqI : (q : Int) < n := by omega
      have hk0 : (0 : Int) ≤ k := by omega
      have hq0 : (0 : Int) ≤ q := by omega
      have hkq : ¬ k = q := by omega
      have o2 := ((hown.stored k (.int .i64 y)).1.stored q (.int .i64 x)).1
      rw [ints_set, ints_set] at o2
      have o2H := Lib.hid o2
      have hg5 := Lib.hid ((hg.setCell (p := ⟨g, k, none⟩) hBg (.int .i64 y)).setCell (p := ⟨g, q, none⟩) hBg (.int .i64 x)).drew
      have hstepH := Lib.hid hstep
      have hw1 : IntKind.i64.wrap ((k : Int) + 1) = ((k + 1 : Nat) : Int) := by rw [IntWalk.i64_in _ (by omega)]; omega
      have hw2 : IntKind.i64.wrap ((q : Int) - 1) = (q : Int) - 1 := IntWalk.i64_in _ (by omega)
      have hqH := Lib.hid hq; have hXH := Lib.hid hX; have hYH := Lib.hid hY
      clear hR hstep hown hg o2 hX hY hqn hq
      go_wp2
      go_region
      go_wp2
      go_roundw
      case rel => exact ⟨k + 1, _, by go_num, by rw [← hqH.out]; go_num, by omega, hstepH.out, own_drew o2H.out, hg5.out⟩
      case measure => simp [intOf]; omega
    · have hd := hR.done (k := k) (by rw [helH.out]; exact hlt)
      subst hd
      have hownH := Lib.hid hown; have hgH := Lib.hid hg
      clear hR hown hg
      go_wp2
      go_end0
      exact ⟨rfl, hownH.out, hgH.out⟩
end Go.Proofs.Ytfbomimkjiaohaa
