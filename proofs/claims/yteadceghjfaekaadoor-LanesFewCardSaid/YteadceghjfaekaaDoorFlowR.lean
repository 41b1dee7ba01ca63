/- slices.Reverse at steps. -/
import Derived.Test.YteadceghjfaekaaDoorFlowB
namespace Go.Proofs.YteadceghjfaekaaDoor
open Go.RowKit Go.Shelf

theorem stps_set : ∀ (L : List Stp) (k : Nat) (x : Stp), ((stps L).set (k * 2) (.int .i64 x.1)).set (k * 2 + 1) (.bool x.2) = stps (L.set k x)
  | [], k, x => by simp [stps]
  | y :: L, 0, x => by simp [stps]
  | y :: L, k + 1, x => by
    have ih := stps_set L k x
    have e : stps (y :: L) = .int .i64 y.1 :: .bool y.2 :: stps L := by simp [stps]
    have h1 : ∀ (a b : Value) (s : List Value) (m : Nat) (u v : Value), ((a :: b :: s).set (m + 2) u).set (m + 2 + 1) v = a :: b :: ((s.set m u).set (m + 1) v) := fun _ _ _ _ _ _ => rfl
    rw [e, show (k + 1) * 2 = k * 2 + 2 by omega, h1, ih]
    simp [stps]
theorem sat_set (L : List Stp) (k : Nat) (x : Stp) (j : Nat) (hk : k < L.length) : sat (L.set k x) j = if j = k then x else sat L j := by
  unfold sat
  rw [List.getD, List.getElem?_set]
  by_cases h : k = j
  · subst h; simp [hk]
  · rw [if_neg h, if_neg (Ne.symm h)]; rfl
theorem stp_ext {L M : List Stp} (hl : L.length = M.length) (h : ∀ j, j < L.length → sat L j = sat M j) : L = M := by
  apply List.ext_getElem hl
  intro j h1 h2
  have := h j h1
  simpa [sat, List.getD, h1, h2] using this
theorem sat_rev {L : List Stp} {j : Nat} (h : j < L.length) : sat L.reverse j = sat L (L.length - 1 - j) := by
  unfold sat
  rw [List.getD, List.getElem?_reverse h]
  rfl
/-- the first k at either end are changed -/
structure RevI (ws : List Stp) (k : Nat) (L : List Stp) : Prop where
  len : L.length = ws.length
  at' : ∀ j, j < ws.length → sat L j = if j < k ∨ ws.length - 1 - k < j ∧ 0 < k ∧ ws.length - k ≤ j then sat ws (ws.length - 1 - j) else sat ws j
theorem RevI.start (ws : List Stp) : RevI ws 0 ws := ⟨rfl, fun j _ => by rw [if_neg (by omega)]⟩
theorem RevI.step {ws : List Stp} {k : Nat} {L : List Stp} (h : RevI ws k L) (hk : k < ws.length - 1 - k) : RevI ws (k + 1) ((L.set k (sat L (ws.length - 1 - k))).set (ws.length - 1 - k) (sat L k)) := by
  have hl := h.len
  refine ⟨by simpa using hl, fun j hj => ?_⟩
  rw [sat_set _ _ _ _ (by simp; omega), sat_set _ _ _ _ (by omega)]
  have e1 : sat L (ws.length - 1 - k) = sat ws (ws.length - 1 - k) := by rw [h.at' _ (by omega), if_neg (by omega)]
  have e2 : sat L k = sat ws k := by rw [h.at' _ (by omega), if_neg (by omega)]
  by_cases h1 : j = ws.length - 1 - k
  · subst h1
    rw [if_pos rfl, e2, if_pos (by omega)]
    congr 1; omega
  · rw [if_neg h1]
    by_cases h2 : j = k
    · subst h2
      rw [if_pos rfl, e1, if_pos (by omega)]
    · rw [if_neg h2, h.at' j hj]
      by_cases h3 : j < k ∨ ws.length - 1 - k < j ∧ 0 < k ∧ ws.length - k ≤ j
      · rw [if_pos h3, if_pos (by omega)]
      · rw [if_neg h3, if_neg (by omega)]
theorem RevI.done {ws : List Stp} {k : Nat} {L : List Stp} (h : RevI ws k L) (hk : ¬ (k : Int) < (ws.length : Int) - 1 - k) : L = ws.reverse := by
  refine stp_ext (by rw [h.len]; simp) fun j hj => ?_
  rw [h.len] at hj
  rw [h.at' j hj, sat_rev hj]
  split
  · rfl
  · congr 1; omega
theorem own_set2 {W : World} {B g n c : Nat} {L : List Stp} (h : W.ownsRow B 75 2 (.slice (some ⟨g, 0, none⟩) n c) n (stps L)) (k : Nat) (x : Stp) :
    ((W.setCell ⟨g, k * 2, none⟩ (.int .i64 x.1)).setCell ⟨g, k * 2 + 1, none⟩ (.bool x.2)).ownsRow B 75 2 (.slice (some ⟨g, 0, none⟩) n c) n (stps (L.set k x)) := by
  rw [← stps_set]
  exact ((h.stored _ _).1.stored _ _).1
set_option maxHeartbeats 3200000 in
set_option maxRecDepth 100000 in
theorem rev_any (B g n c : Nat) (ws : List Stp) (w : World) (h : w.ownsRow B 75 2 (.slice (some ⟨g, 0, none⟩) n c) n (stps ws)) (hn0 : 0 < n) (hn : n ≤ 64) :
    Calls Tryd.prog 29 #[.slice (some ⟨g, 0, none⟩) n c] w fun e w' => (∃ v, e = .returned v) ∧ w'.ownsRow B 75 2 (.slice (some ⟨g, 0, none⟩) n c) n (stps ws.reverse) ∧ w.grownBy w' (some g) := by
  have hel : ws.length = n := by have := h.1; rw [stps_length] at this; omega
  have hH := Lib.hid h; have helH := Lib.hid hel
  clear h hel
  have hw0 : IntKind.i64.wrap ((n : Int) - 1) = (n : Int) - 1 := IntWalk.i64_in _ (by omega)
  go_enter Tryd.func29, Tryd.ntmps29
  go_wp2
  go_loopw [2, 3] (fun i j wr => ∃ (k : Nat) (L : List Stp), i = .int .i64 k ∧ j = .int .i64 ((n : Int) - 1 - k) ∧ k ≤ n ∧ RevI ws k L ∧ wr.ownsRow B 75 2 (.slice (some ⟨g, 0, none⟩) n c) n (stps L) ∧ w.grownBy wr (some g)) (fun i _ _ => n - (intOf i).toNat)
  case atStart => exact ⟨0, ws, rfl, by simp, Nat.zero_le _, RevI.start ws, hH.out, World.grownBy.refl _ _⟩
  case round =>
    obtain ⟨k, L, rfl, rfl, hkn, hR, hown, hg⟩ := hrel
    by_cases hlt : (k : Int) < (n : Int) - 1 - k
    · have hl2 : k < ws.length - 1 - k := by rw [helH.out]; omega
      obtain ⟨q, hq⟩ : ∃ q : Nat, (n : Int) - 1 - k = q := ⟨n - 1 - k, by omega⟩
      have hqn : ws.length - 1 - k = q := by rw [helH.out]; omega
      have hstep := hR.step hl2
      rw [hqn] at hstep
      rw [hq] at hlt ⊢
      have hrd := Rd.of_own hown
      obtain ⟨_, _, he, _, x0, x1⟩ := hrd.stp (show k < n by omega)
      cases he
      obtain ⟨_, _, he, _, y0, y1⟩ := hrd.stp (show q < n by omega)
      cases he
      rw [Nat.zero_add] at x0 x1 y0 y1
      have fz := fun j => hown.frozenAt j
      have lg := (hown.lt g rfl).2
      generalize hX : sat L k = x at *
      generalize hY : sat L q = y at *
      obtain ⟨xk, xb⟩ := x
      obtain ⟨yk, yb⟩ := y
      dsimp only at x0 x1 y0 y1
      have hkI : (k : Int) < n := by omega
      have hqI : (q : Int) < n := by omega
      have hk0 : (0 : Int) ≤ k := by omega
      have hq0 : (0 : Int) ≤ q := by omega
      have hkq : ¬ k = q := by omega
      have o2 := Lib.hid (own_set2 (own_set2 hown k (yk, yb)) q (xk, xb))
      have hg5 := Lib.hid (grown_trans' hg (grown_trans' (grown_trans' (grown_trans' (grown_trans' (grown_setA wr g (k * 2) (.int .i64 yk)) (grown_setA _ g (k * 2 + 1) (.bool yb))) (grown_setA _ g (q * 2) (.int .i64 xk))) (grown_setA _ g (q * 2 + 1) (.bool xb))) (grown_drewN' _ 1 (some g))))
      have hstepH := Lib.hid hstep; have hgH := Lib.hid hg
      have hw1 : IntKind.i64.wrap ((k : Int) + 1) = ((k + 1 : Nat) : Int) := by rw [IntWalk.i64_in _ (by omega)]; omega
      have hw2 : IntKind.i64.wrap ((q : Int) - 1) = (q : Int) - 1 := IntWalk.i64_in _ (by omega)
      have f0 := fz (k * 2); have f1 := fz (k * 2 + 1); have f2 := fz (q * 2); have f3 := fz (q * 2 + 1)
      clear hR hstep hown hrd hg fz
      go_wp2
      go_region
      go_wp2
      go_roundw
      case rel => exact ⟨k + 1, _, by go_num, by rw [← hq]; go_num, by omega, hstepH.out, o2.out.drew, hg5.out⟩
      case measure => simp [intOf]; omega
    · have hd := hR.done (k := k) (by rw [helH.out]; exact hlt)
      subst hd
      have hownH := Lib.hid hown; have hgH := Lib.hid hg
      clear hR hown hg
      go_wp2
      go_end0
      exact ⟨⟨_, rfl⟩, hownH.out, hgH.out⟩
end Go.Proofs.YteadceghjfaekaaDoor
