/- No set lacks more room than are left over. -/
import Derived.Test.YtgbkpjiefaejiaaDoorPlaceH
namespace Go.Proofs.YtgbkpjiefaejiaaDoor
open Go.RowKit Go.Shelf

theorem Gr.max {d : PD} {i : Nat} {room : Nat → Int} {t : Int} {l : List Int} (h : Gr d i room t l) : ∃ K, MaxPl d K := by
  induction h with
  | start hK => exact ⟨_, hK⟩
  | left _ _ ih => exact ih
  | take _ _ _ _ _ _ _ ih => exact ih
/-- what is told is a placing of the most -/
theorem Gr.best {ws : List (Int × Int)} {ts : List Nat} {nw nt : Nat} {room : Nat → Int} {t : Int} {l : List Int} (hw : ws.length = nw) (ht : ts.length = nt) (hr : ∀ j, j < nw → 0 ≤ rms ws j) (h : Gr (PDm ws ts (rms ws)) nt room t l) :
    PlG ws ts l ∧ ∀ P, PlG ws ts P → cntL P nt ≤ cntL l nt := by
  obtain ⟨K, hK⟩ := h.max
  have hp := h.pgi hK (by show ∀ j, j < ws.length → _; rw [hw]; exact hr) (by show nt ≤ ts.length; omega)
  have hnt : (PDm ws ts (rms ws)).nt = nt := ht
  have hd := PGI.done (d := PDm ws ts (rms ws)) (t := t) (room := room) (K := K) (l := l) (by rw [hnt]; exact hp)
  rw [hnt] at hd
  refine ⟨⟨by rw [hp.ll, ht], hd.1⟩, fun P hP => ?_⟩
  rw [hd.2]
  have := hK.2 _ hP.2
  rw [hnt] at this
  exact this
theorem popc_sm (s : Nat) : ∀ k, (popc k s : Int) = sm k fun i => if s.testBit i then 1 else 0
  | 0 => by simp [popc, sm]
  | k + 1 => by
    rw [popc_nx, sm, ← popc_sm s k]
    cases s.testBit k <;> simp
theorem popc_up {k s : Nat} (hs : s < 2 ^ k) : ∀ m, popc (k + m) s = popc k s
  | 0 => rfl
  | m + 1 => by
    rw [← Nat.add_assoc, popc_nx, popc_up hs m]
    have : s.testBit (k + m) = false := Nat.testBit_lt_two_pow (Nat.lt_of_lt_of_le hs (Nat.pow_le_pow_right (n := 2) (by omega) (by omega)))
    rw [this]; rfl
theorem anyT_of {ws : List (Int × Int)} {ts : List Nat} {s j i : Nat} (h1 : s.testBit i = true) (h2 : mayI (wat ws j).2 (ts.getD i 0 : Nat) = true) : ∀ m, i < m → anyT ws ts s j m = true
  | 0, h => absurd h (by omega)
  | m + 1, h => by
    rw [anyT]
    by_cases e : i = m
    · subst e; rw [h1, h2]; simp
    · rw [anyT_of h1 h2 m (by omega)]; rfl
theorem lackI_sm (ws : List (Int × Int)) (ts : List Nat) (s : Nat) : ∀ k, lackI ws ts s k = (popc 32 s : Nat) - sm k fun j => if anyT ws ts s j ts.length then rms ws j else 0
  | 0 => by simp [lackI, sm]
  | k + 1 => by
    rw [lackI, lackI_sm ws ts s k, sm]
    split <;> omega
theorem lack_le {ws : List (Int × Int)} {ts : List Nat} {l : List Int} {s : Nat} (hp : PlG ws ts l) (hs : s < 2 ^ ts.length) (ht : ts.length ≤ 12) : lackI ws ts s ws.length ≤ ts.length - cntL l ts.length := by
  obtain ⟨_, h1', h2'⟩ := hp
  obtain ⟨P, hP⟩ : ∃ P : Nat → Int, P = fun m => l.getD m 0 := ⟨_, rfl⟩
  have h1 : ∀ i, i < ts.length → P i = -1 ∨ (0 ≤ P i ∧ P i < ws.length ∧ mayI (wat ws (P i).toNat).2 (ts.getD i 0 : Nat) = true) := fun i hi => by rw [hP]; exact h1' i hi
  have h2 : ∀ j : Nat, j < ws.length → (sm ts.length fun i => if P i = (j : Int) then 1 else 0) ≤ rms ws j := by rw [hP]; exact fun j hj => h2' j hj
  clear h1' h2'
  rw [lackI_sm, show (32 : Nat) = ts.length + (32 - ts.length) by omega, popc_up hs, popc_sm]
  have hc : cntL l ts.length = sm ts.length fun i => if 0 ≤ P i then 1 else 0 := by rw [hP]; rfl
  have e1 : (sm ts.length fun i => if s.testBit i then (1 : Int) else 0) = (sm ts.length fun i => if s.testBit i = true ∧ 0 ≤ P i then (1 : Int) else 0) + sm ts.length fun i => if s.testBit i = true ∧ ¬ 0 ≤ P i then (1 : Int) else 0 := by
    rw [← sm_add]
    refine sm_congr fun i _ => ?_
    cases s.testBit i
    · simp
    · by_cases h : 0 ≤ P i <;> simp [h]
  have e2 : (sm ts.length fun i => if s.testBit i = true ∧ ¬ 0 ≤ P i then (1 : Int) else 0) ≤ ts.length - cntL l ts.length := by
    have : (sm ts.length fun i => if s.testBit i = true ∧ ¬ 0 ≤ P i then (1 : Int) else 0) + cntL l ts.length ≤ sm ts.length fun _ => 1 := by
      rw [hc, ← sm_add]
      refine sm_le fun i _ => ?_
      by_cases h : 0 ≤ P i
      · simp [h]
      · simp only [h, not_false_eq_true, and_true, if_false]; split <;> omega
    rw [sm_const] at this
    omega
  have e3 : (sm ts.length fun i => if s.testBit i = true ∧ 0 ≤ P i then (1 : Int) else 0) ≤ sm ws.length fun j => if anyT ws ts s j ts.length then rms ws j else 0 := by
    have e4 : (sm ts.length fun i => if s.testBit i = true ∧ 0 ≤ P i then (1 : Int) else 0) ≤ sm ts.length fun i => sm ws.length fun j => if s.testBit i = true ∧ P i = (j : Int) then (1 : Int) else 0 := by
      refine sm_le fun i hi => ?_
      rcases h1 i hi with h | ⟨h3, h4, _⟩
      · rw [if_neg (by rw [h]; omega)]
        exact sm_nonneg fun j _ => by split <;> omega
      · have h4' : (P i).toNat < ws.length := by
          have : P i < ws.length := h4
          omega
        have := sm_term (g := fun j : Nat => if s.testBit i = true ∧ P i = (j : Int) then (1 : Int) else 0) (n := ws.length) (fun j _ => by (try dsimp only); split <;> omega) (P i).toNat h4'
        refine Int.le_trans ?_ this
        by_cases hb : s.testBit i = true
        · rw [if_pos ⟨hb, h3⟩, if_pos ⟨hb, by omega⟩]; omega
        · rw [if_neg (fun h => hb h.1), if_neg (fun h => hb h.1)]; omega
    refine Int.le_trans e4 ?_
    rw [sm_swap]
    refine sm_le fun j hj => ?_
    by_cases ha : anyT ws ts s j ts.length = true
    · rw [if_pos ha]
      refine Int.le_trans (sm_le fun i _ => ?_) (h2 j hj)
      by_cases hb : P i = (j : Int)
      · rw [if_pos hb]; split <;> omega
      · rw [if_neg hb, if_neg (fun h => hb h.2)]; omega
    · rw [if_neg ha]
      refine Int.le_of_eq (sm_all0 fun i hi => if_neg fun ⟨hb, hpj⟩ => ha ?_)
      rcases h1 i hi with h | ⟨_, _, h⟩
      · omega
      · rw [hpj, Int.toNat_natCast] at h
        exact anyT_of hb h _ hi
  rw [e1]
  omega
end Go.Proofs.YtgbkpjiefaejiaaDoor
