/- Hall, of placings (plain): what PlaceH, PlaceAnyLaw, PlaceHallLaw say, for seats without these laws' functions. -/
import Derived.Test.YticffbcbfgboeaaMaxCut
import Derived.Test.YticffbcbfgboeaaPlaceE
import Derived.Test.YticffbcbfgboeaaPopc
namespace Go.Proofs.Yticffbcbfgboeaa
open Go.RowKit Go.Shelf

theorem popc_nx (k x : Nat) : popc (k + 1) x = popc k x + if x.testBit k then 1 else 0 := by
  unfold popc
  rw [List.range_succ, List.filter_append, List.length_append]
  cases h : x.testBit k <;> simp [h]
def PlG (ws : List (Int × Int)) (ts : List Nat) (l : List Int) : Prop := l.length = ts.length ∧ Pl (PDm ws ts (rms ws)) (fun m => l.getD m 0)
/-- may any of the first m tasks that are in s be with j? -/
def anyT (ws : List (Int × Int)) (ts : List Nat) (s j : Nat) : Nat → Bool
  | 0 => false
  | m + 1 => anyT ws ts s j m || (s.testBit m && mayI (wat ws j).2 (ts.getD m 0 : Nat))
/-- the set's size without the room of the first k who may do any of it -/
def lackI (ws : List (Int × Int)) (ts : List Nat) (s : Nat) : Nat → Int
  | 0 => (popc 32 s : Nat)
  | k + 1 => if anyT ws ts s k ts.length then lackI ws ts s k - rms ws k else lackI ws ts s k
theorem lackI_bd {ws : List (Int × Int)} {ts : List Nat} {s : Nat} (h : ∀ j, j < ws.length → 0 ≤ rms ws j ∧ rms ws j ≤ 12) : ∀ k, k ≤ ws.length → -(12 * k) ≤ lackI ws ts s k ∧ lackI ws ts s k ≤ 32
  | 0, _ => by
    have := popc_le 32 s
    unfold lackI
    omega
  | k + 1, hk => by
    have h1 := lackI_bd (ts := ts) (s := s) h k (by omega)
    have h2 := h k (by omega)
    rw [lackI]
    split <;> omega


theorem Gr.max {d : PD} {i : Nat} {room : Nat → Int} {t : Int} {l : List Int} (h : Gr d i room t l) : ∃ K, MaxPl d K := by
  induction h with
  | start hK => exact ⟨_, hK⟩
  | left _ _ ih => exact ih
  | take _ _ _ _ _ _ _ ih => exact ih
/-- what is told is a placing of the most -/
theorem Gr.best {ws : List (Int × Int)} {ts : List Nat} {nw nt : Nat} {room : Nat → Int} {t : Int} {l : List Int} (hw : ws.length = nw) (ht : ts.length = nt) (hr : ∀ j, j < nw → 0 ≤ rms ws j) (h : Gr (PDm ws ts (rms ws)) nt room t l) :
    PlG ws ts l ∧ ∀ P, PlG ws ts P → cntL P nt ≤ cntL l nt := by
  obtain ⟨K, hK⟩ := h.max
  have hp := h.pgi hK (by show ∀ j, j < ws.length → _; rw [hw]; exact hr) (by show nt ≤ ts.length; omega)
  have hnt : (PDm ws ts (rms ws)).nt = nt := ht
  have hd := PGI.done (d := PDm ws ts (rms ws)) (t := t) (room := room) (K := K) (l := l) (by rw [hnt]; exact hp)
  rw [hnt] at hd
  refine ⟨⟨by rw [hp.ll, ht], hd.1⟩, fun P hP => ?_⟩
  rw [hd.2]
  have := hK.2 _ hP.2
  rw [hnt] at this
  exact this
theorem popc_sm (s : Nat) : ∀ k, (popc k s : Int) = sm k fun i => if s.testBit i then 1 else 0
  | 0 => by simp [popc, sm]
  | k + 1 => by
    rw [popc_nx, sm, ← popc_sm s k]
    cases s.testBit k <;> simp
theorem popc_up {k s : Nat} (hs : s < 2 ^ k) : ∀ m, popc (k + m) s = popc k s
  | 0 => rfl
  | m + 1 => by
    rw [← Nat.add_assoc, popc_nx, popc_up hs m]
    have : s.testBit (k + m) = false := Nat.testBit_lt_two_pow (Nat.lt_of_lt_of_le hs (Nat.pow_le_pow_right (n := 2) (by omega) (by omega)))
    rw [this]; rfl
theorem anyT_of {ws : List (Int × Int)} {ts : List Nat} {s j i : Nat} (h1 : s.testBit i = true) (h2 : mayI (wat ws j).2 (ts.getD i 0 : Nat) = true) : ∀ m, i < m → anyT ws ts s j m = true
  | 0, h => absurd h (by omega)
  | m + 1, h => by
    rw [anyT]
    by_cases e : i = m
    · subst e; rw [h1, h2]; simp
    · rw [anyT_of h1 h2 m (by omega)]; rfl
theorem lackI_sm (ws : List (Int × Int)) (ts : List Nat) (s : Nat) : ∀ k, lackI ws ts s k = (popc 32 s : Nat) - sm k fun j => if anyT ws ts s j ts.length then rms ws j else 0
  | 0 => by simp [lackI, sm]
  | k + 1 => by
    rw [lackI, lackI_sm ws ts s k, sm]
    split <;> omega
theorem lack_le {ws : List (Int × Int)} {ts : List Nat} {l : List Int} {s : Nat} (hp : PlG ws ts l) (hs : s < 2 ^ ts.length) (ht : ts.length ≤ 12) : lackI ws ts s ws.length ≤ ts.length - cntL l ts.length := by
  obtain ⟨_, h1', h2'⟩ := hp
  obtain ⟨P, hP⟩ : ∃ P : Nat → Int, P = fun m => l.getD m 0 := ⟨_, rfl⟩
  have h1 : ∀ i, i < ts.length → P i = -1 ∨ (0 ≤ P i ∧ P i < ws.length ∧ mayI (wat ws (P i).toNat).2 (ts.getD i 0 : Nat) = true) := fun i hi => by rw [hP]; exact h1' i hi
  have h2 : ∀ j : Nat, j < ws.length → (sm ts.length fun i => if P i = (j : Int) then 1 else 0) ≤ rms ws j := by rw [hP]; exact fun j hj => h2' j hj
  clear h1' h2'
  rw [lackI_sm, show (32 : Nat) = ts.length + (32 - ts.length) by omega, popc_up hs, popc_sm]
  have hc : cntL l ts.length = sm ts.length fun i => if 0 ≤ P i then 1 else 0 := by rw [hP]; rfl
  have e1 : (sm ts.length fun i => if s.testBit i then (1 : Int) else 0) = (sm ts.length fun i => if s.testBit i = true ∧ 0 ≤ P i then (1 : Int) else 0) + sm ts.length fun i => if s.testBit i = true ∧ ¬ 0 ≤ P i then (1 : Int) else 0 := by
    rw [← sm_add]
    refine sm_congr fun i _ => ?_
    cases s.testBit i
    · simp
    · by_cases h : 0 ≤ P i <;> simp [h]
  have e2 : (sm ts.length fun i => if s.testBit i = true ∧ ¬ 0 ≤ P i then (1 : Int) else 0) ≤ ts.length - cntL l ts.length := by
    have : (sm ts.length fun i => if s.testBit i = true ∧ ¬ 0 ≤ P i then (1 : Int) else 0) + cntL l ts.length ≤ sm ts.length fun _ => 1 := by
      rw [hc, ← sm_add]
      refine sm_le fun i _ => ?_
      by_cases h : 0 ≤ P i
      · simp [h]
      · simp only [h, not_false_eq_true, and_true, if_false]; split <;> omega
    rw [sm_const] at this
    omega
  have e3 : (sm ts.length fun i => if s.testBit i = true ∧ 0 ≤ P i then (1 : Int) else 0) ≤ sm ws.length fun j => if anyT ws ts s j ts.length then rms ws j else 0 := by
    have e4 : (sm ts.length fun i => if s.testBit i = true ∧ 0 ≤ P i then (1 : Int) else 0) ≤ sm ts.length fun i => sm ws.length fun j => if s.testBit i = true ∧ P i = (j : Int) then (1 : Int) else 0 := by
      refine sm_le fun i hi => ?_
      rcases h1 i hi with h | ⟨h3, h4, _⟩
      · rw [if_neg (by rw [h]; omega)]
        exact sm_nonneg fun j _ => by split <;> omega
      · have h4' : (P i).toNat < ws.length := by
          have : P i < ws.length := h4
          omega
        have := sm_term (g := fun j : Nat => if s.testBit i = true ∧ P i = (j : Int) then (1 : Int) else 0) (n := ws.length) (fun j _ => by (try dsimp only); split <;> omega) (P i).toNat h4'
        refine Int.le_trans ?_ this
        by_cases hb : s.testBit i = true
        · rw [if_pos ⟨hb, h3⟩, if_pos ⟨hb, by omega⟩]; omega
        · rw [if_neg (fun h => hb h.1), if_neg (fun h => hb h.1)]; omega
    refine Int.le_trans e4 ?_
    rw [sm_swap]
    refine sm_le fun j hj => ?_
    by_cases ha : anyT ws ts s j ts.length = true
    · rw [if_pos ha]
      refine Int.le_trans (sm_le fun i _ => ?_) (h2 j hj)
      by_cases hb : P i = (j : Int)
      · rw [if_pos hb]; split <;> omega
      · rw [if_neg hb, if_neg (fun h => hb h.2)]; omega
    · rw [if_neg ha]
      refine Int.le_of_eq (sm_all0 fun i hi => if_neg fun ⟨hb, hpj⟩ => ha ?_)
      rcases h1 i hi with h | ⟨_, _, h⟩
      · omega
      · rw [hpj, Int.toNat_natCast] at h
        exact anyT_of hb h _ hi
  rw [e1]
  omega


def setOf : Nat → (Nat → Bool) → Nat
  | 0, _ => 0
  | n + 1, p => setOf n p ||| if p n then 2 ^ n else 0
theorem setOf_lt (p : Nat → Bool) : ∀ n, setOf n p < 2 ^ n
  | 0 => by simp [setOf]
  | n + 1 => by
    have h1 := setOf_lt p n
    have h2 : 2 ^ (n + 1) = 2 ^ n + 2 ^ n := by rw [Nat.pow_succ]; omega
    rw [setOf]
    refine Nat.or_lt_two_pow (by omega) ?_
    split <;> omega
theorem setOf_bit (p : Nat → Bool) : ∀ n i, (setOf n p).testBit i = (decide (i < n) && p i)
  | 0, i => by simp [setOf]
  | n + 1, i => by
    rw [setOf, Nat.testBit_or, setOf_bit p n i]
    by_cases h : i = n
    · subst h
      cases hp : p i <;> simp
    · by_cases h2 : i < n
      · rw [decide_eq_true h2, decide_eq_true (show i < n + 1 by omega)]
        cases hp : p n <;> simp [Ne.symm h]
      · rw [decide_eq_false h2, decide_eq_false (show ¬ i < n + 1 by omega)]
        cases hp : p n <;> simp [Ne.symm h]
theorem MaxPl.cut {d : PD} {K : Int} (hr : ∀ j, j < d.nw → 0 ≤ d.room j ∧ d.room j ≤ 1048576) (hK : MaxPl d K) : ∃ S : Nat → Bool, S (d.nw + d.nt) = true ∧ S (d.nw + d.nt + 1) = false ∧ capS d.net S = K := by
  obtain ⟨f, v, S, hf, h1, h2, h3⟩ := maxcut (s := d.nw + d.nt) (t := d.nw + d.nt + 1) (d.ok hr) (by omega) (by omega)
  obtain ⟨⟨P, hP, hc⟩, hM⟩ := fill_place hr hf h1 h2 h3
  obtain ⟨⟨P', hP', hc'⟩, hM'⟩ := hK
  have e1 := hM _ hP'
  have e2 := hM' _ hP
  exact ⟨S, h1, h2, by omega⟩
theorem anyT_ex {ws : List (Int × Int)} {ts : List Nat} {s j : Nat} : ∀ {m : Nat}, anyT ws ts s j m = true → ∃ i, i < m ∧ s.testBit i = true ∧ mayI (wat ws j).2 (ts.getD i 0 : Nat) = true
  | 0, h => by cases h
  | m + 1, h => by
    rw [anyT, Bool.or_eq_true, Bool.and_eq_true] at h
    rcases h with h | ⟨h1, h2⟩
    · obtain ⟨i, hi, h1, h2⟩ := anyT_ex h
      exact ⟨i, by omega, h1, h2⟩
    · exact ⟨m, by omega, h1, h2⟩
theorem hall_set {ws : List (Int × Int)} {ts : List Nat} {K : Int} (hr : ∀ j, j < ws.length → 0 ≤ rms ws j ∧ rms ws j ≤ 12) (ht : ts.length ≤ 12) (hK : MaxPl (PDm ws ts (rms ws)) K) : ∃ s, s < 2 ^ ts.length ∧ (ts.length : Int) - K ≤ lackI ws ts s ws.length := by
  obtain ⟨d, hd⟩ : ∃ d, PDm ws ts (rms ws) = d := ⟨_, rfl⟩
  have hnw : d.nw = ws.length := by rw [← hd]; rfl
  have hnt : d.nt = ts.length := by rw [← hd]; rfl
  have hrm : d.room = rms ws := by rw [← hd]; rfl
  have hmy : ∀ i j, d.may i j = mayI (wat ws j).2 (ts.getD i 0 : Nat) := fun i j => by rw [← hd]; rfl
  rw [hd] at hK
  obtain ⟨S, h1, h2, h3⟩ := hK.cut (fun j hj => by have := hr j (by omega); rw [hrm]; omega)
  rw [capS_sl, d.sum] at h3
  simp only [Int.toNat_natCast, h1, h2, Bool.true_and, Bool.not_false, Bool.and_true] at h3
  -- those on the near side all of whose workers are there, too
  obtain ⟨p, hp⟩ : ∃ p : Nat → Bool, p = fun i => S (d.nw + i) && decide (∀ j, j < d.nw → d.may i j = true → S j = true) := ⟨_, rfl⟩
  refine ⟨setOf ts.length p, setOf_lt p _, ?_⟩
  rw [lackI_sm, show (32 : Nat) = ts.length + (32 - ts.length) by omega, popc_up (setOf_lt p _), popc_sm]
  have e1 : (sm ts.length fun i => if (setOf ts.length p).testBit i then (1 : Int) else 0) = sm ts.length fun i => if p i then 1 else 0 := sm_congr fun i hi => by rw [setOf_bit, decide_eq_true hi, Bool.true_and]
  have e2 : (sm ws.length fun j => if anyT ws ts (setOf ts.length p) j ts.length then rms ws j else 0) ≤ sm ws.length fun j => if S j then d.room j else 0 := by
    refine sm_le fun j hj => ?_
    have hj0 := (hr j hj).1
    by_cases ha : anyT ws ts (setOf ts.length p) j ts.length = true
    · obtain ⟨i, hi, hb, hm⟩ := anyT_ex ha
      rw [setOf_bit, decide_eq_true hi, Bool.true_and, hp] at hb
      simp only [Bool.and_eq_true, decide_eq_true_eq] at hb
      rw [if_pos ha, if_pos (hb.2 j (by omega) (by rw [hmy]; exact hm)), hrm]
      exact Int.le_refl _
    · rw [if_neg ha, hrm]
      split <;> omega
  have e3 : (sm d.nw fun j => sm d.nt fun i => if d.may i j then (if S (d.nw + i) && !S j then (1 : Int) else 0) else 0) ≥ sm d.nt fun i => if S (d.nw + i) && !p i then (1 : Int) else 0 := by
    rw [sm_swap (fun j i => if d.may i j then (if S (d.nw + i) && !S j then (1 : Int) else 0) else 0)]
    refine sm_le fun i hi => ?_
    have h0 : ∀ j, j < d.nw → 0 ≤ (if d.may i j then (if S (d.nw + i) && !S j then (1 : Int) else 0) else 0) := fun j _ => by split <;> (try split) <;> omega
    by_cases hq : (S (d.nw + i) && !p i) = true
    · rw [if_pos hq]
      rw [Bool.and_eq_true, hp] at hq
      obtain ⟨q1, q2⟩ := hq
      simp only [q1, Bool.true_and, Bool.not_eq_true', decide_eq_false_iff_not] at q2
      have : ∃ j, j < d.nw ∧ d.may i j = true ∧ S j = false := Classical.byContradiction fun hn => q2 fun j hj hm => by
        cases hs : S j
        · exact absurd ⟨j, hj, hm, hs⟩ hn
        · rfl
      obtain ⟨j, hj, hm, hs⟩ := this
      have := sm_term h0 j hj
      rw [hm, q1, hs] at this
      simpa [q1] using this
    · rw [if_neg hq]; exact sm_nonneg h0
  rw [sm_add] at h3
  have e4 : (sm d.nt fun i => if S (d.nw + i) && !p i then (1 : Int) else 0) + (sm d.nt fun i => if !S (d.nw + i) then (1 : Int) else 0) + (sm d.nt fun i => if p i then (1 : Int) else 0) = d.nt := by
    rw [← sm_add, ← sm_add, ← Int.mul_one (d.nt : Int), ← sm_const d.nt 1]
    refine sm_congr fun i hi => ?_
    have : p i = true → S (d.nw + i) = true := fun h => by rw [hp] at h; simp only [Bool.and_eq_true] at h; exact h.1
    cases h4 : p i
    · cases S (d.nw + i) <;> simp
    · rw [this h4]; simp
  rw [e1]
  rw [hnt] at e3 e4 h3
  rw [hnw] at e3 h3
  rw [hnw] at e4
  omega
end Go.Proofs.Yticffbcbfgboeaa
