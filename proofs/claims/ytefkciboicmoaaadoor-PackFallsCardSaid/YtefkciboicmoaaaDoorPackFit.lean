/- Boxes: what first leaves fits; Johnson. No program in sight. -/
import Derived.Test.YtefkciboicmoaaaDoorPackB
import Derived.Test.YtefkciboicmoaaaDoorPackE
import Derived.Test.YtefkciboicmoaaaDoorPackLaw
namespace Go.Proofs.YtefkciboicmoaaaDoor
open Go.RowKit

def ldO (z : Nat → Int) (F : Nat → Int) (o : List Nat) (c : Int) : Int := (o.map fun i => if F i = c then z i else 0).sum
theorem ldO_snoc (z F : Nat → Int) (o : List Nat) (i : Nat) (c : Int) : ldO z F (o ++ [i]) c = ldO z F o c + if F i = c then z i else 0 := by simp [ldO]
theorem ldO_upd {z F : Nat → Int} {o : List Nat} {i : Nat} (h : i ∉ o) (k c : Int) : ldO z (fun j => if j = i then k else F j) o c = ldO z F o c := by
  unfold ldO
  congr 1
  apply List.map_congr_left
  intro j hj
  have : j ≠ i := fun e => h (e ▸ hj)
  simp [this]
theorem getD_set (bs : List Int) (k : Nat) (v : Int) (c : Nat) (hk : k < bs.length) : (bs.set k v).getD c 0 = if k = c then v else bs.getD c 0 := by
  rw [List.getD, List.getElem?_set]
  by_cases h : k = c
  · subst h; simp [hk]
  · simp [h]
theorem getD_snoc (bs : List Int) (v : Int) (c : Nat) : (bs ++ [v]).getD c 0 = if c < bs.length then bs.getD c 0 else if c = bs.length then v else 0 := by
  rw [List.getD]
  by_cases h : c < bs.length
  · rw [List.getElem?_append_left h, if_pos h]; rfl
  · rw [if_neg h]
    by_cases h2 : c = bs.length
    · subst h2; simp
    · simp [h2, show bs.length + 1 ≤ c by omega]
/-- what is so of each run of first -/
structure FI (z : Nat → Int) (room : Int) (o : List Nat) (bs : List Int) (F : Nat → Int) : Prop where
  rng : ∀ i, i ∈ o → 0 ≤ F i ∧ F i < bs.length
  ld : ∀ c : Nat, c < bs.length → bs.getD c 0 = ldO z F o c
  no : ∀ i, i ∈ o → ∀ c : Nat, (c : Int) < F i → room < bs.getD c 0 + z i
  pr : ∀ c c' : Nat, c < c' → c' < bs.length → room < bs.getD c 0 + bs.getD c' 0
  sm : bs.sum = (o.map z).sum
  used : ∀ c : Nat, c < bs.length → ∃ i, i ∈ o ∧ F i = c
theorem sum_zero : ∀ o : List Nat, (o.map fun _ => (0 : Int)).sum = 0
  | [] => rfl
  | _ :: o => by simp [sum_zero o]
theorem sum_set (bs : List Int) (k : Nat) (x : Int) (h : k < bs.length) : (bs.set k (bs.getD k 0 + x)).sum = bs.sum + x := by
  induction bs generalizing k with
  | nil => simp at h
  | cons a l ih =>
    cases k with
    | zero => simp; omega
    | succ k =>
      have := ih k (by simpa using h)
      simp only [List.getD_cons_succ, List.set_cons_succ, List.sum_cons, this]
      omega
theorem FF.fi {z : Nat → Int} {room : Int} {o : List Nat} {bs : List Int} {F : Nat → Int} (hz : ∀ i, 0 ≤ z i ∧ z i ≤ room) (h : FF z room o bs F) (hn : o.Nodup) : FI z room o bs F := by
  induction h with
  | start => exact ⟨fun _ h => by simp at h, fun _ h => by simp at h, fun _ h => by simp at h, fun _ _ _ h => by simp at h, rfl, fun _ h => by simp at h⟩
  | @fit o bs F i k hf hk hr hb ih =>
    have hn2 := List.nodup_append.1 hn
    have hio : i ∉ o := fun h => hn2.2.2 i h i (by simp) rfl
    have ih := ih hn2.1
    have hzi := hz i
    have gs := fun c => getD_set bs k (bs.getD k 0 + z i) c hk
    refine ⟨fun j hj => ?_, fun c hc => ?_, fun j hj c hc => ?_, fun c c' h1 h2 => ?_, ?_, fun c hc => ?_⟩
    · rw [List.length_set]
      by_cases e : j = i
      · rw [if_pos e]; omega
      · rw [if_neg e]
        exact ih.rng j (by simpa [e] using hj)
    · rw [List.length_set] at hc
      rw [gs, ldO_snoc, ldO_upd hio]
      have := ih.ld c hc
      by_cases e : k = c
      · subst e; rw [if_pos rfl, if_pos rfl]; omega
      · rw [if_neg e, if_neg (by omega)]; omega
    · rw [gs]
      by_cases e : j = i
      · subst e
        rw [if_pos rfl] at hc
        rw [if_neg (by omega)]
        exact hb c (by omega)
      · rw [if_neg e] at hc
        have := ih.no j (by simpa [e] using hj) c hc
        split
        · rename_i e2; subst e2; omega
        · exact this
    · rw [List.length_set] at h2
      have := ih.pr c c' h1 h2
      rw [gs, gs]
      split
      · rename_i e; subst e
        split <;> omega
      · split
        · rename_i e; subst e; omega
        · exact this
    · rw [sum_set bs k _ hk, ih.sm]; simp
    · rw [List.length_set] at hc
      obtain ⟨j, hj, e⟩ := ih.used c hc
      exact ⟨j, by simp [hj], by rw [if_neg (fun e : j = i => hio (e ▸ hj))]; exact e⟩
  | @new o bs F i hf hb ih =>
    have hn2 := List.nodup_append.1 hn
    have hio : i ∉ o := fun h => hn2.2.2 i h i (by simp) rfl
    have ih := ih hn2.1
    have hzi := hz i
    have gs := fun c => getD_snoc bs (z i) c
    refine ⟨fun j hj => ?_, fun c hc => ?_, fun j hj c hc => ?_, fun c c' h1 h2 => ?_, ?_, fun c hc => ?_⟩
    · simp only [List.length_append, List.length_singleton]
      by_cases e : j = i
      · rw [if_pos e]; omega
      · rw [if_neg e]
        have := ih.rng j (by simpa [e] using hj)
        omega
    · simp only [List.length_append, List.length_singleton] at hc
      rw [gs, ldO_snoc, ldO_upd hio]
      by_cases e : c < bs.length
      · rw [if_pos e, if_neg (by omega), ih.ld c e]; omega
      · obtain rfl : c = bs.length := by omega
        rw [if_neg e, if_pos rfl, if_pos rfl]
        have : ldO z F o (bs.length : Int) = 0 := by
          unfold ldO
          rw [show (o.map fun i => if F i = (bs.length : Int) then z i else 0) = o.map fun _ => (0 : Int) from List.map_congr_left fun j hj => by
            have := ih.rng j hj
            rw [if_neg (by omega)]]
          exact sum_zero o
        omega
    · rw [gs]
      by_cases e : j = i
      · subst e
        rw [if_pos rfl] at hc
        rw [if_pos (by omega)]
        exact hb c (by omega)
      · rw [if_neg e] at hc
        have h1 := ih.no j (by simpa [e] using hj) c hc
        have h2 := ih.rng j (by simpa [e] using hj)
        rw [if_pos (by omega)]
        exact h1
    · simp only [List.length_append, List.length_singleton] at h2
      rw [gs, gs, if_pos (by omega)]
      by_cases e : c' < bs.length
      · rw [if_pos e]; exact ih.pr c c' h1 e
      · rw [if_neg e, if_pos (by omega)]
        exact hb c (by omega)
    · rw [List.sum_append, ih.sm]; simp
    · simp only [List.length_append, List.length_singleton] at hc
      by_cases e : c < bs.length
      · obtain ⟨j, hj, e2⟩ := ih.used c e
        exact ⟨j, by simp [hj], by rw [if_neg (fun e : j = i => hio (e ▸ hj))]; exact e2⟩
      · exact ⟨i, by simp, by rw [if_pos rfl]; omega⟩
theorem lodL_ldO (zs : List Int) (F : Nat → Int) (n : Nat) (c : Int) : ∀ k, k ≤ n → lodL zs ((List.range n).map F) c k = ldO (fun i => zs.getD i 0) F (List.range k) c
  | 0, _ => rfl
  | k + 1, h => by
    have hg : ((List.range n).map F).getD k 0 = F k := by simp [List.getD, show k < n by omega]
    rw [lodL, lodL_ldO zs F n c k (by omega), List.range_succ, ldO_snoc, hg]
    by_cases e : F k = c <;> simp [e]
theorem perm_sum {a b : List Int} (h : a.Perm b) : a.sum = b.sum := by
  induction h with
  | nil => rfl
  | cons x _ ih => simp [ih]
  | swap x y l => simp; omega
  | trans _ _ h1 h2 => exact h1.trans h2
theorem ldO_perm {z F : Nat → Int} {o o' : List Nat} (h : o.Perm o') (c : Int) : ldO z F o c = ldO z F o' c := perm_sum (h.map _)
theorem FI.fit {zs : List Int} {room : Int} {o : List Nat} {bs : List Int} {F : Nat → Int} (h : FI (fun i => zs.getD i 0) room o bs F) (hb : ∀ c, c < bs.length → bs.getD c 0 ≤ room) (hl : bs.length ≤ zs.length) (hp : o.Perm (List.range zs.length)) : Fit zs ((List.range zs.length).map F) room bs.length := by
  have hg : ∀ i, i < zs.length → ((List.range zs.length).map F).getD i 0 = F i := fun i hi => by simp [List.getD, hi]
  have hm : ∀ i, i < zs.length → i ∈ o := fun i hi => hp.mem_iff.2 (by simpa using hi)
  refine ⟨by simp, fun i hi => ?_, fun i hi => ?_, ?_, fun c hc => ?_⟩
  · rw [hg i hi]; have := h.rng i (hm i hi); omega
  · rw [hg i hi]; exact (h.rng i (hm i hi)).2
  · by_cases h0 : bs.length = 0
    · left; omega
    · right
      obtain ⟨i, hi, e⟩ := h.used (bs.length - 1) (by omega)
      have hi2 : i < zs.length := by simpa using hp.mem_iff.1 hi
      exact ⟨i, hi2, by rw [hg i hi2, e]; omega⟩
  · have hc' : c < bs.length := by omega
    rw [lodL_ldO zs F _ c _ (Nat.le_refl _), ← ldO_perm hp, ← h.ld c hc']
    exact hb c hc'
/-- one list fits into one number of boxes alone -/
theorem Fit.uniq {zs ls : List Int} {room r q : Int} (h : Fit zs ls room r) (h' : Fit zs ls room q) (hr : 0 ≤ r) (hq : 0 ≤ q) : r = q := by
  have a : ∀ {r q : Int}, 0 ≤ q → Fit zs ls room r → Fit zs ls room q → r ≤ q := fun {r q} hq h h' => by
    rcases h.hit with e | ⟨i, hi, e⟩
    · omega
    · have := h'.top i hi; omega
  have := a hq h h'
  have := a hr h' h
  omega
theorem full_bit (n k : Nat) : (2 ^ n - 1).testBit k = decide (k < n) := Nat.testBit_two_pow_sub_one n k
theorem Fit.ldWL {zs ls : List Int} {room r : Int} (h : Fit zs ls room r) {n : Nat} (hn : zs.length = n) (c : Nat) : ∀ k, k ≤ n → ldW (fun i => zs.getD i 0) (2 ^ n - 1) (fun i => (ls.getD i 0).toNat) c k = lodL zs ls c k
  | 0, _ => rfl
  | k + 1, hk => by
    have hb := h.bd k (by omega)
    rw [ldW, lodL, h.ldWL hn c k (by omega), full_bit, decide_eq_true (show k < n by omega)]
    by_cases e : ls.getD k 0 = (c : Int)
    · rw [if_pos (by rw [e]; simp), if_pos (by rw [e]; simp)]
    · rw [if_neg (by simp; intro e2; apply e; have := hb.1; simp at this ⊢; omega), if_neg (by simpa using e)]
/-- no list that fits takes fewer boxes -/
theorem fewest_le {zs ls : List Int} {room r : Int} {x : Int × Int} (h : Fit zs ls room r) (h0 : 0 ≤ r) (hP : PB (fun i => zs.getD i 0) room zs.length (2 ^ zs.length - 1) x) : x.1 ≤ r := by
  by_cases hn : zs.length = 0
  · have := hP.bd
    rw [hn] at this
    simp [popc] at this
    omega
  · have h1 := h.top 0 (by omega)
    have h2 := h.bd 0 (by omega)
    have := hP.lb r.toNat (fun i => (ls.getD i 0).toNat) (by omega) (fun i hi _ => by have := h.top i hi; have := h.bd i hi; omega) (fun c hc => by
      rw [h.ldWL rfl c _ (Nat.le_refl _)]; exact h.ld c (by omega))
    omega
theorem smW_full (z : Nat → Int) (n : Nat) : ∀ k, k ≤ n → smW z (2 ^ n - 1) k = ((List.range k).map z).sum
  | 0, _ => rfl
  | k + 1, h => by rw [smW, full_bit, decide_eq_true (show k < n by omega), smW_full z n k (by omega), List.range_succ]; simp
/-- they have room for all -/
theorem fewest_sum {z : Nat → Int} {room : Int} {n : Nat} {x : Int × Int} (hP : PB z room n (2 ^ n - 1) x) : ((List.range n).map z).sum ≤ x.1 * room := by
  rw [← smW_full z n n (Nat.le_refl _)]
  by_cases hn : n = 0
  · subst hn
    have := hP.bd
    simp [popc] at this
    rw [show x.1 = 0 by omega]; simp [smW]
  · have h0 : 2 ^ n - 1 ≠ 0 := by
      have := Nat.pow_le_pow_right (n := 2) (by omega) (show 1 ≤ n by omega)
      omega
    have := hP.sm h0
    have e : x.1 * room = (x.1 - 1) * room + room := by rw [Int.sub_mul]; omega
    omega
theorem fewest_pos {z : Nat → Int} {room : Int} {n : Nat} {x : Int × Int} (hn : n ≠ 0) (hP : PB z room n (2 ^ n - 1) x) : 1 ≤ x.1 := by
  have h0 : 2 ^ n - 1 ≠ 0 := by
    have := Nat.pow_le_pow_right (n := 2) (by omega) (show 1 ≤ n by omega)
    omega
  exact (hP.sm h0).1
/-- two and two -/
theorem pairs_sum (room : Int) : ∀ bs : List Int, (∀ c, c < bs.length → 0 ≤ bs.getD c 0) → (∀ c c' : Nat, c < c' → c' < bs.length → room < bs.getD c 0 + bs.getD c' 0) → (bs.length / 2 : Nat) * (room + 1) ≤ bs.sum
  | [], _, _ => by simp
  | [a], h, _ => by have := h 0 (by simp); simpa using this
  | a :: b :: l, h, hp => by
    have ih := pairs_sum room l (fun c hc => h (c + 2) (by simpa using hc)) (fun c c' h1 h2 => hp (c + 2) (c' + 2) (by omega) (by simpa using h2))
    have := hp 0 1 (by omega) (by simp)
    simp at this
    simp only [List.length_cons, List.sum_cons]
    rw [show (l.length + 1 + 1) / 2 = l.length / 2 + 1 by omega]
    rw [show ((l.length / 2 + 1 : Nat) : Int) * (room + 1) = (l.length / 2 : Nat) * (room + 1) + (room + 1) by rw [Int.natCast_add, Int.add_mul]; simp]
    omega
theorem twice {z : Nat → Int} {room : Int} {n : Nat} {bs : List Int} {F : Nat → Int} {x : Int × Int} {o : List Nat} (hr : 1 ≤ room) (hb : ∀ c, c < bs.length → 0 ≤ bs.getD c 0) (hF : FI z room o bs F) (hp : o.Perm (List.range n)) (hP : PB z room n (2 ^ n - 1) x) : (bs.length : Int) ≤ 2 * x.1 := by
  have h1 := pairs_sum room bs hb hF.pr
  rw [hF.sm, perm_sum (hp.map z)] at h1
  have h2 := fewest_sum hP
  by_cases h0 : bs.length = 0
  · have := hP.bd; omega
  · by_cases hm : bs.length / 2 = 0
    · have hn : n ≠ 0 := by
        intro e
        obtain ⟨i, hi, _⟩ := hF.used 0 (by omega)
        have := hp.mem_iff.1 hi
        rw [e] at this; simp at this
      have := fewest_pos hn hP
      omega
    · have : ((bs.length / 2 : Nat) : Int) * room < x.1 * room := by
        rw [Int.mul_add] at h1
        omega
      have := Int.lt_of_mul_lt_mul_right this (by omega)
      omega
end Go.Proofs.YtefkciboicmoaaaDoor
