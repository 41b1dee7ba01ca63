/- line.Times: the walk. -/
import Derived.Test.YtgmoehkddohhfaaBack
import Derived.Test.YtgmoehkddohhfaaTimesLaw
import Derived.Test.YtgmoehkddohhfaaLineRight
import Derived.Test.YtgmoehkddohhfaaRow
namespace Go.Proofs.Ytgmoehkddohhfaa
open Go.RowKit Go.Shelf
attribute [local go_sem] Oper.semAt_some

theorem jfst_all {n : Nat} {l : List Jb} (h : jfst n l = 0) : ∀ j ∈ l, jbad n j = 0 := by
  induction l with
  | nil => intro j hj; cases hj
  | cons a r ih =>
    rw [jfst] at h
    by_cases ha : jbad n a = 0
    · rw [if_pos ha] at h
      intro j hj
      rcases List.mem_cons.1 hj with rfl | hj
      · exact ha
      · exact ih h j hj
    · rw [if_neg ha] at h; exact absurd h ha
structure JOk (n : Nat) (j : Jb) : Prop where
  t0 : 0 ≤ j.time
  t1 : j.time ≤ 1048576
  z : ∀ z ∈ j.after, 0 ≤ z ∧ z < n
  len : j.len ≤ 10
theorem jchk_all {l : List Jb} (h : jchk l = 0) : ∀ j ∈ l, JOk l.length j := by
  have h10 := jchk_len h
  unfold jchk at h
  rw [if_neg (by omega)] at h
  by_cases hl : l.any longJ = true
  · rw [if_pos hl] at h; cases h
  · rw [if_neg hl] at h
    intro j hj
    have hb := jfst_all h j hj
    unfold jbad at hb
    by_cases ht : j.time < 0 ∨ 1048576 < j.time
    · rw [if_pos ht] at hb; cases hb
    · rw [if_neg ht] at hb
      by_cases ha : j.after.any (outK l.length) = true
      · rw [if_pos ha] at hb; cases hb
      · refine ⟨by omega, by omega, fun z hz => ?_, ?_⟩
        · have := List.any_eq_false.1 (by simpa using ha) z hz
          unfold outK at this
          simp at this
          omega
        · have hlf : l.any longJ = false := by simpa using hl
          have := List.any_eq_false.1 hlf j hj
          unfold longJ at this
          simpa using this
def tmJ (l : List Jb) (i : Nat) : Int := (jat l i).time
def aftJ (l : List Jb) (i : Nat) : List Int := (jat l i).after
def PJ (q : List Int) (m : Nat) : Nat := (q.getD m 0).toNat
theorem jat_big {l : List Jb} {i : Nat} (h : ¬ i < l.length) : jat l i = default := by simp [jat, List.getD, show l[i]? = none by simp; omega]
theorem tmJ_bd {l : List Jb} (h : jchk l = 0) (i : Nat) : 0 ≤ tmJ l i ∧ tmJ l i ≤ 1048576 := by
  unfold tmJ
  by_cases hi : i < l.length
  · have := jchk_all h _ (jat_mem hi); exact ⟨this.t0, this.t1⟩
  · rw [jat_big hi]; decide
theorem good_ord {l : List Jb} {q : List Int} (h : Good l q) (hq : q.length = l.length) : Ord (aftJ l) (PJ q) l.length := by
  have hz : ∀ m, m < l.length → 0 ≤ q.getD m 0 ∧ hasB (q.take m) (q.getD m 0) = false := fun m hm => by
    have := (h m (by omega)).1
    unfold badE at this
    simp only [Bool.or_eq_false_iff, decide_eq_false_iff_not] at this
    exact ⟨by omega, this.2⟩
  have hlt : ∀ m, m < l.length → PJ q m < l.length := fun m hm => by
    obtain ⟨_, k, h1, h2, _⟩ := h m (by omega)
    unfold PJ; rw [h2]; simpa using h1
  have hin : ∀ m z, m < l.length → hasB (q.take m) z = true → ∃ m', m' < m ∧ q.getD m' 0 = z := fun m z hm hh => by
    unfold hasB at hh
    obtain ⟨y, hy, e⟩ := List.any_eq_true.1 hh
    obtain ⟨i, hi, rfl⟩ := List.mem_take_iff_getElem.1 hy
    have e : z = q[i] := eq_of_beq e
    exact ⟨i, by omega, by simp [List.getD, show i < q.length by omega, e]⟩
  refine ⟨hlt, fun m m' hmm hm' he => ?_, fun m hm z hzz => ?_⟩
  · have h1 := hz m (by omega)
    have h2 := hz m' hm'
    have he' : q.getD m 0 = q.getD m' 0 := by unfold PJ at he; omega
    have : hasB (q.take m') (q.getD m' 0) = true := by
      unfold hasB
      refine List.any_eq_true.2 ⟨q.getD m 0, List.mem_take_iff_getElem.2 ⟨m, by omega, by simp [List.getD, show m < q.length by omega]⟩, by rw [he']; exact beq_self_eq_true _⟩
    rw [h2.2] at this; cases this
  · obtain ⟨_, k, h1, h2, h3⟩ := h m (by omega)
    have hk : PJ q m = k := by unfold PJ; rw [h2]; simp
    unfold aftJ at hzz
    rw [hk] at hzz
    obtain ⟨m', h4, h5⟩ := hin m z hm (h3 z hzz)
    exact ⟨m', h4, by unfold PJ; rw [h5]⟩
theorem nodup_le : ∀ (n : Nat) (l : List Nat), l.Nodup → (∀ x ∈ l, x < n) → l.length ≤ n
  | 0, l, _, h => by cases l with | nil => simp | cons a r => exact absurd (h a (by simp)) (by omega)
  | n + 1, l, hd, h => by
    have h1 := nodup_le n (l.erase n) (hd.erase n) (fun x hx => by
      have h2 := h x (List.mem_of_mem_erase hx)
      have h3 : x ≠ n := fun e => by subst e; exact (List.Nodup.mem_erase_iff hd).1 hx |>.1 rfl
      omega)
    have h4 : l.length ≤ (l.erase n).length + 1 := by rw [List.length_erase]; split <;> omega
    omega
/-- all come -/
theorem inj_surj {n : Nat} {P : Nat → Nat} (hlt : ∀ m, m < n → P m < n) (hne : ∀ m m', m < m' → m' < n → P m ≠ P m') (i : Nat) (hi : i < n) : ∃ m, m < n ∧ P m = i := by
  have hnd : ((List.range n).map P).Nodup := by
    unfold List.Nodup
    rw [List.pairwise_map]
    refine List.Pairwise.imp_of_mem (fun ha hb hab => hne _ _ hab (by simpa using hb)) List.pairwise_lt_range
  refine Classical.byContradiction fun hno => ?_
  have hni : i ∉ (List.range n).map P := fun hm => by
    obtain ⟨m, hm, e⟩ := List.mem_map.1 hm
    exact hno ⟨m, by simpa using hm, e⟩
  have := nodup_le n (i :: (List.range n).map P) (List.nodup_cons.2 ⟨hni, hnd⟩) (fun x hx => by
    rcases List.mem_cons.1 hx with rfl | hx
    · exact hi
    · obtain ⟨m, hm, rfl⟩ := List.mem_map.1 hx
      exact hlt m (by simpa using hm))
  simp at this
  omega
end Go.Proofs.Ytgmoehkddohhfaa
