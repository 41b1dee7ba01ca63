/- Maps without a hole: how many edges there may be. Plain. -/
import Derived.Test.YtonalhedjjobeaaDoorTurnLaw
import Derived.Test.YtonalhedjjobeaaDoorCrowdR
namespace Go.Proofs.YtonalhedjjobeaaDoor
open Go.RowKit

theorem per_le {α : Type} {D : List α} {f : α → α} (hf : PermOn D f) {m k : Nat} (hc : Cyc D f m) (hk : ∀ d ∈ D, ∀ j, 0 < j → j < k → itn f j d ≠ d) : m * k ≤ D.length := by
  obtain ⟨l, hl, rfl⟩ := hc
  have hlen : ∀ q : List α, (q.flatMap fun r => (List.range k).map fun j => itn f j r).length = q.length * k := fun q => by
    induction q with
    | nil => simp
    | cons a q ih => rw [List.flatMap_cons, List.length_append, ih, List.length_map, List.length_range, List.length_cons, Nat.succ_mul]; omega
  rw [← hlen l]
  refine List.Nodup.length_le_of_subset ?_ (fun x hx => ?_)
  · rw [List.nodup_iff_pairwise_ne, List.pairwise_flatMap]
    refine ⟨fun r hr => ?_, ?_⟩
    · rw [List.pairwise_map]
      refine List.Pairwise.imp_of_mem ?_ List.pairwise_lt_range
      intro i j hi hj hij e
      have hjk := List.mem_range.1 hj
      have hrD := hl.sub r hr
      have e2 : itn f i (itn f (j - i) r) = itn f i r := by rw [← itn_add, show i + (j - i) = j by omega]; exact e.symm
      exact hk r hrD (j - i) (by omega) (by omega) (hf.back (hf.itn hrD _) hrD i e2)
    · refine List.Pairwise.imp_of_mem ?_ (List.nodup_iff_pairwise_ne.1 hl.nd)
      intro r s hr hs hne x hx y hy e
      obtain ⟨i, _, rfl⟩ := List.mem_map.1 hx
      obtain ⟨j, _, rfl⟩ := List.mem_map.1 hy
      have h1 : Orb f r (itn f i r) := ⟨i, rfl⟩
      rw [e] at h1
      exact hne (hl.ne r hr s hs (h1.trans (hf.symm (hl.sub s hs) ⟨j, rfl⟩)))
  · obtain ⟨r, hr, hx⟩ := List.mem_flatMap.1 hx
    obtain ⟨j, _, rfl⟩ := List.mem_map.1 hx
    exact hf.itn (hl.sub r hr) j
theorem nx_self {l : List Nat} (hn : l.Nodup) {b : Nat} (hb : b ∈ l) (h : nx l b = b) : ∀ y ∈ l, y = b := by
  have h1 := idxOf_nx hn hb
  rw [h] at h1
  have h2 := List.idxOf_lt_length_of_mem hb
  have h3 : l.length = 1 := by
    by_cases e : l.idxOf b + 1 = l.length
    · rw [e, Nat.mod_self] at h1; omega
    · rw [Nat.mod_eq_of_lt (by omega)] at h1; omega
  intro y hy
  cases l with
  | nil => simp at h3
  | cons a l =>
    cases l with
    | nil => simp at hy hb; rw [hy, hb]
    | cons c l => simp at h3
section
variable {n : Nat} {es : List E} {l : List Rw} {rs : List (List Nat)}
theorem all_one (h1 : rts n es = 1) {i : Nat} (hi : i < n) : lab es i = 0 := by
  refine Classical.byContradiction fun hne => ?_
  have hl := lab_le es i
  have h0 := lab_le es 0
  have hnd : ([0, lab es i] : List Nat).Nodup := by simp; exact fun e => hne e.symm
  have := hnd.length_le_of_subset (l₂ := (List.range n).filter fun i => lab es i == i) fun x hx => by
    rw [List.mem_filter, List.mem_range, beq_iff_eq]
    simp at hx
    rcases hx with rfl | rfl
    · exact ⟨by omega, by omega⟩
    · exact ⟨by omega, lab_lab es i⟩
  unfold rts cntB at h1
  rw [h1] at this
  simp at this
theorem all_cn (hok : ∀ e ∈ es, okE n e) (h1 : rts n es = 1) {i j : Nat} (hi : i < n) (hj : j < n) : cn es n i j := by
  have hi0 := cn_of_lab hok es (fun _ h => h) i hi
  have hj0 := cn_of_lab hok es (fun _ h => h) j hj
  rw [all_one h1 hi] at hi0
  rw [all_one h1 hj] at hj0
  exact cn_trans es n 0 (by omega) _ _ hi0 (cn_symm es n _ _ hj0)
theorem iso_none (hI : MapIs n es l rs) (h1 : rts n es = 1) (h3 : 3 ≤ n) : isoN rs n = 0 := by
  unfold isoN cntB
  rw [List.length_eq_zero_iff, List.filter_eq_nil_iff]
  intro i hi hem
  have hi := List.mem_range.1 hi
  rw [List.isEmpty_iff] at hem
  have hno : ∀ b, adj es i b = true → False := fun b hb => by
    have := (hI.map.mem i hi b).2 hb
    rw [hem] at this; simp at this
  obtain ⟨j, hj, hne⟩ : ∃ j, j < n ∧ j ≠ i := by
    by_cases e : i = 0
    · exact ⟨1, by omega, by omega⟩
    · exact ⟨0, by omega, by omega⟩
  have hR := cn_least (R := fun x y => x = i ↔ y = i) (fun _ => Iff.rfl) (fun _ _ _ h1 h2 => h1.trans h2) (fun a b hab => by
    constructor
    · rintro rfl; exact (hno b hab).elim
    · rintro rfl; exact (hno a (by rw [adj_symm]; exact hab)).elim) n i j (all_cn hI.dst.ok h1 hi hj)
  exact hne (hR.1 rfl)
theorem ph_one (hI : MapIs n es l rs) {d : Nat × Nat} (hd : d ∈ dl es) : ph rs d ≠ d := fun e => by
  have ha := (mem_dl hI.dst.ok).1 hd
  have h1 : (ph rs d).1 = d.1 := by rw [e]
  have h2 := (adj_lt hI.dst.ok ha).2.2
  exact h2 h1.symm
theorem ph_two (hI : MapIs n es l rs) (h1 : rts n es = 1) (h3 : 3 ≤ n) {d : Nat × Nat} (hd : d ∈ dl es) : ph rs (ph rs d) ≠ d := fun e => by
  obtain ⟨a, b⟩ := d
  have ha := (mem_dl hI.dst.ok).1 hd
  have hlt := adj_lt hI.dst.ok ha
  simp only at ha hlt
  have e' : (nx (rs.getD b []) a, nx (rs.getD (nx (rs.getD b []) a) []) b) = (a, b) := e
  rw [Prod.mk.injEq] at e'
  obtain ⟨e1, e2⟩ := e'
  rw [e1] at e2
  have hab : a ∈ rs.getD b [] := (hI.map.mem b hlt.2.1 a).2 (by rw [adj_symm]; exact ha)
  have hba : b ∈ rs.getD a [] := (hI.map.mem a hlt.1 b).2 ha
  have k1 := nx_self (hI.map.nd b hlt.2.1) hab e1
  have k2 := nx_self (hI.map.nd a hlt.1) hba e2
  have hcl : ∀ x y, adj es x y = true → (x = a ∨ x = b) → (y = a ∨ y = b) := fun x y hxy h => by
    rcases h with rfl | rfl
    · exact .inr (k2 y ((hI.map.mem _ hlt.1 y).2 hxy))
    · exact .inl (k1 y ((hI.map.mem _ hlt.2.1 y).2 hxy))
  have hall : ∀ j, j < n → j = a ∨ j = b := fun j hj =>
    (cn_least (R := fun x y => (x = a ∨ x = b) ↔ (y = a ∨ y = b)) (fun _ => Iff.rfl) (fun _ _ _ h1 h2 => h1.trans h2) (fun x y hxy => ⟨hcl x y hxy, hcl y x (by rw [adj_symm]; exact hxy)⟩) n a j (all_cn hI.dst.ok h1 hlt.1 hj)).1 (.inl rfl)
  have q0 := hall 0 (by omega)
  have q1 := hall 1 (by omega)
  have q2 := hall 2 (by omega)
  omega
/-- three nodes with all edges -/
def tri (a b c : Nat) : Nat := ((0 ||| 2 ^ a) ||| 2 ^ b) ||| 2 ^ c
theorem tri_bit (a b c i : Nat) : (tri a b c).testBit i = (decide (a = i) || decide (b = i) || decide (c = i)) := by
  unfold tri
  rw [Nat.testBit_or, Nat.testBit_or, Nat.testBit_or, Nat.testBit_two_pow, Nat.testBit_two_pow, Nat.testBit_two_pow, Nat.zero_testBit, Bool.false_or]
theorem tri_size {a b c : Nat} (hab : a ≠ b) (hbc : b ≠ c) (hac : a ≠ c) (ha : a < 10) (hb : b < 10) (hc : c < 10) : popc 10 (tri a b c) = 3 := by
  unfold tri
  rw [popc_or _ c (by rw [Nat.testBit_or, Nat.testBit_or, Nat.testBit_two_pow, Nat.testBit_two_pow, Nat.zero_testBit]; simp [hac, hbc]), popc_or _ b (by rw [Nat.testBit_or, Nat.testBit_two_pow, Nat.zero_testBit]; simp [hab]), popc_or _ a (Nat.zero_testBit a), if_pos ha, if_pos hb, if_pos hc]
  have : popc 10 0 = 0 := by decide
  rw [this]
theorem tri_lt {a b c : Nat} (ha : a < n) (hb : b < n) (hc : c < n) : tri a b c < 2 ^ n := by
  unfold tri
  have p := fun {i : Nat} (hi : i < n) => Nat.pow_lt_pow_right (a := 2) (by omega) hi
  exact Nat.or_lt_two_pow (Nat.or_lt_two_pow (Nat.or_lt_two_pow (Nat.two_pow_pos n) (p ha)) (p hb)) (p hc)
theorem tri_crowd {a b c : Nat} (h1 : adj es a b = true) (h2 : adj es b c = true) (h3 : adj es c a = true) : cwB n es (tri a b c) = true := by
  refine all_yesC fun i _ => all_yesC fun j hj => ?_
  unfold cwAt
  rw [tri_bit, tri_bit]
  cases hi : (decide (a = i) || decide (b = i) || decide (c = i)) with
  | false => rfl
  | true =>
    cases hjb : (decide (a = j) || decide (b = j) || decide (c = j)) with
    | false => rfl
    | true =>
      simp only [Bool.or_eq_true, decide_eq_true_eq] at hi hjb
      have h1' := h1; have h2' := h2; have h3' := h3
      rw [adj_symm] at h1' h2' h3'
      rcases hi with (rfl | rfl) | rfl <;> rcases hjb with (rfl | rfl) | rfl <;> first | omega | simp [*]
theorem ph_three (hI : MapIs n es l rs) (hno : ∀ x, x < 2 ^ n → cwB n es x = true → popc 10 x < 3) {d : Nat × Nat} (hd : d ∈ dl es) : ph rs (ph rs (ph rs d)) ≠ d := fun e => by
  have hp := ph_perm hI.dst.ok hI.map
  have hok := hI.dst.ok
  have hd2 := hp.into _ hd
  have hd3 := hp.into _ hd2
  have a1 := (mem_dl hok).1 hd
  have a2 := (mem_dl hok).1 hd2
  have a3 := (mem_dl hok).1 hd3
  have e1 : (ph rs d).1 = d.2 := rfl
  have e2 : (ph rs (ph rs d)).1 = (ph rs d).2 := rfl
  have e3 : (ph rs (ph rs d)).2 = d.1 := by
    have : (ph rs (ph rs (ph rs d))).1 = (ph rs (ph rs d)).2 := rfl
    rw [e] at this; exact this.symm
  rw [e1] at a2
  rw [e2, e3] at a3
  have l1 := adj_lt hok a1
  have l2 := adj_lt hok a2
  have l3 := adj_lt hok a3
  have h10 := hI.le
  have := hno _ (tri_lt l1.1 l1.2.1 l2.2.1) (tri_crowd a1 a2 a3)
  rw [tri_size l1.2.2 l2.2.2 (Ne.symm l3.2.2) (by omega) (by omega) (by omega)] at this
  omega
/-- EULER -/
theorem plane (hI : MapIs n es l rs) (h1 : rts n es = 1) (h3 : 3 ≤ n) {m : Nat} (hc : Cyc (dl es) (ph rs) m) (hF : m + isoN rs n + n = 2 + es.length) :
    es.length + 6 ≤ 3 * n ∧ ((∀ x, x < 2 ^ n → cwB n es x = true → popc 10 x < 3) → es.length + 4 ≤ 2 * n) := by
  have hp := ph_perm hI.dst.ok hI.map
  rw [iso_none hI h1 h3] at hF
  constructor
  · have h := per_le hp hc (k := 3) fun d hd j h0 hj => by
      have hj : j = 1 ∨ j = 2 := by omega
      rcases hj with rfl | rfl
      · exact ph_one hI hd
      · exact ph_two hI h1 h3 hd
    rw [dl_length] at h
    omega
  · intro hno
    have h := per_le hp hc (k := 4) fun d hd j h0 hj => by
      have hj : j = 1 ∨ j = 2 ∨ j = 3 := by omega
      rcases hj with rfl | rfl | rfl
      · exact ph_one hI hd
      · exact ph_two hI h1 h3 hd
      · exact ph_three hI hno hd
    rw [dl_length] at h
    omega
end
end Go.Proofs.YtonalhedjjobeaaDoor
