/- The parts' determinants: the plain law of span.Many. -/
import Derived.Test.YtnkmfnnkophccaaDoorBarTree
import Derived.Test.YtnkmfnnkophccaaDoorOkL
import Derived.Test.YtnkmfnnkophccaaDoorForest
namespace Go.Proofs.YtnkmfnnkophccaaDoor
open Go.RowKit

theorem erase_mem {α : Type} {l : List α} {i : Nat} (hi : i < l.length) (x : α) : x ∈ l ↔ x = l[i] ∨ x ∈ l.eraseIdx i := by
  conv => lhs; rw [← List.take_append_drop i l, List.drop_eq_getElem_cons hi]
  rw [List.eraseIdx_eq_take_drop_succ]
  simp only [List.mem_append, List.mem_cons]
  constructor
  · rintro (h | h | h)
    · exact .inr (.inl h)
    · exact .inl h
    · exact .inr (.inr h)
  · rintro (h | h | h)
    · exact .inr (.inl h)
    · exact .inl h
    · exact .inr (.inr h)
theorem fewer_ok {N : Int} {es : List E} {i : Nat} (h : gchk N es = 0) (hi : i < es.length) : gchk N (es.eraseIdx i) = 0 := by
  obtain ⟨h1, h2⟩ := gchk_iff.1 h
  refine gchk_iff.2 ⟨?_, fun e he => h2.each e ((erase_mem hi e).2 (.inr he)), h2.two.sublist (List.eraseIdx_sublist _ _)⟩
  rw [List.length_eraseIdx, if_pos hi]
  simp [glarge] at h1 ⊢
  omega
theorem erase_okL {n : Nat} {fs : List E} (h : OkL n fs) {i : Nat} (hi : i < fs.length) : OkL n (fs.eraseIdx i) :=
  ⟨fun e he => h.each e ((erase_mem hi e).2 (.inr he)), h.two.sublist (List.eraseIdx_sublist _ _)⟩
theorem adj_erase {es : List E} {i : Nat} (hi : i < es.length) (x y : Nat) : adj es x y = (adjE x y es[i] || adj (es.eraseIdx i) x y) := by
  unfold adj
  rw [Bool.eq_iff_iff, Bool.or_eq_true, List.any_eq_true, List.any_eq_true]
  constructor
  · rintro ⟨e, he, h⟩
    rcases (erase_mem hi e).1 he with rfl | he
    · exact .inl h
    · exact .inr ⟨e, he, h⟩
  · rintro (h | ⟨e, he, h⟩)
    · exact ⟨_, List.getElem_mem hi, h⟩
    · exact ⟨e, (erase_mem hi e).2 (.inr he), h⟩
theorem adjE_of {n : Nat} {e : E} (h : okE n e) {a b x y : Nat} (hab : adjE a b e = true) : adjE x y e = true ↔ (x = a ∧ y = b) ∨ (x = b ∧ y = a) := by
  obtain ⟨p, q, h1, h2, _, _, _⟩ := h
  unfold adjE at hab ⊢
  rw [h1, h2] at hab ⊢
  simp at hab ⊢
  omega
theorem erase_rem {n : Nat} {fs : List E} (h : OkL n fs) {i a b : Nat} (hi : i < fs.length) (hab : adjE a b fs[i] = true) (x y : Nat) : adj (fs.eraseIdx i) x y = (adj fs x y && !decide ((x = a ∧ y = b) ∨ (x = b ∧ y = a))) := by
  rw [adj_erase hi x y]
  have hk := adjE_of (h.ok _ (List.getElem_mem hi)) (x := x) (y := y) hab
  by_cases e : (x = a ∧ y = b) ∨ (x = b ∧ y = a)
  · rw [decide_eq_true e, Bool.not_true, Bool.and_false]
    cases hc : adj (fs.eraseIdx i) x y
    · rfl
    · exfalso
      obtain ⟨f, hf, hxy⟩ := List.any_eq_true.1 hc
      have hxy0 : adjE x y fs[i] = true := hk.2 e
      obtain ⟨j, hj, rfl⟩ := List.mem_iff_getElem.1 hf
      rw [List.length_eraseIdx, if_pos hi] at hj
      have h2 := List.pairwise_iff_getElem.1 h.two
      have hsame : ∀ u v : E, adjE x y u = true → adjE x y v = true → sameE v u = true := fun u v h3 h4 => by
        unfold adjE at h3 h4
        unfold sameE
        simp at h3 h4 ⊢
        omega
      rw [List.getElem_eraseIdx] at hxy
      split at hxy
      · rename_i hji
        have := h2 j i (by omega) hi hji
        rw [hsame _ _ hxy hxy0] at this; cases this
      · rename_i hji
        have := h2 i (j + 1) hi (by omega) (by omega)
        rw [hsame _ _ hxy0 hxy] at this; cases this
  · rw [decide_eq_false e, Bool.not_false, Bool.and_true]
    cases hc : adjE x y fs[i]
    · rfl
    · exact absurd (hk.1 hc) e
theorem adj_in {N : Nat} {es : List E} (hok : ∀ e ∈ es, okE N e) {a b : Nat} (h : adj es a b = true) : a < N ∧ b < N ∧ a ≠ b ∧ lab es a = lab es b := by
  obtain ⟨e, he, hor⟩ := mem_adj h
  obtain ⟨p, q, h1, h2, h3, h4, h5⟩ := hok e he
  have := lab_edge es e he
  rcases hor with ⟨k1, k2⟩ | ⟨k1, k2⟩
  · rw [k1, k2] at this; exact ⟨by omega, by omega, by omega, by simpa using this⟩
  · rw [k1, k2] at this; exact ⟨by omega, by omega, by omega, by simpa using this.symm⟩
/-- the nodes of the part t -/
def pn (N : Nat) (es : List E) (t : Nat) : List Nat := (List.range N).filter fun j => lab es j == t
/-- its matrix, place by place -/
def lM (N : Nat) (es : List E) (t a b : Nat) : Int := if a < (pn N es t).length ∧ b < (pn N es t).length ∧ adj es ((pn N es t).getD a 0) ((pn N es t).getD b 0) = true then 1 else 0
def tau (N : Nat) (es : List E) (t : Nat) : Int := Dt ((pn N es t).length - 1) (lapM ((pn N es t).length - 1) (lM N es t)) ((pn N es t).length - 1)
/-- the product over the parts below t -/
def prodT (N : Nat) (es : List E) : Nat → Int
  | 0 => 1
  | t + 1 => if lab es t = t then prodT N es t * tau N es t else prodT N es t
section
variable {N : Nat} {es : List E} {t : Nat}
theorem mem_pn {j : Nat} : j ∈ pn N es t ↔ j < N ∧ lab es j = t := by simp [pn]
theorem pn_len : (pn N es t).length ≤ N := by
  have := List.length_filter_le (fun j => lab es j == t) (List.range N)
  rwa [List.length_range] at this
theorem pn_get {i : Nat} (hi : i < (pn N es t).length) : (pn N es t).getD i 0 = (pn N es t)[i] := by simp [List.getD, hi]
theorem pn_at {i : Nat} (hi : i < (pn N es t).length) : (pn N es t).getD i 0 < N ∧ lab es ((pn N es t).getD i 0) = t := by
  rw [pn_get hi]; exact mem_pn.1 (List.getElem_mem hi)
theorem pn_inj {i j : Nat} (hi : i < (pn N es t).length) (hj : j < (pn N es t).length) (h : (pn N es t).getD i 0 = (pn N es t).getD j 0) : i = j := by
  rw [pn_get hi, pn_get hj] at h
  have hn : (pn N es t).Nodup := List.nodup_range.filter _
  have hp := List.pairwise_iff_getElem.1 hn
  rcases Nat.lt_trichotomy i j with hl | hl | hl
  · exact absurd h (hp i j hi hj hl)
  · exact hl
  · exact absurd h.symm (hp j i hj hi hl)
theorem pn_mem {v : Nat} (hv : v < N) (hl : lab es v = t) : ∃ i, i < (pn N es t).length ∧ (pn N es t).getD i 0 = v := by
  obtain ⟨i, hi, h⟩ := List.getElem_of_mem (mem_pn.2 ⟨hv, hl⟩)
  exact ⟨i, hi, by rw [pn_get hi, h]⟩
theorem pn_pos (ht : t < N) (hr : lab es t = t) : 0 < (pn N es t).length := List.length_pos_of_mem (mem_pn.2 ⟨ht, hr⟩)
theorem lM_pos {a b : Nat} (h : 0 < lM N es t a b) : a < (pn N es t).length ∧ b < (pn N es t).length ∧ adj es ((pn N es t).getD a 0) ((pn N es t).getD b 0) = true := by
  unfold lM at h
  split at h
  · assumption
  · omega
theorem gr_part (hok : ∀ e ∈ es, okE N e) (ht : t < N) (hr : lab es t = t) : GrW ((pn N es t).length - 1) (lM N es t) := by
  have hp := pn_pos ht hr
  refine ⟨fun a b => ?_, fun a => ?_, fun a b => ?_, fun a b => ?_, fun X ⟨x, hx, hX⟩ => ?_⟩
  · have e : (a < (pn N es t).length ∧ b < (pn N es t).length ∧ adj es ((pn N es t).getD a 0) ((pn N es t).getD b 0) = true) ↔ (b < (pn N es t).length ∧ a < (pn N es t).length ∧ adj es ((pn N es t).getD b 0) ((pn N es t).getD a 0) = true) := by
      rw [adj_symm es ((pn N es t).getD a 0)]
      exact ⟨fun h => ⟨h.2.1, h.1, h.2.2⟩, fun h => ⟨h.2.1, h.1, h.2.2⟩⟩
    unfold lM
    simp only [e]
  · unfold lM
    rw [if_neg]
    rintro ⟨_, _, h⟩
    exact (adj_in hok h).2.2.1 rfl
  · unfold lM; split <;> omega
  · unfold lM; split <;> omega
  · refine Classical.byContradiction fun hno => ?_
    have hcl : ∀ u v, adj es u v = true → (∃ a, a < (pn N es t).length - 1 ∧ X a ∧ (pn N es t).getD a 0 = u) → ∃ b, b < (pn N es t).length - 1 ∧ X b ∧ (pn N es t).getD b 0 = v := by
      rintro u v huv ⟨a, ha, hXa, rfl⟩
      obtain ⟨_, hv, _, hl⟩ := adj_in hok huv
      obtain ⟨b, hb, rfl⟩ := pn_mem (t := t) hv (hl.symm.trans (pn_at (by omega)).2)
      have hpos : 0 < lM N es t a b := by unfold lM; rw [if_pos ⟨by omega, hb, huv⟩]; decide
      have h1 : ¬ (b = (pn N es t).length - 1 ∨ ¬ X b) := fun h => hno ⟨a, ha, hXa, b, by omega, h, hpos⟩
      have h2 : b ≠ (pn N es t).length - 1 := fun h => h1 (.inl h)
      exact ⟨b, by omega, Classical.byContradiction fun h => h1 (.inr h), rfl⟩
    have hx1 := pn_at (N := N) (es := es) (t := t) (i := x) (by omega)
    have hk1 := pn_at (N := N) (es := es) (t := t) (i := (pn N es t).length - 1) (by omega)
    have c1 := cn_of_lab hok es (fun _ h => h) _ hx1.1
    have c2 := cn_of_lab hok es (fun _ h => h) _ hk1.1
    rw [hx1.2] at c1
    rw [hk1.2] at c2
    have c3 := cn_trans es N t ht _ _ c1 (cn_symm es N _ _ c2)
    have hR := cn_least (R := fun u v => (∃ a, a < (pn N es t).length - 1 ∧ X a ∧ (pn N es t).getD a 0 = u) → ∃ b, b < (pn N es t).length - 1 ∧ X b ∧ (pn N es t).getD b 0 = v) (fun _ h => h) (fun _ _ _ h1 h2 h => h2 (h1 h)) hcl N _ _ c3
    obtain ⟨b, hb, _, he⟩ := hR ⟨x, hx, hX, rfl⟩
    have := pn_inj (by omega) (by omega) he
    omega
theorem tau_pos (hok : ∀ e ∈ es, okE N e) (hN : N ≤ 10) (ht : t < N) (hr : lab es t = t) : 0 < tau N es t := by
  have := pn_len (N := N) (es := es) (t := t)
  exact (elim_all (gr_part hok ht hr) (by omega) _ (Nat.le_refl _)).2 _ (Nat.le_refl _)
theorem tau_le (hok : ∀ e ∈ es, okE N e) (hN : N ≤ 10) (ht : t < N) (hr : lab es t = t) : tau N es t ≤ ((9 ^ ((pn N es t).length - 1) : Nat) : Int) := by
  have := pn_len (N := N) (es := es) (t := t)
  have h := (elim_all (gr_part hok ht hr) (by omega) _ (Nat.le_refl _)).1.bnd
  unfold tau
  simpa using h
theorem cntB_add {n : Nat} {p q r : Nat → Bool} (h : ∀ i, i < n → r i = (p i || q i) ∧ ¬ (p i = true ∧ q i = true)) : cntB n r = cntB n p + cntB n q := by
  induction n with
  | zero => rfl
  | succ n ih =>
    rw [cntB_succ, cntB_succ, cntB_succ, ih fun i hi => h i (by omega)]
    obtain ⟨h1, h2⟩ := h n (by omega)
    rw [h1]
    cases hp : p n <;> cases hq : q n <;> simp_all <;> omega
theorem cntB_le_n (n : Nat) (p : Nat → Bool) : cntB n p ≤ n := by
  have := List.length_filter_le p (List.range n)
  rwa [List.length_range] at this
theorem prodT_pos (hok : ∀ e ∈ es, okE N e) (hN : N ≤ 10) : ∀ t, t ≤ N → 0 < prodT N es t
  | 0, _ => by rw [prodT]; decide
  | t + 1, h => by
    have ih := prodT_pos hok hN t (by omega)
    rw [prodT]
    split
    · rename_i hr; exact Int.mul_pos ih (tau_pos hok hN (by omega) hr)
    · exact ih
theorem prodT_le (hok : ∀ e ∈ es, okE N e) (hN : N ≤ 10) : ∀ t, t ≤ N → prodT N es t ≤ ((9 ^ cntB N (fun j => decide (lab es j < t)) : Nat) : Int)
  | 0, _ => by
    have : (1 : Nat) ≤ 9 ^ cntB N (fun j => decide (lab es j < 0)) := Nat.pow_pos (by decide)
    rw [prodT]; omega
  | t + 1, h => by
    have ih := prodT_le hok hN t (by omega)
    rw [prodT]
    split
    · rename_i hr
      have h1 := tau_le hok hN (by omega) hr
      have h2 := tau_pos hok hN (by omega) hr
      have h3 := prodT_pos hok hN t (by omega)
      have hc : cntB N (fun j => decide (lab es j < t + 1)) = cntB N (fun j => decide (lab es j < t)) + (pn N es t).length :=
        cntB_add (q := fun j => lab es j == t) fun i _ => by
          constructor
          · rw [Bool.eq_iff_iff]; simp; omega
          · simp; omega
      have h4 := Int.mul_le_mul ih h1 (by omega) (by omega)
      have h5 : 9 ^ cntB N (fun j => decide (lab es j < t)) * 9 ^ ((pn N es t).length - 1) ≤ 9 ^ cntB N (fun j => decide (lab es j < t + 1)) := by
        rw [← Nat.pow_add]
        exact Nat.pow_le_pow_right (by omega) (by omega)
      refine Int.le_trans h4 ?_
      rw [← Int.natCast_mul]
      exact Int.ofNat_le.2 h5
    · refine Int.le_trans ih (Int.ofNat_le.2 (Nat.pow_le_pow_right (by omega) (cntB_le fun i _ hi => ?_)))
      simp at hi ⊢; omega
theorem prodT_small (hok : ∀ e ∈ es, okE N e) (hN : N ≤ 10) {t : Nat} (ht : t ≤ N) : prodT N es t ≤ 3486784401 := by
  have h1 := prodT_le hok hN t ht
  have h2 : 9 ^ cntB N (fun j => decide (lab es j < t)) ≤ 9 ^ 10 := Nat.pow_le_pow_right (by omega) (Nat.le_trans (cntB_le_n _ _) hN)
  omega
/- forests -/
theorem erase_lab {q : Nat} (hq : q < es.length) (hl : linkd (es.eraseIdx q) es[q]) (i : Nat) : lab es i = lab (es.eraseIdx q) i :=
  lab_same (fun e he => by
    rcases (erase_mem hq e).1 he with rfl | h
    · exact hl
    · exact linkd_mem h) (fun e he => linkd_mem ((erase_mem hq e).2 (.inr he))) i
theorem forest_tau (hok : ∀ e ∈ es, okE N e) (hf : rts N es + es.length = N) (ht : t < N) (hr : lab es t = t) : tau N es t = 1 := by
  refine tree_one (gr_part hok ht hr) fun i j _ _ hpos => ?_
  obtain ⟨hil, hjl, hadj⟩ := lM_pos hpos
  obtain ⟨e, he, hor⟩ := mem_adj hadj
  obtain ⟨q, hq, rfl⟩ := List.getElem_of_mem he
  have hnl : ¬ linkd (es.eraseIdx q) es[q] := fun hl => by
    have h2 := rts_congr (N := N) (fun x _ => erase_lab hq hl x)
    have h3 : N ≤ rts N (es.eraseIdx q) + (es.eraseIdx q).length := lab_roots N (es.eraseIdx q)
    rw [List.length_eraseIdx, if_pos hq] at h3
    omega
  refine ⟨fun a => lab (es.eraseIdx q) ((pn N es t).getD a 0) = lab (es.eraseIdx q) ((pn N es t).getD i 0), rfl, fun h => hnl ?_, fun a b _ _ hXa hXb hab => ?_⟩
  · unfold linkd
    rcases hor with ⟨k1, k2⟩ | ⟨k1, k2⟩
    · rw [k1, k2, Int.toNat_natCast, Int.toNat_natCast]; exact h.symm
    · rw [k1, k2, Int.toNat_natCast, Int.toNat_natCast]; exact h
  · obtain ⟨hal, hbl, hab⟩ := lM_pos hab
    obtain ⟨f, hf, hor2⟩ := mem_adj hab
    rcases (erase_mem hq f).1 hf with rfl | hf
    · have : ((pn N es t).getD a 0 = (pn N es t).getD i 0 ∧ (pn N es t).getD b 0 = (pn N es t).getD j 0) ∨ ((pn N es t).getD a 0 = (pn N es t).getD j 0 ∧ (pn N es t).getD b 0 = (pn N es t).getD i 0) := by omega
      rcases this with ⟨u, v⟩ | ⟨u, v⟩
      · exact ⟨pn_inj hal hil u, pn_inj hbl hjl v⟩
      · exact absurd (show lab (es.eraseIdx q) ((pn N es t).getD b 0) = lab (es.eraseIdx q) ((pn N es t).getD i 0) by rw [v]) hXb
    · exfalso
      apply hXb
      show lab (es.eraseIdx q) ((pn N es t).getD b 0) = lab (es.eraseIdx q) ((pn N es t).getD i 0)
      have hXa : lab (es.eraseIdx q) ((pn N es t).getD a 0) = lab (es.eraseIdx q) ((pn N es t).getD i 0) := hXa
      have := linkd_mem hf
      unfold linkd at this
      rcases hor2 with ⟨u, v⟩ | ⟨u, v⟩
      · rw [u, v, Int.toNat_natCast, Int.toNat_natCast] at this
        rw [← this]; exact hXa
      · rw [u, v, Int.toNat_natCast, Int.toNat_natCast] at this
        rw [this]; exact hXa
theorem forest_one (hok : ∀ e ∈ es, okE N e) (hf : rts N es + es.length = N) : ∀ t, t ≤ N → prodT N es t = 1
  | 0, _ => rfl
  | t + 1, h => by
    have ih := forest_one hok hf t (by omega)
    rw [prodT]
    split
    · rename_i hr; rw [ih, forest_tau hok hf (by omega) hr]; rfl
    · exact ih
theorem red_ex : ∀ S : List E, (∀ e ∈ S, okE N e) → rts N S + S.length = N ∨ ∃ X e Y, S = X ++ e :: Y ∧ linkd Y e
  | [], _ => .inl (by rw [rts_nil]; rfl)
  | e :: S, h => by
    by_cases hl : linkd S e
    · exact .inr ⟨[], e, S, rfl, hl⟩
    · rcases red_ex S (fun x hx => h x (List.mem_cons_of_mem _ hx)) with h1 | ⟨X, f, Y, rfl, hf⟩
      · obtain ⟨x, y, k1, k2, k3, k4, _⟩ := h e (by simp)
        have := rts_cons_lt (n := N) (e := e) (A := S) (by omega) (by omega) hl
        left
        rw [List.length_cons]; omega
      · exact .inr ⟨e :: X, f, Y, rfl, hf⟩
theorem linkd_app {Y : List E} {e : E} (h : linkd Y e) : ∀ X : List E, linkd (X ++ Y) e
  | [] => h
  | _ :: X => linkd_mono (linkd_app h X)
theorem red_idx (hok : ∀ e ∈ es, okE N e) (h : rts N es + es.length ≠ N) : ∃ (q : Nat) (hq : q < es.length), linkd (es.eraseIdx q) es[q] := by
  rcases red_ex es hok with h1 | ⟨X, e, Y, rfl, hf⟩
  · exact absurd h1 h
  · refine ⟨X.length, by simp, ?_⟩
    rw [List.eraseIdx_append_of_length_le (Nat.le_refl _)]
    simpa using linkd_app hf X
theorem fewer_prod (hg : OkL N es) (hN : N ≤ 10) {q : Nat} (hq : q < es.length) (hl : linkd (es.eraseIdx q) es[q]) : prodT N (es.eraseIdx q) N < prodT N es N := by
  have hok := hg.ok
  have hg' := erase_okL hg hq
  have hok' := hg'.ok
  obtain ⟨x, y, hx, hy, hxN, hyN, hxy⟩ := hok _ (List.getElem_mem hq)
  have hab : adjE x y es[q] = true := by unfold adjE; simp [hx, hy]
  have hrem := erase_rem hg hq hab
  have hlab := erase_lab hq hl
  have hpn : ∀ t, pn N (es.eraseIdx q) t = pn N es t := fun t => by
    unfold pn; exact List.filter_congr fun i _ => by rw [hlab i]
  have hadj : adj es x y = true := adj_mem (List.getElem_mem hq) hx hy
  have hlxy := (adj_in hok hadj).2.2.2
  have hoff : ∀ t, t ≠ lab es x → tau N (es.eraseIdx q) t = tau N es t := fun t htx => by
    unfold tau
    rw [hpn]
    congr 1
    · congr 1
      funext a b
      unfold lM
      rw [hpn]
      have : (a < (pn N es t).length ∧ b < (pn N es t).length ∧ adj (es.eraseIdx q) ((pn N es t).getD a 0) ((pn N es t).getD b 0) = true) ↔ (a < (pn N es t).length ∧ b < (pn N es t).length ∧ adj es ((pn N es t).getD a 0) ((pn N es t).getD b 0) = true) := by
        constructor
        · rintro ⟨h1, h2, h3⟩
          rw [hrem] at h3
          simp at h3
          exact ⟨h1, h2, by simpa using h3.1⟩
        · rintro ⟨h1, h2, h3⟩
          refine ⟨h1, h2, ?_⟩
          rw [hrem, h3, decide_eq_false]
          · rfl
          · have := (pn_at h1).2
            rintro (⟨u, v⟩ | ⟨u, v⟩)
            · rw [u] at this; exact htx this.symm
            · rw [u] at this; exact htx (by rw [← this, ← hlxy])
      simp only [this]
  have hon : lab es (lab es x) = lab es x := lab_lab es x
  have hxl := lab_le es x
  have hlt : tau N (es.eraseIdx q) (lab es x) < tau N es (lab es x) := by
    obtain ⟨i, hi, hPi⟩ := pn_mem (N := N) (es := es) hxN rfl
    obtain ⟨j, hj, hPj⟩ := pn_mem (N := N) (es := es) hyN hlxy.symm
    have hr' : lab (es.eraseIdx q) (lab es x) = lab es x := by rw [← hlab]; exact hon
    have hG := gr_part hok (t := lab es x) (by omega) hon
    have hG' := gr_part hok' (t := lab es x) (by omega) hr'
    have hle := pn_len (N := N) (es := es) (t := lab es x)
    unfold tau
    rw [hpn] at hG' ⊢
    have hij : i ≠ j := fun e => by subst e; exact hxy (hPi.symm.trans hPj)
    refine fewer_trees (i := i) (j := j) hG hG' (by omega) hij (by omega) (by omega) fun a b => ?_
    unfold lM
    rw [hpn]
    by_cases c : a < (pn N es (lab es x)).length ∧ b < (pn N es (lab es x)).length
    · obtain ⟨ca, cb⟩ := c
      have hr2 := hrem ((pn N es (lab es x)).getD a 0) ((pn N es (lab es x)).getD b 0)
      by_cases d : (a = i ∧ b = j) ∨ (a = j ∧ b = i)
      · have hT : adj es ((pn N es (lab es x)).getD a 0) ((pn N es (lab es x)).getD b 0) = true := by
          rcases d with ⟨rfl, rfl⟩ | ⟨rfl, rfl⟩
          · rw [hPi, hPj]; exact hadj
          · rw [hPi, hPj, adj_symm]; exact hadj
        have hF : adj (es.eraseIdx q) ((pn N es (lab es x)).getD a 0) ((pn N es (lab es x)).getD b 0) = false := by
          rw [hr2, decide_eq_true]
          · simp
          · rcases d with ⟨rfl, rfl⟩ | ⟨rfl, rfl⟩
            · exact .inl ⟨hPi, hPj⟩
            · exact .inr ⟨hPj, hPi⟩
        rw [if_pos ⟨ca, cb, hT⟩, if_neg (by rw [hF]; simp), if_pos d]; rfl
      · have hE : adj (es.eraseIdx q) ((pn N es (lab es x)).getD a 0) ((pn N es (lab es x)).getD b 0) = adj es ((pn N es (lab es x)).getD a 0) ((pn N es (lab es x)).getD b 0) := by
          rw [hr2, decide_eq_false]
          · simp
          · rintro (⟨u, v⟩ | ⟨u, v⟩)
            · exact d (.inl ⟨pn_inj ca hi (u.trans hPi.symm), pn_inj cb hj (v.trans hPj.symm)⟩)
            · exact d (.inr ⟨pn_inj ca hj (u.trans hPj.symm), pn_inj cb hi (v.trans hPi.symm)⟩)
        rw [hE, if_neg d]; omega
    · rw [if_neg (fun h => c ⟨h.1, h.2.1⟩), if_neg (fun h => c ⟨h.1, h.2.1⟩), if_neg (by
        rintro (⟨rfl, rfl⟩ | ⟨rfl, rfl⟩)
        · exact c ⟨hi, hj⟩
        · exact c ⟨hj, hi⟩)]; rfl
  have key : ∀ t, t ≤ N → (t ≤ lab es x → prodT N (es.eraseIdx q) t = prodT N es t) ∧ (lab es x < t → prodT N (es.eraseIdx q) t < prodT N es t) := fun t => by
    induction t with
    | zero => exact fun _ => ⟨fun _ => rfl, fun h => absurd h (by omega)⟩
    | succ t ih =>
      intro ht
      obtain ⟨i1, i2⟩ := ih (by omega)
      have hp := prodT_pos hok hN t (by omega)
      have hp' := prodT_pos hok' hN t (by omega)
      rw [prodT, prodT, ← hlab]
      by_cases hr : lab es t = t
      · rw [if_pos hr, if_pos hr]
        have ht1 := tau_pos hok hN (by omega) hr
        refine ⟨fun h => by rw [i1 (by omega), hoff t (by omega)], fun h => ?_⟩
        by_cases e : t = lab es x
        · rw [i1 (by omega), e]
          exact Int.mul_lt_mul_of_pos_left hlt (e ▸ hp)
        · rw [hoff t e]
          exact Int.mul_lt_mul_of_pos_right (i2 (by omega)) ht1
      · rw [if_neg hr, if_neg hr]
        refine ⟨fun h => i1 (by omega), fun h => i2 ?_⟩
        have : t ≠ lab es x := fun e => hr (by rw [e]; exact hon)
        omega
  exact (key N (Nat.le_refl N)).2 (by omega)
theorem one_iff (hg : OkL N es) (hN : N ≤ 10) : prodT N es N = 1 ↔ rts N es + es.length = N := by
  refine ⟨fun h => Classical.byContradiction fun hne => ?_, fun h => forest_one hg.ok h N (Nat.le_refl N)⟩
  obtain ⟨q, hq, hl⟩ := red_idx hg.ok hne
  have h1 := fewer_prod hg hN hq hl
  have h2 := prodT_pos (erase_okL hg hq).ok hN N (Nat.le_refl N)
  omega
/-- an edge less -/
theorem fewer_law (hg : OkL N es) (hN : N ≤ 10) {q : Nat} (hq : q < es.length) : rts N es < rts N (es.eraseIdx q) ∨ prodT N (es.eraseIdx q) N < prodT N es N := by
  by_cases hl : linkd (es.eraseIdx q) es[q]
  · exact .inr (fewer_prod hg hN hq hl)
  · left
    have h1 : rts N (es[q] :: es.eraseIdx q) + 1 = rts N (es.eraseIdx q) := by
      obtain ⟨x, y, k1, k2, k3, k4, _⟩ := hg.ok _ (List.getElem_mem hq)
      exact rts_cons_lt (by omega) (by omega) hl
    have h2 : rts N es ≤ rts N (es[q] :: es.eraseIdx q) := rts_le N fun e he => linkd_mem (by
      rcases List.mem_cons.1 he with rfl | h
      · exact List.getElem_mem hq
      · exact (erase_mem hq e).2 (.inr h))
    omega
end
end Go.Proofs.YtnkmfnnkophccaaDoor
