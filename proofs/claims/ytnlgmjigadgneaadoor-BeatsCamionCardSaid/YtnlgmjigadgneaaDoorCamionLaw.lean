/- CAMION: of players of whom each comes to all there is a ring of all. No program in sight. -/
import Derived.Test.YtnlgmjigadgneaaDoorRowW
namespace Go.Proofs.YtnlgmjigadgneaaDoor
open Go.RowKit

/-- each comes to all: no set but all of them is shut -/
def Closed (ts : List Nat) (S : Nat → Prop) : Prop := ∀ i j, i < ts.length → j < ts.length → S i → beat ts i j = true → S j
def Str (ts : List Nat) (i : Nat) : Prop := ∀ S : Nat → Prop, Closed ts S → S i → ∀ m, m < ts.length → S m
structure Cyc (ts : List Nat) (l : List Nat) : Prop where
  nd : l.Nodup
  lt : ∀ a ∈ l, a < ts.length
  row : From ts none l
  last : ∀ a b, l.getLast? = some a → l.head? = some b → beat ts a b = true
theorem beat_or {ts : List Nat} (hT : Tour ts) {i j : Nat} (hi : i < ts.length) (hj : j < ts.length) (h : i ≠ j) : beat ts i j = !beat ts j i := hT.one i j hi hj h
theorem beat_ne {ts : List Nat} (hT : Tour ts) {i j : Nat} (hi : i < ts.length) (h : beat ts i j = true) : i ≠ j := fun e => by
  subst e
  have := hT.self i hi
  unfold beat at h
  rw [h] at this; cases this
theorem from_snoc {ts : List Nat} {x : Nat} : ∀ (M : List Nat) (o : Option Nat), From ts o M → (∀ a, (M.getLast?.or o) = some a → beat ts a x = true) → From ts o (M ++ [x])
  | [], o, _, h => ⟨fun a ha => h a (by simpa using ha), trivial⟩
  | m :: M, o, hf, h => ⟨hf.1, from_snoc M (some m) hf.2 fun a ha => h a (by
      rw [List.getLast?_cons]
      cases hM : M.getLast? with
      | none => rw [hM] at ha; simpa using ha
      | some y => rw [hM] at ha; simpa using ha)⟩
theorem from_weak {ts : List Nat} : ∀ {M : List Nat} {o : Option Nat}, From ts o M → From ts none M
  | [], _, _ => trivial
  | _ :: _, _, h => ⟨fun a ha => (by cases ha), h.2⟩
theorem last_cons {m : Nat} {M : List Nat} (h : M ≠ []) : (m :: M).getLast? = M.getLast? := by
  cases M with
  | nil => exact absurd rfl h
  | cons a M => simp [List.getLast?_cons]
/-- put behind one that beats it, ahead of one that it beats -/
theorem put_two {ts : List Nat} (hT : Tour ts) {x : Nat} (hx : x < ts.length) : ∀ (M : List Nat) (o : Option Nat), (∀ m ∈ M, m < ts.length ∧ m ≠ x) → (∀ a, o = some a → beat ts a x = true) → From ts o M → (∃ u, u ∈ M ∧ beat ts x u = true) → ∃ M', M'.Perm (x :: M) ∧ From ts o M' ∧ M'.getLast? = M.getLast?
  | [], _, _, _, _, ⟨u, hu, _⟩ => by cases hu
  | m :: M, o, hM, ho, hf, ⟨u, hu, hxu⟩ => by
    have hm := hM m List.mem_cons_self
    cases h : beat ts x m
    · have hmx : beat ts m x = true := by rw [beat_or hT hm.1 hx hm.2, h]; rfl
      have huM : u ∈ M := by
        rcases List.mem_cons.1 hu with rfl | hu
        · rw [h] at hxu; cases hxu
        · exact hu
      obtain ⟨M', hp, hf', hl⟩ := put_two hT hx M (some m) (fun y hy => hM y (List.mem_cons_of_mem _ hy)) (fun a ha => by cases ha; exact hmx) hf.2 ⟨u, huM, hxu⟩
      refine ⟨m :: M', (List.Perm.cons m hp).trans (List.Perm.swap x m M), ⟨hf.1, hf'⟩, ?_⟩
      rw [last_cons (fun e => by subst e; have := hp.length_eq; simp at this), last_cons (fun e => by subst e; cases huM), hl]
    · exact ⟨x :: m :: M, List.Perm.refl _, ⟨ho, fun a ha => by cases ha; exact h, hf.2⟩, by rw [last_cons (by simp)]⟩
theorem put_three {ts : List Nat} (hT : Tour ts) {x : Nat} (hx : x < ts.length) : ∀ (M : List Nat) (o : Option Nat), (∀ m ∈ M, m < ts.length ∧ m ≠ x) → From ts o M → (∃ v, v ∈ M ∧ beat ts v x = true) → (∀ u, M.getLast? = some u → beat ts x u = true) → ∃ M', M'.Perm (x :: M) ∧ From ts o M' ∧ M'.getLast? = M.getLast? ∧ M'.head? = M.head?
  | [], _, _, _, ⟨v, hv, _⟩, _ => by cases hv
  | m :: M, o, hM, hf, ⟨v, hv, hvx⟩, hl => by
    have hm := hM m List.mem_cons_self
    cases h : beat ts m x
    · have hvM : v ∈ M := by
        rcases List.mem_cons.1 hv with rfl | hv
        · rw [h] at hvx; cases hvx
        · exact hv
      have hne : M ≠ [] := fun e => by subst e; cases hvM
      obtain ⟨M', hp, hf', hl', hh⟩ := put_three hT hx M (some m) (fun y hy => hM y (List.mem_cons_of_mem _ hy)) hf.2 ⟨v, hvM, hvx⟩ (fun u hu => hl u (by rw [last_cons hne]; exact hu))
      refine ⟨m :: M', (List.Perm.cons m hp).trans (List.Perm.swap x m M), ⟨hf.1, hf'⟩, ?_, rfl⟩
      rw [last_cons (fun e => by subst e; have := hp.length_eq; simp at this), last_cons hne, hl']
    · have hne : M ≠ [] := fun e => by
        subst e
        have h1 := hl m rfl
        rw [beat_or hT hx hm.1 (fun e => hm.2 e.symm), h] at h1; cases h1
      have hu : ∃ u, u ∈ M ∧ beat ts x u = true := ⟨M.getLast hne, List.getLast_mem hne, hl _ (by rw [last_cons hne, List.getLast?_eq_some_getLast hne])⟩
      obtain ⟨M', hp, hf', hl'⟩ := put_two hT hx M (some m) (fun y hy => hM y (List.mem_cons_of_mem _ hy)) (fun a ha => by cases ha; exact h) hf.2 hu
      refine ⟨m :: M', (List.Perm.cons m hp).trans (List.Perm.swap x m M), ⟨hf.1, hf'⟩, ?_, rfl⟩
      rw [last_cons (fun e => by subst e; have := hp.length_eq; simp at this), last_cons hne, hl']
theorem Cyc.of_perm {ts l l' : List Nat} {x : Nat} (h : Cyc ts l) (hx : x < ts.length) (hxl : x ∉ l) (hp : l'.Perm (x :: l)) (hf : From ts none l') (hl : ∀ a b, l'.getLast? = some a → l'.head? = some b → beat ts a b = true) : Cyc ts l' where
  nd := hp.nodup_iff.2 (List.nodup_cons.2 ⟨hxl, h.nd⟩)
  lt := fun a ha => by
    rcases List.mem_cons.1 (hp.subset ha) with rfl | ha
    · exact hx
    · exact h.lt a ha
  row := hf
  last := hl
/-- one more comes into a ring, who beats one of it and is beaten by one -/
theorem cyc_one {ts l : List Nat} (hT : Tour ts) (hc : Cyc ts l) {x u v : Nat} (hx : x < ts.length) (hxl : x ∉ l) (hu : u ∈ l) (hxu : beat ts x u = true) (hv : v ∈ l) (hvx : beat ts v x = true) : ∃ l', Cyc ts l' ∧ l'.length = l.length + 1 := by
  have hne : l ≠ [] := fun e => by subst e; cases hu
  have hM : ∀ m ∈ l, m < ts.length ∧ m ≠ x := fun m hm => ⟨hc.lt m hm, fun e => hxl (e ▸ hm)⟩
  cases hl : beat ts x (l.getLast hne)
  · have hlm := hM _ (List.getLast_mem hne)
    have hlx : beat ts (l.getLast hne) x = true := by rw [beat_or hT hlm.1 hx hlm.2, hl]; rfl
    cases l with
    | nil => exact absurd rfl hne
    | cons h M =>
      have hh := hM h List.mem_cons_self
      cases hxh : beat ts x h
      · have hhx : beat ts h x = true := by rw [beat_or hT hh.1 hx hh.2, hxh]; rfl
        have huM : u ∈ M := by
          rcases List.mem_cons.1 hu with rfl | hu
          · rw [hxh] at hxu; cases hxu
          · exact hu
        obtain ⟨M', hp, hf', hl'⟩ := put_two hT hx M (some h) (fun y hy => hM y (List.mem_cons_of_mem _ hy)) (fun a ha => by cases ha; exact hhx) hc.row.2 ⟨u, huM, hxu⟩
        have hp' := (List.Perm.cons h hp).trans (List.Perm.swap x h M)
        refine ⟨h :: M', hc.of_perm hx hxl hp' ⟨hc.row.1, hf'⟩ (fun a b ha hb => ?_), by simpa using hp'.length_eq⟩
        rw [last_cons (fun e => by subst e; have := hp.length_eq; simp at this), hl', ← last_cons (m := h) (fun e => by subst e; cases huM)] at ha
        exact hc.last a b ha hb
      · refine ⟨(h :: M) ++ [x], hc.of_perm hx hxl (by simpa using List.perm_append_comm (l₁ := h :: M) (l₂ := [x])) (from_snoc _ _ hc.row fun a ha => ?_) (fun a b ha hb => ?_), by simp⟩
        · rw [List.getLast?_eq_some_getLast hne] at ha
          simp at ha
          rw [← ha]; exact hlx
        · rw [List.getLast?_concat] at ha
          cases ha
          simp at hb
          subst hb
          exact hxh
  · obtain ⟨M', hp, hf', hl', hh⟩ := put_three hT hx l none hM hc.row ⟨v, hv, hvx⟩ (fun y hy => by rw [List.getLast?_eq_some_getLast hne] at hy; simp at hy; rw [← hy]; exact hl)
    exact ⟨M', hc.of_perm hx hxl hp hf' (fun a b ha hb => hc.last a b (by rw [← hl']; exact ha) (by rw [← hh]; exact hb)), by simpa using hp.length_eq⟩
theorem cyc_more {ts l : List Nat} (hT : Tour ts) (hS : ∀ i, i < ts.length → Str ts i) (hc : Cyc ts l) (h3 : 3 ≤ l.length) (hlt : l.length < ts.length) : ∃ l', Cyc ts l' ∧ l.length < l'.length := by
  by_cases hx : ∃ x, x < ts.length ∧ x ∉ l ∧ (∃ v, v ∈ l ∧ beat ts v x = true) ∧ ∃ u, u ∈ l ∧ beat ts x u = true
  · obtain ⟨x, h1, h2, ⟨v, hv, hvx⟩, u, hu, hxu⟩ := hx
    obtain ⟨l', h, hl⟩ := cyc_one hT hc h1 h2 hu hxu hv hvx
    exact ⟨l', h, by omega⟩
  · have hcase : ∀ x, x < ts.length → x ∉ l → (∀ c ∈ l, beat ts x c = true) ∨ ∀ c ∈ l, beat ts c x = true := fun x h1 h2 => by
      by_cases hv : ∃ v, v ∈ l ∧ beat ts v x = true
      · refine .inr fun c hcl => ?_
        have hno : beat ts x c = false := by
          cases hb : beat ts x c
          · rfl
          · exact absurd ⟨x, h1, h2, hv, c, hcl, hb⟩ hx
        rw [beat_or hT (hc.lt c hcl) h1 (fun e => h2 (e ▸ hcl)), hno]; rfl
      · refine .inl fun c hcl => ?_
        have hno : beat ts c x = false := by
          cases hb : beat ts c x
          · rfl
          · exact absurd ⟨c, hcl, hb⟩ hv
        rw [beat_or hT h1 (hc.lt c hcl) (fun e => h2 (e ▸ hcl)), hno]; rfl
    have anti : ∀ i j, i < ts.length → j < ts.length → beat ts i j = true → beat ts j i = true → False := fun i j hi hj h1 h2 => by
      rw [beat_or hT hi hj (beat_ne hT hi h1), h2] at h1; cases h1
    obtain ⟨h, M, rfl⟩ : ∃ h M, l = h :: M := by
      cases l with
      | nil => simp at h3
      | cons h M => exact ⟨h, M, rfl⟩
    have hh := hc.lt h List.mem_cons_self
    -- somebody is beaten by all of it
    obtain ⟨b0, hb0, hb0l, hb0c⟩ : ∃ b, b < ts.length ∧ b ∉ h :: M ∧ ∀ c ∈ h :: M, beat ts c b = true := by
      refine Classical.byContradiction fun hno => ?_
      have hall := hS h hh (· ∈ h :: M) (fun i j hi hj hil hb => Classical.byContradiction fun hjl => by
        rcases hcase j hj hjl with h1 | h1
        · exact anti i j hi hj hb (h1 i hil)
        · exact hno ⟨j, hj, hjl, h1⟩) List.mem_cons_self
      have := List.nodup_range.length_le_of_subset (l₁ := List.range ts.length) (l₂ := h :: M) fun m hm => hall m (List.mem_range.1 hm)
      rw [List.length_range] at this; omega
    obtain ⟨b, a, hb, hbl, hbc, ha, hal, hac, hba⟩ : ∃ b a, b < ts.length ∧ b ∉ h :: M ∧ (∀ c ∈ h :: M, beat ts c b = true) ∧ a < ts.length ∧ a ∉ h :: M ∧ (∀ c ∈ h :: M, beat ts a c = true) ∧ beat ts b a = true := by
      refine Classical.byContradiction fun hno => ?_
      have hall := hS b0 hb0 (fun x => x < ts.length ∧ x ∉ h :: M ∧ ∀ c ∈ h :: M, beat ts c x = true) (fun i j hi hj ⟨_, hil, hic⟩ hij => by
        have hjl : j ∉ h :: M := fun hjl => anti i j hi hj hij (hic j hjl)
        rcases hcase j hj hjl with h1 | h1
        · exact absurd ⟨i, j, hi, hil, hic, hj, hjl, h1, hij⟩ hno
        · exact ⟨hj, hjl, h1⟩) ⟨hb0, hb0l, hb0c⟩ h hh
      exact hall.2.1 List.mem_cons_self
    have hab : a ≠ b := fun e => beat_ne hT hb hba e.symm
    have hne : M ≠ [] := fun e => by subst e; simp at h3
    have hfM : From ts (some a) M := by
      cases M with
      | nil => exact trivial
      | cons m M => exact ⟨fun y hy => by cases hy; exact hac m (by simp), hc.row.2.2⟩
    refine ⟨h :: b :: a :: M, ⟨?_, ?_, ⟨fun _ e => (by cases e), fun y hy => (by cases hy; exact hbc h List.mem_cons_self), fun y hy => (by cases hy; exact hba), hfM⟩, fun y z hy hz => ?_⟩, by simp⟩
    · have hnd := hc.nd
      simp only [List.nodup_cons, List.mem_cons, not_or] at hnd hal hbl ⊢
      exact ⟨⟨fun e => hbl.1 e.symm, fun e => hal.1 e.symm, hnd.1⟩, ⟨fun e => hab e.symm, hbl.2⟩, hal.2, hnd.2⟩
    · intro y hy
      simp only [List.mem_cons] at hy
      rcases hy with rfl | rfl | rfl | hy
      · exact hh
      · exact hb
      · exact ha
      · exact hc.lt y (List.mem_cons_of_mem _ hy)
    · rw [last_cons (by simp), last_cons (by simp), last_cons hne, ← last_cons (m := h) hne] at hy
      exact hc.last y z hy hz
theorem cyc_all {ts : List Nat} (hT : Tour ts) (hS : ∀ i, i < ts.length → Str ts i) : ∀ (d : Nat) (l : List Nat), Cyc ts l → 3 ≤ l.length → ts.length - l.length ≤ d → ∃ l', Cyc ts l' ∧ ts.length ≤ l'.length
  | 0, l, hc, _, hd => ⟨l, hc, by omega⟩
  | d + 1, l, hc, h3, hd => by
    rcases Nat.lt_or_ge l.length ts.length with h | h
    · obtain ⟨l', hc', hl⟩ := cyc_more hT hS hc h3 h
      exact cyc_all hT hS d l' hc' (by omega) (by omega)
    · exact ⟨l, hc, h⟩
theorem camion {ts : List Nat} (hT : Tour ts) (h3 : 3 ≤ ts.length) (hS : ∀ i, i < ts.length → Str ts i) : ∃ R, Whole ts true [] (2 ^ ts.length - 1) R := by
  have anti : ∀ i j, i < ts.length → j < ts.length → beat ts i j = true → beat ts j i = true → False := fun i j hi hj h1 h2 => by
    rw [beat_or hT hi hj (beat_ne hT hi h1), h2] at h1; cases h1
  -- a ring of three
  have hout : ∃ o, o < ts.length ∧ beat ts 0 o = true := Classical.byContradiction fun hno => by
    have := hS 0 (by omega) (· = 0) (fun i j hi hj h hb => by subst h; exact absurd ⟨j, hj, hb⟩ hno) rfl 1 (by omega)
    omega
  obtain ⟨o, ho, h0o⟩ := hout
  obtain ⟨a, b, ha, hb, h0a, hab, hb0⟩ : ∃ a b, a < ts.length ∧ b < ts.length ∧ beat ts 0 a = true ∧ beat ts a b = true ∧ beat ts b 0 = true := Classical.byContradiction fun hno => by
    have := hS o ho (fun x => x < ts.length ∧ beat ts 0 x = true) (fun i j hi hj ⟨_, h0i⟩ hij => by
      refine ⟨hj, ?_⟩
      by_cases hj0 : j = 0
      · subst hj0; exact absurd h0i (fun h => anti 0 i hj hi h hij)
      · cases h : beat ts 0 j
        · have : beat ts j 0 = true := by rw [beat_or hT hj (by omega) hj0, h]; rfl
          exact absurd ⟨i, j, hi, hj, h0i, hij, this⟩ hno
        · rfl) ⟨ho, h0o⟩ 0 (by omega)
    exact beat_ne hT (by omega) this.2 rfl
  have n1 := beat_ne hT (by omega) h0a
  have n2 := beat_ne hT ha hab
  have n3 := beat_ne hT hb hb0
  have hc : Cyc ts [0, a, b] := ⟨by simp; omega, fun y hy => by
    simp at hy
    rcases hy with rfl | rfl | rfl
    · omega
    · exact ha
    · exact hb, ⟨fun _ e => by (cases e), fun y hy => by cases hy; exact h0a, fun y hy => by cases hy; exact hab, trivial⟩, fun y z hy hz => by
    simp at hy hz; subst hy; subst hz; exact hb0⟩
  obtain ⟨R, hR, hl⟩ := cyc_all hT hS _ _ hc (by simp) (Nat.le_refl _)
  exact ⟨R, all_whole (by have := hT.len; omega) (perm_of_sub hR.nd hR.lt hl) hR.row fun _ => hR.last⟩
/-- a way of any length -/
structure Way (ts : List Nat) (i : Nat) (f : Nat → Nat) : Prop where
  beg : f 0 = i
  lt : ∀ s, f s < ts.length
  step : ∀ s, beat ts (f s) (f (s + 1)) = true
/-- of a ring there is a way from each to each -/
theorem ring_way {ts R : List Nat} (hp : R.Perm (List.range ts.length)) (hf : From ts none R) (hl : ∀ a b, R.getLast? = some a → R.head? = some b → beat ts a b = true) {i m : Nat} (hi : i < ts.length) (hm : m < ts.length) : ∃ f s, Way ts i f ∧ s ≤ ts.length ∧ f s = m := by
  have hlen : R.length = ts.length := by simpa using hp.length_eq
  have hmem : ∀ k, k < ts.length → R.getD k 0 < ts.length := fun k hk => by
    have := hp.subset (show R.getD k 0 ∈ R by rw [List.getD, List.getElem?_eq_getElem (show k < R.length by omega)]; exact List.getElem_mem _)
    simpa using this
  have hpos : ∀ j, j < ts.length → ∃ q, q < ts.length ∧ R.getD q 0 = j := fun j hj => by
    obtain ⟨q, hq, e⟩ := List.getElem_of_mem (hp.symm.subset (List.mem_range.2 hj))
    exact ⟨q, by omega, by rw [List.getD, List.getElem?_eq_getElem hq]; exact e⟩
  obtain ⟨p, hpn, hpi⟩ := hpos i hi
  obtain ⟨q, hqn, hqm⟩ := hpos m hm
  have hstep : ∀ k, k < ts.length → beat ts (R.getD k 0) (R.getD ((k + 1) % ts.length) 0) = true := fun k hk => by
    rcases Nat.lt_or_ge (k + 1) ts.length with h | h
    · rw [Nat.mod_eq_of_lt h]; exact from_idx R none hf k (by omega)
    · have hk1 : ts.length = k + 1 := by omega
      rw [hk1, Nat.mod_self]
      obtain ⟨h1, h2⟩ := last_get (l := R) (m := k) (by omega)
      exact hl _ _ h1 h2
  refine ⟨fun s => R.getD ((p + s) % ts.length) 0, (q + ts.length - p) % ts.length, ⟨by simp only [Nat.add_zero, Nat.mod_eq_of_lt hpn]; exact hpi, fun s => hmem _ (Nat.mod_lt _ (by omega)), fun s => ?_⟩, Nat.le_of_lt (Nat.mod_lt _ (by omega)), ?_⟩
  · have := hstep ((p + s) % ts.length) (Nat.mod_lt _ (by omega))
    rwa [Nat.mod_add_mod] at this
  · show R.getD ((p + (q + ts.length - p) % ts.length) % ts.length) 0 = m
    rw [Nat.add_mod_mod, show p + (q + ts.length - p) = q + ts.length by omega, Nat.add_mod_right, Nat.mod_eq_of_lt hqn]
    exact hqm
end Go.Proofs.YtnlgmjigadgneaaDoor
