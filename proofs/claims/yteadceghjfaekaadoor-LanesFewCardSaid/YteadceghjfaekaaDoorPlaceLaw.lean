/- Placings: the net in which a flow is a placing; one by one, the least worker. No program in sight. -/
import Derived.Test.YteadceghjfaekaaDoorFlowLaw
namespace Go.Proofs.YteadceghjfaekaaDoor

theorem sm_head (g : Nat → Int) : ∀ n, sm (n + 1) g = g 0 + sm n fun k => g (k + 1)
  | 0 => by simp [sm]
  | n + 1 => by rw [sm, sm_head g n, sm]; omega
theorem sm_all0 {g : Nat → Int} {n : Nat} (h : ∀ k, k < n → g k = 0) : sm n g = 0 := (sm_congr h).trans (sm_zero n)
theorem aokMk {n f t m : Int} (h1 : 0 ≤ f) (h2 : f < n) (h3 : 0 ≤ t) (h4 : t < n) (h5 : f ≠ t) (h6 : 0 ≤ m) (h7 : m ≤ 1048576) : AOk n (f, t, m, 0) :=
  ⟨h1, h2, h3, h4, h5, h6, h7, by show (-1048576 : Int) ≤ 0; decide, by show (0 : Int) ≤ 1048576; decide⟩
theorem sm_nonneg {g : Nat → Int} {n : Nat} (h : ∀ k, k < n → 0 ≤ g k) : 0 ≤ sm n g := by
  rw [← sm_zero n]; exact sm_le h
theorem sm_term {g : Nat → Int} : ∀ {n : Nat}, (∀ k, k < n → 0 ≤ g k) → ∀ k, k < n → g k ≤ sm n g
  | 0, _, k, hk => by omega
  | n + 1, h, k, hk => by
    rw [sm]
    by_cases e : k = n
    · subst e; have := sm_nonneg (n := k) fun j hj => h j (by omega); omega
    · have := sm_term (n := n) (fun j hj => h j (by omega)) k (by omega)
      have := h n (by omega)
      omega
theorem sm_pos {g : Nat → Int} : ∀ {n : Nat}, 0 < sm n g → ∃ k, k < n ∧ 0 < g k
  | 0, h => by simp [sm] at h
  | n + 1, h => by
    rw [sm] at h
    by_cases e : 0 < g n
    · exact ⟨n, by omega, e⟩
    · obtain ⟨k, hk, hg⟩ := sm_pos (n := n) (g := g) (by omega)
      exact ⟨k, by omega, hg⟩
/-- sums over arcs, by the arcs alone -/
def sl (h : Arc → Int) : List Arc → Int
  | [] => 0
  | a :: l => h a + sl h l
theorem sl_app (h : Arc → Int) : ∀ l m : List Arc, sl h (l ++ m) = sl h l + sl h m
  | [], m => by simp [sl]
  | a :: l, m => by rw [List.cons_append, sl, sl, sl_app h l m]; omega
theorem sm_sl (h : Arc → Int) : ∀ l : List Arc, sm l.length (fun k => h (aat l k)) = sl h l
  | [] => rfl
  | a :: l => by
    rw [List.length_cons, sm_head, sl, ← sm_sl h l]
    congr 1
theorem sl_map {β : Type} (h : Arc → Int) (f : Nat → Arc) : ∀ n, sl h ((List.range n).map f) = sm n fun i => h (f i)
  | 0 => rfl
  | n + 1 => by
    rw [List.range_succ, List.map_append, sl_app, sl_map (β := β) h f n, sm]
    simp [sl]
theorem sl_flat (h : Arc → Int) (f : Nat → List Arc) : ∀ n, sl h ((List.range n).flatMap f) = sm n fun j => sl h (f j)
  | 0 => rfl
  | n + 1 => by
    rw [List.range_succ, List.flatMap_append, sl_app, sl_flat h f n, sm]
    simp
theorem sl_filt (h : Arc → Int) (f : Nat → Arc) (p : Nat → Bool) : ∀ n, sl h (((List.range n).filter p).map f) = sm n fun i => if p i then h (f i) else 0
  | 0 => rfl
  | n + 1 => by
    rw [List.range_succ, List.filter_append, List.map_append, sl_app, sl_filt h f p n, sm]
    cases hp : p n <;> simp [hp, sl]
/-- who may do what, and for how many there is room -/
structure PD where
  nw : Nat
  nt : Nat
  may : Nat → Nat → Bool
  room : Nat → Int
def PD.wArcs (d : PD) (j : Nat) : List Arc := ((j : Int), ((d.nw + d.nt + 1 : Nat) : Int), d.room j, 0) :: ((List.range d.nt).filter fun i => d.may i j).map fun i => (((d.nw + i : Nat) : Int), (j : Int), 1, 0)
def PD.arcsTo (d : PD) (k : Nat) : List Arc := (List.range k).flatMap d.wArcs
def PD.tArcs (d : PD) (k : Nat) : List Arc := (List.range k).map fun i => (((d.nw + d.nt : Nat) : Int), ((d.nw + i : Nat) : Int), 1, 0)
def PD.net (d : PD) : List Arc := d.arcsTo d.nw ++ d.tArcs d.nt
theorem PD.sum (d : PD) (h : Arc → Int) : sl h d.net = (sm d.nw fun j => h ((j : Int), ((d.nw + d.nt + 1 : Nat) : Int), d.room j, 0) + sm d.nt fun i => if d.may i j then h (((d.nw + i : Nat) : Int), (j : Int), 1, 0) else 0) + sm d.nt fun i => h (((d.nw + d.nt : Nat) : Int), ((d.nw + i : Nat) : Int), 1, 0) := by
  unfold PD.net PD.arcsTo PD.tArcs
  rw [sl_app, sl_flat, sl_map (β := Nat)]
  congr 1
  refine sm_congr fun j _ => ?_
  unfold PD.wArcs
  rw [sl, sl_filt]
theorem PD.mem (d : PD) {a : Arc} (h : a ∈ d.net) : (∃ j, j < d.nw ∧ a = ((j : Int), ((d.nw + d.nt + 1 : Nat) : Int), d.room j, 0)) ∨ (∃ i j, i < d.nt ∧ j < d.nw ∧ d.may i j = true ∧ a = (((d.nw + i : Nat) : Int), (j : Int), 1, 0)) ∨ ∃ i, i < d.nt ∧ a = (((d.nw + d.nt : Nat) : Int), ((d.nw + i : Nat) : Int), 1, 0) := by
  unfold PD.net PD.arcsTo PD.tArcs at h
  rcases List.mem_append.1 h with h | h
  · obtain ⟨j, hj, h⟩ := List.mem_flatMap.1 h
    rw [List.mem_range] at hj
    unfold PD.wArcs at h
    rcases List.mem_cons.1 h with h | h
    · exact .inl ⟨j, hj, h⟩
    · obtain ⟨i, hi, rfl⟩ := List.mem_map.1 h
      simp only [List.mem_filter, List.mem_range] at hi
      exact .inr (.inl ⟨i, j, hi.1, hj, hi.2, rfl⟩)
  · obtain ⟨i, hi, rfl⟩ := List.mem_map.1 h
    rw [List.mem_range] at hi
    exact .inr (.inr ⟨i, hi, rfl⟩)
theorem PD.ok (d : PD) (hr : ∀ j, j < d.nw → 0 ≤ d.room j ∧ d.room j ≤ 1048576) : NOk (d.nw + d.nt + 2) d.net := ⟨fun a ha => by
  rcases d.mem ha with ⟨j, hj, rfl⟩ | ⟨i, j, hi, hj, _, rfl⟩ | ⟨i, hi, rfl⟩
  · have := hr j hj
    exact aokMk (by omega) (by omega) (by omega) (by omega) (by omega) this.1 this.2
  · exact aokMk (by omega) (by omega) (by omega) (by omega) (by omega) (by decide) (by decide)
  · exact aokMk (by omega) (by omega) (by omega) (by omega) (by omega) (by decide) (by decide)⟩
/-- a placing: below 0: nobody -/
structure Pl (d : PD) (P : Nat → Int) : Prop where
  rg : ∀ i, i < d.nt → P i = -1 ∨ (0 ≤ P i ∧ P i < d.nw ∧ d.may i (P i).toNat = true)
  rm : ∀ j : Nat, j < d.nw → (sm d.nt fun i => if P i = (j : Int) then 1 else 0) ≤ d.room j
def cntPl (n : Nat) (P : Nat → Int) : Int := sm n fun i => if 0 ≤ P i then 1 else 0
def MaxPl (d : PD) (K : Int) : Prop := (∃ P, Pl d P ∧ cntPl d.nt P = K) ∧ ∀ P, Pl d P → cntPl d.nt P ≤ K
theorem capS_sl (l : List Arc) (S : Nat → Bool) : capS l S = sl (fun a => if S a.1.toNat && !S a.2.1.toNat then a.2.2.1 else 0) l := by
  unfold capS fr tn mo
  exact sm_sl (fun a => if S a.1.toNat && !S a.2.1.toNat then a.2.2.1 else 0) l
/-- no placing has more than a cut lets go -/
theorem Pl.le_cut {d : PD} {P : Nat → Int} (h : Pl d P) {S : Nat → Bool} (hs : S (d.nw + d.nt) = true) (ht : S (d.nw + d.nt + 1) = false) : cntPl d.nt P ≤ capS d.net S := by
  rw [capS_sl, d.sum]
  simp only [Int.toNat_natCast, hs, ht, Bool.true_and, Bool.not_false, Bool.and_true]
  have e1 : cntPl d.nt P = sm d.nw fun j => sm d.nt fun i => if P i = (j : Int) then 1 else 0 := by
    rw [sm_swap]
    unfold cntPl
    refine sm_congr fun i hi => ?_
    rcases h.rg i hi with h1 | ⟨h1, h2, _⟩
    · rw [h1, if_neg (by omega)]
      exact (sm_all0 fun j _ => by rw [if_neg (by omega)]).symm
    · rw [if_pos h1]
      have e : (sm d.nw fun j => if P i = (j : Int) then (1 : Int) else 0) = sm d.nw fun j => if j = (P i).toNat then 1 else 0 := sm_congr fun j _ => by
        by_cases hj : j = (P i).toNat
        · rw [if_pos hj, if_pos (by omega)]
        · rw [if_neg hj, if_neg (by omega)]
      rw [e, sm_one, if_pos (by omega)]
  have e2 : (sm d.nt fun i => if !S (d.nw + i) then (1 : Int) else 0) ≥ sm d.nw fun j => sm d.nt fun i => if P i = (j : Int) ∧ S (d.nw + i) = false then 1 else 0 := by
    rw [sm_swap]
    refine sm_le fun i hi => ?_
    cases hS : S (d.nw + i)
    · simp only [and_true, Bool.not_false, if_true]
      rcases h.rg i hi with h1 | ⟨h1, h2, _⟩
      · have e : (sm d.nw fun j => if P i = (j : Int) then (1 : Int) else 0) = sm d.nw fun _ => 0 := sm_congr fun j _ => by rw [if_neg (by omega)]
        rw [e, sm_zero]; omega
      · have e : (sm d.nw fun j => if P i = (j : Int) then (1 : Int) else 0) = sm d.nw fun j => if j = (P i).toNat then 1 else 0 := sm_congr fun j _ => by
          by_cases hj : j = (P i).toNat
          · rw [if_pos hj, if_pos (by omega)]
          · rw [if_neg hj, if_neg (by omega)]
        rw [e, sm_one, if_pos (by omega)]; omega
    · have e : (sm d.nw fun j => if P i = (j : Int) ∧ (true = false) then (1 : Int) else 0) = sm d.nw fun _ => 0 := sm_congr fun j _ => by simp
      rw [e, sm_zero]; simp
  have e3 : (sm d.nw fun j => sm d.nt fun i => if P i = (j : Int) then (1 : Int) else 0) ≤ (sm d.nw fun j => (if S j then d.room j else 0) + sm d.nt fun i => if d.may i j then (if S (d.nw + i) && !S j then (1 : Int) else 0) else 0) + sm d.nw fun j => sm d.nt fun i => if P i = (j : Int) ∧ S (d.nw + i) = false then (1 : Int) else 0 := by
    rw [← sm_add]
    refine sm_le fun j hj => ?_
    cases hS : S j
    · simp only [Bool.not_false, Bool.and_true]
      have : (sm d.nt fun i => if P i = (j : Int) then (1 : Int) else 0) ≤ (sm d.nt fun i => if d.may i j then (if S (d.nw + i) then (1 : Int) else 0) else 0) + sm d.nt fun i => if P i = (j : Int) ∧ S (d.nw + i) = false then (1 : Int) else 0 := by
        rw [← sm_add]
        refine sm_le fun i hi => ?_
        by_cases hp : P i = (j : Int)
        · have hm : d.may i j = true := by
            rcases h.rg i hi with h1 | ⟨_, _, h1⟩
            · omega
            · rw [hp, Int.toNat_natCast] at h1; exact h1
          rw [if_pos hp, hm]
          cases S (d.nw + i) <;> simp [hp]
        · have e0 : (if P i = (j : Int) ∧ S (d.nw + i) = false then (1 : Int) else 0) = 0 := if_neg fun h => hp h.1
          rw [if_neg hp, e0]
          split
          · split <;> omega
          · omega
      simp at this ⊢
      omega
    · simp only [if_true]
      have h1 := h.rm j hj
      have h2 := sm_nonneg (n := d.nt) (g := fun i => if d.may i j then (if S (d.nw + i) && !true then (1 : Int) else 0) else 0) fun i _ => by (try dsimp only); split <;> (try split) <;> omega
      have h3 := sm_nonneg (n := d.nt) (g := fun i => if P i = (j : Int) ∧ S (d.nw + i) = false then (1 : Int) else 0) fun i _ => by (try dsimp only); split <;> omega
      omega
  rw [e1]
  omega
/-- a flow is a placing -/
theorem place_of {d : PD} {f : Nat → Int} {v : Int} (hr : ∀ j, j < d.nw → 0 ≤ d.room j ∧ d.room j ≤ 1048576) (h : FL (d.nw + d.nt + 2) d.net (d.nw + d.nt) (d.nw + d.nt + 1) f v) : ∃ P, Pl d P ∧ v ≤ cntPl d.nt P := by
  have hn := d.ok hr
  -- what comes to a node, and goes from it
  obtain ⟨inn, hin⟩ : ∃ inn : Nat → Int, inn = fun u => sm d.net.length fun k => if u = tn d.net k then f k else 0 := ⟨_, rfl⟩
  obtain ⟨out, hout⟩ : ∃ out : Nat → Int, out = fun u => sm d.net.length fun k => if u = fr d.net k then f k else 0 := ⟨_, rfl⟩
  have hex : ∀ u, ex d.net f u = out u - inn u := fun u => by
    have : sm d.net.length (fun k => (if u = fr d.net k then f k else 0) - if u = tn d.net k then f k else 0) = sm d.net.length (fun k => (if u = fr d.net k then f k else 0)) - sm d.net.length fun k => if u = tn d.net k then f k else 0 := by
      have h1 := sm_add (fun k => (if u = fr d.net k then f k else 0) - if u = tn d.net k then f k else 0) (fun k => if u = tn d.net k then f k else 0) d.net.length
      have h2 : sm d.net.length (fun k => ((if u = fr d.net k then f k else 0) - if u = tn d.net k then f k else 0) + if u = tn d.net k then f k else 0) = sm d.net.length fun k => if u = fr d.net k then f k else 0 := sm_congr fun k _ => by omega
      rw [h2] at h1; omega
    rw [hout, hin]; exact this
  have f0 : ∀ k, k < d.net.length → 0 ≤ f k := fun k hk => (h.ok k hk).1
  have inLe : ∀ i, i < d.nt → inn (d.nw + i) ≤ 1 := fun i hi => by
    have h1 : inn (d.nw + i) ≤ sm d.net.length fun k => if d.nw + i = tn d.net k then mo d.net k else 0 := by
      rw [hin]
      exact sm_le fun k hk => by have := h.ok k hk; split <;> omega
    have h2 : (sm d.net.length fun k => if d.nw + i = tn d.net k then mo d.net k else 0) = sl (fun a => if d.nw + i = a.2.1.toNat then a.2.2.1 else 0) d.net := sm_sl (fun a => if d.nw + i = a.2.1.toNat then a.2.2.1 else 0) d.net
    rw [h2, d.sum] at h1
    simp only [Int.toNat_natCast] at h1
    have e1 : (sm d.nw fun j => (if d.nw + i = d.nw + d.nt + 1 then d.room j else 0) + sm d.nt fun i' => if d.may i' j then (if d.nw + i = j then (1 : Int) else 0) else 0) = 0 := by
      refine sm_all0 fun j hj => ?_
      rw [if_neg (by omega)]
      have : (sm d.nt fun i' => if d.may i' j then (if d.nw + i = j then (1 : Int) else 0) else 0) = 0 := by
        exact sm_all0 fun i' _ => by rw [if_neg (show ¬ d.nw + i = j by omega)]; split <;> rfl
      omega
    have e2 : (sm d.nt fun i' => if d.nw + i = d.nw + i' then (1 : Int) else 0) = 1 := by
      have : (sm d.nt fun i' => if d.nw + i = d.nw + i' then (1 : Int) else 0) = sm d.nt fun i' => if i' = i then 1 else 0 := sm_congr fun i' _ => by
        by_cases e : i' = i
        · rw [if_pos e, if_pos (by omega)]
        · rw [if_neg e, if_neg (by omega)]
      rw [this, sm_one, if_pos hi]
    omega
  have outLe : ∀ j, j < d.nw → out j ≤ d.room j := fun j hj => by
    have h1 : out j ≤ sm d.net.length fun k => if j = fr d.net k then mo d.net k else 0 := by
      rw [hout]
      exact sm_le fun k hk => by have := h.ok k hk; split <;> omega
    have h2 : (sm d.net.length fun k => if j = fr d.net k then mo d.net k else 0) = sl (fun a => if j = a.1.toNat then a.2.2.1 else 0) d.net := sm_sl (fun a => if j = a.1.toNat then a.2.2.1 else 0) d.net
    rw [h2, d.sum] at h1
    simp only [Int.toNat_natCast] at h1
    have e1 : (sm d.nw fun j' => (if j = j' then d.room j' else 0) + sm d.nt fun i' => if d.may i' j' then (if j = d.nw + i' then (1 : Int) else 0) else 0) = d.room j := by
      have : (sm d.nw fun j' => (if j = j' then d.room j' else 0) + sm d.nt fun i' => if d.may i' j' then (if j = d.nw + i' then (1 : Int) else 0) else 0) = sm d.nw fun j' => if j' = j then d.room j else 0 := sm_congr fun j' _ => by
        have e0 : (sm d.nt fun i' => if d.may i' j' then (if j = d.nw + i' then (1 : Int) else 0) else 0) = 0 := by
          exact sm_all0 fun i' _ => by rw [if_neg (show ¬ j = d.nw + i' by omega)]; split <;> rfl
        rw [e0]
        by_cases e : j' = j
        · subst e; simp
        · rw [if_neg e, if_neg (Ne.symm e)]; rfl
      rw [this, sm_one, if_pos hj]
    have e2 : (sm d.nt fun i' => if j = d.nw + d.nt then (1 : Int) else 0) = 0 := by
      exact sm_all0 fun i' _ => by rw [if_neg (by omega)]
    omega
  have kp : ∀ u, u < d.nw + d.nt → out u = inn u := fun u hu => by
    have h1 := h.kp u (by omega) (by omega) (by omega)
    rw [hex] at h1; omega
  -- whoever has some that goes on
  obtain ⟨Q, hQ⟩ : ∃ Q : Nat → Nat → Bool, Q = fun i k => decide (fr d.net k = d.nw + i) && decide (0 < f k) := ⟨_, rfl⟩
  obtain ⟨P, hP⟩ : ∃ P : Nat → Int, P = fun i => match (List.range d.net.length).find? (Q i) with | some k => (tn d.net k : Int) | none => -1 := ⟨_, rfl⟩
  have Pcase : ∀ i, i < d.nt → (P i = -1 ∧ ∀ k, k < d.net.length → Q i k = false) ∨ ∃ k j, k < d.net.length ∧ fr d.net k = d.nw + i ∧ 0 < f k ∧ tn d.net k = j ∧ P i = (j : Int) ∧ j < d.nw ∧ d.may i j = true := fun i hi => by
    rw [hP]
    dsimp only
    cases hf : (List.range d.net.length).find? (Q i) with
    | none =>
      left
      rw [List.find?_eq_none] at hf
      exact ⟨rfl, fun k hk => by simpa using hf k (List.mem_range.2 hk)⟩
    | some k =>
      right
      have h1 := List.find?_some hf
      have h2 := List.mem_range.1 (List.mem_of_find?_eq_some hf)
      rw [hQ] at h1
      simp only [Bool.and_eq_true, decide_eq_true_eq] at h1
      have hfr := h1.1
      have hat := hn.at h2
      rcases d.mem (aat_mem h2) with ⟨j, hj, e⟩ | ⟨i', j, hi', hj, hm, e⟩ | ⟨i', hi', e⟩
      · have : fr d.net k = j := by unfold fr; rw [e]; rfl
        omega
      · have e3 : fr d.net k = d.nw + i' := by unfold fr; rw [e]; rfl
        have e4 : tn d.net k = j := by unfold tn; rw [e]; rfl
        obtain rfl : i' = i := by omega
        exact ⟨k, j, h2, hfr, h1.2, e4, by show ((tn d.net k : Nat) : Int) = (j : Int); rw [e4], hj, hm⟩
      · have : fr d.net k = d.nw + d.nt := by unfold fr; rw [e]; rfl
        omega
  refine ⟨P, ⟨fun i hi => ?_, fun j hj => ?_⟩, ?_⟩
  · rcases Pcase i hi with ⟨h1, _⟩ | ⟨k, j, _, _, _, _, h1, h2, h3⟩
    · exact .inl h1
    · right; rw [h1]; exact ⟨by omega, by omega, by rw [Int.toNat_natCast]; exact h3⟩
  · refine Int.le_trans ?_ (outLe j hj)
    rw [kp j (by omega)]
    -- each that is with j has an arc of its own that comes to j
    have h1 : (sm d.nt fun i => if P i = (j : Int) then (1 : Int) else 0) ≤ sm d.nt fun i => sm d.net.length fun k => if fr d.net k = d.nw + i ∧ tn d.net k = j then f k else 0 := by
      refine sm_le fun i hi => ?_
      have h0 : ∀ k, k < d.net.length → 0 ≤ (if fr d.net k = d.nw + i ∧ tn d.net k = j then f k else 0) := fun k hk => by have := f0 k hk; split <;> omega
      by_cases hp : P i = (j : Int)
      · rw [if_pos hp]
        rcases Pcase i hi with ⟨h1, _⟩ | ⟨k, j', hk, h1, h2, h3, h4, _, _⟩
        · omega
        · obtain rfl : j' = j := by omega
          have := sm_term h0 k hk
          rw [if_pos ⟨h1, h3⟩] at this
          omega
      · rw [if_neg hp]; exact sm_nonneg h0
    refine Int.le_trans h1 ?_
    rw [sm_swap, hin]
    refine sm_le fun k hk => ?_
    have hk0 := f0 k hk
    by_cases ht : tn d.net k = j
    · rw [if_pos ht.symm]
      have e : (sm d.nt fun i => if fr d.net k = d.nw + i ∧ tn d.net k = j then f k else 0) ≤ sm d.nt fun i => if i = fr d.net k - d.nw then f k else 0 := sm_le fun i _ => by
        by_cases e : i = fr d.net k - d.nw
        · rw [if_pos e]; split <;> omega
        · rw [if_neg e, if_neg (by omega)]; omega
      rw [sm_one] at e
      split at e <;> omega
    · rw [if_neg (Ne.symm ht)]
      have e : (sm d.nt fun i => if fr d.net k = d.nw + i ∧ tn d.net k = j then f k else 0) = 0 := by
        exact sm_all0 fun i _ => by rw [if_neg (fun h => ht h.2)]
      omega
  · have hv : v ≤ out (d.nw + d.nt) := by
      have h1 := h.vl
      rw [hex] at h1
      have h2 : 0 ≤ inn (d.nw + d.nt) := by rw [hin]; exact sm_nonneg fun k hk => by have := f0 k hk; (try dsimp only); split <;> omega
      omega
    have h1 : out (d.nw + d.nt) ≤ sm d.nt fun i => inn (d.nw + i) := by
      rw [hin]
      rw [sm_swap (fun i k => if d.nw + i = tn d.net k then f k else 0) d.net.length d.nt, hout]
      refine sm_le fun k hk => ?_
      have hk0 := f0 k hk
      have hnn : 0 ≤ sm d.nt fun i => if d.nw + i = tn d.net k then f k else 0 := sm_nonneg fun i _ => by split <;> omega
      by_cases e : d.nw + d.nt = fr d.net k
      · rw [if_pos e]
        rcases d.mem (aat_mem hk) with ⟨j, hj, e2⟩ | ⟨i', j, hi', hj, hm, e2⟩ | ⟨i', hi', e2⟩
        · have : fr d.net k = j := by unfold fr; rw [e2]; rfl
          omega
        · have : fr d.net k = d.nw + i' := by unfold fr; rw [e2]; rfl
          omega
        · have e4 : tn d.net k = d.nw + i' := by unfold tn; rw [e2]; rfl
          have := sm_term (n := d.nt) (g := fun i => if d.nw + i = tn d.net k then f k else 0) (fun i _ => by (try dsimp only); split <;> omega) i' hi'
          (try dsimp only at this)
          rw [if_pos e4.symm] at this
          omega
      · rw [if_neg e]; exact hnn
    have h2 : (sm d.nt fun i => inn (d.nw + i)) ≤ cntPl d.nt P := by
      unfold cntPl
      refine sm_le fun i hi => ?_
      have hle := inLe i hi
      rcases Pcase i hi with ⟨e, hno⟩ | ⟨k, j, _, _, _, _, e, _, _⟩
      · rw [e, if_neg (by omega), ← kp _ (by omega)]
        refine Int.not_lt.1 fun hpos => ?_
        rw [hout] at hpos
        obtain ⟨k, hk, hg⟩ := sm_pos hpos
        by_cases e2 : d.nw + i = fr d.net k
        · rw [if_pos e2] at hg
          have := hno k hk
          rw [hQ] at this
          simp only [Bool.and_eq_false_iff, decide_eq_false_iff_not] at this
          rcases this with h | h
          · exact h e2.symm
          · exact h hg
        · rw [if_neg e2] at hg; omega
      · rw [e, if_pos (by omega)]; exact hle
    omega
theorem fill_place {d : PD} {f : Nat → Int} {v : Int} (hr : ∀ j, j < d.nw → 0 ≤ d.room j ∧ d.room j ≤ 1048576) (h : FL (d.nw + d.nt + 2) d.net (d.nw + d.nt) (d.nw + d.nt + 1) f v) {S : Nat → Bool} (h1 : S (d.nw + d.nt) = true) (h2 : S (d.nw + d.nt + 1) = false) (h3 : capS d.net S = v) : MaxPl d v := by
  obtain ⟨P, hP, hv⟩ := place_of hr h
  have := hP.le_cut h1 h2
  exact ⟨⟨P, hP, by omega⟩, fun P' hP' => by rw [← h3]; exact hP'.le_cut h1 h2⟩
/-! ## one by one -/
def PD.from (d : PD) (i : Nat) (room : Nat → Int) : PD := ⟨d.nw, d.nt - i, fun a j => d.may (i + a) j, room⟩
def subR (room : Nat → Int) (j : Nat) : Nat → Int := fun k => if k = j then room k - 1 else room k
theorem cntPl_nonneg (n : Nat) (P : Nat → Int) : 0 ≤ cntPl n P := sm_nonneg fun i _ => by (try dsimp only); split <;> omega
theorem take_le' {d : PD} {i j : Nat} {room : Nat → Int} {K b : Int} (hi : i < d.nt) (hj : j < d.nw) (hm : d.may i j = true) (hK : MaxPl (d.from i room) K) (hb : MaxPl (d.from (i + 1) (subR room j)) b) : 1 + b ≤ K := by
  obtain ⟨⟨P, hP, rfl⟩, _⟩ := hb
  have hnt : d.nt - i = (d.nt - (i + 1)) + 1 := by omega
  have := hK.2 (fun a => if a = 0 then (j : Int) else P (a - 1)) ⟨fun a ha => by
    by_cases e : a = 0
    · subst e; right
      exact ⟨by simp, by simpa [PD.from] using hj, by simpa [PD.from] using hm⟩
    · have h1 := hP.rg (a - 1) (by simp only [PD.from] at ha ⊢; omega)
      simp only [PD.from] at h1 ⊢
      rw [if_neg e, show i + a = i + 1 + (a - 1) by omega]
      exact h1, fun q hq => by
    have h1 := hP.rm q hq
    simp only [PD.from] at h1 ⊢
    rw [hnt, sm_head]
    simp only [Nat.add_sub_cancel, Nat.succ_ne_zero, if_false, if_true]
    unfold subR at h1
    by_cases e : q = j
    · subst e; rw [if_pos rfl] at h1 ⊢; omega
    · rw [if_neg e] at h1; rw [if_neg (by omega)]; omega⟩
  simp only [PD.from, cntPl] at this ⊢
  rw [hnt, sm_head] at this
  simp only [Nat.add_sub_cancel, Nat.succ_ne_zero, if_false, if_true] at this
  rw [if_pos (by omega)] at this
  omega
theorem leave' {d : PD} {i : Nat} {room : Nat → Int} {K : Int} (hi : i < d.nt) (hK : MaxPl (d.from i room) K) (hno : ∀ j, j < d.nw → d.may i j = true → room j ≠ 0 → ∃ b, MaxPl (d.from (i + 1) (subR room j)) b ∧ 1 + b ≠ K) : MaxPl (d.from (i + 1) room) K := by
  have hnt : d.nt - i = (d.nt - (i + 1)) + 1 := by omega
  have up : ∀ P, Pl (d.from (i + 1) room) P → cntPl (d.nt - (i + 1)) P ≤ K := fun P hP => by
    have := hK.2 (fun a => if a = 0 then -1 else P (a - 1)) ⟨fun a ha => by
      by_cases e : a = 0
      · subst e; exact .inl rfl
      · have h1 := hP.rg (a - 1) (by simp only [PD.from] at ha ⊢; omega)
        simp only [PD.from] at h1 ⊢
        rw [if_neg e, show i + a = i + 1 + (a - 1) by omega]
        exact h1, fun q hq => by
      have h1 := hP.rm q hq
      simp only [PD.from] at h1 ⊢
      rw [hnt, sm_head]
      simp only [Nat.add_sub_cancel, Nat.succ_ne_zero, if_false, if_true]
      rw [if_neg (by omega)]; omega⟩
    simp only [PD.from, cntPl] at this ⊢
    rw [hnt, sm_head] at this
    simp only [Nat.add_sub_cancel, Nat.succ_ne_zero, if_false, if_true] at this
    rw [if_neg (by omega)] at this
    omega
  obtain ⟨⟨P, hP, hc⟩, hmax⟩ := hK
  have hc' : (if 0 ≤ P 0 then (1 : Int) else 0) + cntPl (d.nt - (i + 1)) (fun a => P (a + 1)) = K := by
    simp only [PD.from, cntPl] at hc ⊢
    rw [hnt, sm_head] at hc
    exact hc
  have h0 := hP.rg 0 (by simp only [PD.from]; omega)
  simp only [PD.from, Nat.add_zero] at h0
  have tail : ∀ a, a < d.nt - (i + 1) → P (a + 1) = -1 ∨ (0 ≤ P (a + 1) ∧ P (a + 1) < d.nw ∧ d.may (i + 1 + a) (P (a + 1)).toNat = true) := fun a ha => by
    have h1 := hP.rg (a + 1) (by simp only [PD.from]; omega)
    simp only [PD.from] at h1
    rw [show i + (a + 1) = i + 1 + a by omega] at h1
    exact h1
  have cnts : ∀ q : Nat, q < d.nw → (if P 0 = (q : Int) then (1 : Int) else 0) + (sm (d.nt - (i + 1)) fun a => if P (a + 1) = (q : Int) then 1 else 0) ≤ room q := fun q hq => by
    have h1 := hP.rm q hq
    simp only [PD.from] at h1
    rw [hnt, sm_head] at h1
    exact h1
  rcases h0 with h0 | ⟨h1, h2, h3⟩
  · rw [h0, if_neg (by omega)] at hc'
    refine ⟨⟨fun a => P (a + 1), ⟨tail, fun q hq => ?_⟩, by simp only [PD.from]; omega⟩, fun P' hP' => up P' hP'⟩
    have := cnts q hq
    rw [h0, if_neg (by omega)] at this
    simp only [PD.from]; omega
  · exfalso
    obtain ⟨q, hq⟩ := Int.eq_ofNat_of_zero_le h1
    rw [hq] at h2 h3
    rw [Int.toNat_natCast] at h3
    have hqn : q < d.nw := by omega
    have hcq := cnts q hqn
    rw [hq, if_pos rfl] at hcq
    have hsn : 0 ≤ sm (d.nt - (i + 1)) fun a => if P (a + 1) = (q : Int) then (1 : Int) else 0 := sm_nonneg fun a _ => by (try dsimp only); split <;> omega
    obtain ⟨b, hb, hne⟩ := hno q hqn h3 (by omega)
    rw [if_pos h1] at hc'
    have h4 := hb.2 (fun a => P (a + 1)) ⟨tail, fun q' hq' => by
      have := cnts q' hq'
      simp only [PD.from, subR]
      by_cases e : q' = q
      · subst e; rw [if_pos rfl]; rw [hq, if_pos rfl] at this; omega
      · rw [if_neg e]; rw [hq, if_neg (by omega)] at this; omega⟩
    simp only [PD.from] at h4
    have h5 := take_le' hi hqn h3 ⟨⟨P, hP, hc⟩, hmax⟩ hb
    omega
theorem from_zero (d : PD) : d.from 0 d.room = d := by
  obtain ⟨nw, nt, may, room⟩ := d
  simp [PD.from]
def cntL (l : List Int) (i : Nat) : Int := cntPl i fun m => l.getD m 0
def cntJ (l : List Int) (j i : Nat) : Int := sm i fun m => if l.getD m 0 = (j : Int) then 1 else 0
/-- the first i are done: whom each has, how much room is left, how many more can be placed -/
structure PGI (d : PD) (K : Int) (i : Nat) (room : Nat → Int) (t : Int) (l : List Int) : Prop where
  mx : MaxPl (d.from i room) t
  ct : t + cntL l i = K
  ll : l.length = i
  rg : ∀ m, m < i → l.getD m 0 = -1 ∨ (0 ≤ l.getD m 0 ∧ l.getD m 0 < d.nw ∧ d.may m (l.getD m 0).toNat = true)
  rm : ∀ j, j < d.nw → room j = d.room j - cntJ l j i ∧ 0 ≤ room j
theorem PGI.start {d : PD} {K : Int} (h : MaxPl d K) (hr : ∀ j, j < d.nw → 0 ≤ d.room j) : PGI d K 0 d.room K [] :=
  ⟨by rw [from_zero]; exact h, by simp [cntL, cntPl, sm], rfl, fun m hm => absurd hm (by omega), fun j hj => ⟨by simp [cntJ, sm], hr j hj⟩⟩
theorem getD_snoc' (l : List Int) (v : Int) (m : Nat) (h : m < l.length) : (l ++ [v]).getD m 0 = l.getD m 0 := by
  rw [List.getD, List.getElem?_append_left h]; rfl
theorem snoc_at' (l : List Int) (v : Int) : (l ++ [v]).getD l.length 0 = v := by simp [List.getD]
theorem cntL_snoc {l : List Int} {v : Int} {i : Nat} (h : l.length = i) : cntL (l ++ [v]) (i + 1) = cntL l i + if 0 ≤ v then 1 else 0 := by
  unfold cntL cntPl
  rw [sm, ← h]
  simp only [snoc_at']
  congr 1
  exact sm_congr fun m hm => by
    show (if (0 : Int) ≤ (l ++ [v]).getD m 0 then (1 : Int) else 0) = if (0 : Int) ≤ l.getD m 0 then (1 : Int) else 0
    rw [getD_snoc' l v m hm]
theorem cntJ_snoc {l : List Int} {v : Int} {i : Nat} (j : Nat) (h : l.length = i) : cntJ (l ++ [v]) j (i + 1) = cntJ l j i + if v = (j : Int) then 1 else 0 := by
  unfold cntJ
  rw [sm, ← h]
  simp only [snoc_at']
  congr 1
  exact sm_congr fun m hm => by rw [getD_snoc' l v m hm]
section
variable {d : PD} {K t : Int} {i : Nat} {room : Nat → Int} {l : List Int}
theorem PGI.left (h : PGI d K i room t l) (hm : MaxPl (d.from (i + 1) room) t) : PGI d K (i + 1) room t (l ++ [-1]) := by
  have hll := h.ll
  refine ⟨hm, ?_, by simp [hll], fun m hm' => ?_, fun j hj => ?_⟩
  · rw [cntL_snoc hll, if_neg (by omega)]; have := h.ct; omega
  · rcases Nat.lt_or_ge m i with h1 | h1
    · rw [getD_snoc' l _ m (by omega)]; exact h.rg m h1
    · obtain rfl : m = l.length := by omega
      left; exact snoc_at' l _
  · rw [cntJ_snoc j hll, if_neg (by omega)]
    have := h.rm j hj
    omega
theorem PGI.take {j : Nat} {b : Int} (h : PGI d K i room t l) (hj : j < d.nw) (hm : d.may i j = true) (hr : room j ≠ 0) (hb : MaxPl (d.from (i + 1) (subR room j)) b) (ht : 1 + b = t) : PGI d K (i + 1) (subR room j) b (l ++ [(j : Int)]) := by
  have hll := h.ll
  refine ⟨hb, ?_, by simp [hll], fun m hm' => ?_, fun q hq => ?_⟩
  · rw [cntL_snoc hll, if_pos (by omega)]; have := h.ct; omega
  · rcases Nat.lt_or_ge m i with h1 | h1
    · rw [getD_snoc' l _ m (by omega)]; exact h.rg m h1
    · obtain rfl : m = l.length := by omega
      rw [snoc_at']
      right
      exact ⟨by omega, by omega, by rw [Int.toNat_natCast, hll]; exact hm⟩
  · rw [cntJ_snoc q hll]
    have h1 := h.rm q hq
    unfold subR
    by_cases e : q = j
    · subst e; rw [if_pos rfl, if_pos rfl]; omega
    · rw [if_neg e, if_neg (by omega)]; omega
theorem PGI.done (h : PGI d K d.nt room t l) : Pl d (fun m => l.getD m 0) ∧ cntL l d.nt = K := by
  refine ⟨⟨h.rg, fun j hj => ?_⟩, ?_⟩
  · have h1 := h.rm j hj
    show cntJ l j d.nt ≤ d.room j
    omega
  · obtain ⟨P, _, hc⟩ := h.mx.1
    have : cntPl (d.from d.nt room).nt P = 0 := by simp [PD.from, cntPl, sm]
    have := h.ct
    omega
end
end Go.Proofs.YteadceghjfaekaaDoor
