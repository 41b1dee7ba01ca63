/- Menger: the net in which each node is two; its greatest flow is the least wall. No program in sight. Menger: what goes out of each node; a way along what goes. No program in sight. lanes.wrong, WaysCheck, Parted. lanes.Wall in plain words. lanes.Wall. -/
import Derived.Test.YteadceghjfaekaaDoorFlowF
import Derived.Test.YteadceghjfaekaaDoorPlaceLaw
import Derived.Test.YteadceghjfaekaaDoorGoodC
import Derived.Test.YteadceghjfaekaaDoorAdj
import Derived.Test.YteadceghjfaekaaDoorRefNearA
import Derived.Test.YteadceghjfaekaaDoorWithout
import Derived.Test.YteadceghjfaekaaDoorRefDist
import Derived.Test.YteadceghjfaekaaDoorBlk
import Derived.Test.YteadceghjfaekaaDoorSpreadLaw
import Derived.Test.YteadceghjfaekaaDoorPopc
import Derived.Test.YteadceghjfaekaaDoorRefBit
import Derived.Test.YteadceghjfaekaaDoorNearGr
import Derived.Test.YteadceghjfaekaaDoorSpread
import Derived.Test.YteadceghjfaekaaDoorBel
import Derived.Test.YteadceghjfaekaaDoorOnes
import Derived.Test.YteadceghjfaekaaDoorStillRound
namespace Go.Proofs.YteadceghjfaekaaDoor
open Go.RowKit

/-- what is come to from a without X -/
inductive Av (r : Nat → Nat → Bool) (X : Nat → Bool) (a : Nat) : Nat → Prop
  | refl : Av r X a a
  | step {y x : Nat} : Av r X a y → r y x = true → X x = false → Av r X a x
/-- X parts a and b -/
structure Sep (r : Nat → Nat → Bool) (X : Nat → Bool) (a b : Nat) : Prop where
  fa : X a = false
  fb : X b = false
  no : ¬ Av r X a b
def szB (n : Nat) (X : Nat → Bool) : Int := sm n fun u => if X u then 1 else 0
theorem Av.trans {r : Nat → Nat → Bool} {X : Nat → Bool} {a b c : Nat} (h : Av r X a b) (h' : Av r X b c) : Av r X a c := by
  induction h' with
  | refl => exact h
  | step _ h1 h2 ih => exact .step ih h1 h2
theorem Av.free {r : Nat → Nat → Bool} {X : Nat → Bool} {a b : Nat} (h : Av r X a b) (ha : X a = false) : X b = false := by
  cases h with
  | refl => exact ha
  | step _ _ h => exact h
theorem Av.symm {r : Nat → Nat → Bool} {X : Nat → Bool} {a b : Nat} (hs : ∀ x y, r x y = true → r y x = true) (h : Av r X a b) (ha : X a = false) : Av r X b a := by
  induction h with
  | refl => exact .refl
  | step h1 h2 h3 ih => exact (Av.step .refl (hs _ _ h2) (h1.free ha)).trans ih
theorem Sep.symm {r : Nat → Nat → Bool} {X : Nat → Bool} {a b : Nat} (hs : ∀ x y, r x y = true → r y x = true) (h : Sep r X a b) : Sep r X b a :=
  ⟨h.fb, h.fa, fun hg => h.no (hg.symm hs h.fb)⟩
/-- the neighbours part -/
theorem Sep.near {r : Nat → Nat → Bool} {a b : Nat} (hab : a ≠ b) (hna : r a b = false) (hl : r a a = false) : Sep r (r a) a b := by
  refine ⟨hl, hna, fun h => ?_⟩
  have : ∀ x, Av r (r a) a x → x = a := fun x h => by
    induction h with
    | refl => rfl
    | step _ h1 h2 ih => rw [ih] at h1; rw [h1] at h2; cases h2
  exact hab (this b h).symm
/-- the net: the arcs within nodes ahead; then those of the edges -/
structure HN (N : Nat) (r : Nat → Nat → Bool) (l : List Arc) : Prop where
  ok : NOk (2 * N) l
  len : N ≤ l.length
  lo : ∀ k, k < N → fr l k = k ∧ tn l k = N + k
  hi : ∀ k, N ≤ k → k < l.length → ∃ u x, u < N ∧ x < N ∧ fr l k = N + u ∧ tn l k = x ∧ r u x = true
  ed : ∀ u x, r u x = true → ∃ k, N ≤ k ∧ k < l.length ∧ fr l k = N + u ∧ tn l k = x
  one : ∀ k, k < l.length → mo l k = 1
  rg : ∀ u x, r u x = true → u < N ∧ x < N
section
variable {N : Nat} {r : Nat → Nat → Bool} {l : List Arc} {a b : Nat}
theorem HN.cap_lo (h : HN N r l) (S : Nat → Bool) : sm N (fun k => if S (fr l k) && !S (tn l k) then mo l k else 0) = sm N fun u => if S u && !S (N + u) then 1 else 0 :=
  sm_congr fun k hk => by rw [(h.lo k hk).1, (h.lo k hk).2, h.one k (by have := h.len; omega)]
theorem sm_split (g : Nat → Int) (m : Nat) : ∀ n, sm (m + n) g = sm m g + sm n fun k => g (m + k)
  | 0 => by simp [sm]
  | n + 1 => by rw [← Nat.add_assoc, sm, sm_split g m n, sm]; omega
/-- no flow is more than a wall -/
theorem HN.wall_ge (h : HN N r l) {f : Nat → Int} {v : Int} (hf : FL (2 * N) l (N + a) b f v) (ha : a < N) (hb : b < N) {X : Nat → Bool} (hX : Sep r X a b) : v ≤ szB N X := by
  classical
  let S : Nat → Bool := fun i => if i < N then X i || decide (Av r X a i) else decide (Av r X a (i - N))
  have hS0 : ∀ u, u < N → S u = (X u || decide (Av r X a u)) := fun u hu => by show (if u < N then _ else _) = _; rw [if_pos hu]
  have hS1 : ∀ u, S (N + u) = decide (Av r X a u) := fun u => by
    show (if N + u < N then _ else _) = _
    rw [if_neg (by omega), Nat.add_sub_cancel_left]
  have h1 := hf.le h.ok (S := S) (by rw [hS1]; exact decide_eq_true .refl) (by rw [hS0 b hb, hX.fb, Bool.false_or]; exact decide_eq_false hX.no) (by omega)
  refine Int.le_trans h1 ?_
  obtain ⟨d, hd⟩ : ∃ d, l.length = N + d := ⟨l.length - N, by have := h.len; omega⟩
  unfold capS
  rw [hd, sm_split, h.cap_lo]
  have e2 : (sm d fun k => if S (fr l (N + k)) && !S (tn l (N + k)) then mo l (N + k) else 0) = 0 := sm_all0 fun k hk => by
    obtain ⟨u, x, hu, hx, e1, e2, e3⟩ := h.hi (N + k) (by omega) (by omega)
    rw [e1, e2, hS1, hS0 x hx]
    by_cases hA : Av r X a u
    · cases hXx : X x
      · rw [decide_eq_true hA, decide_eq_true (hA.step e3 hXx)]; simp
      · simp
    · rw [decide_eq_false hA]; simp
  rw [e2, Int.add_zero]
  refine sm_le fun u hu => ?_
  rw [hS0 u hu, hS1]
  cases hXu : X u <;> cases decide (Av r X a u) <;> simp
/-- some wall is no more than a cut -/
theorem HN.wall_le (h : HN N r l) {S : Nat → Bool} (ha : a < N) (hs : S (N + a) = true) (ht : S b = false) (hab : a ≠ b) (hna : r a b = false) (hb : b < N) : ∃ X, Sep r X a b ∧ szB N X ≤ capS l S ∧ ∀ u, X u = true → u < N := by
  classical
  let t2 : Nat → Prop := fun u => u ≠ b ∧ S u = false ∧ ∃ y, r y u = true ∧ S (N + y) = true
  let t3 : Nat → Prop := fun u => S (N + u) = true ∧ r u b = true
  let X : Nat → Bool := fun u => decide (u < N ∧ u ≠ a ∧ u ≠ b ∧ ((S u = true ∧ S (N + u) = false) ∨ t2 u ∨ t3 u))
  have hXd : ∀ u, X u = false → u < N → u ≠ a → u ≠ b → ¬ ((S u = true ∧ S (N + u) = false) ∨ t2 u ∨ t3 u) := fun u hu h1 h2 h3 h4 => by
    have : ¬ _ := of_decide_eq_false hu
    exact this ⟨h1, h2, h3, h4⟩
  refine ⟨X, ⟨decide_eq_false fun h => h.2.1 rfl, decide_eq_false fun h => h.2.2.1 rfl, ?_⟩, ?_, fun u hu => (of_decide_eq_true hu).1⟩
  · have key : ∀ x, Av r X a x → x ≠ b ∧ S (N + x) = true := fun x hx => by
      induction hx with
      | refl => exact ⟨hab, hs⟩
      | @step y x h1 h2 h3 ih =>
        have hxN := (h.rg y x h2).2
        have hyN := (h.rg y x h2).1
        have hxb : x ≠ b := fun e => by
          subst e
          by_cases hya : y = a
          · subst hya; rw [hna] at h2; cases h2
          · have hy0 : X y = false := h1.free (decide_eq_false fun h => h.2.1 rfl)
            exact hXd y hy0 hyN hya ih.1 (.inr (.inr ⟨ih.2, h2⟩))
        refine ⟨hxb, ?_⟩
        by_cases hxa : x = a
        · subst hxa; exact hs
        · have hno := hXd x h3 hxN hxa hxb
          cases hSx : S x
          · exact absurd (.inr (.inl ⟨hxb, hSx, y, h2, ih.2⟩)) hno
          · cases hSn : S (N + x)
            · exact absurd (.inl ⟨hSx, hSn⟩) hno
            · rfl
    exact fun hg => (key b hg).1 rfl
  · obtain ⟨d, hd⟩ : ∃ d, l.length = N + d := ⟨l.length - N, by have := h.len; omega⟩
    unfold capS
    rw [hd, sm_split, h.cap_lo]
    have hhi : (sm d fun k => if S (fr l (N + k)) && !S (tn l (N + k)) then mo l (N + k) else 0) ≥ sm N fun u => if t2 u ∨ t3 u then 1 else 0 := by
      let cr : Nat → Prop := fun k => S (fr l (N + k)) = true ∧ S (tn l (N + k)) = false
      have e1 : (sm N fun u => if t2 u ∨ t3 u then (1 : Int) else 0) ≤ sm N fun u => sm d fun k => if cr k ∧ ((tn l (N + k) = u ∧ u ≠ b) ∨ (tn l (N + k) = b ∧ fr l (N + k) = N + u)) then 1 else 0 := sm_le fun u hu => by
        by_cases ht : t2 u ∨ t3 u
        · rw [if_pos ht]
          have hex : ∃ k, k < d ∧ cr k ∧ ((tn l (N + k) = u ∧ u ≠ b) ∨ (tn l (N + k) = b ∧ fr l (N + k) = N + u)) := by
            rcases ht with ⟨h1, h2, y, h3, h4⟩ | ⟨h1, h2⟩
            · obtain ⟨k, k1, k2, k3, k4⟩ := h.ed y u h3
              have hkk : N + (k - N) = k := by omega
              refine ⟨k - N, by omega, ⟨?_, ?_⟩, .inl ⟨?_, h1⟩⟩ <;> rw [hkk]
              · rw [k3]; exact h4
              · rw [k4]; exact h2
              · exact k4
            · obtain ⟨k, k1, k2, k3, k4⟩ := h.ed u b h2
              have hkk : N + (k - N) = k := by omega
              refine ⟨k - N, by omega, ⟨?_, ?_⟩, .inr ⟨?_, ?_⟩⟩ <;> rw [hkk]
              · rw [k3]; exact h1
              · rw [k4]; exact ht
              · exact k4
              · exact k3
          obtain ⟨k, hk, hc⟩ := hex
          have := sm_term (g := fun k => if cr k ∧ ((tn l (N + k) = u ∧ u ≠ b) ∨ (tn l (N + k) = b ∧ fr l (N + k) = N + u)) then (1 : Int) else 0) (n := d) (fun j _ => by split <;> omega) k hk
          rw [if_pos hc] at this
          exact this
        · rw [if_neg ht]
          exact sm_nonneg fun j _ => by split <;> omega
      refine Int.le_trans e1 ?_
      rw [sm_swap]
      refine sm_le fun k hk => ?_
      by_cases hc : cr k
      · have hc' : (S (fr l (N + k)) && !S (tn l (N + k))) = true := by rw [hc.1, hc.2]; rfl
        rw [if_pos hc', h.one (N + k) (by omega)]
        by_cases hbk : tn l (N + k) = b
        · refine Int.le_trans (sm_le (h := fun u => if u = fr l (N + k) - N then 1 else 0) fun u _ => ?_) ?_
          · split
            · rename_i hh
              rcases hh.2 with ⟨q1, q2⟩ | ⟨_, q2⟩
              · exact absurd (q1.symm.trans hbk) q2
              · rw [if_pos (by omega)]; omega
            · split <;> omega
          · rw [sm_one]; split <;> omega
        · refine Int.le_trans (sm_le (h := fun u => if u = tn l (N + k) then 1 else 0) fun u _ => ?_) ?_
          · split
            · rename_i hh
              rcases hh.2 with ⟨q1, q2⟩ | ⟨q1, _⟩
              · rw [if_pos q1.symm]; omega
              · exact absurd q1 hbk
            · split <;> omega
          · rw [sm_one]; split <;> omega
      · rw [sm_all0 fun u _ => if_neg fun hh => hc hh.1]
        split
        · rw [h.one (N + k) (by omega)]; omega
        · omega
    have e3 : szB N X ≤ sm N (fun u => if S u && !S (N + u) then 1 else 0) + sm N fun u => if t2 u ∨ t3 u then 1 else 0 := by
      unfold szB
      rw [← sm_add]
      refine sm_le fun u hu => ?_
      by_cases hx : X u = true
      · rw [if_pos hx]
        obtain ⟨_, _, _, h4⟩ := of_decide_eq_true hx
        rcases h4 with ⟨h5, h6⟩ | h5
        · have h7 : (S u && !S (N + u)) = true := by rw [h5, h6]; rfl
          rw [if_pos h7]
          split <;> omega
        · rw [if_pos h5]; split <;> omega
      · rw [if_neg hx]
        split <;> split <;> omega
    omega
end
end Go.Proofs.YteadceghjfaekaaDoor

namespace Go.Proofs.YteadceghjfaekaaDoor
open Go.RowKit

theorem sm_two {g : Nat → Int} : ∀ {n : Nat}, (∀ k, k < n → 0 ≤ g k) → ∀ i j, i < j → j < n → g i + g j ≤ sm n g
  | 0, _, i, j, _, hj => by omega
  | n + 1, h, i, j, hi, hj => by
    rw [sm]
    by_cases e : j = n
    · subst e; have := sm_term (n := j) (fun k hk => h k (by omega)) i hi; omega
    · have := sm_two (n := n) (fun k hk => h k (by omega)) i j hi (by omega)
      have := h n (by omega)
      omega
def inS (l : List Arc) (f : Nat → Int) (u : Nat) : Int := sm l.length fun k => if u = tn l k then f k else 0
def outS (l : List Arc) (f : Nat → Int) (u : Nat) : Int := sm l.length fun k => if u = fr l k then f k else 0
theorem ex_io (l : List Arc) (f : Nat → Int) (u : Nat) : outS l f u = ex l f u + inS l f u := by
  unfold outS ex inS
  rw [← sm_add]
  exact sm_congr fun k _ => by omega
/-- where to, by what goes: the arcs ahead of K -/
def nxt (l : List Arc) (f : Nat → Int) (N K u : Nat) : List Nat := ((List.range K).filter fun k => decide (0 < f k) && decide (fr l k = N + u)).map (tn l)
theorem nxt_zero (l : List Arc) (f : Nat → Int) (N u : Nat) : nxt l f N 0 u = [] := rfl
theorem nxt_succ (l : List Arc) (f : Nat → Int) (N K u : Nat) : nxt l f N (K + 1) u = nxt l f N K u ++ if 0 < f K ∧ fr l K = N + u then [tn l K] else [] := by
  unfold nxt
  rw [List.range_succ, List.filter_append, List.map_append, List.filter_cons]
  by_cases h : 0 < f K ∧ fr l K = N + u
  · rw [if_pos h, decide_eq_true h.1, decide_eq_true h.2]; simp
  · rw [if_neg h]
    have : (decide (0 < f K) && decide (fr l K = N + u)) = false := by
      rw [Bool.and_eq_false_iff, decide_eq_false_iff_not, decide_eq_false_iff_not]
      by_cases h1 : 0 < f K
      · exact .inr fun h2 => h ⟨h1, h2⟩
      · exact .inl h1
    rw [this]; simp
theorem nxt_mem {l : List Arc} {f : Nat → Int} {N K u x : Nat} : x ∈ nxt l f N K u ↔ ∃ k, k < K ∧ 0 < f k ∧ fr l k = N + u ∧ tn l k = x := by
  unfold nxt
  simp only [List.mem_map, List.mem_filter, List.mem_range, Bool.and_eq_true, decide_eq_true_iff]
  constructor
  · rintro ⟨k, ⟨h1, h2, h3⟩, h4⟩; exact ⟨k, h1, h2, h3, h4⟩
  · rintro ⟨k, h1, h2, h3, h4⟩; exact ⟨k, ⟨h1, h2, h3⟩, h4⟩
theorem nxt_len_le (l : List Arc) (f : Nat → Int) (N K u : Nat) : (nxt l f N K u).length ≤ K := by
  unfold nxt
  rw [List.length_map]
  exact Nat.le_trans (List.length_filter_le _ _) (by simp)
section
variable {N : Nat} {r : Nat → Nat → Bool} {l : List Arc} {a b : Nat} {f : Nat → Int} {v : Int}
theorem HN.f01 (h : HN N r l) (hf : FL (2 * N) l (N + a) b f v) {k : Nat} (hk : k < l.length) : 0 ≤ f k ∧ f k ≤ 1 := by
  have := hf.ok k hk
  rw [h.one k hk] at this
  exact this
theorem HN.nxt_len (h : HN N r l) (hf : FL (2 * N) l (N + a) b f v) (u : Nat) : ((nxt l f N l.length u).length : Int) = outS l f (N + u) := by
  have : ∀ K, K ≤ l.length → ((nxt l f N K u).length : Int) = sm K fun k => if N + u = fr l k then f k else 0 := by
    intro K
    induction K with
    | zero => intro _; rfl
    | succ K ih =>
      intro hK
      have h01 := h.f01 hf (k := K) (by omega)
      rw [nxt_succ, sm, List.length_append, ← ih (by omega)]
      by_cases e : N + u = fr l K
      · rw [if_pos e]
        by_cases h0 : 0 < f K
        · rw [if_pos ⟨h0, e.symm⟩]; simp; omega
        · rw [if_neg fun h => h0 h.1]; simp; omega
      · rw [if_neg e, if_neg fun h => e h.2.symm]; simp
  exact this _ (Nat.le_refl _)
theorem HN.in_lo (h : HN N r l) {u : Nat} (hu : u < N) : inS l f (N + u) = f u := by
  obtain ⟨d, hd⟩ : ∃ d, l.length = N + d := ⟨l.length - N, by have := h.len; omega⟩
  unfold inS
  rw [hd, sm_split, sm_congr (h := fun k => if k = u then f u else 0) (n := N), sm_one, if_pos hu, sm_all0 (n := d), Int.add_zero]
  · intro k hk
    obtain ⟨_, x, _, hx, _, e, _⟩ := h.hi (N + k) (by omega) (by omega)
    rw [if_neg (by omega)]
  · intro k hk
    rw [(h.lo k hk).2]
    by_cases e : k = u
    · subst e; rw [if_pos rfl, if_pos rfl]
    · rw [if_neg e, if_neg (by omega)]
theorem HN.out_lo (h : HN N r l) {u : Nat} (hu : u < N) : outS l f u = f u := by
  obtain ⟨d, hd⟩ : ∃ d, l.length = N + d := ⟨l.length - N, by have := h.len; omega⟩
  unfold outS
  rw [hd, sm_split, sm_congr (h := fun k => if k = u then f u else 0) (n := N), sm_one, if_pos hu, sm_all0 (n := d), Int.add_zero]
  · intro k hk
    obtain ⟨w, _, _, _, e, _, _⟩ := h.hi (N + k) (by omega) (by omega)
    rw [if_neg (by omega)]
  · intro k hk
    rw [(h.lo k hk).1]
    by_cases e : k = u
    · subst e; rw [if_pos rfl]
    · rw [if_neg e, if_neg (by omega)]
/-- what is told of a flow in which nothing comes back -/
structure HF (N : Nat) (r : Nat → Nat → Bool) (l : List Arc) (a b : Nat) (f : Nat → Int) (v : Int) : Prop where
  hn : HN N r l
  fl : FL (2 * N) l (N + a) b f v
  ni : ∀ k, k < l.length → tn l k = N + a → f k = 0
  a : a < N
  b : b < N
theorem HF.fa (h : HF N r l a b f v) : f a = 0 := h.ni a (by have := h.hn.len; have := h.a; omega) (h.hn.lo a h.a).2
theorem HF.out_a (h : HF N r l a b f v) : ((nxt l f N l.length a).length : Int) = v := by
  rw [h.hn.nxt_len h.fl, ex_io, h.fl.vl, h.hn.in_lo h.a, h.fa, Int.add_zero]
theorem HF.out_u (h : HF N r l a b f v) {u : Nat} (hu : u < N) (hua : u ≠ a) : ((nxt l f N l.length u).length : Int) = f u := by
  rw [h.hn.nxt_len h.fl, ex_io, h.fl.kp (N + u) (by omega) (by omega) (by have := h.b; omega), h.hn.in_lo hu, Int.zero_add]
theorem HF.in_u (h : HF N r l a b f v) {u : Nat} (hu : u < N) (hub : u ≠ b) : inS l f u = f u := by
  have := ex_io l f u
  rw [h.fl.kp u (by omega) (by have := h.a; omega) hub, h.hn.out_lo hu] at this
  omega
theorem HF.to_lt (h : HF N r l a b f v) {u x : Nat} (hx : x ∈ nxt l f N l.length u) : x < N := by
  obtain ⟨k, h1, h2, h3, h4⟩ := nxt_mem.1 hx
  by_cases hk : k < N
  · have := (h.hn.lo k hk).1; omega
  · obtain ⟨_, y, _, hy, _, e, _⟩ := h.hn.hi k (by omega) h1
    omega
theorem HF.in_ge (h : HF N r l a b f v) {k x : Nat} (hk : k < l.length) (ht : tn l k = x) : f k ≤ inS l f x := by
  have := sm_term (g := fun k => if x = tn l k then f k else 0) (n := l.length) (fun j hj => by have := (h.hn.f01 h.fl hj).1; split <;> omega) k hk
  rw [if_pos ht.symm] at this
  exact this
theorem HF.ne_a (h : HF N r l a b f v) (hab : a ≠ b) {u x : Nat} (hx : x ∈ nxt l f N l.length u) : x ≠ a := by
  rintro rfl
  obtain ⟨k, h1, h2, _, h4⟩ := nxt_mem.1 hx
  have := h.in_ge h1 h4
  rw [h.in_u h.a hab, h.fa] at this
  omega
theorem HF.on (h : HF N r l a b f v) (hab : a ≠ b) {u x : Nat} (hx : x ∈ nxt l f N l.length u) (hb : x ≠ b) : (nxt l f N l.length x).length = 1 := by
  have h0 := h.to_lt hx
  have h1 := h.out_u h0 (h.ne_a hab hx)
  obtain ⟨k, k1, k2, _, k4⟩ := nxt_mem.1 hx
  have h2 := h.in_ge k1 k4
  rw [h.in_u h0 hb] at h2
  have := h.hn.f01 h.fl (k := x) (by have := h.hn.len; omega)
  omega
theorem HF.uniq (h : HF N r l a b f v) {u w x : Nat} (hx : x ∈ nxt l f N l.length u) (hx' : x ∈ nxt l f N l.length w) (hb : x ≠ b) : u = w := by
  have h0 := h.to_lt hx
  obtain ⟨k, k1, k2, k3, k4⟩ := nxt_mem.1 hx
  obtain ⟨m, m1, m2, m3, m4⟩ := nxt_mem.1 hx'
  have hle := h.in_u h0 hb
  have h01 := h.hn.f01 h.fl (k := x) (by have := h.hn.len; omega)
  have hnn : ∀ j, j < l.length → 0 ≤ (if x = tn l j then f j else 0) := fun j hj => by have := (h.hn.f01 h.fl hj).1; split <;> omega
  rcases Nat.lt_trichotomy k m with e | e | e
  · have := sm_two hnn k m e m1
    rw [if_pos k4.symm, if_pos m4.symm] at this
    have e2 : inS l f x = sm l.length fun j => if x = tn l j then f j else 0 := rfl
    omega
  · subst e; omega
  · have := sm_two hnn m k e k1
    rw [if_pos k4.symm, if_pos m4.symm] at this
    have e2 : inS l f x = sm l.length fun j => if x = tn l j then f j else 0 := rfl
    omega
/-- a way that is being followed: what has been met, and where to next -/
structure Ch (l : List Arc) (f : Nat → Int) (N a b : Nat) (way : List Nat) (j : Nat) : Prop where
  nd : way.Nodup
  hd : way[0]? = some a
  lt : ∀ x ∈ way, x < N ∧ x ≠ b
  st : ∀ i x, way[i + 1]? = some x → ∃ p, way[i]? = some p ∧ x ∈ nxt l f N l.length p
  nx : ∃ p, way[way.length - 1]? = some p ∧ j ∈ nxt l f N l.length p
theorem HF.start (h : HF N r l a b f v) (hab : a ≠ b) {j : Nat} (hj : j ∈ nxt l f N l.length a) : Ch l f N a b [a] j :=
  ⟨by simp, rfl, fun x hx => by rw [List.mem_singleton] at hx; subst hx; exact ⟨h.a, hab⟩, fun i x hx => by simp at hx, a, rfl, hj⟩
theorem HF.fresh (h : HF N r l a b f v) (hab : a ≠ b) {way : List Nat} {j : Nat} (hc : Ch l f N a b way j) (hj : j ≠ b) : j ∉ way := fun hm => by
  obtain ⟨p, hp, hjp⟩ := hc.nx
  obtain ⟨i, hi, e⟩ := List.mem_iff_getElem.1 hm
  cases i with
  | zero =>
    have h0 := hc.hd
    rw [List.getElem?_eq_getElem hi] at h0
    injection h0 with h0
    exact h.ne_a hab hjp (e.symm.trans h0)
  | succ i =>
    obtain ⟨q, hq, hjq⟩ := hc.st i j (by rw [List.getElem?_eq_getElem hi, e])
    have := h.uniq hjp hjq hj
    subst this
    have := pos_inj hc.nd hp hq
    omega
theorem HF.next (h : HF N r l a b f v) (hab : a ≠ b) {way : List Nat} {j : Nat} (hc : Ch l f N a b way j) (hj : j ≠ b) : Ch l f N a b (way ++ [j]) ((nxt l f N l.length j).getD 0 0) := by
  have hfr := h.fresh hab hc hj
  obtain ⟨p, hp, hjp⟩ := hc.nx
  have hl := h.on hab hjp hj
  have hne : 0 < way.length := by
    have := hc.hd
    cases way with
    | nil => simp at this
    | cons => simp
  refine ⟨List.nodup_append.2 ⟨hc.nd, by simp, fun x hx y hy => by rw [List.mem_singleton] at hy; subst hy; exact fun e => hfr (e ▸ hx)⟩, by rw [List.getElem?_append_left hne]; exact hc.hd, fun x hx => ?_, fun i x hx => ?_, j, ?_, ?_⟩
  · rcases List.mem_append.1 hx with hx | hx
    · exact hc.lt x hx
    · rw [List.mem_singleton] at hx; subst hx; exact ⟨h.to_lt hjp, hj⟩
  · by_cases hi : i + 1 < way.length
    · rw [List.getElem?_append_left hi] at hx
      obtain ⟨q, h1, h2⟩ := hc.st i x hx
      exact ⟨q, by rw [List.getElem?_append_left (by omega)]; exact h1, h2⟩
    · have hi2 : i + 1 = way.length := by
        have := (List.getElem?_eq_some_iff.1 hx).1
        simp at this
        omega
      rw [hi2, List.getElem?_append_right (Nat.le_refl _), Nat.sub_self] at hx
      simp at hx
      subst hx
      exact ⟨p, by rw [List.getElem?_append_left (by omega), show i = way.length - 1 by omega]; exact hp, hjp⟩
  · simp
  · have h0 : 0 < (nxt l f N l.length j).length := by omega
    rw [show (nxt l f N l.length j).getD 0 0 = (nxt l f N l.length j)[0] by simp [List.getD, h0]]
    exact List.getElem_mem h0
theorem Ch.len {way : List Nat} {j : Nat} (hc : Ch l f N a b way j) : way.length ≤ N := by
  have : way ⊆ List.range N := fun x hx => List.mem_range.2 (hc.lt x hx).1
  have := hc.nd.length_le_of_subset this
  simpa using this
end
end Go.Proofs.YteadceghjfaekaaDoor

namespace Go.Proofs.YteadceghjfaekaaDoor
open Go.RowKit

/-- what is wrong with a graph and two nodes -/
def lbad (N a b : Int) : Prop := a < 0 ∨ b < 0 ∨ N ≤ a ∨ N ≤ b ∨ a = b
instance (N a b : Int) : Decidable (lbad N a b) := by unfold lbad; infer_instance
def lwr (N : Int) (es : List E) (a b : Int) : Int := if gchk N es ≠ 0 then gchk N es else if lbad N a b then 2 else if adj es a.toNat b.toNat then 3 else 0
theorem shr_wd (x i : Nat) (hx : x < 4294967296) : (bits .and .u32 ((x : Int) / 2 ^ i) 1 == 1) = x.testBit i := by
  have h : ((x : Int) / 2 ^ i) = ((x / 2 ^ i : Nat) : Int) := by simp
  have hlt : x / 2 ^ i < 4294967296 := Nat.lt_of_le_of_lt (Nat.div_le_self _ _) hx
  rw [h, show (1 : Int) = ((1 : Nat) : Int) from rfl, u32_and_nat (x / 2 ^ i) 1 hlt (by decide), Nat.and_one_is_mod, Nat.testBit_eq_decide_div_mod_eq]
  rcases Nat.mod_two_eq_zero_or_one (x / 2 ^ i) with h | h <;> rw [h] <;> rfl
set_option maxHeartbeats 3200000 in
set_option maxRecDepth 100000 in
theorem wrong_any (N : Int) (A : Option Addr) (len cap : Nat) (es : List E) (a b : Int) (w : World) (hr : Rd w A len 3 (ps3 .i64 .i64 .i64 es)) (hlen : len ≤ 9223372036854775807) :
    Calls Tryd.prog 11 #[.agg #[.int .i64 N, .slice A len cap], .int .i64 a, .int .i64 b] w fun e w' => e = .returned (.int .i64 (lwr N es a b)) ∧ Below w.heap.size w w' := by
  have hb0 := (Below.refl _ w).alloc (Nat.le_refl _) (.cells #[.int .i64 N, .slice A len cap] 24)
  have HC := Lib.hid (check_any N A len cap es _ (hr.later hb0) hlen)
  have hK := Blk.new w 24 #[.int .i64 N, .slice A len cap]
  have k0 := hK.cell (j := 0) rfl
  have k1 := hK.cell (j := 1) rfl
  have hKH := Lib.hid hK; have hb0H := Lib.hid hb0
  have hE := Lib.hid (show lwr N es a b = if gchk N es ≠ 0 then gchk N es else if lbad N a b then 2 else if adj es a.toNat b.toNat then 3 else 0 from rfl)
  have hokH := Lib.hid (fun (h : gchk N es = 0) => gchk_ok h)
  have hrH := Lib.hid hr
  have helH := Lib.hid (ps3_len hr)
  clear hr hK hb0
  generalize gchk N es = c at *
  go_enter Tryd.func11, Tryd.ntmps11
  go_wp2_with fail
  refine HC.out.mono ?_
  rintro e w1 ⟨rfl, hb1⟩
  have hbb := hb0H.out.trans (hb1.mono hb0H.out.size)
  have hK1 : Blk w1 w.heap.size 24 #[.int .i64 N, .slice A len cap] := (hb1.block _ hKH.out.lt).trans hKH.out
  have q0 := hK1.cell (j := 0) rfl
  have q1 := hK1.cell (j := 1) rfl
  have hbH := Lib.hid hbb
  clear hb1 hbb hK1 k0 k1 HC
  by_cases hc : c = 0
  case neg =>
    have hc2 : (c != 0) = true := bne_iff_ne.2 hc
    have hr2 := Lib.hid (show lwr N es a b = c by rw [hE.out, if_pos hc])
    clear hc hE
    go_wp2
    go_ret
    exact ⟨by rw [hr2.out]; rfl, hbH.out⟩
  subst hc
  have hE' := hE.out
  rw [if_neg (by simp)] at hE'
  have hEH := Lib.hid hE'
  clear hE hE'
  obtain ⟨mn, hmn⟩ : ∃ mn, (if b < a then b else a) = mn := ⟨_, rfl⟩
  obtain ⟨mx, hmx⟩ : ∃ mx, (if a < b then b else a) = mx := ⟨_, rfl⟩
  have hmin : mn < 0 ↔ a < 0 ∨ b < 0 := by rw [← hmn]; split <;> omega
  have hmax : N ≤ mx ↔ N ≤ a ∨ N ≤ b := by rw [← hmx]; split <;> omega
  have hminH := Lib.hid hmin; have hmaxH := Lib.hid hmax
  clear hmin hmax
  by_cases h1 : mn < 0
  · have hr2 := Lib.hid (show lwr N es a b = 2 by rw [hEH.out, if_pos]; unfold lbad; have := hminH.out.1 h1; omega)
    go_wp2
    go_ret
    exact ⟨by rw [hr2.out]; rfl, hbH.out⟩
  · have h1d : decide (mn < 0) = false := decide_eq_false h1
    by_cases h2 : N ≤ mx
    · have hr2 := Lib.hid (show lwr N es a b = 2 by rw [hEH.out, if_pos]; unfold lbad; have := hmaxH.out.1 h2; omega)
      go_wp2
      go_ret
      exact ⟨by rw [hr2.out]; rfl, hbH.out⟩
    · have h2d : decide (N ≤ mx) = false := decide_eq_false h2
      by_cases h3 : a = b
      · have hr2 := Lib.hid (show lwr N es a b = 2 by rw [hEH.out, if_pos]; unfold lbad; omega)
        have e3 : (a == b) = true := by simp [h3]
        clear h3
        go_wp2
        go_ret
        exact ⟨by rw [hr2.out]; rfl, hbH.out⟩
      · have e3 : (a == b) = false := by rw [beq_eq_false_iff_ne]; exact h3
        have h1' := mt hminH.out.2 h1
        have h2' := mt hmaxH.out.2 h2
        have hr2 := Lib.hid (show lwr N es a b = if adj es a.toNat b.toNat then 3 else 0 by rw [hEH.out, if_neg]; unfold lbad; omega)
        obtain ⟨hN0, hN10, hl45, hok, _⟩ := hokH.out rfl
        obtain ⟨n, rfl⟩ := Int.eq_ofNat_of_zero_le hN0
        obtain ⟨x, rfl⟩ := Int.eq_ofNat_of_zero_le (show 0 ≤ a by omega)
        obtain ⟨y, rfl⟩ := Int.eq_ofNat_of_zero_le (show 0 ≤ b by omega)
        rw [Int.toNat_natCast] at hok
        rw [Int.toNat_natCast, Int.toNat_natCast] at hr2
        have hxn : x < n := by omega
        have hyn : y < n := by omega
        have hbit := Lib.hid (nearW_bit es hok x y hxn)
        have hlt := getD_lt1024 (nearW_lt (by omega) hok) x
        have HN := Lib.hid (near_any n A len cap es w1 (hrH.out.later hbH.out) (by omega) (by rw [helH.out] at hl45; exact hl45) hok)
        have hx0 : (0 : Int) ≤ x := by omega
        have hy0 : (0 : Int) ≤ y := by omega
        have hxnI : (x : Int) < n := by omega
        clear h1' h2' hEH hok hokH h3
        go_wp2_with fail
        all_goals
          refine HN.out.mono ?_
          rintro _ w2 ⟨g, rfl, ho, hb2⟩
          obtain ⟨_, _, e, _, cx⟩ := (Rd.of_own ho).wd hxn
          injection e with e; injection e with e1 e2
          subst e1; subst e2
          rw [Nat.zero_add] at cx
          have hfin := Lib.hid (hbH.out.trans (hb2.mono hbH.out.size))
          have hsb := shr_wd ((nearW n es).getD x 0) y (by omega)
          rw [hbit.out] at hsb
          clear ho hb2 HN
          generalize (nearW n es).getD x 0 = X at *
          cases hadj : adj es x y
          · rw [hadj] at hsb hr2
            go_wp2
            go_ret
            exact ⟨by rw [hr2.out]; rfl, hfin.out⟩
          · rw [hadj] at hsb hr2
            go_wp2
            go_ret
            exact ⟨by rw [hr2.out]; rfl, hfin.out⟩
set_option maxHeartbeats 3200000 in
set_option maxRecDepth 100000 in
theorem waysCheck_any (N : Int) (A : Option Addr) (len cap : Nat) (es : List E) (a b : Int) (w : World) (hr : Rd w A len 3 (ps3 .i64 .i64 .i64 es)) (hcap : len ≤ cap) (hlen : len ≤ 9223372036854775807) :
    Calls Tryd.prog 6 #[.agg #[.int .i64 N, .slice A len cap], .int .i64 a, .int .i64 b] w fun e w' => e = .returned (.int .i64 (lwr N es a b)) ∧ Below w.heap.size w w' := by
  have hb0 := (Below.refl _ w).alloc (Nat.le_refl _) (.cells #[.int .i64 N, .slice A len cap] 24)
  have HC := Lib.hid (graphCheck_any N A len cap es _ (hr.later hb0) hlen hcap)
  have hK := Blk.new w 24 #[.int .i64 N, .slice A len cap]
  have k0 := hK.cell (j := 0) rfl
  have k1 := hK.cell (j := 1) rfl
  have hKH := Lib.hid hK; have hb0H := Lib.hid hb0
  have hE := Lib.hid (show lwr N es a b = if gchk N es ≠ 0 then gchk N es else if lbad N a b then 2 else if adj es a.toNat b.toNat then 3 else 0 from rfl)
  have hokH := Lib.hid (fun (h : gchk N es = 0) => gchk_ok h)
  have hrH := Lib.hid hr
  have helH := Lib.hid (ps3_len hr)
  clear hr hK hb0
  generalize gchk N es = c at *
  go_enter Tryd.func6, Tryd.ntmps6
  go_wp2_with fail
  refine HC.out.mono ?_
  rintro e w1 ⟨rfl, hb1⟩
  have hbb := hb0H.out.trans (hb1.mono hb0H.out.size)
  have hK1 : Blk w1 w.heap.size 24 #[.int .i64 N, .slice A len cap] := (hb1.block _ hKH.out.lt).trans hKH.out
  have q0 := hK1.cell (j := 0) rfl
  have q1 := hK1.cell (j := 1) rfl
  have hbH := Lib.hid hbb
  clear hb1 hbb hK1 k0 k1 HC
  by_cases hc : c = 0
  case neg =>
    have hc2 : (c == 0) = false := beq_eq_false_iff_ne.2 hc
    have hr2 := Lib.hid (show lwr N es a b = c by rw [hE.out, if_pos hc])
    clear hc hE
    go_wp2
    go_ret
    exact ⟨by rw [hr2.out]; rfl, hbH.out⟩
  subst hc
  have hE' := hE.out
  rw [if_neg (by simp)] at hE'
  have hEH := Lib.hid hE'
  clear hE hE'
  by_cases hbad : lbad N a b
  · have hr2 := Lib.hid (show lwr N es a b = 2 by rw [hEH.out, if_pos hbad])
    by_cases h1 : a < 0
    · clear hbad hEH
      go_wp2
      go_ret
      exact ⟨by rw [hr2.out]; rfl, hbH.out⟩
    by_cases h2 : N ≤ a
    · clear hbad hEH
      go_wp2
      go_ret
      exact ⟨by rw [hr2.out]; rfl, hbH.out⟩
    by_cases h3 : b < 0
    · clear hbad hEH
      go_wp2
      go_ret
      exact ⟨by rw [hr2.out]; rfl, hbH.out⟩
    by_cases h4 : N ≤ b
    · clear hbad hEH
      go_wp2
      go_ret
      exact ⟨by rw [hr2.out]; rfl, hbH.out⟩
    · have e3 : (a == b) = true := by unfold lbad at hbad; rw [beq_iff_eq]; omega
      clear hbad hEH
      go_wp2
      go_ret
      exact ⟨by rw [hr2.out]; rfl, hbH.out⟩
  · have hr2 := Lib.hid (show lwr N es a b = if adj es a.toNat b.toNat then 3 else 0 by rw [hEH.out, if_neg hbad])
    obtain ⟨hN0, hN10, hl45, hok, _⟩ := hokH.out rfl
    unfold lbad at hbad
    obtain ⟨n, rfl⟩ := Int.eq_ofNat_of_zero_le hN0
    obtain ⟨x, rfl⟩ := Int.eq_ofNat_of_zero_le (show 0 ≤ a by omega)
    obtain ⟨y, rfl⟩ := Int.eq_ofNat_of_zero_le (show 0 ≤ b by omega)
    rw [Int.toNat_natCast] at hok
    rw [Int.toNat_natCast, Int.toNat_natCast] at hr2
    have h1 : ¬ (x : Int) < 0 := by omega
    have h2 : ¬ (n : Int) ≤ x := by omega
    have h3 : ¬ (y : Int) < 0 := by omega
    have h4 : ¬ (n : Int) ≤ y := by omega
    have e3 : ((x : Int) == y) = false := by rw [beq_eq_false_iff_ne]; omega
    have HN := Lib.hid (refNear_any n x y A len cap es w1 (hrH.out.later hbH.out) (by rw [helH.out] at hl45; exact hl45) hok)
    clear hbad hEH hok hokH
    go_wp2_with fail
    refine HN.out.mono ?_
    rintro _ w2 ⟨rfl, hb2⟩
    have hfin := Lib.hid (hbH.out.trans (hb2.mono hbH.out.size))
    clear hb2 HN
    cases hadj : adj es x y
    · rw [hadj] at hr2
      go_wp2
      go_ret
      exact ⟨by rw [hr2.out]; rfl, hfin.out⟩
    · rw [hadj] at hr2
      go_wp2
      go_ret
      exact ⟨by rw [hr2.out]; rfl, hfin.out⟩
set_option maxHeartbeats 3200000 in
set_option maxRecDepth 100000 in
theorem parted_any (n x y m0 : Nat) (A : Option Addr) (len cap : Nat) (es : List E) (w : World) (hr : Rd w A len 3 (ps3 .i64 .i64 .i64 es)) (hl : len ≤ 45) (hn : n ≤ 10) (hok : ∀ e ∈ es, okE n e) (hm0 : m0 < 4294967296) (hx : x < n) (hy : y < n) :
    Calls Tryd.prog 9 #[.agg #[.int .i64 n, .slice A len cap], .int .i64 (x : Int), .int .i64 (y : Int), .int .u32 (m0 : Int)] w fun e w' => e = .returned (.bool (decide (dW (wo m0 es) n x y < 0))) ∧ Below w.heap.size w w' := by
  have hb0 := (Below.refl _ w).alloc (Nat.le_refl _) (.cells #[.int .i64 n, .slice A len cap] 24)
  have hK := Blk.new w 24 #[.int .i64 n, .slice A len cap]
  have k0 := hK.cell (j := 0) rfl
  have k1 := hK.cell (j := 1) rfl
  have HW := Lib.hid (without_any n m0 A len cap es _ (hr.later hb0) hl hm0 hn hok)
  have hb0H := Lib.hid hb0
  have hlw : (wo m0 es).length ≤ 45 := Nat.le_trans (List.length_filter_le _ _) (by rw [ps3_len hr]; exact hl)
  have hokw : Hid (∀ e ∈ wo m0 es, okE n e) := Lib.hid fun e he => hok e (List.mem_filter.1 he).1
  clear hr hok hb0 hK
  go_enter Tryd.func9, Tryd.ntmps9
  go_wp2_with fail
  refine HW.out.mono ?_
  rintro _ w1 ⟨A1, c1, rfl, hr1, _, hb1⟩
  have hb1H := Lib.hid (hb0H.out.trans (hb1.mono hb0H.out.size))
  have HD := Lib.hid (refDist_any n A1 _ c1 (wo m0 es) w1 hr1 hn hlw hokw.out)
  clear hr1 hb1 HW
  go_wp2_with fail
  refine HD.out.mono ?_
  rintro _ w2 ⟨v, r, c, rfl, hS, hb2⟩
  have hfin := Lib.hid (hb1H.out.trans (hb2.mono hb1H.out.size))
  obtain ⟨g, cg, rfl, _, _, q1⟩ := hS.out hx
  have q2 := hS.cell hx hy
  have hx0 : (0 : Int) ≤ x := by omega
  have hy0 : (0 : Int) ≤ y := by omega
  have hxn : (x : Int) < n := by omega
  have hyn : (y : Int) < n := by omega
  clear hS hb2 HD
  obtain ⟨d, hd0⟩ : ∃ d, dW (wo m0 es) n x y = d := ⟨_, rfl⟩
  rw [hd0] at q2
  by_cases hd : d < 0
  · have hr2 := Lib.hid (show decide (dW (wo m0 es) n x y < 0) = true by rw [hd0]; exact decide_eq_true hd)
    clear hd0
    go_wp2
    go_ret
    exact ⟨by rw [hr2.out]; rfl, hfin.out⟩
  · have hr2 := Lib.hid (show decide (dW (wo m0 es) n x y < 0) = false by rw [hd0]; exact decide_eq_false hd)
    clear hd0
    go_wp2
    go_ret
    exact ⟨by rw [hr2.out]; have h9 : decide (d < 0) = false := decide_eq_false (by omega); show Ending.returned (.bool (decide (d < 0))) = _; rw [h9], hfin.out⟩
end Go.Proofs.YteadceghjfaekaaDoor

namespace Go.Proofs.YteadceghjfaekaaDoor
open Go.RowKit

def wdP (f : Nat → Bool) : Nat → Nat
  | 0 => 0
  | n + 1 => wdP f n ||| if f n = true then 2 ^ n else 0
theorem wdP_bit (f : Nat → Bool) (j : Nat) : ∀ n, (wdP f n).testBit j = (decide (j < n) && f j)
  | 0 => by simp [wdP]
  | n + 1 => by
    unfold wdP
    rw [Nat.testBit_or, wdP_bit f j n]
    by_cases e : j = n
    · subst e
      cases hf : f j <;> simp
    · have : (if f n = true then 2 ^ n else 0).testBit j = false := by
        split
        · rw [Nat.testBit_two_pow]; simp; omega
        · simp
      rw [this]
      by_cases h : j < n
      · simp [h, show j < n + 1 by omega]
      · simp [h, show ¬ j < n + 1 by omega]
theorem wdP_lt (f : Nat → Bool) (n : Nat) : wdP f n < 2 ^ n := Nat.lt_pow_two_of_testBit _ fun m hm => by rw [wdP_bit]; simp; omega
theorem and_not_bit {N x : Nat} (hN : N ≤ 10) (hx : x < 2 ^ N) (y j : Nat) : (y &&& (4294967295 - x)).testBit j = (y.testBit j && (decide (j < 32) && !x.testBit j)) := by
  have : 2 ^ N ≤ 2 ^ 10 := Nat.pow_le_pow_right (by omega) hN
  rw [Nat.testBit_and, show 4294967295 - x = 2 ^ 32 - (x + 1) by omega, Nat.testBit_two_pow_sub_succ (by omega)]
/-- what may be in a wall -/
def allW (N a b : Nat) : Nat := (2 ^ N - 1) &&& (4294967295 - (2 ^ a ||| 2 ^ b))
section
variable {N a b : Nat} {ns : List Nat}
theorem allW_bit (hN : N ≤ 10) (ha : a < N) (hb : b < N) (j : Nat) : (allW N a b).testBit j = true ↔ j < N ∧ j ≠ a ∧ j ≠ b := by
  unfold allW
  have h1 : 2 ^ a ||| 2 ^ b < 2 ^ N := Nat.or_lt_two_pow (Nat.pow_lt_pow_right (by omega) ha) (Nat.pow_lt_pow_right (by omega) hb)
  rw [and_not_bit hN h1, Nat.testBit_two_pow_sub_one, Nat.testBit_or, Nat.testBit_two_pow, Nat.testBit_two_pow]
  simp
  omega
theorem allW_lt (_ : N ≤ 10) : allW N a b < 2 ^ N := Nat.lt_of_le_of_lt Nat.and_le_left (by have := Nat.two_pow_pos N; omega)
def InW (N a b x : Nat) : Prop := ∀ j, x.testBit j = true → j < N ∧ j ≠ a ∧ j ≠ b
theorem inW_iff (hN : N ≤ 10) (ha : a < N) (hb : b < N) (x : Nat) : x &&& (4294967295 - allW N a b) = 0 ↔ InW N a b x ∨ (x &&& (4294967295 - allW N a b) = 0 ∧ 2 ^ 32 ≤ x) := by
  constructor
  · intro h
    by_cases hx : 2 ^ 32 ≤ x
    · exact .inr ⟨h, hx⟩
    · refine .inl fun j hj => (allW_bit hN ha hb j).1 ?_
      have hj32 : j < 32 := Nat.lt_of_not_le fun hle => by
        rw [Nat.testBit_lt_two_pow (Nat.lt_of_lt_of_le (Nat.lt_of_not_le hx) (Nat.pow_le_pow_right (by omega) hle))] at hj
        cases hj
      have h2 := and_not_bit hN (allW_lt (a := a) (b := b) hN) x j
      rw [h, hj, Nat.zero_testBit, decide_eq_true hj32] at h2
      simpa using h2
  · rintro (h | ⟨h, _⟩)
    · refine Nat.eq_of_testBit_eq fun j => ?_
      rw [and_not_bit hN (allW_lt (a := a) (b := b) hN), Nat.zero_testBit]
      cases hj : x.testBit j
      · rfl
      · rw [(allW_bit hN ha hb j).2 (h j hj)]; simp
    · exact h
open Classical in
/-- all that is come to past a wall -/
noncomputable def avW (ns : List Nat) (N a x : Nat) : Nat := wdP (fun u => decide (Av (nb ns) x.testBit a u)) N
theorem avW_bit {x u : Nat} (hu : u < N) : (avW ns N a x).testBit u = true ↔ Av (nb ns) x.testBit a u := by
  classical
  unfold avW
  rw [wdP_bit, decide_eq_true hu, Bool.true_and, decide_eq_true_iff]
theorem inW_lt {x : Nat} (hx : InW N a b x) : x < 2 ^ N := Nat.lt_pow_two_of_testBit _ fun m hm => by
  cases hb : x.testBit m
  · rfl
  · have := (hx m hb).1; omega
theorem spread_av (hg : ∀ i j, nb ns i j = true → i < N ∧ j < N) (hN : N ≤ 10) (ha : a < N) (hb : b < N) (hab : a ≠ b) {x R : Nat} (hx : InW N a b x) (hR : R < 2 ^ N) (h : IsSpread ns ((allW N a b ||| 2 ^ b) &&& (4294967295 - x)) (2 ^ a) R) : R = avW ns N a x := by
  have hwi : ∀ j, ((allW N a b ||| 2 ^ b) &&& (4294967295 - x)).testBit j = true ↔ j < N ∧ j ≠ a ∧ x.testBit j = false := fun j => by
    rw [and_not_bit hN (inW_lt hx), Bool.and_eq_true, Nat.testBit_or, Bool.or_eq_true, allW_bit hN ha hb, Nat.testBit_two_pow, decide_eq_true_iff, Bool.and_eq_true, decide_eq_true_iff, Bool.not_eq_true']
    constructor
    · rintro ⟨h1, _, h3⟩
      rcases h1 with h | h
      · exact ⟨h.1, h.2.1, h3⟩
      · exact ⟨by omega, by omega, h3⟩
    · rintro ⟨h1, h2, h3⟩
      refine ⟨?_, by omega, h3⟩
      by_cases e : j = b
      · exact .inr e.symm
      · exact .inl ⟨h1, h2, e⟩
  have ha1 : ∀ m, (2 ^ a).testBit m = true ↔ m = a := fun m => by rw [Nat.testBit_two_pow, decide_eq_true_iff]; exact eq_comm
  refine Nat.eq_of_testBit_eq fun u => ?_
  by_cases hu : u < N
  · rw [Bool.eq_iff_iff, avW_bit hu]
    constructor
    · exact h.least (fun m => Av (nb ns) x.testBit a m) (fun m hm => by rw [(ha1 m).1 hm]; exact .refl) (fun j m hj hjm hw => hj.step hjm ((hwi m).1 hw).2.2) u
    · intro hA
      clear hu
      induction hA with
      | refl => exact h.sub a ((ha1 a).2 rfl)
      | @step y z h1 h2 h3 ih =>
        by_cases e : z = a
        · exact h.sub z ((ha1 z).2 e)
        · exact h.cl y z ih h2 ((hwi z).2 ⟨(hg y z h2).2, e, h3⟩)
  · have e : ∀ y, y < 2 ^ N → y.testBit u = false := fun y hy => Nat.testBit_lt_two_pow (Nat.lt_of_lt_of_le hy (Nat.pow_le_pow_right (by omega) (by omega)))
    rw [e _ hR, e (avW ns N a x) (wdP_lt _ _)]
/-- the best wall so far -/
structure WaI (ns : List Nat) (N a b k best : Nat) : Prop where
  sub : InW N a b best
  sep : Sep (nb ns) best.testBit a b
  mn : ∀ x, x < k → InW N a b x → Sep (nb ns) x.testBit a b → popc 10 best ≤ popc 10 x
theorem WaI.start (hg : ∀ i j, nb ns i j = true → i < N ∧ j < N) (hN : N ≤ 10) (ha : a < N) (hb : b < N) (hab : a ≠ b) (hna : nb ns a b = false) : WaI ns N a b 0 (allW N a b) := by
  refine ⟨fun j hj => (allW_bit hN ha hb j).1 hj, ⟨?_, ?_, fun h => ?_⟩, fun x hx => absurd hx (by omega)⟩
  · cases h : (allW N a b).testBit a
    · rfl
    · exact absurd rfl ((allW_bit hN ha hb a).1 h).2.1
  · cases h : (allW N a b).testBit b
    · rfl
    · exact absurd rfl ((allW_bit hN ha hb b).1 h).2.2
  · have : ∀ x, Av (nb ns) (allW N a b).testBit a x → x = a := fun x h => by
      induction h with
      | refl => rfl
      | @step y x h1 h2 h3 ih =>
        subst ih
        by_cases e : x = y
        · exact e
        · by_cases e2 : x = b
          · rw [e2, hna] at h2; cases h2
          · rw [(allW_bit hN ha hb x).2 ⟨(hg y x h2).2, e, e2⟩] at h3; cases h3
    exact hab (this b h).symm
theorem sep_av {x : Nat} (hb : b < N) (hx : InW N a b x) : Sep (nb ns) x.testBit a b ↔ (avW ns N a x).testBit b = false := by
  constructor
  · intro h
    cases e : (avW ns N a x).testBit b
    · rfl
    · exact absurd ((avW_bit hb).1 e) h.no
  · intro h
    refine ⟨?_, ?_, fun hA => ?_⟩
    · cases e : x.testBit a
      · rfl
      · exact absurd rfl (hx a e).2.1
    · cases e : x.testBit b
      · rfl
      · exact absurd rfl (hx b e).2.2
    · rw [(avW_bit hb).2 hA] at h; cases h
theorem WaI.yes {k best : Nat} (h : WaI ns N a b k best) (h1 : InW N a b k) (h2 : Sep (nb ns) k.testBit a b) (h3 : popc 10 k < popc 10 best) : WaI ns N a b (k + 1) k :=
  ⟨h1, h2, fun x hx hi hs => by
    by_cases e : x = k
    · rw [e]; exact Nat.le_refl _
    · have := h.mn x (by omega) hi hs; omega⟩
theorem WaI.no {k best : Nat} (h : WaI ns N a b k best) (h0 : InW N a b k → popc 10 k < popc 10 best → Sep (nb ns) k.testBit a b → False) : WaI ns N a b (k + 1) best :=
  ⟨h.sub, h.sep, fun x hx hi hs => by
    by_cases e : x = k
    · subst e
      exact Nat.le_of_not_lt fun hlt => h0 hi hlt hs
    · exact h.mn x (by omega) hi hs⟩
theorem WaI.end_ (hN : N ≤ 10) (ha : a < N) (hb : b < N) {best : Nat} (h : WaI ns N a b (allW N a b + 1) best) {x : Nat} (hi : InW N a b x) (hs : Sep (nb ns) x.testBit a b) : popc 10 best ≤ popc 10 x := by
  refine h.mn x ?_ hi hs
  have e : x &&& allW N a b = x := Nat.eq_of_testBit_eq fun j => by
    rw [Nat.testBit_and]
    cases hj : x.testBit j
    · rfl
    · rw [(allW_bit hN ha hb j).2 (hi j hj)]; rfl
  have : x &&& allW N a b ≤ allW N a b := Nat.and_le_right
  omega
/-- the size of a set, both ways -/
theorem sz_popc {x : Nat} : ∀ n, szB n x.testBit = (popc n x : Int)
  | 0 => by simp [szB, sm, popc]
  | n + 1 => by
    have ih := sz_popc (x := x) n
    unfold szB at ih ⊢
    rw [sm, ih, popc_next]
    cases x.testBit n <;> simp
end
end Go.Proofs.YteadceghjfaekaaDoor

namespace Go.Proofs.YteadceghjfaekaaDoor
open Go.RowKit Go.Shelf
attribute [local go_sem] Oper.semAt_some

theorem lwr_zero {N a b : Int} {es : List E} (h : lwr N es a b = 0) : gchk N es = 0 ∧ ∃ n x y : Nat, N = n ∧ a = x ∧ b = y ∧ x < n ∧ y < n ∧ x ≠ y ∧ adj es x y = false := by
  unfold lwr at h
  split at h
  · rename_i h1; exact absurd h h1
  · rename_i h1
    split at h
    · cases h
    · rename_i h2
      split at h
      · cases h
      · rename_i h3
        unfold lbad at h2
        have h0 : gchk N es = 0 := Classical.not_not.1 h1
        obtain ⟨hN, _⟩ := gchk_ok h0
        obtain ⟨n, rfl⟩ := Int.eq_ofNat_of_zero_le hN
        obtain ⟨x, rfl⟩ := Int.eq_ofNat_of_zero_le (show 0 ≤ a by omega)
        obtain ⟨y, rfl⟩ := Int.eq_ofNat_of_zero_le (show 0 ≤ b by omega)
        rw [Int.toNat_natCast, Int.toNat_natCast] at h3
        exact ⟨h0, n, x, y, rfl, rfl, rfl, by omega, by omega, by omega, by cases h : adj es x y <;> simp_all⟩
theorem ones_bel (x : Nat) (w : World) (hx : x < 1024) :
    Calls Tryd.prog 15 #[.int .u32 (x : Int)] w fun e w' => e = .returned (.int .i64 (popc 10 x : Nat)) ∧ Below w.heap.size w w' :=
  (ones_any x w hx).mono fun _ _ ⟨he, n, hn⟩ => ⟨he, hn ▸ below_drewN (Below.refl _ w) n⟩
theorem shr_wd0 (x i : Nat) (hx : x < 4294967296) : (bits .and .u32 ((x : Int) / 2 ^ i) 1 == 0) = !x.testBit i := by
  have e : ((x : Int) / 2 ^ i) = ((x / 2 ^ i : Nat) : Int) := by simp
  rw [e, show (1 : Int) = ((1 : Nat) : Int) from rfl, u32_and_nat _ 1 (Nat.lt_of_le_of_lt (Nat.div_le_self ..) hx) (by omega), Nat.and_one_is_mod, Nat.testBit_eq_decide_div_mod_eq]
  rcases Nat.mod_two_eq_zero_or_one (x / 2 ^ i) with h | h <;> rw [h] <;> rfl
theorem wall_bad (N : Int) (A : Option Addr) (len cap : Nat) (es : List E) (a b : Int) (w : World) (hr : Rd w A len 3 (ps3 .i64 .i64 .i64 es)) (hlen : len ≤ 9223372036854775807) (h : lwr N es a b ≠ 0) :
    Calls Tryd.prog 5 #[.agg #[.int .i64 N, .slice A len cap], .int .i64 a, .int .i64 b] w fun e w' => e = .returned (.tuple #[.int .u32 0, .int .i64 (lwr N es a b)]) ∧ Below w.heap.size w w' := by
  have hb0 := (Below.refl _ w).alloc (Nat.le_refl _) (.cells #[.int .i64 N, .slice A len cap] 24)
  have HC := Lib.hid (wrong_any N A len cap es a b _ (hr.later hb0) hlen)
  have hK := Blk.new w 24 #[.int .i64 N, .slice A len cap]
  have k0 := hK.cell (j := 0) rfl
  have k1 := hK.cell (j := 1) rfl
  have hb0H := Lib.hid hb0
  clear hr hK hb0
  obtain ⟨c, hc⟩ : ∃ c, lwr N es a b = c := ⟨_, rfl⟩
  rw [hc] at HC h ⊢
  have hc2 : (c != 0) = true := bne_iff_ne.2 h
  clear hc h
  go_enter Tryd.func5, Tryd.ntmps5
  go_wp2_with fail
  refine HC.out.mono ?_
  rintro e w1 ⟨rfl, hb1⟩
  have hbH := Lib.hid (hb0H.out.trans (hb1.mono hb0H.out.size))
  clear hb1 HC k0 k1
  go_wp2
  go_ret2
  exact ⟨rfl, hbH.out⟩
set_option maxHeartbeats 3200000 in
set_option maxRecDepth 100000 in
theorem wall_ok (n x y : Nat) (A : Option Addr) (len cap : Nat) (es : List E) (w : World) (hr : Rd w A len 3 (ps3 .i64 .i64 .i64 es)) (hlen : len ≤ 9223372036854775807) (htb : Tb w) (htl : 0 < w.heap.size) (h : gchk n es = 0) (hx : x < n) (hy : y < n) (hxy : x ≠ y) (hna : adj es x y = false) :
    Calls Tryd.prog 5 #[.agg #[.int .i64 (n : Int), .slice A len cap], .int .i64 (x : Int), .int .i64 (y : Int)] w fun e w' => ∃ best : Nat, e = .returned (.tuple #[.int .u32 best, .int .i64 0]) ∧ best < 2 ^ n ∧ WaI (nearW n es) n x y (allW n x y + 1) best ∧ Below w.heap.size w w' := by
  obtain ⟨_, h10, hl45, hok, _⟩ := gchk_ok h
  rw [Int.toNat_natCast] at hok
  have h10 : n ≤ 10 := by omega
  rw [ps3_len hr] at hl45
  have hlw : lwr n es x y = 0 := by
    have hl : ¬ lbad n x y := by unfold lbad; omega
    unfold lwr
    rw [if_neg (by simp [h]), if_neg hl, Int.toNat_natCast, Int.toNat_natCast, hna]; rfl
  have hgr := nearGr h
  have hnb : nb (nearW n es) x y = false := by rw [show nb (nearW n es) x y = adj es x y from nearW_bit es hok x y hx]; exact hna
  have hb0 := (Below.refl _ w).alloc (Nat.le_refl _) (.cells #[.int .i64 n, .slice A len cap] 24)
  have HC := Lib.hid (wrong_any n A len cap es x y _ (hr.later hb0) hlen)
  rw [hlw] at HC
  have hK := Blk.new w 24 #[.int .i64 n, .slice A len cap]
  have k0 := hK.cell (j := 0) rfl
  have k1 := hK.cell (j := 1) rfl
  have hKH := Lib.hid hK; have hb0H := Lib.hid hb0
  have HN := Lib.hid (fun W (hb : Below w.heap.size w W) => near_any n A len cap es W (hr.later hb) h10 hl45 hok)
  have h0I := Lib.hid (WaI.start (ns := nearW n es) (fun i j hij => ⟨(hgr.ok i j hij).1, (hgr.ok i j hij).2.1⟩) h10 hx hy hxy hnb)
  have hgrH := Lib.hid hgr
  have htbH := Lib.hid htb
  have hal := allW_lt (a := x) (b := y) h10
  clear hr hK hb0 hlw hna hnb hgr hok h htb
  go_enter Tryd.func5, Tryd.ntmps5
  go_wp2_with fail
  refine HC.out.mono ?_
  rintro e w1 ⟨rfl, hb1⟩
  have hbb := hb0H.out.trans (hb1.mono hb0H.out.size)
  have hK1 : Blk w1 w.heap.size 24 #[.int .i64 n, .slice A len cap] := (hb1.block _ hKH.out.lt).trans hKH.out
  have q0 := hK1.cell (j := 0) (v := .int .i64 n) rfl
  have q1 := hK1.cell (j := 1) (v := .slice A len cap) rfl
  have hbH := Lib.hid hbb
  have HN2 := Lib.hid (HN.out w1 hbb)
  have hK1H := Lib.hid hK1
  clear hb1 hbb hK1 k0 k1 HC HN
  go_wp2_with fail
  refine HN2.out.mono ?_
  rintro _ w2 ⟨g, rfl, ho, hb2⟩
  have hK2 := hK1H.out.below hb2 hK1H.out.lt
  have q0 := hK2.cell (j := 0) (v := .int .i64 n) rfl
  have hb2H := Lib.hid (hbH.out.trans (hb2.mono hbH.out.size))
  have hrd := Lib.hid (Rd.of_own ho)
  have hn0 : (0 : Int) ≤ n := by omega
  have hx0 : (0 : Int) ≤ x := by omega
  have hy0 : (0 : Int) ≤ y := by omega
  have hn32 : (n : Int) < 32 := by omega
  have hx32 : (x : Int) < 32 := by omega
  have hy32 : (y : Int) < 32 := by omega
  have hp10 : 2 ^ n ≤ 2 ^ 10 := Nat.pow_le_pow_right (by omega) h10
  have hpn := Nat.two_pow_pos n
  have hpx : 2 ^ x < 2 ^ n := Nat.pow_lt_pow_right (by omega) hx
  have hpy : 2 ^ y < 2 ^ n := Nat.pow_lt_pow_right (by omega) hy
  have e1 : (2 : Int) ^ n % 4294967296 - 1 = ((2 ^ n - 1 : Nat) : Int) := by rw [two_pow_u32 n (by omega)]; omega
  have e2 := two_pow_u32 x (by omega)
  have e3 := two_pow_u32 y (by omega)
  have hor : 2 ^ x ||| 2 ^ y < 2 ^ n := Nat.or_lt_two_pow hpx hpy
  have e4 := u32_or_nat (2 ^ x) (2 ^ y) (by omega) (by omega)
  have e5 : bits .andNot .u32 ((2 ^ n - 1 : Nat) : Int) ((2 ^ x ||| 2 ^ y : Nat) : Int) = (allW n x y : Int) := u32_andNot_nat (2 ^ n - 1) (2 ^ x ||| 2 ^ y) (by omega) (by omega)
  obtain ⟨all, hall⟩ : ∃ all, allW n x y = all := ⟨_, rfl⟩
  obtain ⟨P, hP⟩ : ∃ P, 2 ^ n - 1 = P := ⟨_, rfl⟩
  obtain ⟨X, hX⟩ : ∃ X, 2 ^ x = X := ⟨_, rfl⟩
  obtain ⟨Y, hY⟩ : ∃ Y, 2 ^ y = Y := ⟨_, rfl⟩
  rw [hX] at e2 e4 e5 hpx; rw [hY] at e3 e4 e5 hpy; rw [hP] at e1 e5
  obtain ⟨Q, hQ⟩ : ∃ Q, X ||| Y = Q := ⟨_, rfl⟩
  rw [hQ] at e4 e5
  rw [hall] at e5 h0I hal
  have hPl : P < 1024 := by omega
  have z0 := BW.cell (w := w2) q0
  have hallH := Lib.hid hall; have hXH := Lib.hid hX; have hYH := Lib.hid hY
  clear hK2 hb2 ho HN2 hP hX hY hQ hor hpn hall
  go_upto_region 5 with fail
  refine wp_region_below (by kernel_rfl) (by kernel_rfl) ?_
  repeat (go_big_quiet_step (first | rfl))
  refine wpQuiet_nil ?_
  rintro _ ⟨p, rfl⟩
  have hb3 := hb2H.out.trans (p.hb.mono hb2H.out.size)
  have hb23 := p.hb
  generalize p.w' = w3 at *
  have hb3H := Lib.hid hb3
  have hrd3 := Lib.hid (hrd.out.later hb23)
  clear z0 q0 hb3 hb23 e4
  go_wp2
  go_loopw [11, 12, 35] (fun bv _ kv wr => ∃ k best : Nat, k ≤ all + 1 ∧ best < 2 ^ n ∧ bv = .int .u32 best ∧ kv = .int .u32 k ∧ WaI (nearW n es) n x y k best ∧ Below w3.heap.size w3 wr) (fun _ _ kv _ => all + 1 - (intOf kv).toNat)
  case atStart => exact ⟨0, all, by omega, hal, rfl, rfl, h0I.out, Below.refl _ _⟩
  case round =>
    clear h0I
    obtain ⟨k, best, hk, hbn, rfl, rfl, hI, hb⟩ := hrel
    by_cases hka : k < all + 1
    · have hkI : (k : Int) < all + 1 := by omega
      have hk10 : k < 1024 := by omega
      have f1 := u32_andNot_nat k all (by omega) (by omega)
      have hin := inW_iff (a := x) (b := y) h10 hx hy k
      rw [hallH.out] at hin
      have hin2 : k &&& (4294967295 - all) = 0 ↔ InW n x y k := hin.trans (by constructor; (rintro (h | ⟨_, h⟩); exact h; omega); exact .inl)
      have HO1 := Lib.hid (fun (p : BW wr) => ones_bel k p.w' hk10)
      have HO2 := Lib.hid (fun (p : BW wr) => ones_bel best p.w' (by omega))
      have hyes := Lib.hid (hI.yes); have hno := Lib.hid (hI.no)
      have hsv := Lib.hid (fun (h : InW n x y k) => sep_av (ns := nearW n es) hy h)
      have hbH := Lib.hid hb
      have e6 := u32_or_nat all Y (by omega) (by omega)
      obtain ⟨O, hO⟩ : ∃ O, all ||| Y = O := ⟨_, rfl⟩
      have hOl : O < 2 ^ n := by rw [← hO]; exact Nat.or_lt_two_pow hal (by omega)
      rw [hO] at e6
      have e7 := u32_andNot_nat O k (by omega) (by omega)
      obtain ⟨wi, hwi⟩ : ∃ wi, O &&& (4294967295 - k) = wi := ⟨_, rfl⟩
      have hwil : wi < 2 ^ n := by rw [← hwi]; exact Nat.lt_of_le_of_lt Nat.and_le_left hOl
      rw [hwi] at e7
      obtain ⟨M, hM⟩ : ∃ M, k &&& (4294967295 - all) = M := ⟨_, rfl⟩
      rw [hM] at hin2 f1
      have hin3 := Lib.hid hin2
      obtain ⟨R, hR⟩ : ∃ R, avW (nearW n es) n x k = R := ⟨_, rfl⟩
      have HS := Lib.hid (fun (hi : InW n x y k) (p : BW wr) => show Calls Tryd.prog 16 #[.slice (some ⟨g, 0, none⟩) n n, .int .u32 (X : Nat), .int .u32 (wi : Nat)] p.w' (fun e w' => e = .returned (.int .u32 (R : Nat)) ∧ Below p.w'.heap.size p.w' w') from (spread_any (some ⟨g, 0, none⟩) n n (nearW n es) X wi p.w' ((hrd3.out.later hb).later p.hb) h10 hgrH.out.lt (by omega) (by omega) (htbH.out.below htl (hb3H.out.trans ((hb.trans (p.hb.mono hb.size)).mono hb3H.out.size))) (by have := hb3H.out.size; have := hb.size; have := p.hb.size; omega)).mono (by
        rintro e w' ⟨⟨R', rfl, h1, h2⟩, h3⟩
        rw [← hwi, ← hO, ← hallH.out, ← hYH.out, ← hXH.out] at h2
        have := spread_av (fun i j hij => ⟨(hgrH.out.ok i j hij).1, (hgrH.out.ok i j hij).2.1⟩) h10 hx hy hxy hi h1 h2
        rw [hR] at this
        rw [this]
        exact ⟨rfl, h3⟩))
      have hRl : R < 2 ^ n := by rw [← hR]; exact wdP_lt _ _
      rw [hR] at hsv
      have hsb := shr_wd0 R y (by omega)
      obtain ⟨s, hs⟩ : ∃ s, popc 10 k = s := ⟨_, rfl⟩
      obtain ⟨t, ht⟩ : ∃ t, popc 10 best = t := ⟨_, rfl⟩
      rw [hs] at hyes; rw [ht] at hyes hno; rw [hs] at hno
      simp only [hs] at HO1
      simp only [ht] at HO2
      clear hI hb hin hin2 hO hwi hM hR hs ht
      by_cases hM0 : M = 0
      case neg =>
        have m0 : ((M : Int) == 0) = false := by rw [beq_eq_false_iff_ne]; omega
        have hnn := Lib.hid (hno.out fun h => absurd (hin3.out.2 h) hM0)
        clear hyes hno HS HO1 HO2 hsb hM0
        go_upto_region 10 with fail
        refine wp_region_below (by kernel_rfl) (by kernel_rfl) ?_
        repeat (go_big_quiet_step (first | rfl | fail))
        refine wpQuiet_nil ?_
        rintro _ ⟨p, rfl⟩
        have hbf := Lib.hid (hbH.out.trans (p.hb.mono hbH.out.size))
        go_wp2
        go_roundw
        case rel => exact ⟨k + 1, best, by omega, hbn, rfl, by go_num, hnn.out, hbf.out⟩
        case measure => simp [intOf]; omega
      have hi := hin3.out.1 hM0
      have m0 : ((M : Int) == 0) = true := by rw [beq_iff_eq]; omega
      by_cases hst : s < t
      case neg =>
        have m1 : ¬ (s : Int) < t := by omega
        have hnn := Lib.hid (hno.out fun _ h => absurd h hst)
        clear hyes hno HS hsb hM0 hst hi
        go_upto_region 10 with fail
        refine wp_region_below (by kernel_rfl) (by kernel_rfl) ?_
        repeat (go_big_quiet_step (first | rfl | (with_reducible refine Calls.bel (HO1.out _)) | (with_reducible refine Calls.bel (HO2.out _)) | fail))
        refine wpQuiet_nil ?_
        rintro _ ⟨p, rfl⟩
        have hbf := Lib.hid (hbH.out.trans (p.hb.mono hbH.out.size))
        clear HO1 HO2
        go_wp2
        go_roundw
        case rel => exact ⟨k + 1, best, by omega, hbn, rfl, by go_num, hnn.out, hbf.out⟩
        case measure => simp [intOf]; omega
      have m1 : (s : Int) < t := by omega
      have HS2 := Lib.hid (HS.out hi)
      have hsv2 := hsv.out hi
      clear HS hsv
      cases hbit : R.testBit y
      · have hkn : k < 2 ^ n := by omega
        have hnn := Lib.hid (hyes.out hi (hsv2.2 hbit) hst)
        rw [hbit] at hsb
        clear hyes hno hM0 hst hi hsv2 hbit
        go_upto_region 10 with fail
        refine wp_region_below (by kernel_rfl) (by kernel_rfl) ?_
        repeat (go_big_quiet_step (first | rfl | (with_reducible refine Calls.bel (HO1.out _)) | (with_reducible refine Calls.bel (HO2.out _)) | (with_reducible refine Calls.bel (HS2.out _)) | fail))
        refine wpQuiet_nil ?_
        rintro _ ⟨p, rfl⟩
        have hbf := Lib.hid (hbH.out.trans (p.hb.mono hbH.out.size))
        clear HO1 HO2 HS2
        go_wp2
        go_roundw
        case rel => exact ⟨k + 1, k, by omega, hkn, rfl, by go_num, hnn.out, hbf.out⟩
        case measure => simp [intOf]; omega
      · have hnn := Lib.hid (hno.out fun _ _ h => by rw [hsv2.1 h] at hbit; cases hbit)
        rw [hbit] at hsb
        clear hyes hno hM0 hst hi hsv2 hbit
        go_upto_region 10 with fail
        refine wp_region_below (by kernel_rfl) (by kernel_rfl) ?_
        repeat (go_big_quiet_step (first | rfl | (with_reducible refine Calls.bel (HO1.out _)) | (with_reducible refine Calls.bel (HO2.out _)) | (with_reducible refine Calls.bel (HS2.out _)) | fail))
        refine wpQuiet_nil ?_
        rintro _ ⟨p, rfl⟩
        have hbf := Lib.hid (hbH.out.trans (p.hb.mono hbH.out.size))
        clear HO1 HO2 HS2
        go_wp2
        go_roundw
        case rel => exact ⟨k + 1, best, by omega, hbn, rfl, by go_num, hnn.out, hbf.out⟩
        case measure => simp [intOf]; omega
    · obtain rfl : k = all + 1 := by omega
      have hfin := Lib.hid (hb3H.out.trans (hb.mono hb3H.out.size))
      have hIH := Lib.hid hI
      clear hb hI
      go_wp2
      go_ret2
      exact ⟨best, rfl, hbn, by rw [hallH.out]; exact hIH.out, hfin.out⟩
end Go.Proofs.YteadceghjfaekaaDoor
