/- bonds: what is told is a bond, none has more edges, and behind no wall more is left over: plain. -/
import Derived.Test.YtcjokjfiikkpfaaDoorOdd
import Derived.Test.YtcjokjfiikkpfaaDoorBond
import Derived.Test.YtcjokjfiikkpfaaDoorBondMs
import Derived.Test.YtcjokjfiikkpfaaDoorNatI
namespace Go.Proofs.YtcjokjfiikkpfaaDoor
open Go.RowKit

/-- the part of a node, reckoned -/
def pf (es : List E) (N i : Nat) : Nat := ((List.range (i + 1)).find? fun j => decide (0 ≤ dW es N i j)).getD 0
theorem pf_eq {es : List E} {N i p : Nat} (h : IsPart es N i p) : pf es N i = p := by
  unfold pf
  have : (List.range (i + 1)).find? (fun j => decide (0 ≤ dW es N i j)) = some p := by
    rw [List.find?_eq_some_iff_getElem]
    refine ⟨decide_eq_true h.has, p, by have := h.le; simp; omega, by simp, fun j hj => ?_⟩
    have := h.least j hj
    unfold cn at this
    simp; omega
  rw [this]; rfl
theorem cnO_congr {m0 N : Nat} {p q : Nat → Nat} (h : ∀ i, i < N → p i = q i) (i : Nat) : cnO m0 p i N = cnO m0 q i N := by
  unfold cnO
  refine List.countP_congr fun j hj => ?_
  unfold inCls
  rw [h j (List.mem_range.1 hj)]
theorem oddN_congr {m0 N : Nat} {p q : Nat → Nat} (h : ∀ i, i < N → p i = q i) : ∀ i, oddN N m0 p i = oddN N m0 q i
  | 0 => rfl
  | i + 1 => by unfold oddN; rw [oddN_congr h i, cnO_congr h]
theorem oddV_any (N m0 : Nat) (A : Option Addr) (len cap : Nat) (es : List E) (w : World) (hr : Rd w A len 3 (ps3 .i64 .i64 .i64 es)) (hN : N ≤ 10) (hl : len ≤ 45) (hok : ∀ e ∈ es, okE N e) (hm0 : m0 < 4294967296) :
    Calls Tryd.prog 8 #[.agg #[.int .i64 N, .slice A len cap], .int .u32 (m0 : Int)] w fun e w' => e = .returned (.int .i64 (oddN N m0 (pf (wo m0 es) N) N : Nat)) ∧ Below w.heap.size w w' :=
  (odd_any N m0 A len cap es w hr hN hl hok hm0).mono fun e w' ⟨p, he, hp, hb⟩ => ⟨by rw [he, oddN_congr (fun i hi => (pf_eq (hp i hi)).symm)], hb⟩
theorem isPart_ex {es : List E} {N i : Nat} : ∃ p, IsPart es N i p := by
  have : ∀ k, (∃ p, p ≤ k ∧ cn es N i p ∧ ∀ j, j < p → ¬ cn es N i j) ∨ ∀ j, j ≤ k → ¬ cn es N i j := fun k => by
    induction k with
    | zero =>
      by_cases h : cn es N i 0
      · exact .inl ⟨0, by omega, h, fun j hj => absurd hj (by omega)⟩
      · refine .inr fun j hj => ?_
        obtain rfl : j = 0 := by omega
        exact h
    | succ k ih =>
      rcases ih with ⟨p, h1, h2⟩ | h1
      · exact .inl ⟨p, by omega, h2⟩
      · by_cases h : cn es N i (k + 1)
        · exact .inl ⟨k + 1, by omega, h, fun j hj => h1 j (by omega)⟩
        · exact .inr fun j hj => by
            by_cases e : j = k + 1
            · subst e; exact h
            · exact h1 j (by omega)
  rcases this i with ⟨p, h1, h2, h3⟩ | h
  · exact ⟨p, h1, h2, h3⟩
  · exact absurd (cn_refl es N i) (h i (Nat.le_refl _))
theorem pf_is {es : List E} {N i : Nat} : IsPart es N i (pf es N i) := by
  obtain ⟨p, hp⟩ := isPart_ex (es := es) (N := N) (i := i)
  rw [pf_eq hp]; exact hp
theorem eA_lt {N : Nat} {es : List E} (hok : ∀ e ∈ es, okE N e) {e : E} (he : e ∈ es) : eA e < N ∧ eB e < N := by
  obtain ⟨x, y, hx, hy, h1, h2, _⟩ := hok e he
  unfold eA eB; rw [hx, hy]; simp; omega
theorem edge_adj {N : Nat} {es : List E} (hok : ∀ e ∈ es, okE N e) {e : E} (he : e ∈ es) : adj es (eA e) (eB e) = true := by
  obtain ⟨x, y, hx, hy, _⟩ := hok e he
  refine List.any_eq_true.2 ⟨e, he, ?_⟩
  unfold adjE eA eB
  rw [hx, hy]; simp
/-- TUTTE, the easy half -/
theorem wall_le {N m0 : Nat} {es : List E} (hN : N ≤ 10) (hok : ∀ e ∈ es, okE N e) (hm : m0 < 2 ^ N) {c : Nat} (h : Bd es (wS (2 ^ N - 1)) c) : oddN N m0 (pf (wo m0 es) N) N + 2 * c ≤ N + popc 10 m0 := by
  have hb := odd_bound (N := N) (p := pf (wo m0 es) N) (W := wS m0) (fun e he => eA_lt hok he) (fun e he h1 h2 => by
    have hw : e ∈ wo m0 es := List.mem_filter.2 ⟨he, by unfold freeE; unfold wS at h1 h2; rw [h1, h2]; rfl⟩
    have hokW : ∀ e ∈ wo m0 es, okE N e := fun e he => hok e (List.mem_filter.1 he).1
    exact pf_is.same pf_is (eA_lt hok he).1 (eA_lt hok he).2 (cn_adj (edge_adj hokW hw) N)) h
  have hall : ∀ j ∈ List.range N, wS (2 ^ N - 1) j = true := fun j hj => by
    unfold wS; rw [Nat.testBit_two_pow_sub_one]; simpa using hj
  have h1 : (List.range N).countP (wS (2 ^ N - 1)) = N := by
    rw [List.countP_eq_length.2 hall, List.length_range]
  have h2 : (List.range N).countP (fun j => wS (2 ^ N - 1) j && wS m0 j) = popc 10 m0 := by
    rw [List.countP_congr (q := fun j => m0.testBit j) (fun j hj => by rw [hall j hj]; simp [wS])]
    have h3 := popc_more hm (10 - N)
    rw [show N + (10 - N) = 10 by omega] at h3
    rw [h3]
    unfold popc
    rw [List.countP_eq_length_filter]
  have h3 : oddc N (pf (wo m0 es) N) (wS m0) (wS (2 ^ N - 1)) = oddN N m0 (pf (wo m0 es) N) N := by
    rw [oddN_cnt]
    unfold oddc oddL
    refine List.countP_congr fun i _ => ?_
    have : clsL (pf (wo m0 es) N) (fun j => wS (2 ^ N - 1) j && !wS m0 j) i (List.range N) = cnO m0 (pf (wo m0 es) N) i N := by
      unfold clsL cnO
      refine List.countP_congr fun j hj => ?_
      unfold inCls
      dsimp only
      rw [hall j hj]
      simp [wS]
    rw [this]
  rw [h1, h2, h3] at hb
  exact hb
/-- edges named, each once, in order, no node twice: a bond -/
theorem bd_of : ∀ (es : List E) (L : List Nat) (P : VS), L.Pairwise (· < ·) → (∀ i ∈ L, i < es.length) → (metL es L).Nodup → (∀ v ∈ metL es L, P v = true) → Bd es P L.length
  | [], L, P, _, hb, _, _ => by
    cases L with
    | nil => exact .nil
    | cons a L => have := hb a (by simp); simp at this
  | e :: es, L, P, hi, hb, hn, hp => by
    have sh : ∀ M : List Nat, (∀ i ∈ M, 0 < i) → metL (e :: es) M = metL es (M.map (· - 1)) := fun M hM => by
      induction M with
      | nil => rfl
      | cons a M ih =>
        have ha := hM a (by simp)
        obtain ⟨a, rfl⟩ : ∃ b, a = b + 1 := ⟨a - 1, by omega⟩
        have := ih (fun i hi => hM i (List.mem_cons_of_mem _ hi))
        unfold metL at this ⊢
        rw [List.map_cons, List.flatMap_cons, List.flatMap_cons, this]
        rfl
    have shp : ∀ M : List Nat, (∀ i ∈ M, 0 < i) → M.Pairwise (· < ·) → (M.map (· - 1)).Pairwise (· < ·) := fun M hM h => by
      rw [List.pairwise_map]
      refine h.imp_of_mem fun {a b} ha hb hab => ?_
      have := hM a ha; have := hM b hb; omega
    have shb : ∀ M : List Nat, (∀ i ∈ M, 0 < i) → (∀ i ∈ M, i < (e :: es).length) → ∀ i ∈ M.map (· - 1), i < es.length := fun M hM h i hi => by
      obtain ⟨a, ha, rfl⟩ := List.mem_map.1 hi
      have := hM a ha; have := h a ha; simp at this; omega
    cases L with
    | nil => exact .skip (Bd.zero es P)
    | cons a L =>
      rw [List.pairwise_cons] at hi
      by_cases ha : a = 0
      · subst ha
        have hL : ∀ i ∈ L, 0 < i := hi.1
        have e1 : metL (e :: es) (0 :: L) = eA e :: eB e :: metL es (L.map (· - 1)) := by
          rw [← sh L hL]; rfl
        rw [e1] at hn hp
        rw [List.nodup_cons, List.nodup_cons] at hn
        obtain ⟨n1, n2, n3⟩ := hn
        simp only [List.mem_cons, not_or] at n1
        have hrec := bd_of es (L.map (· - 1)) (rmv (rmv P (eA e)) (eB e)) (shp L hL hi.2) (shb L hL (fun i hi' => hb i (List.mem_cons_of_mem _ hi'))) n3 (fun v hv => by
          rw [rmv_at, rmv_at]
          exact ⟨⟨hp v (by simp [hv]), fun e' => n1.2 (e' ▸ hv)⟩, fun e' => n2 (e' ▸ hv)⟩)
        rw [List.length_map] at hrec
        exact .take (hp _ (by simp)) (hp _ (by simp)) n1.1 hrec
      · have hL : ∀ i ∈ a :: L, 0 < i := fun i hi' => by
          rcases List.mem_cons.1 hi' with rfl | h
          · omega
          · have := hi.1 i h; omega
        have hrec := bd_of es ((a :: L).map (· - 1)) P (shp _ hL (List.pairwise_cons.2 hi)) (shb _ hL hb) (by rw [← sh _ hL]; exact hn) (by rw [← sh _ hL]; exact hp)
        rw [List.length_map] at hrec
        exact .skip hrec
theorem onceB_iff {zs : List Int} : onceB zs = true ↔ zs.Nodup := by
  constructor
  · intro h
    unfold onceB at h
    rw [List.all_eq_true] at h
    refine List.pairwise_iff_getElem.2 fun i j hi hj hij e => ?_
    have := h j (by simpa using hj)
    rw [Bool.not_eq_true', show zs.getD j 0 = zs[j] by simp [List.getD, hj]] at this
    unfold hasB at this
    rw [List.any_eq_false] at this
    refine this zs[i] (List.mem_take_iff_getElem.2 ⟨i, by omega, rfl⟩) ?_
    rw [e]; simp
  · intro h
    refine onceB_yes fun k hk => ?_
    unfold hasB
    rw [List.any_eq_false]
    intro y hy
    obtain ⟨i, hi, rfl⟩ := List.mem_take_iff_getElem.1 hy
    have := List.pairwise_iff_getElem.1 h i k (by omega) hk (by omega)
    rw [show zs.getD k 0 = zs[k] by simp [List.getD, hk]]
    simpa using fun e => this e.symm
theorem metI_nat {N : Nat} {es : List E} (hok : ∀ e ∈ es, okE N e) : ∀ (L : List Nat), (∀ i ∈ L, i < es.length) → metI es (natI L) = natI (metL es L)
  | [], _ => rfl
  | i :: L, h => by
    have ih := metI_nat hok L (fun j hj => h j (List.mem_cons_of_mem _ hj))
    have hi := h i (by simp)
    obtain ⟨x, y, hx, hy, _⟩ := hok (es.getD i e0) (by simp [List.getD, hi])
    unfold metI natI metL at *
    rw [List.map_cons, List.flatMap_cons, List.flatMap_cons, ih]
    unfold eA eB
    simp only [Int.toNat_natCast, hx, hy]
    rfl
theorem natI_nodup {L : List Nat} : (natI L).Nodup ↔ L.Nodup := by
  unfold natI List.Nodup
  rw [List.pairwise_map]
  constructor
  · exact fun h => h.imp fun h e => h (by rw [e])
  · exact fun h => h.imp fun h e => h (by omega)
theorem incB_iff {n : Nat} {zs : List Int} : incB n zs = true ↔ ∃ L : List Nat, zs = natI L ∧ L.Pairwise (· < ·) ∧ ∀ i ∈ L, i < n := by
  constructor
  · intro h
    unfold incB at h
    rw [List.all_eq_true] at h
    have hat : ∀ k, k < zs.length → incAt n zs k = true := fun k hk => h k (by simpa using hk)
    have hin : ∀ k (hk : k < zs.length), 0 ≤ zs[k] ∧ zs[k] < n := fun k hk => by
      have := hat k hk
      unfold incAt inB at this
      rw [Bool.and_eq_true, Bool.and_eq_true, decide_eq_true_eq, decide_eq_true_eq, show zs.getD k 0 = zs[k] by simp [List.getD, hk]] at this
      exact this.1
    have hst : ∀ k (hk : k + 1 < zs.length), zs[k] < zs[k + 1] := fun k hk => by
      have := hat (k + 1) hk
      unfold incAt at this
      rw [Bool.and_eq_true] at this
      have h2 := this.2
      rw [show k + 1 - 1 = k by omega, show zs.getD (k + 1) 0 = zs[k + 1] by simp [List.getD, hk], show zs.getD k 0 = zs[k] by simp [List.getD, show k < zs.length by omega]] at h2
      simpa using h2
    have hlt : ∀ d i (hj : i + d + 1 < zs.length), zs[i] < zs[i + d + 1] := fun d => by
      induction d with
      | zero => exact fun i hj => hst i hj
      | succ d ih => exact fun i hj => Int.lt_trans (ih i (by omega)) (hst (i + d + 1) hj)
    refine ⟨zs.map Int.toNat, ?_, ?_, ?_⟩
    · unfold natI
      rw [List.map_map]
      refine List.ext_getElem (by simp) fun k h1 h2 => ?_
      have := hin k h1
      simp; omega
    · rw [List.pairwise_map, List.pairwise_iff_getElem]
      intro i j hi hj hij
      have h1 := hlt (j - i - 1) i (by omega)
      have h2 := hin i hi; have h3 := hin j hj
      have e : zs[i + (j - i - 1) + 1]'(by omega) = zs[j] := by congr 1; omega
      rw [e] at h1
      omega
    · intro i hi
      obtain ⟨z, hz, rfl⟩ := List.mem_map.1 hi
      obtain ⟨k, hk, rfl⟩ := List.mem_iff_getElem.1 hz
      have := hin k hk; omega
  · rintro ⟨L, rfl, hp, hb⟩
    refine incB_yes fun k hk => ?_
    have hk' : k < L.length := by simpa [natI] using hk
    have h1 := hb L[k] (List.getElem_mem _)
    unfold incAt inB
    rw [natI_at hk', show L.getD k 0 = L[k] by simp [List.getD, hk']]
    rw [Bool.and_eq_true, Bool.and_eq_true, decide_eq_true_eq, decide_eq_true_eq]
    refine ⟨⟨by omega, by omega⟩, ?_⟩
    cases k with
    | zero => simp
    | succ k =>
      have := List.pairwise_iff_getElem.1 hp k (k + 1) (by omega) hk' (by omega)
      rw [show k + 1 - 1 = k by omega, natI_at (by omega), show L.getD k 0 = L[k] by simp [List.getD, show k < L.length by omega]]
      simp; omega
theorem bondB_yes {N : Nat} {es : List E} (hok : ∀ e ∈ es, okE N e) {L : List Nat} (hp : L.Pairwise (· < ·)) (hb : ∀ i ∈ L, i < es.length) (hn : (metL es L).Nodup) : bondB es (natI L) = true := by
  unfold bondB
  rw [incB_iff.2 ⟨L, rfl, hp, hb⟩, metI_nat hok L hb, Bool.true_and, onceB_iff, natI_nodup]
  exact hn
theorem bondB_bd {N : Nat} {es : List E} (hok : ∀ e ∈ es, okE N e) {zs : List Int} (h : bondB es zs = true) : Bd es (wS (2 ^ N - 1)) zs.length := by
  unfold bondB at h
  rw [Bool.and_eq_true, incB_iff, onceB_iff] at h
  obtain ⟨⟨L, rfl, hp, hb⟩, hn⟩ := h
  rw [metI_nat hok L hb, natI_nodup] at hn
  have := bd_of es L (wS (2 ^ N - 1)) hp hb hn (fun v hv => by
    unfold metL at hv
    obtain ⟨i, hi, hv⟩ := List.mem_flatMap.1 hv
    have hil := hb i hi
    have := eA_lt hok (show es.getD i e0 ∈ es by simp [List.getD, hil])
    unfold wS
    rw [Nat.testBit_two_pow_sub_one]
    simp at hv
    simp
    rcases hv with rfl | rfl
    · exact this.1
    · exact this.2)
  simpa [natI] using this
end Go.Proofs.YtcjokjfiikkpfaaDoor
