/- Earliest and latest beginnings: the plain law. Jobs are numbers; P: the order; aft: what a job stands behind; tm: how long it takes. -/
import Derived.Test.YtgmoehkddohhfaaRows
namespace Go.Proofs.Ytgmoehkddohhfaa

def uT (F : Nat → Int) (j : Nat) (v : Int) : Nat → Int := fun i => if i = j then v else F i
theorem uT_same (F : Nat → Int) (j : Nat) (v : Int) : uT F j v j = v := by simp [uT]
theorem uT_other (F : Nat → Int) {j i : Nat} (v : Int) (h : i ≠ j) : uT F j v i = F i := by simp [uT, h]
def mxI (a b : Int) : Int := if a < b then b else a
def mnI (a b : Int) : Int := if b < a then b else a
theorem mxI_le (a b : Int) : a ≤ mxI a b ∧ b ≤ mxI a b ∧ (mxI a b = a ∨ mxI a b = b) := by unfold mxI; split <;> omega
theorem mnI_le (a b : Int) : mnI a b ≤ a ∧ mnI a b ≤ b ∧ (mnI a b = a ∨ mnI a b = b) := by unfold mnI; split <;> omega
section
variable (tm : Nat → Int)
/-- forward: a job behind all of a list -/
def fIn (i : Nat) (E : Nat → Int) (l : List Int) : Nat → Int := l.foldl (fun E z => uT E i (mxI (E i) (E z.toNat + tm z.toNat))) E
/-- back: all of a list ahead of a job -/
def bIn (i : Nat) (L : Nat → Int) (l : List Int) : Nat → Int := l.foldl (fun L z => uT L z.toNat (mnI (L z.toNat) (L i - tm z.toNat))) L
theorem fIn_snoc (i : Nat) (E : Nat → Int) (l : List Int) (z : Int) : fIn tm i E (l ++ [z]) = uT (fIn tm i E l) i (mxI (fIn tm i E l i) (fIn tm i E l z.toNat + tm z.toNat)) := by simp [fIn]
theorem bIn_snoc (i : Nat) (L : Nat → Int) (l : List Int) (z : Int) : bIn tm i L (l ++ [z]) = uT (bIn tm i L l) z.toNat (mnI (bIn tm i L l z.toNat) (bIn tm i L l i - tm z.toNat)) := by simp [bIn]
theorem snoc_ind {α : Type} {p : List α → Prop} (h0 : p []) (h1 : ∀ l z, p l → p (l ++ [z])) (l : List α) : p l := by
  have : ∀ r : List α, p r.reverse := by
    intro r
    induction r with
    | nil => simpa using h0
    | cons a r ih => rw [List.reverse_cons]; exact h1 _ _ ih
  simpa using this l.reverse
theorem fIn_law (i : Nat) (E : Nat → Int) (M : Int) (l : List Int) : (∀ z ∈ l, z.toNat ≠ i) → (∀ z, tm z ≤ M) → ∀ (c : Int), (∀ j, E j ≤ c) → 0 ≤ M →
    (∀ j, j ≠ i → fIn tm i E l j = E j) ∧ E i ≤ fIn tm i E l i ∧ (∀ z ∈ l, E z.toNat + tm z.toNat ≤ fIn tm i E l i) ∧ fIn tm i E l i ≤ c + M := by
  induction l using snoc_ind with
  | h0 => intro _ _ c hc hM; refine ⟨fun _ _ => rfl, Int.le_refl _, by simp, ?_⟩; have := hc i; simp [fIn]; omega
  | h1 l z ih =>
    intro hz hM c hc hM0
    obtain ⟨h1, h2, h3, h4⟩ := ih (fun y hy => hz y (List.mem_append.2 (.inl hy))) hM c hc hM0
    have hzi := hz z (by simp)
    have hm := mxI_le (fIn tm i E l i) (fIn tm i E l z.toNat + tm z.toNat)
    rw [fIn_snoc]
    rw [h1 _ hzi] at hm ⊢
    refine ⟨fun j hj => by rw [uT_other _ _ hj, h1 j hj], by rw [uT_same]; omega, fun y hy => ?_, ?_⟩
    · rw [uT_same]
      rcases List.mem_append.1 hy with h | h
      · have := h3 y h; omega
      · obtain rfl : y = z := by simpa using h
        exact hm.2.1
    · rw [uT_same]
      have := hc z.toNat; have := hM z.toNat
      omega
theorem bIn_law (i : Nat) (L : Nat → Int) (l : List Int) : (∀ z ∈ l, z.toNat ≠ i) →
    bIn tm i L l i = L i ∧ (∀ j, bIn tm i L l j ≤ L j) ∧ (∀ z ∈ l, bIn tm i L l z.toNat ≤ L i - tm z.toNat) ∧ ∀ j, bIn tm i L l j = L j ∨ ∃ z ∈ l, z.toNat = j ∧ bIn tm i L l j = L i - tm j := by
  induction l using snoc_ind with
  | h0 => intro _; exact ⟨rfl, fun _ => Int.le_refl _, by simp, fun _ => .inl rfl⟩
  | h1 l z ih =>
    intro hz
    obtain ⟨h1, h2, h3, h4⟩ := ih (fun y hy => hz y (List.mem_append.2 (.inl hy)))
    have hzi := hz z (by simp)
    have hm := mnI_le (bIn tm i L l z.toNat) (bIn tm i L l i - tm z.toNat)
    rw [bIn_snoc]
    refine ⟨by rw [uT_other _ _ (Ne.symm hzi), h1], fun j => ?_, fun y hy => ?_, fun j => ?_⟩
    · by_cases hj : j = z.toNat
      · subst hj; rw [uT_same]; have := h2 z.toNat; omega
      · rw [uT_other _ _ hj]; exact h2 j
    · by_cases hj : y.toNat = z.toNat
      · rw [hj, uT_same]; omega
      · rw [uT_other _ _ hj]
        rcases List.mem_append.1 hy with h | h
        · exact h3 y h
        · exact absurd (by simpa using h : y = z) (fun e => hj (by rw [e]))
    · by_cases hj : j = z.toNat
      · subst hj
        rw [uT_same]
        rcases hm.2.2 with h | h
        · rcases h4 z.toNat with h' | ⟨y, hy, e, h'⟩
          · exact .inl (h.trans h')
          · exact .inr ⟨y, by simp [hy], e, h.trans h'⟩
        · exact .inr ⟨z, by simp, rfl, by rw [h, h1]⟩
      · rw [uT_other _ _ hj]
        rcases h4 j with h' | ⟨y, hy, e, h'⟩
        · exact .inl h'
        · exact .inr ⟨y, by simp [hy], e, h'⟩
/-- whatever is in the list -/
theorem bIn_bd (i : Nat) (L : Nat → Int) (M U : Int) (l : List Int) : (∀ z, 0 ≤ tm z ∧ tm z ≤ M) → ∀ c : Int, (∀ j, c ≤ L j ∧ L j ≤ U) → ∀ j, c - l.length * M ≤ bIn tm i L l j ∧ bIn tm i L l j ≤ U := by
  induction l using snoc_ind with
  | h0 => intro _ c hc j; have := hc j; simp [bIn]; omega
  | h1 l z ih =>
    intro hM c hc j
    have h := ih hM c hc
    have hm := mnI_le (bIn tm i L l z.toNat) (bIn tm i L l i - tm z.toNat)
    have h1 := h z.toNat
    have h2 := h i
    have h3 := hM z.toNat
    have h4 := h j
    have h5 : ((l ++ [z]).length : Int) * M = l.length * M + M := by
      rw [List.length_append, List.length_singleton]; simp [Int.add_mul]
    rw [bIn_snoc, h5]
    by_cases hj : j = z.toNat
    · subst hj; rw [uT_same]; omega
    · rw [uT_other _ _ hj]; omega
end
section
variable (aft : Nat → List Int) (tm : Nat → Int) (P : Nat → Nat)
/-- when so many of the order are done -/
structure Fw (M : Int) (k : Nat) (E : Nat → Int) (e : Int) : Prop where
  pos : ∀ i, 0 ≤ E i
  le : ∀ i, E i ≤ k * M
  con : ∀ m, m < k → (∀ z ∈ aft (P m), E z.toNat + tm z.toNat ≤ E (P m)) ∧ E (P m) + tm (P m) ≤ e
  e0 : 0 ≤ e
  e1 : e ≤ k * M + M
  att : (k = 0 ∧ e = 0) ∨ ∃ m, m < k ∧ e = E (P m) + tm (P m)
structure Ord (n : Nat) : Prop where
  lt : ∀ m, m < n → P m < n
  ne : ∀ m m', m < m' → m' < n → P m ≠ P m'
  ah : ∀ m, m < n → ∀ z ∈ aft (P m), ∃ m', m' < m ∧ P m' = z.toNat
variable {aft tm P} {n : Nat} {M : Int}
theorem Ord.ner (ho : Ord aft P n) {m : Nat} (hm : m < n) {z : Int} (hz : z ∈ aft (P m)) : z.toNat ≠ P m := by
  obtain ⟨m', h1, h2⟩ := ho.ah m hm z hz
  rw [← h2]
  exact ho.ne m' m h1 hm
theorem Fw.start (hM : 0 ≤ M) : Fw aft tm P M 0 (fun _ => 0) 0 := ⟨fun _ => Int.le_refl _, fun _ => by simp, fun m hm => absurd hm (by omega), Int.le_refl _, by simp; omega, .inl ⟨rfl, rfl⟩⟩
/-- within a round: the numbers stay small -/
theorem Fw.small (ho : Ord aft P n) (hM : ∀ i, 0 ≤ tm i ∧ tm i ≤ M) {k : Nat} {E : Nat → Int} {e : Int} (h : Fw aft tm P M k E e) (hk : k < n) (l : List Int) (hl : ∀ z ∈ l, z ∈ aft (P k)) :
    ∀ j, 0 ≤ fIn tm (P k) E l j ∧ fIn tm (P k) E l j ≤ k * M + M := by
  have hM0 : 0 ≤ M := by have := hM 0; omega
  obtain ⟨h1, h2, h3, h4⟩ := fIn_law tm (P k) E M l (fun z hz => ho.ner hk (hl z hz)) (fun z => (hM z).2) (k * M) h.le hM0
  intro j
  by_cases hj : j = P k
  · subst hj; have := h.pos (P k); omega
  · rw [h1 j hj]; have := h.pos j; have := h.le j; omega
theorem Fw.next (ho : Ord aft P n) (hM : ∀ i, 0 ≤ tm i ∧ tm i ≤ M) {k : Nat} {E : Nat → Int} {e : Int} (h : Fw aft tm P M k E e) (hk : k < n) :
    Fw aft tm P M (k + 1) (fIn tm (P k) E (aft (P k))) (mxI e (fIn tm (P k) E (aft (P k)) (P k) + tm (P k))) := by
  have hM0 : 0 ≤ M := by have := hM 0; omega
  have hs := h.small ho hM hk (aft (P k)) (fun _ h => h)
  obtain ⟨h1, h2, h3, h4⟩ := fIn_law tm (P k) E M (aft (P k)) (fun z hz => ho.ner hk hz) (fun z => (hM z).2) (k * M) h.le hM0
  have hm := mxI_le e (fIn tm (P k) E (aft (P k)) (P k) + tm (P k))
  have hpk : ∀ m, m < k → P m ≠ P k := fun m hm => ho.ne m k hm hk
  have hc : ((k + 1 : Nat) : Int) * M = k * M + M := by rw [Int.natCast_add, Int.add_mul]; simp
  refine ⟨fun i => (hs i).1, fun i => by rw [hc]; exact (hs i).2, fun m hm' => ?_, by have := h.e0; omega, ?_, ?_⟩
  · by_cases hmk : m < k
    · obtain ⟨c1, c2⟩ := h.con m hmk
      rw [h1 _ (hpk m hmk)]
      refine ⟨fun z hz => ?_, by omega⟩
      obtain ⟨m', hm1, hm2⟩ := ho.ah m (by omega) z hz
      rw [h1 z.toNat (by rw [← hm2]; exact hpk m' (by omega))]
      exact c1 z hz
    · obtain rfl : m = k := by omega
      refine ⟨fun z hz => ?_, hm.2.1⟩
      rw [h1 z.toNat (ho.ner hk hz)]
      exact h3 z hz
  · rw [hc]
    have := h.e1
    have h5 := (hs (P k)).2
    have h6 := hM (P k)
    rcases hm.2.2 with e1 | e1 <;> rw [e1] <;> omega
  · right
    rcases hm.2.2 with e1 | e1
    · rcases h.att with ⟨hk0, he0⟩ | ⟨m, hm1, hm2⟩
      · refine ⟨k, by omega, ?_⟩
        have := (hs (P k)).1; have := hM (P k)
        omega
      · refine ⟨m, by omega, ?_⟩
        rw [h1 _ (hpk m hm1), e1]; exact hm2
    · exact ⟨k, by omega, e1⟩
/-- what has been told back when the last ones of the order are done -/
structure Bw (aft : Nat → List Int) (tm : Nat → Int) (P : Nat → Nat) (n : Nat) (E : Nat → Int) (e : Int) (k : Nat) (L : Nat → Int) : Prop where
  le : ∀ i, L i + tm i ≤ e
  ge : ∀ i, i < n → E i ≤ L i
  con : ∀ m, n - k ≤ m → m < n → ∀ z ∈ aft (P m), L z.toNat + tm z.toNat ≤ L (P m)
theorem Bw.start (hs : ∀ i, i < n → ∃ m, m < n ∧ P m = i) {E : Nat → Int} {e : Int} (h : Fw aft tm P M n E e) : Bw aft tm P n E e 0 (fun i => e - tm i) :=
  ⟨fun i => by omega, fun i hi => by obtain ⟨m, hm, rfl⟩ := hs i hi; have := (h.con m hm).2; omega, fun m h1 h2 => absurd h2 (by omega)⟩
def bSt (aft : Nat → List Int) (tm : Nat → Int) (P : Nat → Nat) (L : Nat → Int) (m : Nat) : Nat → Int := bIn tm (P m) L (aft (P m))
theorem Bw.next (ho : Ord aft P n) {E : Nat → Int} {e : Int} (hf : Fw aft tm P M n E e) {k : Nat} {L : Nat → Int} (h : Bw aft tm P n E e k L) (hk : k < n) : Bw aft tm P n E e (k + 1) (bSt aft tm P L (n - 1 - k)) := by
  have hm0 : n - 1 - k < n := by omega
  generalize hg : n - 1 - k = m0 at *
  obtain ⟨h1, h2, h3, h4⟩ := bIn_law tm (P m0) L (aft (P m0)) (fun z hz => ho.ner hm0 hz)
  unfold bSt
  refine ⟨fun i => by have := h2 i; have := h.le i; omega, fun i hi => ?_, fun m hm1 hm2 z hz => ?_⟩
  · rcases h4 i with e1 | ⟨z, hz, rfl, e1⟩
    · rw [e1]; exact h.ge i hi
    · rw [e1]
      have := (hf.con m0 hm0).1 z hz
      have := h.ge (P m0) (ho.lt m0 hm0)
      omega
  · by_cases he : m = m0
    · subst he
      rw [h1]
      have := h3 z hz
      omega
    · have hmm : m0 < m := by omega
      have hP : bIn tm (P m0) L (aft (P m0)) (P m) = L (P m) := by
        rcases h4 (P m) with e1 | ⟨y, hy, e2, _⟩
        · exact e1
        · exfalso
          obtain ⟨m', g1, g2⟩ := ho.ah m0 hm0 y hy
          exact ho.ne m' m (by omega) hm2 (g2.trans e2)
      rw [hP]
      have := h.con m (by omega) hm2 z hz
      have := h2 z.toNat
      omega
theorem Bw.all (ho : Ord aft P n) {E : Nat → Int} {e : Int} (hf : Fw aft tm P M n E e) {L : Nat → Int} (h : Bw aft tm P n E e 0 L) (k : Nat) (hk : k ≤ n) :
    Bw aft tm P n E e k (((List.range k).map fun j => n - 1 - j).foldl (bSt aft tm P) L) := by
  induction k with
  | zero => simpa using h
  | succ k ih =>
    rw [List.range_succ, List.map_append, List.foldl_append]
    exact (ih (by omega)).next ho hf (by omega)
theorem fold_bd (hM : ∀ z, 0 ≤ tm z ∧ tm z ≤ M) (hA : ∀ i, (aft i).length ≤ 10) {L : Nat → Int} {U : Int} (h0 : ∀ j, 0 - M ≤ L j ∧ L j ≤ U) (l : List Nat) : ∀ j, 0 - M - l.length * (10 * M) ≤ l.foldl (bSt aft tm P) L j ∧ l.foldl (bSt aft tm P) L j ≤ U := by
  have hM0 : 0 ≤ M := by have := hM 0; omega
  induction l using snoc_ind with
  | h0 => intro j; have := h0 j; simp; omega
  | h1 l z ih =>
    intro j
    rw [List.foldl_append]
    have := bIn_bd tm (P z) (l.foldl (bSt aft tm P) L) M U (aft (P z)) hM _ ih j
    have hl : ((aft (P z)).length : Int) * M ≤ 10 * M := Int.mul_le_mul_of_nonneg_right (by have := hA (P z); omega) hM0
    have h5 : ((l ++ [z]).length : Int) * (10 * M) = l.length * (10 * M) + 10 * M := by rw [List.length_append, List.length_singleton]; simp [Int.add_mul]
    rw [h5]
    exact ⟨Int.le_trans (by omega) this.1, this.2⟩
/-- what is told -/
structure Told (aft : Nat → List Int) (tm : Nat → Int) (n : Nat) (E L : Nat → Int) (e : Int) : Prop where
  pos : ∀ i, i < n → 0 ≤ E i ∧ E i ≤ L i ∧ L i + tm i ≤ e
  con : ∀ i, i < n → ∀ z ∈ aft i, E z.toNat + tm z.toNat ≤ E i ∧ L z.toNat + tm z.toNat ≤ L i
  none : n = 0 → e = 0
  tight : 0 < n → ∃ i, i < n ∧ E i = L i
theorem told (ho : Ord aft P n) (hs : ∀ i, i < n → ∃ m, m < n ∧ P m = i) {E L : Nat → Int} {e : Int} (hf : Fw aft tm P M n E e) (h : Bw aft tm P n E e n L) : Told aft tm n E L e := by
  refine ⟨fun i hi => ⟨hf.pos i, h.ge i hi, h.le i⟩, fun i hi z hz => ?_, fun h0 => ?_, fun h0 => ?_⟩
  · obtain ⟨m, hm, rfl⟩ := hs i hi
    exact ⟨(hf.con m hm).1 z hz, h.con m (by omega) hm z hz⟩
  · rcases hf.att with ⟨_, h1⟩ | ⟨m, hm, _⟩
    · exact h1
    · omega
  · rcases hf.att with ⟨h1, _⟩ | ⟨m, hm, h2⟩
    · omega
    · refine ⟨P m, ho.lt m hm, ?_⟩
      have := h.le (P m)
      have := h.ge (P m) (ho.lt m hm)
      omega
end
end Go.Proofs.Ytgmoehkddohhfaa
