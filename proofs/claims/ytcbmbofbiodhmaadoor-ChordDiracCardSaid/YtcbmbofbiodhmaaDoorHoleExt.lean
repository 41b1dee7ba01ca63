/- chord: what the seeker of a hole finds. Plain. -/
import Derived.Test.YtcbmbofbiodhmaaDoorChordOrdB
import Derived.Test.YtcbmbofbiodhmaaDoorHoleLaw
namespace Go.Proofs.YtcbmbofbiodhmaaDoor
open Go.RowKit

def delB (x c : Nat) : Nat := x &&& (4294967295 - 2 ^ c)
theorem delB_bit {x c : Nat} (hx : x < 2 ^ 32) (hc : c < 32) (m : Nat) : (delB x c).testBit m = (x.testBit m && !decide (c = m)) := by
  unfold delB
  rw [Nat.testBit_and, show 4294967295 - 2 ^ c = 2 ^ 32 - (2 ^ c + 1) by omega, Nat.testBit_two_pow_sub_succ (Nat.pow_lt_pow_right (by omega) hc), Nat.testBit_two_pow]
  by_cases hm : m < 32
  · simp [hm]
  · have : x.testBit m = false := Nat.testBit_lt_two_pow (Nat.lt_of_lt_of_le hx (Nat.pow_le_pow_right (by omega) (by omega)))
    simp [this]
theorem delB_le (x c : Nat) : delB x c ≤ x := Nat.and_le_left
theorem andN_bitP {a b i : Nat} (ha : a < 4294967296) (hi : i < 32) : (b &&& (4294967295 - a)).testBit i = (b.testBit i && !a.testBit i) := by
  rw [Nat.testBit_and, show 4294967295 - a = 2 ^ 32 - (a + 1) by omega, Nat.testBit_two_pow_sub_succ (by omega)]
  simp [hi]
theorem allB_nb {ns : List Nat} {n x a b : Nat} (g : Gr n ns) (hx : x < 2 ^ n) (h : allB ns x = true) (ha : x.testBit a = true) (hb : x.testBit b = true) (hab : b ≠ a) : nb ns a b = true := by
  have hn := g.n10
  have hp10 : 2 ^ n ≤ 2 ^ 10 := Nat.pow_le_pow_right (by omega) hn
  have han := lt_bit hx ha
  have hbn := lt_bit hx hb
  have h1 := List.all_eq_true.1 h a (mem_bitsL.2 ⟨by omega, ha⟩)
  unfold nearAll at h1
  have h2 := congrArg (fun y => y.testBit b) (eq_of_beq h1)
  rw [andN_bitP (by have := g.lt a; omega) (by omega), hb, Nat.testBit_two_pow] at h2
  have h3 : decide (a = b) = false := decide_eq_false (fun e => hab e.symm)
  rw [h3] at h2
  unfold nb
  simpa using h2
theorem allB_no {ns : List Nat} {n x : Nat} (g : Gr n ns) (hx : x < 2 ^ n) (h : allB ns x = false) : ∃ a b, x.testBit a = true ∧ x.testBit b = true ∧ a ≠ b ∧ nb ns a b = false := by
  have hn := g.n10
  have hp10 : 2 ^ n ≤ 2 ^ 10 := Nat.pow_le_pow_right (by omega) hn
  obtain ⟨a, ha, hna⟩ := List.all_eq_false.1 h
  have ha := (mem_bitsL.1 ha).2
  have han := lt_bit hx ha
  refine Classical.byContradiction fun hno => hna ?_
  unfold nearAll
  rw [beq_iff_eq]
  apply Nat.eq_of_testBit_eq
  intro m
  rw [Nat.testBit_two_pow]
  by_cases hm : m < 32
  · rw [andN_bitP (by have := g.lt a; omega) hm]
    by_cases e : a = m
    · subst e
      rw [ha]
      have : (ns.getD a 0).testBit a = false := by
        cases hb : (ns.getD a 0).testBit a
        · rfl
        · exact absurd rfl (g.ok a a hb).2.2.2
      rw [this]; simp
    · rw [decide_eq_false e]
      cases hb : x.testBit m
      · rfl
      · have : nb ns a m = true := Classical.byContradiction fun hh => hno ⟨a, m, ha, hb, e, by simpa using hh⟩
        unfold nb at this
        rw [this]; rfl
  · rw [Nat.testBit_and, Nat.testBit_lt_two_pow (Nat.lt_of_lt_of_le hx (Nat.le_trans hp10 (Nat.pow_le_pow_right (by omega) (by omega)))), decide_eq_false (by omega)]; rfl
theorem lenN_le : ∀ {l l' : List Nat}, l.Nodup → l ⊆ l' → l.length ≤ l'.length := fun h hs => h.length_le_of_subset hs
def lastL (L : List Nat) : Nat := L.getD (L.length - 1) 0
def seenW (L : List Nat) : Nat := L.foldl (fun w i => w ||| 2 ^ i) 0
def wantW (size : Nat) (L : List Nat) : Nat := if L.length + 1 = size then 2 ^ lastL L ||| 2 ^ L.getD 0 0 else 2 ^ lastL L
def okC (ns : List Nat) (size : Nat) (L : List Nat) (c : Nat) : Prop := ns.getD c 0 &&& seenW L = wantW size L
theorem seen_bit (L : List Nat) (j : Nat) : (seenW L).testBit j = decide (j ∈ L) := by
  have key : ∀ (L : List Nat) (w : Nat), (L.foldl (fun w i => w ||| 2 ^ i) w).testBit j = (w.testBit j || decide (j ∈ L)) := by
    intro L
    induction L with
    | nil => intro w; simp
    | cons a L ih =>
      intro w
      rw [List.foldl_cons, ih, Nat.testBit_or, Nat.testBit_two_pow]
      by_cases e : a = j
      · subst e; simp
      · have : ¬ j = a := fun h => e h.symm
        simp [e, this]
  rw [seenW, key]; simp
theorem want_bit (size : Nat) (L : List Nat) (j : Nat) : (wantW size L).testBit j = (decide (j = lastL L) || (decide (L.length + 1 = size) && decide (j = L.getD 0 0))) := by
  unfold wantW
  have e1 : ∀ a : Nat, (2 ^ a).testBit j = decide (j = a) := fun a => by
    rw [Nat.testBit_two_pow]
    exact decide_eq_decide.2 ⟨Eq.symm, Eq.symm⟩
  split
  · rename_i h
    rw [Nat.testBit_or, e1, e1, decide_eq_true h, Bool.true_and]
  · rename_i h
    rw [e1, decide_eq_false h]; simp
theorem okC_iff {ns : List Nat} {size : Nat} {L : List Nat} {c : Nat} : okC ns size L c ↔ ∀ j, (nb ns c j = true ∧ j ∈ L) ↔ (j = lastL L ∨ (L.length + 1 = size ∧ j = L.getD 0 0)) := by
  have h1 : ∀ j, (ns.getD c 0 &&& seenW L).testBit j = true ↔ (nb ns c j = true ∧ j ∈ L) := fun j => by
    rw [Nat.testBit_and, seen_bit, Bool.and_eq_true, decide_eq_true_eq]; exact Iff.rfl
  have h2 : ∀ j, (wantW size L).testBit j = true ↔ (j = lastL L ∨ (L.length + 1 = size ∧ j = L.getD 0 0)) := fun j => by
    rw [want_bit, Bool.or_eq_true, Bool.and_eq_true, decide_eq_true_eq, decide_eq_true_eq, decide_eq_true_eq]
  refine ⟨fun h j => ?_, fun h => ?_⟩
  · rw [← h1, ← h2, show ns.getD c 0 &&& seenW L = wantW size L from h]
  · apply Nat.eq_of_testBit_eq
    intro j
    rw [Bool.eq_iff_iff, h1, h2]; exact h j
/-- on, from the row L, by nodes of x, each once: each has an edge with the last one alone, the last of all with the first too -/
def Ext (ns : List Nat) (size : Nat) : List Nat → Nat → List Nat → Prop
  | _, _, [] => True
  | L, x, i :: M => nb ns (lastL L) i = true ∧ x.testBit i = true ∧ okC ns size L i ∧ Ext ns size (L ++ [i]) (delB x i) M
theorem Ext.props {ns : List Nat} {size : Nat} : ∀ (M L : List Nat) (x : Nat), x < 2 ^ 32 → (∀ c, x.testBit c = true → c < 32) → Ext ns size L x M → (∀ i ∈ M, x.testBit i = true) ∧ M.Nodup ∧ ∀ k, L.length ≤ k → k < (L ++ M).length → okC ns size ((L ++ M).take k) ((L ++ M).getD k 0)
  | [], L, x, _, _, _ => ⟨nofun, List.Pairwise.nil, fun k h1 h2 => by simp at h2; omega⟩
  | i :: M, L, x, hx, hb, ⟨h1, h2, h0, h3⟩ => by
    have hi := hb i h2
    obtain ⟨q1, q2, q3⟩ := Ext.props M (L ++ [i]) (delB x i) (Nat.lt_of_le_of_lt (delB_le x i) hx) (fun c hc => hb c (by rw [delB_bit hx hi, Bool.and_eq_true] at hc; exact hc.1)) h3
    refine ⟨fun j hj => ?_, ?_, fun k hk1 hk2 => ?_⟩
    · rcases List.mem_cons.1 hj with rfl | hj
      · exact h2
      · have := q1 j hj
        rw [delB_bit hx hi, Bool.and_eq_true] at this; exact this.1
    · rw [List.nodup_cons]
      refine ⟨fun hm => ?_, q2⟩
      have := q1 i hm
      rw [delB_bit hx hi] at this; simp at this
    · have e : L ++ i :: M = L ++ [i] ++ M := by simp
      by_cases hk : k = L.length
      · subst hk
        rw [List.take_left', show (L ++ i :: M).getD L.length 0 = i by simp [List.getD]]
        · exact h0
        · rfl
      · rw [e]
        exact q3 k (by simp; omega) (by rw [← e]; exact hk2)
theorem ext_of {ns : List Nat} {size : Nat} : ∀ (M L : List Nat) (x : Nat), x < 2 ^ 32 → (∀ c, x.testBit c = true → c < 32) → (∀ i ∈ M, x.testBit i = true) → M.Nodup → L ≠ [] → (∀ k, L.length ≤ k → k < (L ++ M).length → okC ns size ((L ++ M).take k) ((L ++ M).getD k 0) ∧ nb ns ((L ++ M).getD (k - 1) 0) ((L ++ M).getD k 0) = true) → Ext ns size L x M
  | [], _, _, _, _, _, _, _, _ => trivial
  | i :: M, L, x, hx, hb, h1, h2, hL, h3 => by
    rw [List.nodup_cons] at h2
    have hxi := h1 i (by simp)
    have hi := hb i hxi
    have hl : 0 < L.length := List.length_pos_iff.2 hL
    have h0 := h3 L.length (Nat.le_refl _) (by simp)
    rw [List.take_left' rfl, show (L ++ i :: M).getD L.length 0 = i by simp [List.getD], show (L ++ i :: M).getD (L.length - 1) 0 = lastL L by unfold lastL; simp only [List.getD]; rw [List.getElem?_append_left (by omega)]] at h0
    have e : L ++ i :: M = L ++ [i] ++ M := by simp
    refine ⟨h0.2, hxi, h0.1, ext_of M (L ++ [i]) (delB x i) (Nat.lt_of_le_of_lt (delB_le x i) hx) (fun c hc => hb c (by rw [delB_bit hx hi, Bool.and_eq_true] at hc; exact hc.1)) (fun j hj => ?_) h2.2 (by simp) (fun k hk1 hk2 => by rw [← e]; rw [← e] at hk2; exact h3 k (by simp at hk1; omega) hk2)⟩
    rw [delB_bit hx hi, h1 j (List.mem_cons_of_mem _ hj)]
    have : i ≠ j := fun e => h2.1 (e ▸ hj)
    simp [this]
section
variable {n : Nat} {ns : List Nat}
def Nb (ns : List Nat) (a b : Nat) : Prop := nb ns a b = true
theorem full_bit (hn : n ≤ 10) {i : Nat} (hi : i < n) (c : Nat) : (delB (2 ^ n - 1) i).testBit c = true ↔ c < n ∧ c ≠ i := by
  have hp : 2 ^ n ≤ 2 ^ 10 := Nat.pow_le_pow_right (by omega) hn
  rw [delB_bit (by omega) (by omega), Nat.testBit_two_pow_sub_one]
  simp
  exact fun _ => ⟨fun h e => h e.symm, fun h e => h e.symm⟩
theorem full_lt (hn : n ≤ 10) (i : Nat) : delB (2 ^ n - 1) i < 2 ^ 32 := by
  have hp : 2 ^ n ≤ 2 ^ 10 := Nat.pow_le_pow_right (by omega) hn
  exact Nat.lt_of_le_of_lt (delB_le _ _) (by omega)
theorem getD_take' {l : List Nat} {k j : Nat} (h : j < k) : (l.take k).getD j 0 = l.getD j 0 := by simp [List.getD, h]
theorem nodup_getD {l : List Nat} (h : l.Nodup) {i j : Nat} (hi : i < l.length) (hj : j < l.length) (e : l.getD i 0 = l.getD j 0) : i = j := by
  simp only [List.getD, hi, hj, List.getElem?_eq_getElem, Option.getD_some] at e
  exact (List.getElem_inj h).1 e
theorem mem_take_getD {l : List Nat} {k a : Nat} (hk : k ≤ l.length) : a ∈ l.take k ↔ ∃ j, j < k ∧ l.getD j 0 = a := by
  rw [List.mem_take_iff_getElem]
  constructor
  · rintro ⟨j, hj, rfl⟩
    exact ⟨j, by omega, by simp [List.getD, show j < l.length by omega]⟩
  · rintro ⟨j, hj, rfl⟩
    exact ⟨j, by omega, by simp [List.getD, show j < l.length by omega]⟩
/-- what is found is a hole -/
theorem ext_hole (g : Gr n ns) {i size : Nat} {M : List Nat} (hi : i < n) (h4 : 4 ≤ size) (hM : M.length + 1 = size) (h : Ext ns size [i] (delB (2 ^ n - 1) i) M) : Hole (Nb ns) size (fun k => (i :: M).getD k 0) := by
  obtain ⟨q1, q2, q3⟩ := Ext.props M [i] _ (full_lt g.n10 i) (fun c hc => by have := (full_bit g.n10 hi c).1 hc; have := g.n10; omega) h
  have hnd : (i :: M).Nodup := List.nodup_cons.2 ⟨fun hm => ((full_bit g.n10 hi i).1 (q1 i hm)).2 rfl, q2⟩
  have hlen : (i :: M).length = size := by simpa using hM
  rw [List.singleton_append] at q3
  obtain ⟨R, hR⟩ : ∃ R, i :: M = R := ⟨_, rfl⟩
  rw [hR] at hnd hlen q3 ⊢
  have key : ∀ k j, j < k → k < size → (nb ns (R.getD k 0) (R.getD j 0) = true ↔ (k = j + 1 ∨ (j = 0 ∧ k + 1 = size))) := fun k j hjk hk => by
    have h1 := okC_iff.1 (q3 k (by simp; omega) (by omega)) (R.getD j 0)
    have hm : R.getD j 0 ∈ R.take k := (mem_take_getD (by omega)).2 ⟨j, hjk, rfl⟩
    have hl : (R.take k).length = k := by simp; omega
    have hlast : lastL (R.take k) = R.getD (k - 1) 0 := by unfold lastL; rw [hl, getD_take' (by omega)]
    rw [hlast, hl, getD_take' (by omega)] at h1
    constructor
    · intro h2
      rcases h1.1 ⟨h2, hm⟩ with e | ⟨e1, e2⟩
      · have := nodup_getD hnd (by omega) (by omega) e; omega
      · have := nodup_getD hnd (by omega) (by omega) e2; omega
    · rintro (e | ⟨e1, e2⟩)
      · exact (h1.2 (.inl (by rw [show k - 1 = j by omega]))).1
      · exact (h1.2 (.inr ⟨e2, by rw [e1]⟩)).1
  have hsym : ∀ a b, nb ns a b = true ↔ nb ns b a = true := fun a b => ⟨fun h => (g.ok a b h).2.2.1, fun h => (g.ok b a h).2.2.1⟩
  refine ⟨h4, fun a b ha hb e => nodup_getD hnd (by omega) (by omega) e, fun a b ha hb => ?_⟩
  show nb ns (R.getD a 0) (R.getD b 0) = true ↔ _
  rcases Nat.lt_trichotomy a b with h | h | h
  · rw [hsym, key b a h hb]; omega
  · subst h
    refine ⟨fun h => absurd rfl (g.ok _ _ h).2.2.2, fun e => by omega⟩
  · rw [key a b h ha]; omega
/-- and each hole is found -/
theorem hole_ext (g : Gr n ns) {m : Nat} {c : Nat → Nat} (h : Hole (Nb ns) m c) : m ≤ n ∧ c 0 < n ∧ ∃ M : List Nat, M.length + 1 = m ∧ Ext ns m [c 0] (delB (2 ^ n - 1) (c 0)) M := by
  obtain ⟨h4, h1, h2⟩ := h
  have hcn : ∀ i, i < m → c i < n := fun i hi => by
    by_cases e : i + 1 < m
    · exact (g.ok _ _ ((h2 i (i + 1) hi e).2 (.inl rfl))).1
    · exact (g.ok _ _ ((h2 i 0 hi (by omega)).2 (by omega))).1
  have hRg : ∀ k, k < m → ((List.range m).map c).getD k 0 = c k := fun k hk => by simp [List.getD, hk]
  have hnd : ((List.range m).map c).Nodup := by
    refine List.pairwise_map.2 (List.Pairwise.imp_of_mem (fun {a b} ha hb hab e => ?_) List.nodup_range)
    exact hab (h1 a b (List.mem_range.1 ha) (List.mem_range.1 hb) e)
  have hmn : m ≤ n := by
    have := lenN_le (l' := List.range n) hnd (fun a ha => by
      obtain ⟨k, hk, rfl⟩ := List.mem_map.1 ha
      exact List.mem_range.2 (hcn k (List.mem_range.1 hk)))
    simpa using this
  have hR : (List.range m).map c = c 0 :: (List.range (m - 1)).map (fun k => c (k + 1)) := by
    obtain ⟨m', rfl⟩ : ∃ m', m = m' + 1 := ⟨m - 1, by omega⟩
    rw [List.range_succ_eq_map]; simp
  have h0 := hcn 0 (by omega)
  refine ⟨hmn, h0, (List.range (m - 1)).map (fun k => c (k + 1)), by simp; omega, ext_of _ _ _ (full_lt g.n10 _) (fun a ha => by have := (full_bit g.n10 h0 a).1 ha; have := g.n10; omega) (fun a ha => ?_) ?_ (by simp) (fun k hk1 hk2 => ?_)⟩
  · obtain ⟨k, hk, rfl⟩ := List.mem_map.1 ha
    have hk := List.mem_range.1 hk
    exact (full_bit g.n10 h0 _).2 ⟨hcn _ (by omega), fun e => by have := h1 (k + 1) 0 (by omega) (by omega) e; omega⟩
  · rw [hR] at hnd; exact (List.nodup_cons.1 hnd).2
  · rw [List.singleton_append, ← hR] at hk2 ⊢
    have hk1 : 1 ≤ k := hk1
    have hk : k < m := by simpa using hk2
    rw [hRg k hk, hRg (k - 1) (by omega)]
    refine ⟨okC_iff.2 fun j => ?_, (h2 _ _ (by omega) hk).2 (by omega)⟩
    have hl : (((List.range m).map c).take k).length = k := by simp; omega
    unfold lastL
    rw [hl, getD_take' (by omega), getD_take' (by omega), hRg (k - 1) (by omega), hRg 0 (by omega), mem_take_getD (by simp; omega)]
    constructor
    · rintro ⟨e1, t, ht, e2⟩
      rw [hRg t (by omega)] at e2
      subst e2
      have := (h2 k t hk (by omega)).1 e1
      rcases this with e | e | ⟨e, _⟩ | ⟨e, e3⟩
      · omega
      · exact .inl (by rw [show k - 1 = t by omega])
      · omega
      · exact .inr ⟨e3, by rw [e]⟩
    · rintro (e | ⟨e1, e2⟩)
      · subst e
        exact ⟨(h2 k (k - 1) hk (by omega)).2 (by omega), k - 1, by omega, hRg _ (by omega)⟩
      · subst e2
        exact ⟨(h2 k 0 hk (by omega)).2 (by omega), 0, by omega, hRg _ (by omega)⟩
def noHole (ns : List Nat) (n : Nat) : Prop := ∀ size i M, 4 ≤ size → size ≤ n → i < n → M.length + 1 = size → ¬ Ext ns size [i] (delB (2 ^ n - 1) i) M
theorem noHole_all (g : Gr n ns) (h : noHole ns n) : ∀ m c, ¬ Hole (Nb ns) m c := fun m c hc => by
  obtain ⟨h1, h2, M, h3, h4⟩ := hole_ext g hc
  exact h m (c 0) M hc.1 h1 h2 h3 h4
/-- where nobody can go there is a hole -/
theorem stuck_hole (g : Gr n ns) (hno : noHole ns n) {left : Nat} (hlt : left < 2 ^ n) (h0 : left ≠ 0) (hs : ∀ i, left.testBit i = true → simpB ns left i = false) : False := by
  have hn := g.n10
  obtain ⟨w, hw⟩ : ∃ w, w ∈ bitsL left := by
    obtain ⟨w, hw⟩ := Nat.exists_testBit_of_ne_zero h0
    exact ⟨w, mem_bitsL.2 ⟨by have := lt_bit hlt hw; omega, hw⟩⟩
  obtain ⟨z, hz, hS⟩ := dirac (r := Nb ns) (fun a b h => (g.ok a b h).2.2.1) (fun a h => (g.ok a a h).2.2.2 rfl) (noHole_all g hno) (bitsL left) hw
  have hzb := (mem_bitsL.1 hz).2
  have h1 := hs z hzb
  unfold simpB at h1
  obtain ⟨a, b, ha, hb, hab, hnab⟩ := allB_no g (Nat.lt_of_le_of_lt Nat.and_le_right hlt) h1
  rw [Nat.testBit_and, Bool.and_eq_true] at ha hb
  have hla := lt_bit hlt ha.2; have hlb := lt_bit hlt hb.2
  have := hS a (mem_bitsL.2 ⟨by omega, ha.2⟩) b (mem_bitsL.2 ⟨by omega, hb.2⟩) hab ha.1 hb.1
  unfold Nb at this
  rw [hnab] at this; cases this
theorem go_simple (g : Gr n ns) {p : List Nat} (hE : El ns n p 0) {k : Nat} (hk : k < n) {a b : Nat} (ha : a < n) (hb : b < n) (h1 : nb ns (p.getD k 0) a = true) (h2 : nb ns (p.getD k 0) b = true) (h3 : a ∉ p.take k) (h4 : b ∉ p.take k) (hab : a ≠ b) : nb ns a b = true := by
  have hb0 : bitsL 0 = [] := by decide
  have hperm := hE.perm
  rw [hb0, List.append_nil] at hperm
  have hl : p.length = n := by simpa using hperm.length_eq
  obtain ⟨lf, hlf, hs, hp⟩ := hE.step k (by omega)
  rw [hb0, List.append_nil] at hp
  have hin : ∀ a, a < n → a ∉ p.take k → lf.testBit a = true := fun a ha hna => by
    have h5 : a ∈ p := hperm.mem_iff.2 (List.mem_range.2 ha)
    rw [← List.take_append_drop k p, List.mem_append] at h5
    exact (mem_bitsL.1 (hp.mem_iff.1 (h5.resolve_left hna))).2
  have h5 : (ns.getD (p.getD k 0) 0 &&& lf).testBit a = true := by rw [Nat.testBit_and, Bool.and_eq_true]; exact ⟨h1, hin a ha h3⟩
  have h6 : (ns.getD (p.getD k 0) 0 &&& lf).testBit b = true := by rw [Nat.testBit_and, Bool.and_eq_true]; exact ⟨h2, hin b hb h4⟩
  exact allB_nb g (Nat.lt_of_le_of_lt Nat.and_le_right hlf) hs h5 h6 (fun e => hab e.symm)
/-- where all can go there is no hole -/
theorem all_no_hole (g : Gr n ns) {p : List Nat} (hE : El ns n p 0) {m : Nat} {c : Nat → Nat} (h : Hole (Nb ns) m c) : False := by
  obtain ⟨h4, h1, h2⟩ := h
  have hb0 : bitsL 0 = [] := by decide
  have hperm := hE.perm
  rw [hb0, List.append_nil] at hperm
  have hl : p.length = n := by simpa using hperm.length_eq
  have hcn : ∀ i, i < m → c i < n := fun i hi => by
    by_cases e : i + 1 < m
    · exact (g.ok _ _ ((h2 i (i + 1) hi e).2 (.inl rfl))).1
    · exact (g.ok _ _ ((h2 i 0 hi (by omega)).2 (by omega))).1
  -- the first one that goes
  have hfirst : ∀ k, (∃ i, i < m ∧ c i ∈ p.take k) → ∃ k i, i < m ∧ k < n ∧ p.getD k 0 = c i ∧ ∀ j, j < m → c j ∉ p.take k := by
    intro k
    induction k with
    | zero => rintro ⟨i, _, hi⟩; simp at hi
    | succ k ih =>
      rintro ⟨i, hi, him⟩
      by_cases h : ∃ i, i < m ∧ c i ∈ p.take k
      · exact ih h
      · by_cases hkn : k < p.length
        · obtain ⟨j, hj, e⟩ := (mem_take_getD (by omega)).1 him
          by_cases hjk : j < k
          · exact absurd ⟨i, hi, (mem_take_getD (by omega)).2 ⟨j, hjk, e⟩⟩ h
          · obtain rfl : j = k := by omega
            exact ⟨j, i, hi, by omega, e, fun t ht hm => h ⟨t, ht, hm⟩⟩
        · exact absurd ⟨i, hi, by rw [List.take_of_length_le (by omega)] at him ⊢; exact him⟩ h
  obtain ⟨k, i, hi, hk, e, hn⟩ := hfirst n ⟨0, by omega, by rw [List.take_of_length_le (by omega)]; exact hperm.mem_iff.2 (List.mem_range.2 (hcn 0 (by omega)))⟩
  obtain ⟨a, ha, hia⟩ : ∃ a, a < m ∧ (a = i + 1 ∨ (i + 1 = m ∧ a = 0)) := by
    by_cases h : i + 1 < m
    · exact ⟨i + 1, h, .inl rfl⟩
    · exact ⟨0, by omega, .inr ⟨by omega, rfl⟩⟩
  obtain ⟨b, hb, hib⟩ : ∃ b, b < m ∧ (i = b + 1 ∨ (i = 0 ∧ b + 1 = m)) := by
    by_cases h : 0 < i
    · exact ⟨i - 1, by omega, .inl (by omega)⟩
    · exact ⟨m - 1, by omega, .inr ⟨by omega, by omega⟩⟩
  have r1 : nb ns (c i) (c a) = true := (h2 i a hi ha).2 (by omega)
  have r2 : nb ns (c i) (c b) = true := (h2 i b hi hb).2 (by omega)
  have r3 := go_simple g hE hk (hcn a ha) (hcn b hb) (by rw [e]; exact r1) (by rw [e]; exact r2) (hn a ha) (hn b hb) (fun e => by have := h1 a b ha hb e; omega)
  have := (h2 a b ha hb).1 r3
  omega
end
end Go.Proofs.YtcbmbofbiodhmaaDoor
