/- bonds.odd, bonds.Wall, plain: parts by spreading; the best wall. -/
import Derived.Test.YtcjokjfiikkpfaaDoorTutte
import Derived.Test.YtcjokjfiikkpfaaDoorBondsLaw
import Derived.Test.YtcjokjfiikkpfaaDoorSpreadLaw
namespace Go.Proofs.YtcjokjfiikkpfaaDoor
open Go.RowKit

theorem EdgeOf.symm {es : List E} {i j : Nat} (h : EdgeOf es i j) : EdgeOf es j i := by
  obtain ⟨e, he, h⟩ := h; exact ⟨e, he, h.symm⟩
/-- a bond, as partners -/
theorem bd_pm {n : Nat} {es : List E} {P : VS} {c : Nat} (h : Bd es P c) : (∀ v, P v = true → v < n) → ∃ μ, PM (EdgeOf es) P μ ∧ cN n (cv μ) = 2 * c := by
  induction h with
  | nil =>
    intro _
    refine ⟨fun v => v, ⟨fun _ => rfl, fun v h => absurd rfl h, fun v h => absurd rfl h⟩, ?_⟩
    unfold cN cv
    simp
  | skip _ ih =>
    intro hP
    obtain ⟨μ, h1, h2⟩ := ih hP
    exact ⟨μ, ⟨h1.inv, fun v hv => (h1.ed v hv).cons, h1.inP⟩, h2⟩
  | @take e es P c h1 h2 h3 _ ih =>
    intro hP
    obtain ⟨μ, h4, h5⟩ := ih (fun v hv => hP v (rmv_at.1 (rmv_at.1 hv).1).1)
    have hx : μ (eA e) = eA e := Classical.byContradiction fun hn => (rmv_at.1 (rmv_at.1 (h4.inP _ hn)).1).2 rfl
    have hy : μ (eB e) = eB e := Classical.byContradiction fun hn => (rmv_at.1 (h4.inP _ hn)).2 rfl
    have h6 : PM (EdgeOf (e :: es)) P μ := ⟨h4.inv, fun v hv => (h4.ed v hv).cons, fun v hv => (rmv_at.1 (rmv_at.1 (h4.inP v hv)).1).1⟩
    refine ⟨put μ (eA e) (eB e), h6.put (fun _ _ h => h.symm) hx hy h3 ⟨e, by simp, .inl ⟨rfl, rfl⟩⟩ h1 h2, ?_⟩
    rw [cv_put_n hx hy h3 (hP _ h1) (hP _ h2), h5]; omega
theorem pm_bd {n : Nat} {es : List E} : ∀ (c : Nat) {P : VS} {μ : Nat → Nat}, (∀ v, P v = true → v < n) → PM (EdgeOf es) P μ → cN n (cv μ) = 2 * c → Bd es P c
  | 0, P, _, _, _, _ => Bd.zero es P
  | c + 1, P, μ, hP, h, hc => by
    obtain ⟨v, hvn, hv⟩ := cN_pos (n := n) (f := cv μ) (by omega)
    have hv := cv_at.1 hv
    have hd := h.drp v
    have hcd := cv_drp_n h hP hv
    have hpm : PM (EdgeOf es) (rmv (rmv P v) (μ v)) (drp μ v) := ⟨hd.inv, hd.ed, fun k hk => by
      have h1 := hd.inP k hk
      rw [drp_eq] at hk
      by_cases e : k = v ∨ k = μ v
      · rw [if_pos e] at hk; exact absurd rfl hk
      · exact rmv_at.2 ⟨rmv_at.2 ⟨h1, fun e' => e (.inl e')⟩, fun e' => e (.inr e')⟩⟩
    have := pm_bd c (P := rmv (rmv P v) (μ v)) (fun w hw => hP w (rmv_at.1 (rmv_at.1 hw).1).1) hpm (by omega)
    exact this.front (h.ed v hv) (h.inP v hv) (h.inP _ (h.ne hv)) hv
theorem mm_mx {n : Nat} {es : List E} {P : VS} {c : Nat} (hP : ∀ v, P v = true → v < n) (h : IsMM es P c) : ∃ μ, Mx n (EdgeOf es) P μ ∧ cN n (cv μ) = 2 * c := by
  obtain ⟨μ, h1, h2⟩ := bd_pm h.has hP
  refine ⟨μ, ⟨h1, fun ν hν => ?_⟩, h2⟩
  have he := hν.even hP
  obtain ⟨d, hd⟩ : ∃ d, cN n (cv ν) = 2 * d := ⟨cN n (cv ν) / 2, by omega⟩
  have := h.most d (pm_bd d hP hν hd)
  omega
/-- some nodes as a word -/
def wdOf (f : VS) : Nat → Nat
  | 0 => 0
  | n + 1 => wdOf f n ||| if f n = true then 2 ^ n else 0
theorem wdOf_bit (f : VS) (j : Nat) : ∀ n, (wdOf f n).testBit j = (decide (j < n) && f j)
  | 0 => by simp [wdOf]
  | n + 1 => by
    unfold wdOf
    rw [Nat.testBit_or, wdOf_bit f j n]
    by_cases e : j = n
    · subst e
      cases hf : f j <;> simp
    · have : (if f n = true then 2 ^ n else 0).testBit j = false := by
        split
        · rw [Nat.testBit_two_pow]; simp; omega
        · simp
      rw [this]
      by_cases h : j < n
      · simp [h, show j < n + 1 by omega]
      · simp [h, show ¬ j < n + 1 by omega]
theorem wdOf_lt (f : VS) (n : Nat) : wdOf f n < 2 ^ n := Nat.lt_pow_two_of_testBit _ fun m hm => by rw [wdOf_bit]; simp; omega
/-- who is linked behind a wall is behind no wall -/
theorem cn_free {N w0 : Nat} {es : List E} (hok : ∀ e ∈ es, okE N e) {k i j : Nat} (h : cn (wo w0 es) k i j) : i = j ∨ (w0.testBit i = false ∧ w0.testBit j = false ∧ i < N ∧ j < N) := by
  refine cn_least (R := fun i j => i = j ∨ (w0.testBit i = false ∧ w0.testBit j = false ∧ i < N ∧ j < N)) (fun _ => .inl rfl) (fun i m j h1 h2 => ?_) (fun i j ha => ?_) k i j h
  · rcases h1 with rfl | h1
    · exact h2
    · rcases h2 with rfl | h2
      · exact .inr h1
      · exact .inr ⟨h1.1, h2.2.1, h1.2.2.1, h2.2.2.2⟩
  · have hokW : ∀ e ∈ wo w0 es, okE N e := fun e he => hok e (List.mem_filter.1 he).1
    obtain ⟨e, he, h⟩ := (adj_edge hokW i j).1 ha
    have hl := eA_lt hokW he
    have hf := (List.mem_filter.1 he).2
    unfold freeE at hf
    rw [Bool.and_eq_true, Bool.not_eq_true', Bool.not_eq_true'] at hf
    rcases h with ⟨rfl, rfl⟩ | ⟨rfl, rfl⟩
    · exact .inr ⟨hf.1, hf.2, hl.1, hl.2⟩
    · exact .inr ⟨hf.2, hf.1, hl.2, hl.1⟩
theorem adj_wo {N w0 : Nat} {es : List E} (hok : ∀ e ∈ es, okE N e) {i j : Nat} (h : EdgeOf es i j) (hi : w0.testBit i = false) (hj : w0.testBit j = false) : adj (wo w0 es) i j = true := by
  have hokW : ∀ e ∈ wo w0 es, okE N e := fun e he => hok e (List.mem_filter.1 he).1
  obtain ⟨e, he, h⟩ := h
  refine (adj_edge hokW i j).2 ⟨e, List.mem_filter.2 ⟨he, ?_⟩, h⟩
  unfold freeE
  rcases h with ⟨rfl, rfl⟩ | ⟨rfl, rfl⟩ <;> rw [hi, hj] <;> rfl
theorem pf_cn {N w0 : Nat} {es : List E} {i j : Nat} (hi : i < N) (hj : j < N) : pf (wo w0 es) N i = pf (wo w0 es) N j ↔ cn (wo w0 es) N i j := by
  constructor
  · intro e
    have h1 := (pf_is (es := wo w0 es) (N := N) (i := i))
    have h2 := (pf_is (es := wo w0 es) (N := N) (i := j))
    rw [← e] at h2
    exact cn_trans _ N _ (Nat.lt_of_le_of_lt h1.le hi) i j h1.has (cn_symm _ N _ _ h2.has)
  · exact fun h => pf_is.same pf_is hi hj h
/-- TUTTE, BERGE, by a word -/
theorem tutte_word {N : Nat} {es : List E} (hN : N ≤ 10) (hok : ∀ e ∈ es, okE N e) {c : Nat} (h : IsMM es (wS (2 ^ N - 1)) c) : ∃ w0, w0 < 2 ^ N ∧ N + popc 10 w0 ≤ 2 * c + oddN N w0 (pf (wo w0 es) N) N := by
  have hP : ∀ v, wS (2 ^ N - 1) v = true → v < N := fun v hv => by
    unfold wS at hv; rw [Nat.testBit_two_pow_sub_one] at hv; simpa using hv
  have hP' : ∀ v, v < N → wS (2 ^ N - 1) v = true := fun v hv => by
    unfold wS; rw [Nat.testBit_two_pow_sub_one]; simpa using hv
  obtain ⟨M, hM, hc⟩ := mm_mx hP h
  obtain ⟨Q, hQ, hT⟩ := tutte (E := EdgeOf es) (fun _ _ h => h.symm) _ (wS (2 ^ N - 1)) rfl hP
  refine ⟨wdOf (fun v => !Q v) N, wdOf_lt _ _, ?_⟩
  obtain ⟨w0, hw0⟩ : ∃ w0, wdOf (fun v => !Q v) N = w0 := ⟨_, rfl⟩
  have hbit : ∀ j, w0.testBit j = (decide (j < N) && !Q j) := fun j => by rw [← hw0, wdOf_bit]
  have hwl : w0 < 2 ^ N := by rw [← hw0]; exact wdOf_lt _ _
  rw [hw0]
  clear hw0
  have hQN : ∀ v, Q v = true → v < N := fun v hv => hP v (hQ v hv)
  have hfr : ∀ v, Q v = true → w0.testBit v = false := fun v hv => by rw [hbit, hv]; simp
  have hfq : ∀ v, v < N → w0.testBit v = false → Q v = true := fun v hv hf => by
    rw [hbit] at hf; simpa [hv] using hf
  have hb := hT (pf (wo w0 es) N) (fun i hi => Nat.lt_of_le_of_lt pf_is.le (hQN i hi)) (fun i j hi hj e => ?_) (fun i j hi hj he => ?_) M hM
  · have h1 : cN N (wS (2 ^ N - 1)) = N := by
      unfold cN; rw [List.countP_eq_length.2 (fun j hj => hP' j (List.mem_range.1 hj)), List.length_range]
    have h2 : cN N (wS (2 ^ N - 1)) = cN N Q + cN N (fun j => w0.testBit j) := cN_add (fun v hv => by
      rw [hP' v hv, hbit]; cases Q v <;> simp [hv]) (fun v _ hv => by rw [hbit, hv]; simp)
    have h3 : cN N (fun j => w0.testBit j) = popc 10 w0 := by
      have h3 := popc_more hwl (10 - N)
      rw [show N + (10 - N) = 10 by omega] at h3
      rw [h3]
      unfold popc cN
      rw [List.countP_eq_length_filter]
    have h4 : oddL N (pf (wo w0 es) N) Q (List.range N) = oddN N w0 (pf (wo w0 es) N) N := by
      rw [oddN_cnt]
      unfold oddL
      refine List.countP_congr fun i _ => ?_
      have : clsL (pf (wo w0 es) N) Q i (List.range N) = cnO w0 (pf (wo w0 es) N) i N := by
        unfold clsL cnO
        refine List.countP_congr fun j hj => ?_
        unfold inCls
        rw [hbit]
        simp [List.mem_range.1 hj]
      rw [this]
    omega
  · have hcn := (pf_cn (hQN i hi) (hQN j hj)).1 e
    intro R r1 r2 r3 r4
    have := cn_least (R := fun i j => i = j ∨ (Q i = true ∧ Q j = true ∧ R i j)) (fun _ => .inl rfl) (fun i m j h1 h2 => by
      rcases h1 with rfl | h1
      · exact h2
      · rcases h2 with rfl | h2
        · exact .inr h1
        · exact .inr ⟨h1.1, h2.2.1, r3 i m j h1.2.1 h1.2.2 h2.2.2⟩) (fun i j ha => by
      have hokW : ∀ e ∈ wo w0 es, okE N e := fun e he => hok e (List.mem_filter.1 he).1
      have hE : EdgeOf es i j := by
        obtain ⟨e, he, h⟩ := (adj_edge hokW i j).1 ha
        exact ⟨e, (List.mem_filter.1 he).1, h⟩
      rcases cn_free hok (cn_zero.2 (.inr ha) : cn (wo w0 es) 0 i j) with rfl | ⟨f1, f2, f3, f4⟩
      · exact .inl rfl
      · exact .inr ⟨hfq i f3 f1, hfq j f4 f2, r4 i j (hfq i f3 f1) (hfq j f4 f2) hE⟩) N i j hcn
    rcases this with rfl | this
    · exact r1 i
    · exact this.2.2
  · exact (pf_cn (hQN i hi) (hQN j hj)).2 (cn_adj (adj_wo hok he (hfr i hi) (hfr j hj)) N)
/-- in the midst of bonds.odd -/
def oddR (N w0 : Nat) (p : Nat → Nat) (left : Nat) : VS := fun i => left.testBit i && (decide (p i = i) && (cnO w0 p i N % 2 == 1))
structure OdI (N w0 : Nat) (es : List E) (left m : Nat) : Prop where
  lt : left < 2 ^ N
  fr : ∀ j, left.testBit j = true → w0.testBit j = false
  cl : ∀ i j, left.testBit i = true → cn (wo w0 es) N i j → left.testBit j = true
  cnt : m + cN N (oddR N w0 (pf (wo w0 es) N) left) = oddN N w0 (pf (wo w0 es) N) N
theorem OdI.start {N w0 : Nat} {es : List E} (hok : ∀ e ∈ es, okE N e) {left : Nat} (hl : ∀ j, left.testBit j = (decide (j < N) && !w0.testBit j)) : OdI N w0 es left 0 := by
  refine ⟨Nat.lt_pow_two_of_testBit _ fun m hm => by rw [hl]; simp; omega, fun j hj => ?_, fun i j hi hc => ?_, ?_⟩
  · rw [hl, Bool.and_eq_true] at hj; simpa using hj.2
  · rcases cn_free hok hc with rfl | ⟨h1, h2, h3, h4⟩
    · exact hi
    · rw [hl, h2]; simp [h4]
  · rw [Nat.zero_add, oddN_cnt]
    show cN N _ = cN N _
    refine cN_congr fun i hi => ?_
    unfold oddR
    rw [hl]
    by_cases ho : cnO w0 (pf (wo w0 es) N) i N % 2 = 1
    · obtain ⟨j, hj, hin⟩ : ∃ j, j < N ∧ inCls w0 (pf (wo w0 es) N) i j = true := by
        have : 0 < cN N (inCls w0 (pf (wo w0 es) N) i) := by
          have : cN N (inCls w0 (pf (wo w0 es) N) i) = cnO w0 (pf (wo w0 es) N) i N := rfl
          omega
        exact cN_pos this
      unfold inCls at hin
      rw [Bool.and_eq_true, decide_eq_true_eq, Bool.not_eq_true'] at hin
      have hpj := pf_is (es := wo w0 es) (N := N) (i := j)
      rw [hin.1] at hpj
      have hpi : pf (wo w0 es) N i = i := by
        have := (pf_cn hi hj).2 (cn_symm _ N _ _ hpj.has)
        rw [this, hin.1]
      have hfi : w0.testBit i = false := by
        rcases cn_free hok hpj.has with e | ⟨_, h2, _⟩
        · rw [← e]; exact hin.2
        · exact h2
      simp [hi, hfi, hpi, ho]
    · have ho' : (cnO w0 (pf (wo w0 es) N) i N % 2 == 1) = false := beq_false_of_ne ho
      rw [ho']; simp
/-- a part: all that is spread to from its least node -/
theorem OdI.part {N w0 : Nat} {es : List E} (hok : ∀ e ∈ es, okE N e) {left m i R : Nat} (h : OdI N w0 es left m) (hi : left.testBit i = true) (hs : IsSpread (nearW N es) left (2 ^ i) R) :
    ∀ j, R.testBit j = true ↔ cn (wo w0 es) N i j := by
  have hto : ∀ j, R.testBit j = true → cn (wo w0 es) N i j ∧ left.testBit j = true := fun j hj => by
    refine hs.least (fun j => cn (wo w0 es) N i j ∧ left.testBit j = true) (fun m hm => ?_) (fun a b hab hnb hb => ⟨?_, hb⟩) j hj
    · rw [Nat.testBit_two_pow] at hm
      obtain rfl : i = m := by simpa using hm
      exact ⟨cn_refl _ N i, hi⟩
    · have hE := (near_edge hok a b).1 hnb
      have ha := adj_wo (w0 := w0) hok hE (h.fr a hab.2) (h.fr b hb)
      have hal : a < N := lt_bit h.lt hab.2
      exact cn_trans _ N a hal i b hab.1 (cn_adj ha N)
  intro j
  refine ⟨fun hj => (hto j hj).1, fun hc => ?_⟩
  have := cn_least (R := fun a b => R.testBit a = true ↔ R.testBit b = true) (fun _ => Iff.rfl) (fun _ _ _ h1 h2 => h1.trans h2) (fun a b ha => by
    have hokW : ∀ e ∈ wo w0 es, okE N e := fun e he => hok e (List.mem_filter.1 he).1
    have hE : EdgeOf es a b := by
      obtain ⟨e, he, h⟩ := (adj_edge hokW a b).1 ha
      exact ⟨e, (List.mem_filter.1 he).1, h⟩
    constructor
    · intro hRa
      exact hs.cl a b hRa ((near_edge hok a b).2 hE) (h.cl a b (hto a hRa).2 (cn_adj ha N))
    · intro hRb
      exact hs.cl b a hRb ((near_edge hok b a).2 hE.symm) (h.cl b a (hto b hRb).2 (cn_symm _ N _ _ (cn_adj ha N)))) N i j hc
  exact this.1 (hs.sub i (by rw [Nat.testBit_two_pow]; simp))
theorem OdI.next {N w0 : Nat} {es : List E} (hN : N ≤ 10) (hok : ∀ e ∈ es, okE N e) {left m i R left' : Nat} (h : OdI N w0 es left m) (hi : left.testBit i = true) (hlow : ∀ j, j < i → left.testBit j = false) (hR : R < 2 ^ N) (hs : IsSpread (nearW N es) left (2 ^ i) R)
    (hl' : ∀ j, left'.testBit j = (left.testBit j && !R.testBit j)) : OdI N w0 es left' (m + popc 10 R % 2) := by
  have hpt := h.part hok hi hs
  have hin : i < N := lt_bit h.lt hi
  have hpi : pf (wo w0 es) N i = i := by
    refine pf_eq ⟨Nat.le_refl _, cn_refl _ N i, fun j hj hc => ?_⟩
    have := h.cl i j hi hc
    rw [hlow j hj] at this; cases this
  have hpj : ∀ j, j < N → (R.testBit j = true ↔ pf (wo w0 es) N j = i) := fun j hj => by
    rw [hpt, ← pf_cn hin hj, hpi]
    exact ⟨fun e => e.symm, fun e => e.symm⟩
  have hRl : ∀ j, R.testBit j = true → left.testBit j = true := fun j hj => h.cl i j hi ((hpt j).1 hj)
  refine ⟨Nat.lt_pow_two_of_testBit _ fun m hm => ?_, fun j hj => ?_, fun a b ha hc => ?_, ?_⟩
  · have : left.testBit m = false := Nat.testBit_lt_two_pow (Nat.lt_of_lt_of_le h.lt (Nat.pow_le_pow_right (by omega) hm))
    rw [hl', this]; rfl
  · rw [hl', Bool.and_eq_true] at hj; exact h.fr j hj.1
  · rw [hl', Bool.and_eq_true, Bool.not_eq_true'] at ha ⊢
    refine ⟨h.cl a b ha.1 hc, ?_⟩
    cases hb : R.testBit b
    · rfl
    · have hbl : b < N := lt_bit hR hb
      have : cn (wo w0 es) N i a := cn_trans _ N b hbl i a ((hpt b).1 hb) (cn_symm _ N _ _ hc)
      rw [(hpt a).2 this] at ha; exact absurd ha.2 (by simp)
  · have hcR : popc 10 R = cnO w0 (pf (wo w0 es) N) i N := by
      have h3 := popc_more hR (10 - N)
      rw [show N + (10 - N) = 10 by omega] at h3
      rw [h3]
      unfold popc cnO
      rw [← List.countP_eq_length_filter]
      refine List.countP_congr fun j hj => ?_
      have hj := List.mem_range.1 hj
      unfold inCls
      rw [Bool.and_eq_true, decide_eq_true_eq, Bool.not_eq_true']
      constructor
      · exact fun hRj => ⟨(hpj j hj).1 hRj, h.fr j (hRl j hRj)⟩
      · exact fun h' => (hpj j hj).2 h'.1
    have hadd : cN N (oddR N w0 (pf (wo w0 es) N) left) = cN N (oddR N w0 (pf (wo w0 es) N) left') + cN N (fun k => decide (k = i) && (cnO w0 (pf (wo w0 es) N) i N % 2 == 1)) := by
      refine cN_add (fun k hk => ?_) (fun k hk hf => ?_)
      · unfold oddR
        rw [hl']
        by_cases e : k = i
        · subst e
          rw [hi, hpi]; cases R.testBit k <;> simp
        · by_cases hRk : R.testBit k = true
          · have := (hpj k hk).1 hRk
            simp [hRk, show ¬ pf (wo w0 es) N k = k from fun e2 => e (by rw [← e2, this]), e]
          · rw [Bool.not_eq_true] at hRk
            rw [hRk]; simp [e]
      · unfold oddR at hf
        rw [hl'] at hf
        by_cases e : k = i
        · subst e
          have : R.testBit k = true := hs.sub k (by rw [Nat.testBit_two_pow]; simp)
          rw [this] at hf; simp at hf
        · simp [e]
    have hone : cN N (fun k => decide (k = i) && (cnO w0 (pf (wo w0 es) N) i N % 2 == 1)) = cnO w0 (pf (wo w0 es) N) i N % 2 := by
      rcases Nat.mod_two_eq_zero_or_one (cnO w0 (pf (wo w0 es) N) i N) with e | e
      · rw [e]
        unfold cN
        rw [List.countP_eq_zero]
        simp
      · rw [e, cN_rmv hin (by simp)]
        have : cN N (rmv (fun k => decide (k = i) && (1 == 1)) i) = 0 := by
          unfold cN rmv
          rw [List.countP_eq_zero]
          intro k _
          simp
        rw [this]
    have := h.cnt
    rw [hcR]
    omega
theorem OdI.done {N w0 : Nat} {es : List E} {m : Nat} (h : OdI N w0 es 0 m) : m = oddN N w0 (pf (wo w0 es) N) N := by
  have := h.cnt
  have h0 : cN N (oddR N w0 (pf (wo w0 es) N) 0) = 0 := by
    unfold cN oddR; rw [List.countP_eq_zero]; simp
  omega
theorem low_word : ∀ x : Fin 1024, x.val ≠ 0 → x.val &&& (4294967296 - x.val) = 2 ^ Lib.ctz 32 x.val := by decide +kernel
end Go.Proofs.YtcjokjfiikkpfaaDoor
