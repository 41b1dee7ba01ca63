/- A set of words of the call's own (map[uint32]bool, whatever is in it is true); teamsterref.Rank. -/
import Derived.Test.YtglbabcefanooaaFree
import Derived.Test.YtglbabcefanooaaIntMap
namespace Go.Proofs.Ytglbabcefanooaa
open Go.RowKit Go.Maps

/-- block b of w is a map of at most n entries, the words below 1024 that p has -/
def UMap (w : World) (b n : Nat) (p : Nat → Bool) : Prop :=
  ∃ D : DataW Unit, w.ownsMap Try.prog 24 (plainElem Try.prog 4) b n D ∧ ∀ i : Nat, i < 1024 → Maps.has D (.int .u32 (i : Int)) = p i ∧ (p i = true → ∀ z, D.atKey (.int .u32 (i : Int)) z = .lit (.bool true))
def updP (p : Nat → Bool) (k : Nat) : Nat → Bool := fun i => p i || i == k
theorem wf_u32k {n : Nat} (h : n < 1024) : (Lit.int .u32 (n : Int)).wf = true := by
  have : IntKind.u32.min ≤ (n : Int) ∧ (n : Int) ≤ IntKind.u32.max := by
    rw [show IntKind.u32.min = 0 from rfl, show IntKind.u32.max = 4294967295 from rfl]
    omega
  simpa [Lit.wf] using this
theorem zeroB (w : World) : (zeroValue 4).run Try.prog w = .ok (.bool false) w := by go_simp
theorem plainElem_bool_inv {P : Program} {e : TypeId} (he : P.underlying e = some .bool) {v : Value} {z : DataW Unit × List MemPlace} (h : plainElem P e v = some z) : ∃ a, v = .bool a ∧ z = (.lit (.bool a), []) := by
  unfold plainElem at h
  rw [he] at h
  cases v <;> simp at h
  exact ⟨_, rfl, h.symm⟩
section
variable {w : World} {b n : Nat} {p : Nat → Bool}
theorem UMap.made (w : World) : UMap (w.alloc (.map #[] 0)) w.heap.size 0 fun _ => false :=
  ⟨.map [], World.ownsMap_made w Try.prog 24 _, fun i _ => ⟨rfl, fun h => by cases h⟩⟩
theorem UMap.lt (h : UMap w b n p) : b < w.heap.size := by obtain ⟨D, h, _⟩ := h; exact h.lt
theorem UMap.look (h : UMap w b n p) {i : Nat} (hi : i < 1024) : (Instr.lookup 44 (.map (some b)) (.int .u32 (i : Int)) false).run Try.prog w = .ok (.bool (p i)) w := by
  obtain ⟨D, h, h'⟩ := h
  obtain ⟨v, ps, hrun, hv⟩ := h.lookup (int_keyed Try.underlying24) Try.underlying44 (zeroB w) (plainElem_bool Try.underlying4 false) (keyOf_int_mk Try.underlying24 (wf_u32k hi))
  obtain ⟨a, rfl, hz⟩ := plainElem_bool_inv Try.underlying4 hv
  rw [hrun]
  obtain ⟨h1, h2⟩ := h' i hi
  simp only [Prod.mk.injEq] at hz
  cases hp : p i with
  | false =>
    rw [hp] at h1
    have hat := hz.1
    rw [atKey_of_not_has (by simpa using h1)] at hat
    injection hat with hat; injection hat with hat
    rw [← hat]
  | true =>
    have hat := hz.1
    rw [h2 hp] at hat
    injection hat with hat; injection hat with hat
    rw [← hat]
theorem UMap.update (h : UMap w b n p) (hn : n < maxLen) {i : Nat} (hi : i < 1024) : ∃ w', (Instr.mapUpdate 44 (.map (some b)) (.int .u32 (i : Int)) (.bool true)).run Try.prog w = .ok () w' ∧ UMap w' b (n + 1) (updP p i) ∧ w.mapTurned w' b := by
  obtain ⟨D, h, h'⟩ := h
  have hm := h.isMap
  obtain ⟨w', hrun, h2, h3⟩ := h.store (int_keyed Try.underlying24) Try.underlying44 hn (keyOf_int_mk Try.underlying24 (wf_u32k hi)) (plainElem_bool Try.underlying4 true)
  refine ⟨w', hrun, ⟨_, h2, fun j hj => ?_⟩, h3⟩
  by_cases hji : j = i
  · subst hji
    refine ⟨by rw [has_put_same hm (by trivial)]; simp [updP], fun _ z => ?_⟩
    rw [atKey_put_same hm (by trivial)]
  · have hne : (Lit.int .u32 (j : Int)) ≠ .int .u32 (i : Int) := by intro h; injection h with _ h; exact hji (by omega)
    have hu : updP p i j = p j := by simp [updP, hji]
    rw [has_put_other hne, hu]
    exact ⟨(h' j hj).1, fun hd z => by rw [atKey_put_other hne]; exact (h' j hj).2 hd z⟩
end
theorem wp_umap_put (w : World) {ops : Array Oper} {rest : List Oper} {o : Oper} {a : Act} {Q : Exit → Act → World → Prop}
    (hg : o.guard = none) (m x v : Operand) (hop : o.op = Op.mapUpdate 44 m x v) {b n : Nat} {p : Nat → Bool} (hm : a.eval m = .map (some b)) (h : UMap w b n p) (hn : n < maxLen) {i : Nat} (hi : i < 1024) (hx : a.eval x = .int .u32 (i : Int)) (hv : a.eval v = .bool true)
    (hK : ∀ w', UMap w' b (n + 1) (updP p i) → w.mapTurned w' b → wpList Try.prog ops Q rest (a.put o.dst undef) w') : wpList Try.prog ops Q (o :: rest) a w := by
  obtain ⟨w', hrun, h2, h3⟩ := h.update hn hi
  refine wpList_plain hg fun K' hK' => ?_
  unfold Oper.wp
  simp [execOp, hop, hm, hx, hv, hrun, Result.andThen]
  exact hK' _ _ (hK w' h2 h3)
theorem card_upd {p : Nat → Bool} {k : Nat} (hk : k < 1024) (h : p k = false) : card (updP p k) = card p + 1 := by
  unfold card updP
  rw [filter_or (p := p) (q := fun i => i == k) (fun x hx => by
    obtain ⟨h1, h2⟩ := hx
    have : x = k := by simpa using h2
    subst this
    rw [h] at h1; cases h1)]
  have one : ∀ (l : List Nat), l.Nodup → k ∈ l → (l.filter fun i => i == k).length = 1 := fun l hn hm => by
    rw [← List.countP_eq_length_filter]
    exact (List.nodup_iff_count.1 hn k) |> fun h => by
      have := List.count_pos_iff.2 hm
      unfold List.count at h this
      omega
  rw [one _ List.nodup_range (List.mem_range.2 hk)]
theorem card_congr {p q : Nat → Bool} (h : ∀ x, x < 1024 → p x = q x) : card p = card q := by
  unfold card
  rw [List.filter_congr fun x hx => h x (List.mem_range.1 hx)]
/-- the sums by now: of all parts that are above s -/
structure RnI (ns : List Nat) (n s : Nat) (p : Nat → Bool) : Prop where
  why : ∀ x, x < 1024 → p x = true → ∃ t, t &&& (2 ^ n - 1) = t ∧ sumW ns t n = x
  all : ∀ t, s < t → t &&& (2 ^ n - 1) = t → p (sumW ns t n) = true
theorem rank_card {ns : List Nat} {n : Nat} {p : Nat → Bool} (hw : ∀ i, ns.getD i 0 < 1024) (h1 : ∀ x, x < 1024 → p x = true → ∃ t, t &&& (2 ^ n - 1) = t ∧ sumW ns t n = x) (h2 : ∀ t, t &&& (2 ^ n - 1) = t → p (sumW ns t n) = true) : card p = 2 ^ rkS ns n (2 ^ n - 1) := by
  unfold rkS
  rw [← card_rk _ (pick_lt hw)]
  have hlt : 2 ^ n - 1 < 2 ^ n := by have := Nat.pow_pos (n := n) (show 0 < 2 by omega); omega
  refine card_congr fun x hx => ?_
  rw [Bool.eq_iff_iff, Sp_sub]
  constructor
  · intro hp
    obtain ⟨t, ht, rfl⟩ := h1 x hx hp
    exact ⟨t, (sub_iff hlt).2 ht, rfl⟩
  · rintro ⟨t, ht, rfl⟩
    exact h2 t ((sub_iff hlt).1 ht)
end Go.Proofs.Ytglbabcefanooaa
