/- Wishes, in plain Lean, on: there is a pairing that holds; who is left over in one is so in all; the better one of both for all on the left holds. -/
import Derived.Test.YtcmefjfhcdedjaaPair
namespace Go.Proofs.Ytcmefjfhcdedjaa

section
variable {n : Nat} {L R : Nat → List Int}
theorem gs_run (hL : OkL n L) (hR : OkL n R) : ∀ (fuel : Nat) (H : Nat → Int) (N : Nat → Nat) (act : Int) (s : Nat), GI n L R H N act s → remN L N n ≤ fuel → ∃ H' N', GI n L R H' N' (-1) s
  | fuel, H, N, act, s, g, hf => by
    rcases g.alt with rfl | ⟨a, rfl, has, han⟩
    · exact ⟨H, N, g⟩
    · by_cases hN : N a < (L a).length
      · obtain ⟨j, hj⟩ := Int.eq_ofNat_of_zero_le (hL.inn a han (N a) hN).1
        have hjn : j < n := by have := (hL.inn a han (N a) hN).2; omega
        have hrem := remN_upd hN n
        rw [if_pos han] at hrem
        have hr8 := rkI_le (l := R j) (x := (a : Int)) (hR.len j hjn)
        match fuel, hf with
        | 0, hf => omega
        | fuel + 1, hf =>
          rcases g.h1 j hjn with h | ⟨b, _, _, h, _⟩
          · by_cases hc : rkI (R j) a < 8
            · exact gs_run hL hR fuel _ _ _ _ (g.yes hL hR hN hj (.inl ⟨h, hc⟩)) (by omega)
            · exact gs_run hL hR fuel _ _ _ _ (g.no hL hR hN hj (.inl ⟨h, by omega⟩)) (by omega)
          · by_cases hc : rkI (R j) a < rkI (R j) b
            · exact gs_run hL hR fuel _ _ _ _ (g.yes hL hR hN hj (.inr ⟨b, h, hc⟩)) (by omega)
            · exact gs_run hL hR fuel _ _ _ _ (g.no hL hR hN hj (.inr ⟨b, h, by omega⟩)) (by omega)
      · exact ⟨H, N, g.stop hN⟩
theorem gs_all (hL : OkL n L) (hR : OkL n R) : ∀ s, s ≤ n → ∃ H N, GI n L R H N (-1) s
  | 0, _ => ⟨_, _, GI.start⟩
  | s + 1, h => by
    obtain ⟨H, N, g⟩ := gs_all hL hR s (by omega)
    exact gs_run hL hR _ _ _ _ _ (g.begin (by omega)) (Nat.le_refl _)
theorem tells_ex {H : Nat → Int} {N : Nat → Nat} (g : GI n L R H N (-1) n) : ∀ k, k ≤ n → ∃ F, TellsTo n k H F
  | 0, _ => ⟨_, tells_start⟩
  | k + 1, h => by
    obtain ⟨F, t⟩ := tells_ex g k (by omega)
    rcases g.h1 k (by omega) with h1 | ⟨a, _, han, h1, _⟩
    · exact ⟨F, tells_no t h1⟩
    · exact ⟨_, tells_yes g.uniq (by omega) t h1 han⟩
/-- there is one that holds, and is the best for the left -/
theorem gs_exists (hL : OkL n L) (hR : OkL n R) : ∃ F, Stab n L R F ∧ ∀ M, Stab n L R M → ∀ i, i < n → pos (L i) (F i) ≤ pos (L i) (M i) := by
  obtain ⟨H, N, g⟩ := gs_all hL hR n (Nat.le_refl _)
  obtain ⟨F, t⟩ := tells_ex g n (Nat.le_refl _)
  exact ⟨F, told_stab hL g (tells_done t), fun M hM i hi => told_left hL g (tells_done t) hM hi⟩

/-- j is taken -/
def Tk (n : Nat) (M : Nat → Int) (j : Nat) : Prop := ∃ i, i < n ∧ M i = j
noncomputable def lefts (n : Nat) (M : Nat → Int) : List Nat := (List.range n).filter fun i => decide (0 ≤ M i)
open Classical in
noncomputable def rights (n : Nat) (M : Nat → Int) : List Nat := (List.range n).filter fun j => decide (Tk n M j)
theorem nodup_map_inj {l : List Nat} {f : Nat → Nat} (h : l.Nodup) (hf : ∀ a ∈ l, ∀ b ∈ l, f a = f b → a = b) : (l.map f).Nodup := by
  induction l with
  | nil => simp
  | cons a l ih =>
    rw [List.nodup_cons] at h
    rw [List.map_cons, List.nodup_cons]
    refine ⟨fun hm => ?_, ih h.2 fun x hx y hy => hf x (List.mem_cons_of_mem _ hx) y (List.mem_cons_of_mem _ hy)⟩
    obtain ⟨b, hb, e⟩ := List.mem_map.1 hm
    have := hf b (List.mem_cons_of_mem _ hb) a (List.mem_cons_self ..) e
    subst this
    exact h.1 hb
theorem lefts_rights {M : Nat → Int} (h : OkM n M) : (lefts n M).length = (rights n M).length := by
  classical
  apply Nat.le_antisymm
  · have hnd : ((lefts n M).map fun i => (M i).toNat).Nodup := nodup_map_inj (List.nodup_range.sublist List.filter_sublist) fun a ha b hb e => by
      simp only [lefts, List.mem_filter, List.mem_range, decide_eq_true_eq] at ha hb
      exact h.2 a b ha.1 hb.1 (by omega) ha.2
    have := hnd.length_le_of_subset (l₂ := rights n M) fun x hx => by
      obtain ⟨i, hi, rfl⟩ := List.mem_map.1 hx
      simp only [lefts, List.mem_filter, List.mem_range, decide_eq_true_eq] at hi
      have := (h.1 i hi.1).2
      simp only [rights, List.mem_filter, List.mem_range, decide_eq_true_eq]
      exact ⟨by omega, i, hi.1, by omega⟩
    simpa using this
  · have hch : ∀ j, ∃ i, Tk n M j → i < n ∧ M i = j := fun j => by
      by_cases ht : Tk n M j
      · obtain ⟨i, h1, h2⟩ := ht
        exact ⟨i, fun _ => ⟨h1, h2⟩⟩
      · exact ⟨0, fun h => absurd h ht⟩
    obtain ⟨o, ho⟩ := Classical.axiomOfChoice hch
    have hnd : ((rights n M).map o).Nodup := nodup_map_inj (List.nodup_range.sublist List.filter_sublist) fun a ha b hb e => by
      simp only [rights, List.mem_filter, List.mem_range, decide_eq_true_eq] at ha hb
      have h1 := (ho a ha.2).2
      have h2 := (ho b hb.2).2
      rw [e] at h1
      omega
    have := hnd.length_le_of_subset (l₂ := lefts n M) fun x hx => by
      obtain ⟨j, hj, rfl⟩ := List.mem_map.1 hx
      simp only [rights, List.mem_filter, List.mem_range, decide_eq_true_eq] at hj
      have := ho j hj.2
      simp only [lefts, List.mem_filter, List.mem_range, decide_eq_true_eq]
      exact ⟨this.1, by omega⟩
    simpa using this
theorem filter_eq_of {p q : Nat → Bool} (h : ∀ i, i < n → p i = true → q i = true) (hl : ((List.range n).filter q).length ≤ ((List.range n).filter p).length) : ∀ i, i < n → q i = true → p i = true := fun i hi hq => by
  cases hp : p i with
  | true => rfl
  | false =>
    exfalso
    have hnd : (i :: (List.range n).filter p).Nodup := List.nodup_cons.2 ⟨fun hm => by rw [List.mem_filter] at hm; rw [hp] at hm; simp at hm, List.nodup_range.sublist List.filter_sublist⟩
    have := hnd.length_le_of_subset (l₂ := (List.range n).filter q) fun x hx => by
      rcases List.mem_cons.1 hx with rfl | hx
      · rw [List.mem_filter]; exact ⟨by simpa using hi, hq⟩
      · rw [List.mem_filter] at hx ⊢
        exact ⟨hx.1, h x (by simpa using hx.1) hx.2⟩
    simp only [List.length_cons] at this
    omega
theorem pos_neg1 (hL : OkL n L) {i : Nat} (hi : i < n) : pos (L i) (-1) = (L i).length := pos_neg hL hi
theorem rural_best (hL : OkL n L) (hR : OkL n R) {F M : Nat → Int} (hF : Stab n L R F) (hM : Stab n L R M) (hleft : ∀ i, i < n → pos (L i) (F i) ≤ pos (L i) (M i)) : (∀ i, i < n → (0 ≤ F i ↔ 0 ≤ M i)) ∧ ∀ j, j < n → (Tk n F j ↔ Tk n M j) := by
  classical
  have h1 : ∀ i, i < n → 0 ≤ M i → 0 ≤ F i := fun i hi h0 => by
    obtain ⟨j, hj⟩ := Int.eq_ofNat_of_zero_le h0
    have ha := (rkI_lt (hL.len i hi)).1 (hM.acc i hi j hj).1
    rw [← hj] at ha
    have := hleft i hi
    have hlt : pos (L i) (F i) < (L i).length := by omega
    have hat := pos_at hlt
    have := hL.inn i hi _ hlt
    omega
  have h2 : ∀ j, j < n → Tk n F j → Tk n M j := fun j hj ⟨i, hi, hFi⟩ => by
    by_cases ht : Tk n M j
    · exact ht
    · have hb := best_right hL hR hF hM hleft hj (o := i) (o' := -1) (.inr ⟨i, hi, rfl, hFi⟩) (.inl ⟨rfl, fun i' hi' e => ht ⟨i', hi', e⟩⟩)
      rw [pos_neg hR hj] at hb
      have := (rkI_lt (hR.len j hj)).1 (hF.acc i hi j hFi).2
      omega
  have hle1 : (lefts n M).length ≤ (lefts n F).length := by
    refine (List.nodup_range.sublist List.filter_sublist : (lefts n M).Nodup).length_le_of_subset fun x hx => ?_
    simp only [lefts, List.mem_filter, List.mem_range, decide_eq_true_eq] at hx ⊢
    exact ⟨hx.1, h1 x hx.1 hx.2⟩
  have hle2 : (rights n F).length ≤ (rights n M).length := by
    refine (List.nodup_range.sublist List.filter_sublist : (rights n F).Nodup).length_le_of_subset fun x hx => ?_
    simp only [rights, List.mem_filter, List.mem_range, decide_eq_true_eq] at hx ⊢
    exact ⟨hx.1, h2 x hx.1 hx.2⟩
  have e1 := lefts_rights hF.ok
  have e2 := lefts_rights hM.ok
  refine ⟨fun i hi => ⟨fun h => ?_, h1 i hi⟩, fun j hj => ⟨h2 j hj, fun h => ?_⟩⟩
  · have := filter_eq_of (n := n) (p := fun i => decide (0 ≤ M i)) (q := fun i => decide (0 ≤ F i)) (fun i hi h => by simpa using h1 i hi (by simpa using h)) (by unfold lefts rights at *; omega) i hi (by simpa using h)
    simpa using this
  · have := filter_eq_of (n := n) (p := fun j => decide (Tk n F j)) (q := fun j => decide (Tk n M j)) (fun j hj h => by simpa using h2 j hj (by simpa using h)) (by unfold lefts rights at *; omega) j hj (by simpa using h)
    simpa using this
/-- who is left over in one that holds is so in all -/
theorem rural (hL : OkL n L) (hR : OkL n R) {M M' : Nat → Int} (hM : Stab n L R M) (hM' : Stab n L R M') : (∀ i, i < n → (0 ≤ M i ↔ 0 ≤ M' i)) ∧ ∀ j, j < n → (Tk n M j ↔ Tk n M' j) := by
  obtain ⟨F, hF, hb⟩ := gs_exists hL hR
  have h1 := rural_best hL hR hF hM (hb M hM)
  have h2 := rural_best hL hR hF hM' (hb M' hM')
  exact ⟨fun i hi => (h1.1 i hi).symm.trans (h2.1 i hi), fun j hj => (h1.2 j hj).symm.trans (h2.2 j hj)⟩

/-- the better one of both -/
def better (L : Nat → List Int) (M M' : Nat → Int) (i : Nat) : Int := if pos (L i) (M' i) < pos (L i) (M i) then M' i else M i
/-- who has j in the one that the other left it for: two cannot both -/
theorem cross (hL : OkL n L) (hR : OkL n R) {M M' : Nat → Int} (hM : Stab n L R M) (hM' : Stab n L R M') {i i' j : Nat} (hi : i < n) (hi' : i' < n) (h : M i = j) (h' : M' i' = j) (h1 : pos (L i) j ≤ pos (L i) (M' i)) (h2 : pos (L i') j ≤ pos (L i') (M i')) : i = i' := by
  refine Classical.byContradiction fun hne => ?_
  have hjn : j < n := by have := (hM.ok.1 i hi).2; omega
  have ha := hM.acc i hi j h
  have ha' := hM'.acc i' hi' j h'
  have hp := (rkI_lt (hL.len i hi)).1 ha.1
  have hp' := (rkI_lt (hL.len i' hi')).1 ha'.1
  have hd : M' i ≠ j := fun e => hne (hM'.ok.2 i i' hi hi' (by rw [e, h']) (by omega))
  have hd' : M i' ≠ j := fun e => hne (hM.ok.2 i i' hi hi' (by rw [e, h]) (by omega))
  obtain ⟨b, b1, b2, b3⟩ := hM'.nob i hi _ hp (fun q hq e => by
    by_cases hqp : q = pos (L i) j
    · subst hqp; rw [pos_at hp] at e; exact hd e.symm
    · exact pos_not (show q < pos (L i) (M' i) by omega) e) j (pos_at hp) ha.2
  obtain ⟨b', c1, c2, c3⟩ := hM.nob i' hi' _ hp' (fun q hq e => by
    by_cases hqp : q = pos (L i') j
    · subst hqp; rw [pos_at hp'] at e; exact hd' e.symm
    · exact pos_not (show q < pos (L i') (M i') by omega) e) j (pos_at hp') ha'.2
  have e1 := hM'.ok.2 b i' b1 hi' (by rw [b2, h']) (by omega)
  have e2 := hM.ok.2 b' i c1 hi (by rw [c2, h]) (by omega)
  subst e1 e2
  have := rkI_inj (hR.len j hjn) (show rkI (R j) b = rkI (R j) b' by omega) ha'.2
  omega
theorem better_le (L : Nat → List Int) (M M' : Nat → Int) (i : Nat) : pos (L i) (better L M M' i) ≤ pos (L i) (M i) ∧ pos (L i) (better L M M' i) ≤ pos (L i) (M' i) := by
  unfold better
  split <;> omega
theorem better_ok (hL : OkL n L) (hR : OkL n R) {M M' : Nat → Int} (hM : Stab n L R M) (hM' : Stab n L R M') : OkM n (better L M M') := by
  refine ⟨fun i hi => ?_, fun i i' hi hi' e h0 => ?_⟩
  · unfold better
    split
    · exact hM'.ok.1 i hi
    · exact hM.ok.1 i hi
  · obtain ⟨j, hj⟩ := Int.eq_ofNat_of_zero_le h0
    have hj' := e ▸ hj
    unfold better at hj hj'
    by_cases c : pos (L i) (M' i) < pos (L i) (M i)
    · rw [if_pos c] at hj
      by_cases c' : pos (L i') (M' i') < pos (L i') (M i')
      · rw [if_pos c'] at hj'
        exact hM'.ok.2 i i' hi hi' (by rw [hj, hj']) (by omega)
      · rw [if_neg c'] at hj'
        exact (cross hL hR hM hM' hi' hi hj' hj (by rw [← hj']; omega) (by rw [← hj]; omega)).symm
    · rw [if_neg c] at hj
      by_cases c' : pos (L i') (M' i') < pos (L i') (M i')
      · rw [if_pos c'] at hj'
        exact cross hL hR hM hM' hi hi' hj hj' (by rw [← hj]; omega) (by rw [← hj']; omega)
      · rw [if_neg c'] at hj'
        exact hM.ok.2 i i' hi hi' (by rw [hj, hj']) (by omega)
/-- who has j in M and would rather have another one in M': then j is had in M' by one who would, too: which cannot be where that one would not -/
theorem swap_on (hL : OkL n L) (hR : OkL n R) {M M' : Nat → Int} (hM : Stab n L R M) (hM' : Stab n L R M') {a : Nat} (ha : a < n) (hS : pos (L a) (M' a) < pos (L a) (M a)) : ∃ b, b < n ∧ M b = M' a ∧ 0 ≤ M' a ∧ pos (L b) (M' b) < pos (L b) (M b) := by
  have hlt : pos (L a) (M' a) < (L a).length := by have := pos_le (L a) (M a); omega
  have hat := pos_at hlt
  have hin := hL.inn a ha _ hlt
  obtain ⟨j, hj⟩ := Int.eq_ofNat_of_zero_le (show 0 ≤ M' a by omega)
  rw [hj] at hlt hat
  have hjn : j < n := by have := (hM'.ok.1 a ha).2; omega
  obtain ⟨b, b1, b2, b3⟩ := hM.nob a ha _ hlt (fun q hq e => by
    exact pos_not (show q < pos (L a) (M a) by rw [hj] at hS; omega) e) j hat (hM'.acc a ha j hj).2
  refine ⟨b, b1, by rw [b2, hj], by omega, ?_⟩
  refine Classical.byContradiction fun hno => ?_
  have := cross hL hR hM hM' b1 ha b2 hj (by rw [← b2]; omega) (by rw [← hj]; omega)
  subst this
  rw [b2, hj] at hS
  omega
theorem swap_back (hL : OkL n L) (hR : OkL n R) {M M' : Nat → Int} (hM : Stab n L R M) (hM' : Stab n L R M') {b : Nat} (hb : b < n) (hS : pos (L b) (M' b) < pos (L b) (M b)) : ∃ a, a < n ∧ pos (L a) (M' a) < pos (L a) (M a) ∧ M' a = M b := by
  classical
  obtain ⟨S, hSd⟩ : ∃ S, S = (List.range n).filter fun a => decide (pos (L a) (M' a) < pos (L a) (M a)) := ⟨_, rfl⟩
  have hmem : ∀ a, a ∈ S ↔ a < n ∧ pos (L a) (M' a) < pos (L a) (M a) := fun a => by rw [hSd, List.mem_filter, List.mem_range, decide_eq_true_eq]
  have hnd : S.Nodup := by rw [hSd]; exact List.nodup_range.sublist List.filter_sublist
  have hch : ∀ a, ∃ b, (a < n ∧ pos (L a) (M' a) < pos (L a) (M a)) → (b < n ∧ M b = M' a ∧ 0 ≤ M' a ∧ pos (L b) (M' b) < pos (L b) (M b)) := fun a => by
    by_cases h : a < n ∧ pos (L a) (M' a) < pos (L a) (M a)
    · obtain ⟨b, hb⟩ := swap_on hL hR hM hM' h.1 h.2
      exact ⟨b, fun _ => hb⟩
    · exact ⟨0, fun h' => absurd h' h⟩
  obtain ⟨φ, hφ⟩ := Classical.axiomOfChoice hch
  refine Classical.byContradiction fun hno => ?_
  have hnd2 : (b :: S.map φ).Nodup := by
    rw [List.nodup_cons]
    refine ⟨fun hm => ?_, nodup_map_inj hnd fun x hx y hy e => ?_⟩
    · obtain ⟨a, ha, e⟩ := List.mem_map.1 hm
      have h1 := (hmem a).1 ha
      have h2 := hφ a h1
      rw [e] at h2
      exact hno ⟨a, h1.1, h1.2, h2.2.1.symm⟩
    · have h1 := (hmem x).1 hx
      have h2 := (hmem y).1 hy
      have q1 := hφ x h1
      have q2 := hφ y h2
      rw [e] at q1
      exact hM'.ok.2 x y h1.1 h2.1 (by rw [← q1.2.1, ← q2.2.1]) q1.2.2.1
  have := hnd2.length_le_of_subset (l₂ := S) fun x hx => by
    rcases List.mem_cons.1 hx with rfl | hx
    · exact (hmem x).2 ⟨hb, hS⟩
    · obtain ⟨a, ha, rfl⟩ := List.mem_map.1 hx
      have h2 := hφ a ((hmem a).1 ha)
      exact (hmem _).2 ⟨h2.1, h2.2.2.2⟩
  simp at this
  omega
theorem better_stab (hL : OkL n L) (hR : OkL n R) {M M' : Nat → Int} (hM : Stab n L R M) (hM' : Stab n L R M') : Stab n L R (better L M M') where
  ok := better_ok hL hR hM hM'
  acc := fun i hi j hj => by
    unfold better at hj
    split at hj
    · exact hM'.acc i hi j hj
    · exact hM.acc i hi j hj
  nob := fun i hi p hp hq j hj h8 => by
    have hle := better_le L M M' i
    have hpb : p < pos (L i) (better L M M' i) := by
      rcases Nat.lt_or_ge p (pos (L i) (better L M M' i)) with h | h
      · exact h
      · exact absurd (pos_at (by omega)) (hq _ h)
    obtain ⟨a, a1, a2, a3⟩ := hM.nob i hi p hp (fun q hq' => pos_not (by omega)) j hj h8
    obtain ⟨b, b1, b2, b3⟩ := hM'.nob i hi p hp (fun q hq' => pos_not (by omega)) j hj h8
    by_cases ca : pos (L a) (M' a) < pos (L a) (M a)
    · by_cases cb : pos (L b) (M' b) < pos (L b) (M b)
      · exact ⟨b, b1, by unfold better; rw [if_pos cb]; exact b2, b3⟩
      · obtain ⟨x, x1, x2, x3⟩ := swap_back hL hR hM hM' a1 ca
        have : x = b := hM'.ok.2 x b x1 b1 (by rw [x3, a2, b2]) (by rw [x3, a2]; omega)
        subst this
        exact absurd x2 cb
    · exact ⟨a, a1, by unfold better; rw [if_neg ca]; exact a2, a3⟩
end
end Go.Proofs.Ytcmefjfhcdedjaa
