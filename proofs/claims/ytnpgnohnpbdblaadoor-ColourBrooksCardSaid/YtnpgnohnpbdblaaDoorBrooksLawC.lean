/- Brooks: of a graph as its words and edges have it. No program in sight. -/
import Derived.Test.YtnpgnohnpbdblaaDoorBrooksLawB
import Derived.Test.YtnpgnohnpbdblaaDoorPaintD
import Derived.Test.YtnpgnohnpbdblaaDoorCrowdLaw
import Derived.Test.YtnpgnohnpbdblaaDoorWarsh
import Derived.Test.YtnpgnohnpbdblaaDoorLinkLaw
namespace Go.Proofs.YtnpgnohnpbdblaaDoor

theorem gbOf {N : Nat} {ns : List Nat} (g : Gr N ns) : GB N (nb ns) :=
  ⟨fun i j h => (g.ok i j h).2.2.1, fun i => by
    cases h : nb ns i i
    · rfl
    · exact absurd rfl (g.ok i i h).2.2.2, fun i j h => ⟨(g.ok i j h).1, (g.ok i j h).2.1⟩⟩
theorem col_pc {N k : Nat} {ns : List Nat} (g : Gr N ns) {c : Nat → Nat} (h : PC (nb ns) k (fun i => decide (i < N)) c) : Col ns N k fun i => (c i : Int) := fun j hj => by
  have h1 := h.1 j (by simpa using hj)
  refine ⟨by dsimp only; omega, by dsimp only; omega, fun m hm => ?_⟩
  have := h.2 j m (by simpa using hj) (by simpa using (g.ok j m hm).2.1) hm
  dsimp only; omega
theorem pc_col {N k : Nat} {ns : List Nat} {M : Nat → Int} (h : Col ns N k M) : PC (nb ns) k (fun i => decide (i < N)) fun i => (M i).toNat :=
  ⟨fun i hi => by
    have := h i (by simpa using hi)
    dsimp only; omega, fun i j hi hj hn => by
    have h1 := h i (by simpa using hi)
    have h2 := h j (by simpa using hj)
    have := h1.2.2 j hn
    dsimp only; omega⟩
/-- the most edges of the first k nodes -/
def mxK (es : List E) : Nat → Nat
  | 0 => 0
  | k + 1 => if mxK es k < degE es k then degE es k else mxK es k
theorem mxK_ge {es : List E} {i : Nat} : ∀ k, i < k → degE es i ≤ mxK es k
  | k + 1, h => by
    unfold mxK
    by_cases e : i = k
    · subst e; split <;> omega
    · have := mxK_ge (es := es) k (show i < k by omega)
      split <;> omega
theorem mxK_is {es : List E} : ∀ k, 0 < k → ∃ i, i < k ∧ degE es i = mxK es k
  | 1, _ => by
    unfold mxK
    split
    · exact ⟨0, by omega, rfl⟩
    · rename_i h
      exact ⟨0, by omega, by show degE es 0 = 0; unfold mxK at h; omega⟩
  | k + 2, _ => by
    obtain ⟨i, hi, he⟩ := mxK_is (es := es) (k + 1) (by omega)
    rw [mxK]
    split
    · exact ⟨k + 1, by omega, rfl⟩
    · exact ⟨i, by omega, he⟩
def rgK (es : List E) (k : Nat) : Bool := (List.range k).all fun i => degE es i == 2
theorem rgK_succ (es : List E) (k : Nat) : rgK es (k + 1) = (rgK es k && (degE es k == 2)) := by
  unfold rgK
  rw [List.range_succ, List.all_append]
  simp
theorem sq_nn {g : Nat → Int} : ∀ {n : Nat}, (∀ k, k < n → 0 ≤ g k) → 0 ≤ sq n g ∧ (sq n g = 0 → ∀ k, k < n → g k = 0)
  | 0, _ => ⟨Int.le_refl _, fun _ k hk => by omega⟩
  | n + 1, h => by
    obtain ⟨h1, h2⟩ := sq_nn (n := n) fun k hk => h k (by omega)
    have h3 := h n (by omega)
    rw [sq]
    refine ⟨by omega, fun e k hk => ?_⟩
    by_cases ek : k = n
    · subst ek; omega
    · exact h2 (by omega) k (by omega)
theorem sq_const (c : Int) : ∀ n : Nat, sq n (fun _ => c) = n * c
  | 0 => by simp [sq]
  | n + 1 => by rw [sq, sq_const c n, Int.natCast_add, Int.add_mul]; omega
theorem sq_at (c : Nat) : ∀ n, sq n (fun k => if k = c then 1 else 0) = if c < n then 1 else 0
  | 0 => rfl
  | n + 1 => by
    rw [sq, sq_at c n]
    by_cases h : n = c
    · subst h; simp
    · rw [if_neg h]
      by_cases h2 : c < n
      · rw [if_pos h2, if_pos (by omega)]; omega
      · rw [if_neg h2, if_neg (by omega)]; rfl
theorem sumD {N : Nat} : ∀ {es : List E}, (∀ e ∈ es, okE N e) → sq N (fun i => (degE es i : Int)) = 2 * es.length
  | [], _ => by
    rw [sq_congr (g := fun i => (degE [] i : Int)) (h := fun _ => 0) fun i _ => rfl, sq_zero]; rfl
  | e :: es, h => by
    have ih := sumD (es := es) fun d hd => h d (List.mem_cons_of_mem _ hd)
    obtain ⟨x, y, hx, hy, hxn, hyn, hne⟩ := h e (by simp)
    have e1 : (sq N fun i => (degE (e :: es) i : Int)) = sq N fun i => (degE es i : Int) + ((if i = x then 1 else 0) + (if i = y then 1 else 0)) := sq_congr fun i _ => by
      have hi : incE i e = (decide (x = i) || decide (y = i)) := by
        unfold incE
        rw [hx, hy]
        by_cases a : x = i
        · subst a; simp
        · have a' : ¬ (x : Int) = i := by omega
          by_cases b : y = i
          · subst b; simp [a]
          · have b' : ¬ (y : Int) = i := by omega
            simp [a, b, a', b']
      have hd1 : degE (e :: es) i = degE es i + if x = i ∨ y = i then 1 else 0 := by
        unfold degE
        rw [List.filter_cons, hi]
        by_cases a : x = i
        · simp [a]
        · by_cases b : y = i
          · simp [b]
          · simp [a, b]
      rw [hd1]
      by_cases a : x = i
      · have b : ¬ i = y := fun e => hne (a.trans e)
        rw [if_pos (.inl a : x = i ∨ y = i), if_pos a.symm, if_neg b]; omega
      · have a' : ¬ i = x := fun e => a e.symm
        rw [if_neg a']
        by_cases b : y = i
        · rw [if_pos (.inr b : x = i ∨ y = i), if_pos b.symm]; omega
        · rw [if_neg (fun h => h.elim a b : ¬ (x = i ∨ y = i)), if_neg (fun e => b e.symm)]; omega
    rw [e1, sq_add, sq_add, sq_at, sq_at, if_pos hxn, if_pos hyn, ih, List.length_cons]
    omega
section
variable {N : Nat} {es : List E}
/-- all are of one part -/
def Lkd (es : List E) (N : Nat) : Prop := ∀ i j, i < N → j < N → cn es N i j
theorem closed_all (hok : ∀ e ∈ es, okE N e) (hL : Lkd es N) {C : List Nat} (hC : ∀ x ∈ C, x < N) (hne : C ≠ []) (hcl : ∀ x ∈ C, ∀ y, nb (nearW N es) x y = true → y ∈ C) : ∀ i, i < N → i ∈ C := fun i hi => by
  obtain ⟨x, hx⟩ := List.exists_mem_of_ne_nil C hne
  exact cn_least (R := fun a b => a ∈ C → b ∈ C) (fun _ h => h) (fun _ _ _ h1 h2 h => h2 (h1 h)) (fun a b hab ha => hcl a ha b (by
    show ((nearW N es).getD a 0).testBit b = true
    rw [nearW_bit es hok a b (hC a ha)]; exact hab)) N x i (hL x i (hC x hx) hi) hx
theorem deg_len (h : gchk N es = 0) {i : Nat} (hi : i < N) : (nbs N (nb (nearW N es)) i).length = degE es i := by
  obtain ⟨_, h10, _, hok, hdis⟩ := gchk_ok h
  rw [Int.toNat_natCast] at hok
  rw [← dg_deg (by omega) hok hdis hi]
  unfold nbs dg
  congr 1
  exact List.filter_congr fun j _ => nearW_bit es hok i j hi
theorem deg_out {i : Nat} (hi : ¬ i < N) (g : Gr N (nearW N es)) : (nbs N (nb (nearW N es)) i).length = 0 := by
  have : nbs N (nb (nearW N es)) i = [] := by
    unfold nbs
    rw [List.filter_eq_nil_iff]
    intro j _ hn
    exact hi (g.ok i j hn).1
  rw [this]; rfl
theorem two_half : ∀ n, n < 11 → 2 * (n * (n - 1) / 2) = n * (n - 1) := by decide
/-- with all edges, by their number; and back -/
theorem full_edges (h : gchk N es = 0) : es.length = N * (N - 1) / 2 ↔ ∀ i, i < N → degE es i = N - 1 := by
  obtain ⟨_, h10, _, hok, _⟩ := gchk_ok h
  rw [Int.toNat_natCast] at hok
  have hs := sumD hok
  have h2 := two_half N (by omega)
  have hg := gbOf (nearGr h)
  have hle : ∀ i, i < N → degE es i ≤ N - 1 := fun i hi => by
    rw [← deg_len h hi]; exact nbs_le hg i hi
  have e1 : (sq N fun i => ((N - 1 : Nat) : Int) - (degE es i : Int)) = ((N * (N - 1) : Nat) : Int) - 2 * es.length := by
    have := sq_add (fun i => ((N - 1 : Nat) : Int) - (degE es i : Int)) (fun i => (degE es i : Int)) N
    rw [hs, sq_congr (h := fun _ => ((N - 1 : Nat) : Int)) fun i _ => by omega, sq_const] at this
    rw [Int.natCast_mul]; omega
  have h3 := sq_nn (n := N) (g := fun i => ((N - 1 : Nat) : Int) - (degE es i : Int)) fun i hi => by have := hle i hi; omega
  constructor
  · intro he i hi
    have := h3.2 (by rw [e1]; omega) i hi
    have := hle i hi
    omega
  · intro he
    rw [sq_congr (h := fun _ => 0) fun i hi => by rw [he i hi]; omega, sq_zero] at e1
    omega
theorem brooks_law (h : gchk N es = 0) {k : Nat} (hk : IsChi (nearW N es) N k) :
    k ≤ mxK es N + 1 ∧ (0 < N → 1 ≤ k) ∧
    (0 < N → (es.length = N * (N - 1) / 2 ∨ rgK es N = true ∧ N % 2 = 1) → k = mxK es N + 1) ∧
    (0 < N → Lkd es N → ¬ (es.length = N * (N - 1) / 2 ∨ rgK es N = true ∧ N % 2 = 1) → k ≤ mxK es N) := by
  obtain ⟨_, h10, _, hok, _⟩ := gchk_ok h
  rw [Int.toNat_natCast] at hok
  have g := nearGr h
  have hg := gbOf g
  have hdm : ∀ i, (nbs N (nb (nearW N es)) i).length ≤ mxK es N := fun i => by
    by_cases hi : i < N
    · rw [deg_len h hi]; exact mxK_ge N hi
    · rw [deg_out hi g]; omega
  have hup : k ≤ mxK es N + 1 := by
    obtain ⟨c, hc⟩ := color_all hg (D := mxK es N + 1) (fun i => by have := hdm i; omega) N
    exact isChi_le hk (col_pc g hc)
  obtain ⟨M, hM⟩ := hk.1
  refine ⟨hup, fun h0 => ?_, fun h0 hc => ?_, fun h0 hL hno => ?_⟩
  · have := hM 0 h0; omega
  · rcases hc with hc | ⟨hr, hodd⟩
    · have hall := (full_edges h).1 hc
      have hfull := full_of hg fun i hi => by rw [deg_len h hi]; exact hall i hi
      have h1 := full_cols hfull (pc_col hM)
      obtain ⟨i, hi, he⟩ := mxK_is (es := es) N h0
      rw [hall i hi] at he
      omega
    · unfold rgK at hr
      rw [List.all_eq_true] at hr
      have h2 : ∀ i, i < N → degE es i = 2 := fun i hi => by simpa using hr i (List.mem_range.2 hi)
      obtain ⟨i, hi, he⟩ := mxK_is (es := es) N h0
      rw [h2 i hi] at he
      by_cases hk2 : k ≤ 2
      · have := even_of_two hg (fun i hi => by rw [deg_len h hi]; exact h2 i hi) (pc_col (col_mono hM hk2))
        omega
      · omega
  · have key : ∃ c, PC (nb (nearW N es)) (mxK es N) (fun i => decide (i < N)) c := by
      by_cases h3 : 3 ≤ mxK es N
      · refine brooks hg h3 hdm (szW N fun i => decide (i < N)) _ (Nat.le_refl _) (fun i hi => by simpa using hi) fun S hS hSl hSN hcl => hno (.inl ?_)
        have hSN : ∀ x ∈ S, x < N := fun x hx => by simpa using hSN x hx
        have hclosed : ∀ x ∈ S, ∀ y, nb (nearW N es) x y = true → y ∈ S := fun x hx y hn => Classical.byContradiction fun hy => by
          have h1 : (y :: S.erase x).Nodup := by
            rw [List.nodup_cons]
            exact ⟨fun hm => hy (List.mem_of_mem_erase hm), hS.erase x⟩
          have h2 := h1.length_le_of_subset (l₂ := nbs N (nb (nearW N es)) x) fun z hz => by
            rcases List.mem_cons.1 hz with rfl | hz
            · exact (mem_nbs hg).2 hn
            · have hz2 := (hS.mem_erase_iff).1 hz
              exact (mem_nbs hg).2 (hcl x hx z hz2.2 (Ne.symm hz2.1))
          rw [List.length_cons, List.length_erase_of_mem hx, hSl] at h2
          have := hdm x
          omega
        have hall := closed_all hok hL hSN (fun e => by rw [e] at hSl; simp at hSl) hclosed
        have hNl : N = mxK es N + 1 := by
          have h1 := List.nodup_range.length_le_of_subset (l₁ := List.range N) (l₂ := S) fun i hi => hall i (List.mem_range.1 hi)
          have h2 := hS.length_le_of_subset (l₂ := List.range N) fun x hx => List.mem_range.2 (hSN x hx)
          rw [List.length_range] at h1 h2
          omega
        refine (full_edges h).2 fun i hi => ?_
        have h1 := (hS.erase i).length_le_of_subset (l₂ := nbs N (nb (nearW N es)) i) fun z hz => by
          have hz2 := (hS.mem_erase_iff).1 hz
          exact (mem_nbs hg).2 (hcl i (hall i hi) z hz2.2 (Ne.symm hz2.1))
        rw [List.length_erase_of_mem (hall i hi), hSl, deg_len h hi] at h1
        have := mxK_ge (es := es) N hi
        omega
      · by_cases h2 : mxK es N = 2
        · rw [h2]
          refine brooks2 hg (fun i => by have := hdm i; omega) (szW N fun i => decide (i < N)) _ (Nat.le_refl _) (fun i hi => by simpa using hi) fun C hC hCne hCN hcl hdeg => ?_
          have hCN : ∀ x ∈ C, x < N := fun x hx => by simpa using hCN x hx
          have hall := closed_all hok hL hCN hCne hcl
          have h1 := List.nodup_range.length_le_of_subset (l₁ := List.range N) (l₂ := C) fun i hi => hall i (List.mem_range.1 hi)
          have h3 := hC.length_le_of_subset (l₂ := List.range N) fun x hx => List.mem_range.2 (hCN x hx)
          rw [List.length_range] at h1 h3
          have hr : rgK es N = true := by
            unfold rgK
            rw [List.all_eq_true]
            intro i hi
            rw [List.mem_range] at hi
            have := hdeg i (hall i hi)
            rw [deg_len h hi] at this
            simp [this]
          have : ¬ N % 2 = 1 := fun e => hno (.inr ⟨hr, e⟩)
          omega
        · exfalso
          obtain ⟨i, hi, he⟩ := mxK_is (es := es) N h0
          -- few edges: all have an edge with all others
          have hfew : ∃ C : List Nat, C ≠ [] ∧ (∀ x ∈ C, x < N) ∧ C.length = mxK es N + 1 ∧ ∀ x ∈ C, ∀ y, nb (nearW N es) x y = true → y ∈ C := by
            have hle1 : ∀ x y z, nb (nearW N es) x y = true → nb (nearW N es) x z = true → y = z := fun x y z hy hz => by
              have h1 := hdm x
              have my := (mem_nbs hg).2 hy
              have mz := (mem_nbs hg).2 hz
              match hl : nbs N (nb (nearW N es)) x with
              | [] => rw [hl] at my; cases my
              | [p] => rw [hl] at my mz; simp at my mz; omega
              | p :: q :: l => rw [hl] at h1; simp at h1; omega
            by_cases h1 : mxK es N = 0
            · refine ⟨[i], by simp, fun x hx => by simp at hx; omega, by rw [h1]; rfl, fun x _ y hn => ?_⟩
              have hm := (mem_nbs hg).2 hn
              have := List.length_pos_of_mem hm
              have := hdm x
              omega
            · have hpos : 0 < (nbs N (nb (nearW N es)) i).length := by rw [deg_len h hi]; omega
              obtain ⟨j, hj⟩ := List.exists_mem_of_length_pos hpos
              have hij := (mem_nbs hg).1 hj
              refine ⟨[i, j], by simp, fun x hx => ?_, by simp; omega, fun x hx y hn => ?_⟩
              · simp at hx
                rcases hx with rfl | rfl
                · exact hi
                · exact (g.ok i x hij).2.1
              · simp at hx ⊢
                rcases hx with rfl | rfl
                · right; exact hle1 x y j hn hij
                · left; exact hle1 x y i hn (hg.sym _ _ hij)
          obtain ⟨C, hCne, hCN, hCl, hcl⟩ := hfew
          have hall := closed_all hok hL hCN hCne hcl
          have h1 := List.nodup_range.length_le_of_subset (l₁ := List.range N) (l₂ := C) fun i hi => hall i (List.mem_range.1 hi)
          rw [List.length_range] at h1
          have hdN := nbs_le hg i hi
          rw [deg_len h hi] at hdN
          have hN : N = mxK es N + 1 := by omega
          refine hno (.inl ((full_edges h).2 fun j hj => ?_))
          -- each but one ..
          have hN2 : N = 1 ∨ N = 2 := by omega
          rcases hN2 with e | e
          · have := mxK_ge (es := es) N hj
            omega
          · -- two nodes, one edge
            have hs := sumD hok
            rw [e] at hs
            have e0 : (sq 2 fun i => (degE es i : Int)) = degE es 0 + degE es 1 := by simp [sq]
            rw [e0] at hs
            have h5 := mxK_ge (es := es) N (show 0 < N by omega)
            have h6 := mxK_ge (es := es) N (show 1 < N by omega)
            have : j = 0 ∨ j = 1 := by omega
            have : i = 0 ∨ i = 1 := by omega
            rcases ‹j = 0 ∨ j = 1› with rfl | rfl <;> rcases ‹i = 0 ∨ i = 1› with rfl | rfl <;> omega
    obtain ⟨c, hc⟩ := key
    exact isChi_le hk (col_pc g hc)
end
end Go.Proofs.YtnpgnohnpbdblaaDoor
