/- Some set of services lacks just as much room as are left over. No program in sight. -/
import Derived.Test.YticffbcbfgboeaaTopMoreLaw
import Derived.Test.YticffbcbfgboeaaHallCore
namespace Go.Proofs.Yticffbcbfgboeaa
open Go.RowKit Go.Shelf

def lsum {α : Type} (F : α → Int) : List α → Int
  | [] => 0
  | x :: l => F x + lsum F l
theorem lsum_app {α : Type} (F : α → Int) : ∀ a b : List α, lsum F (a ++ b) = lsum F a + lsum F b
  | [], b => by simp [lsum]
  | x :: a, b => by rw [List.cons_append, lsum, lsum_app F a b, lsum]; omega
theorem lsum_rep {α : Type} (F : α → Int) (x : α) : ∀ n : Nat, lsum F (List.replicate n x) = n * F x
  | 0 => by simp [lsum]
  | n + 1 => by
    rw [List.replicate_succ, lsum, lsum_rep F x n]
    have : ((n + 1 : Nat) : Int) = (n : Int) + 1 := by omega
    rw [this, Int.add_mul, Int.one_mul]; omega
theorem sm_lsum {α : Type} (F : α → Int) (d : α) : ∀ l : List α, sm l.length (fun m => F (l.getD m d)) = lsum F l
  | [] => rfl
  | x :: l => by
    rw [List.length_cons, sm_head, lsum, ← sm_lsum F d l]
    congr 1
/-- whose each task is -/
def svTo (wants : List Int) (k : Nat) : List Nat := (List.range k).flatMap fun s => List.replicate (wants.getD s 0).toNat s
theorem svTo_succ (wants : List Int) (k : Nat) : svTo wants (k + 1) = svTo wants k ++ List.replicate (wants.getD k 0).toNat k := by
  unfold svTo
  rw [List.range_succ, List.flatMap_append]
  simp
theorem svTo_map (ss : List Nat) (wants : List Int) : ∀ k, (svTo wants k).map (fun i => ss.getD i 0) = wantTo ss wants k
  | 0 => rfl
  | k + 1 => by rw [svTo_succ, List.map_append, svTo_map ss wants k, List.map_replicate, wantTo_succ]
theorem svTo_mem {wants : List Int} {i : Nat} : ∀ {k : Nat}, i ∈ svTo wants k ↔ i < k ∧ 0 < wants.getD i 0
  | 0 => by simp [svTo]
  | k + 1 => by
    rw [svTo_succ, List.mem_append, svTo_mem (k := k), List.mem_replicate]
    constructor
    · rintro (⟨h1, h2⟩ | ⟨h1, rfl⟩)
      · exact ⟨by omega, h2⟩
      · exact ⟨by omega, by omega⟩
    · rintro ⟨h1, h2⟩
      by_cases e : i = k
      · subst e; exact .inr ⟨by omega, rfl⟩
      · exact .inl ⟨by omega, h2⟩
theorem svTo_sum (F : Nat → Int) (wants : List Int) : ∀ k, (∀ j, j < k → 0 ≤ wants.getD j 0) → lsum F (svTo wants k) = sumTo (fun i => wants.getD i 0 * F i) k
  | 0, _ => rfl
  | k + 1, h => by
    have h1 := h k (by omega)
    rw [svTo_succ, lsum_app, svTo_sum F wants k (fun j hj => h j (by omega)), lsum_rep, sumTo]
    rw [Int.toNat_of_nonneg h1]
/-- may one who has h do any that is wanted of the services in s? -/
def someB (ss : List Nat) (wants : List Int) (s : Nat) (h : Int) : Nat → Bool
  | 0 => false
  | k + 1 => someB ss wants s h k || (s.testBit k && decide (0 < wants.getD k 0) && mayI h (ss.getD k 0 : Nat))
theorem someB_iff {ss : List Nat} {wants : List Int} {s : Nat} {h : Int} : ∀ {k : Nat}, someB ss wants s h k = true ↔ ∃ i, i < k ∧ s.testBit i = true ∧ 0 < wants.getD i 0 ∧ mayI h (ss.getD i 0 : Nat) = true
  | 0 => by simp [someB]
  | k + 1 => by
    rw [someB, Bool.or_eq_true, someB_iff (k := k), Bool.and_eq_true, Bool.and_eq_true, decide_eq_true_eq]
    constructor
    · rintro (⟨i, h1, h2⟩ | ⟨⟨h1, h2⟩, h3⟩)
      · exact ⟨i, by omega, h2⟩
      · exact ⟨k, by omega, h1, h2, h3⟩
    · rintro ⟨i, h1, h2, h3, h4⟩
      by_cases e : i = k
      · subst e; exact .inr ⟨⟨h2, h3⟩, h4⟩
      · exact .inl ⟨i, by omega, h2, h3, h4⟩
/-- what a set of services lacks -/
def lackS (ws : List (Int × Int)) (ss : List Nat) (wants : List Int) (s ns : Nat) : Int :=
  sumTo (fun i => if s.testBit i then wants.getD i 0 else 0) ns - sm ws.length fun j => if someB ss wants s (wat ws j).2 ns then rms ws j else 0
section
variable {ws : List (Int × Int)} {ss : List Nat} {wants : List Int} {ns : Nat}
/-- the tasks of a set of services -/
def maskS (wants : List Int) (ns s : Nat) : Nat := setOf (svTo wants ns).length fun m => s.testBit ((svTo wants ns).getD m 0)
theorem wt_get (ss : List Nat) (m : Nat) (hm : m < (svTo wants ns).length) : (wantTo ss wants ns).getD m 0 = ss.getD ((svTo wants ns).getD m 0) 0 := by
  rw [← svTo_map]
  simp only [List.getD, List.getElem?_map, List.getElem?_eq_getElem hm, Option.map_some, Option.getD_some]
theorem sv_at {m : Nat} (hm : m < (svTo wants ns).length) : (svTo wants ns).getD m 0 < ns ∧ 0 < wants.getD ((svTo wants ns).getD m 0) 0 := by
  have : (svTo wants ns).getD m 0 ∈ svTo wants ns := by
    simp only [List.getD, List.getElem?_eq_getElem hm, Option.getD_some]
    exact List.getElem_mem hm
  exact svTo_mem.1 this
theorem any_some (s j : Nat) : anyT ws (wantTo ss wants ns) (maskS wants ns s) j (svTo wants ns).length = someB ss wants s (wat ws j).2 ns := by
  have e : anyT ws (wantTo ss wants ns) (maskS wants ns s) j (svTo wants ns).length = true ↔ someB ss wants s (wat ws j).2 ns = true := by
    constructor
    · intro h
      obtain ⟨m, hm, h1, h2⟩ := anyT_ex h
      unfold maskS at h1
      rw [setOf_bit, decide_eq_true hm, Bool.true_and] at h1
      rw [wt_get ss m hm] at h2
      exact someB_iff.2 ⟨_, (sv_at hm).1, h1, (sv_at hm).2, h2⟩
    · intro h
      obtain ⟨i, hi, h1, h2, h3⟩ := someB_iff.1 h
      obtain ⟨m, hm, e⟩ := List.mem_iff_getElem.1 (svTo_mem.2 ⟨hi, h2⟩)
      have e' : (svTo wants ns).getD m 0 = i := by simp only [List.getD, List.getElem?_eq_getElem hm, Option.getD_some]; exact e
      refine anyT_of (i := m) ?_ ?_ _ hm
      · unfold maskS
        rw [setOf_bit, decide_eq_true hm, Bool.true_and, e']; exact h1
      · rw [wt_get ss m hm, e']; exact h3
  cases h1 : someB ss wants s (wat ws j).2 ns
  · cases h2 : anyT ws (wantTo ss wants ns) (maskS wants ns s) j (svTo wants ns).length
    · rfl
    · rw [h2, h1] at e; exact absurd (e.1 rfl) (by simp)
  · exact e.2 h1
theorem sv_len : (wantTo ss wants ns).length = (svTo wants ns).length := by rw [← svTo_map, List.length_map]
theorem lackI_S (h0 : ∀ j, j < ns → 0 ≤ wants.getD j 0) (h12 : (svTo wants ns).length ≤ 12) (s : Nat) : lackI ws (wantTo ss wants ns) (maskS wants ns s) ws.length = lackS ws ss wants s ns := by
  have hlt : maskS wants ns s < 2 ^ (svTo wants ns).length := setOf_lt _ _
  rw [lackI_sm, show (32 : Nat) = (svTo wants ns).length + (32 - (svTo wants ns).length) by omega, popc_up hlt, popc_sm, sv_len]
  unfold lackS
  have e1 : (sm (svTo wants ns).length fun m => if (maskS wants ns s).testBit m then (1 : Int) else 0) = sumTo (fun i => if s.testBit i then wants.getD i 0 else 0) ns := by
    have e2 : (sm (svTo wants ns).length fun m => if (maskS wants ns s).testBit m then (1 : Int) else 0) = sm (svTo wants ns).length fun m => (fun i => if s.testBit i then (1 : Int) else 0) ((svTo wants ns).getD m 0) := sm_congr fun m hm => by
      unfold maskS
      rw [setOf_bit, decide_eq_true hm, Bool.true_and]
    rw [e2, sm_lsum (fun i => if s.testBit i then (1 : Int) else 0) 0, svTo_sum _ _ _ h0]
    exact sumTo_congr fun i _ => by
      cases s.testBit i <;> simp
  rw [e1]
  congr 1
  exact sm_congr fun j _ => by rw [any_some]
/-- no set of services lacks more than are left over -/
theorem top_le {l : List Int} (h0 : ∀ j, j < ns → 0 ≤ wants.getD j 0) (h12 : (svTo wants ns).length ≤ 12) (hp : PlG ws (wantTo ss wants ns) l) (s : Nat) : lackS ws ss wants s ns ≤ (svTo wants ns).length - cntL l (svTo wants ns).length := by
  have h1 := lack_le (s := maskS wants ns s) hp (by rw [sv_len]; exact setOf_lt _ _) (by rw [sv_len]; exact h12)
  rw [lackI_S h0 h12, sv_len] at h1
  exact h1
/-- some set lacks as much -/
theorem top_ge {K : Int} (h0 : ∀ j, j < ns → 0 ≤ wants.getD j 0) (h12 : (svTo wants ns).length ≤ 12) (hr : ∀ j, j < ws.length → 0 ≤ rms ws j ∧ rms ws j ≤ 12) (hK : MaxPl (PDm ws (wantTo ss wants ns) (rms ws)) K) : ∃ s, s < 2 ^ ns ∧ ((svTo wants ns).length : Int) - K ≤ lackS ws ss wants s ns := by
  obtain ⟨M, hM, hle⟩ := hall_set hr (by rw [sv_len]; exact h12) hK
  rw [sv_len] at hle hM
  obtain ⟨p, hp⟩ : ∃ p : Nat → Bool, p = fun i => decide (∃ m, m < (svTo wants ns).length ∧ M.testBit m = true ∧ (svTo wants ns).getD m 0 = i) := ⟨_, rfl⟩
  refine ⟨setOf ns p, setOf_lt _ _, Int.le_trans hle ?_⟩
  rw [← lackI_S h0 h12 (setOf ns p)]
  have hlt : maskS wants ns (setOf ns p) < 2 ^ (svTo wants ns).length := setOf_lt _ _
  rw [lackI_sm, lackI_sm, show (32 : Nat) = (svTo wants ns).length + (32 - (svTo wants ns).length) by omega, popc_up hlt, popc_up hM, popc_sm, popc_sm, sv_len]
  have e1 : (sm (svTo wants ns).length fun m => if M.testBit m then (1 : Int) else 0) ≤ sm (svTo wants ns).length fun m => if (maskS wants ns (setOf ns p)).testBit m then (1 : Int) else 0 := sm_le fun m hm => by
    cases hb : M.testBit m
    · rw [if_neg (by simp)]; split <;> omega
    · have : (maskS wants ns (setOf ns p)).testBit m = true := by
        unfold maskS
        rw [setOf_bit, decide_eq_true hm, Bool.true_and, setOf_bit, decide_eq_true (sv_at hm).1, Bool.true_and, hp]
        exact decide_eq_true ⟨m, hm, hb, rfl⟩
      rw [this, if_pos rfl]
      exact Int.le_refl _
  have e2 : (sm ws.length fun j => if anyT ws (wantTo ss wants ns) (maskS wants ns (setOf ns p)) j (svTo wants ns).length then rms ws j else 0) ≤ sm ws.length fun j => if anyT ws (wantTo ss wants ns) M j (svTo wants ns).length then rms ws j else 0 := sm_le fun j hj => by
    have h1 := (hr j hj).1
    by_cases ha : anyT ws (wantTo ss wants ns) (maskS wants ns (setOf ns p)) j (svTo wants ns).length = true
    · have : anyT ws (wantTo ss wants ns) M j (svTo wants ns).length = true := by
        obtain ⟨m, hm, h2, h3⟩ := anyT_ex ha
        unfold maskS at h2
        rw [setOf_bit, decide_eq_true hm, Bool.true_and, setOf_bit, hp] at h2
        simp only [Bool.and_eq_true, decide_eq_true_eq] at h2
        obtain ⟨_, m', hm', h4, h5⟩ := h2
        rw [wt_get ss m hm, ← h5, ← wt_get ss m' hm'] at h3
        exact anyT_of h4 h3 _ hm'
      rw [if_pos ha, if_pos this]
      exact Int.le_refl _
    · rw [if_neg ha]; split <;> omega
  omega
end
/-- those who are in -/
def inTo (ws : List (Int × Int)) (inn : Nat) : Nat → List (Int × Int)
  | 0 => []
  | k + 1 => inTo ws inn k ++ if inn.testBit k then [ws.getD k (0, 0)] else []
theorem inTo_le (ws : List (Int × Int)) (inn : Nat) : ∀ k, (inTo ws inn k).length ≤ k
  | 0 => Nat.le_refl _
  | k + 1 => by
    have := inTo_le ws inn k
    rw [inTo, List.length_append]
    split <;> simp <;> omega
theorem inTo_mem {ws : List (Int × Int)} {inn : Nat} {c : Int × Int} : ∀ {k}, c ∈ inTo ws inn k → ∃ j, j < k ∧ c = ws.getD j (0, 0)
  | 0, h => by cases h
  | k + 1, h => by
    rw [inTo, List.mem_append] at h
    rcases h with h | h
    · obtain ⟨j, hj, e⟩ := inTo_mem h
      exact ⟨j, by omega, e⟩
    · split at h
      · exact ⟨k, by omega, by simpa using h⟩
      · cases h
def roomIf (ss : List Nat) (wants : List Int) (s ns : Nat) (c : Int × Int) : Int := if someB ss wants s c.2 ns then c.1 else 0
theorem in_sum (ws : List (Int × Int)) (ss : List Nat) (wants : List Int) (inn s ns : Nat) : lsum (roomIf ss wants s ns) (inTo ws inn ws.length) = sm (nowW ws inn).length fun j => if someB ss wants s (wat (nowW ws inn) j).2 ns then rms (nowW ws inn) j else 0 := by
  have h1 : ∀ k, lsum (roomIf ss wants s ns) (inTo ws inn k) = sm k fun j => if inn.testBit j then roomIf ss wants s ns (ws.getD j (0, 0)) else 0 := by
    intro k
    induction k with
    | zero => rfl
    | succ k ih =>
      rw [inTo, lsum_app, ih, sm]
      cases inn.testBit k <;> simp [lsum]
  rw [h1, nowW_length]
  refine sm_congr fun j hj => ?_
  have hat : wat (nowW ws inn) j = if inn.testBit j then ws.getD j (0, 0) else (0, (ws.getD j (0, 0)).2) := by
    unfold wat nowW
    simp only [List.getD, List.getElem?_map, List.getElem?_range hj, Option.map_some, Option.getD_some]
  unfold rms roomIf
  rw [hat]
  cases inn.testBit j
  · simp
  · rfl
theorem top_most {pl : List (Int × Int) → List Nat → List Int} (hpl : ∀ (ws : List (Int × Int)) (ts : List Nat) (n : Nat) (room : Nat → Int) (t : Int) (l : List Int), n = ts.length → Gr (PDm ws ts (rms ws)) n room t l → l = pl ws ts)
    {nw ns : Nat} {ws : List (Int × Int)} {ss : List Nat} {s : CS} (hs : OkS nw ns s) (hrm : ∀ j, j < ws.length → 0 ≤ (wat ws j).1 ∧ (wat ws j).1 ≤ 12) :
    (∀ x, lackS (nowW ws s.inn) ss s.wants x ns ≤ sumTo (fun i => s.wants.getD i 0) ns - plc ns (tickF pl ws ss s)) ∧ ∃ x, x < 2 ^ ns ∧ sumTo (fun i => s.wants.getD i 0) ns - plc ns (tickF pl ws ss s) ≤ lackS (nowW ws s.inn) ss s.wants x ns := by
  have hr : ∀ j, j < (nowW ws s.inn).length → 0 ≤ rms (nowW ws s.inn) j ∧ rms (nowW ws s.inn) j ≤ 12 := fun j hj => nowW_ok (inn := s.inn) hrm (wat (nowW ws s.inn) j) (wat_mem hj)
  have hM := tick_max (ss := ss) hpl hs hrm
  have hwT : wantT ss s.wants = wantTo ss s.wants ns := by unfold wantT; rw [hs.wl]
  have hlen : ((svTo s.wants ns).length : Int) = sumTo (fun i => s.wants.getD i 0) ns := by rw [← sv_len (ss := ss)]; exact wantTo_length ss s.wants ns hs.w0
  have h12 : (svTo s.wants ns).length ≤ 12 := by have := hs.sm; omega
  rw [hwT] at hM
  obtain ⟨room, t, l, h⟩ := Gr.exists (d := PDm (nowW ws s.inn) (wantTo ss s.wants ns) (rms (nowW ws s.inn))) (fun j hj => by have := hr j hj; exact ⟨this.1, by show rms (nowW ws s.inn) j ≤ 1048576; omega⟩) _ (Nat.le_refl _)
  obtain ⟨h1, h2⟩ := h.mostK (fun j hj => by have := hr j hj; exact ⟨this.1, by show rms (nowW ws s.inn) j ≤ 1048576; omega⟩)
  have hp := h.pgi hM (fun j hj => (hr j hj).1) (Nat.le_refl _)
  have hnt : (PDm (nowW ws s.inn) (wantTo ss s.wants ns) (rms (nowW ws s.inn))).nt = (svTo s.wants ns).length := sv_len
  rw [hnt] at h1
  have hK := hM.unique h1
  rw [← hlen]
  refine ⟨fun x => ?_, ?_⟩
  · rw [hK]
    exact top_le hs.w0 h12 ⟨h2, hp.done.1⟩ x
  · exact top_ge hs.w0 h12 hr hM
end Go.Proofs.Yticffbcbfgboeaa
