/- Crews: what a script does, change by change. No program in sight. -/
import Derived.Test.YticffbcbfgboeaaPlaceE
namespace Go.Proofs.Yticffbcbfgboeaa
open Go.RowKit Go.Shelf

structure CS where
  inn : Nat
  wants : List Int
  tasks : List (List Int)
abbrev Chg := Int × Int × Int
/-- the workers, those who are not in without room -/
def nowW (ws : List (Int × Int)) (inn : Nat) : List (Int × Int) := (List.range ws.length).map fun i => if inn.testBit i then ws.getD i (0, 0) else (0, (ws.getD i (0, 0)).2)
def wantTo (ss : List Nat) (wants : List Int) (k : Nat) : List Nat := (List.range k).flatMap fun s => List.replicate (wants.getD s 0).toNat (ss.getD s 0)
def wantT (ss : List Nat) (wants : List Int) : List Nat := wantTo ss wants wants.length
def deal1 (n : Int) (l : List Int) : List Int := (l.take n.toNat).filter fun j => !decide (j < 0)
def deal : List Int → List Int → List (List Int)
  | [], _ => []
  | n :: ns, l => deal1 n l :: deal ns (l.drop n.toNat)
def sumTo (f : Nat → Int) : Nat → Int
  | 0 => 0
  | k + 1 => sumTo f k + f k
/-- how many of all but one are wanted -/
def others (wants : List Int) (k : Nat) : Int := sumTo (fun s => if s = k then 0 else wants.getD s 0) wants.length
section
variable (pl : List (Int × Int) → List Nat → List Int) (ws : List (Int × Int)) (ss : List Nat)
def stepC (s : CS) (x : Chg) : Int :=
  if x.1 < 1 ∨ 4 < x.1 then 6
  else if x.1 = 4 then 0
  else if x.2.1 < 0 ∨ (if x.1 = 3 then (ss.length : Int) else ws.length) ≤ x.2.1 then 2
  else if x.1 = 3 then (if x.2.2 < 0 then 4 else if 12 - others s.wants x.2.1.toNat < x.2.2 then 1 else 0)
  else if s.inn.testBit x.2.1.toNat = decide (x.1 = 1) then 7 else 0
def tickF (s : CS) : CS := ⟨s.inn, s.wants, deal s.wants (pl (nowW ws s.inn) (wantT ss s.wants))⟩
def leaveF (s : CS) (i : Nat) : CS := ⟨s.inn &&& (4294967295 - 2 ^ i), s.wants, s.tasks.map fun l => l.filter fun j => !decide (j = (i : Int))⟩
def doneF (s : CS) (x : Chg) : CS :=
  if x.1 = 4 then tickF pl ws ss s
  else if x.1 = 3 then ⟨s.inn, s.wants.set x.2.1.toNat x.2.2, s.tasks⟩
  else if x.1 = 1 then ⟨s.inn ||| 2 ^ x.2.1.toNat, s.wants, s.tasks⟩
  else leaveF s x.2.1.toNat
def stepS (s : CS) (x : Chg) : CS := if stepC ws ss s x = 0 then doneF pl ws ss s x else s
def runS : List Chg → CS → CS
  | [], s => s
  | x :: xs, s => runS xs (stepS pl ws ss s x)
def runC : List Chg → CS → List Int
  | [], _ => []
  | x :: xs, s => stepC ws ss s x :: runC xs (stepS pl ws ss s x)
theorem runC_length : ∀ (xs : List Chg) (s : CS), (runC pl ws ss xs s).length = xs.length
  | [], _ => rfl
  | x :: xs, s => by rw [runC, List.length_cons, runC_length xs, List.length_cons]
theorem runC_take : ∀ (xs : List Chg) (k : Nat) (s : CS), runC pl ws ss (xs.take k) s = (runC pl ws ss xs s).take k
  | [], k, s => by simp [runC]
  | x :: xs, 0, s => rfl
  | x :: xs, k + 1, s => by rw [List.take_succ_cons, runC, runC_take xs k, runC, List.take_succ_cons]
theorem runS_snoc (x : Chg) : ∀ (xs : List Chg) (s : CS), runS pl ws ss (xs ++ [x]) s = stepS pl ws ss (runS pl ws ss xs s) x
  | [], _ => rfl
  | y :: xs, s => by rw [List.cons_append, runS, runS_snoc x xs, runS]
theorem runC_snoc (x : Chg) : ∀ (xs : List Chg) (s : CS), runC pl ws ss (xs ++ [x]) s = runC pl ws ss xs s ++ [stepC ws ss (runS pl ws ss xs s) x]
  | [], _ => rfl
  | y :: xs, s => by rw [List.cons_append, runC, runC_snoc x xs, runC, runS]; rfl
/-- those that were done -/
def kept : List Chg → List Int → List Chg
  | x :: xs, c :: cs => if c = 0 then x :: kept xs cs else kept xs cs
  | _, _ => []
theorem kept_run : ∀ (xs : List Chg) (s : CS), runS pl ws ss (kept xs (runC pl ws ss xs s)) s = runS pl ws ss xs s
  | [], _ => rfl
  | x :: xs, s => by
    rw [runC, kept, runS]
    by_cases h : stepC ws ss s x = 0
    · rw [if_pos h, runS, kept_run xs]
    · rw [if_neg h]
      have : stepS pl ws ss s x = s := by unfold stepS; rw [if_neg h]
      rw [this, kept_run xs]
end
theorem kept_snoc (x : Chg) (c : Int) : ∀ (xs : List Chg) (cs : List Int), xs.length = cs.length → kept (xs ++ [x]) (cs ++ [c]) = kept xs cs ++ if c = 0 then [x] else []
  | [], [], _ => by simp [kept]
  | [], _ :: _, h => by simp at h
  | _ :: _, [], h => by simp at h
  | y :: xs, d :: cs, h => by
    rw [List.cons_append, List.cons_append, kept, kept_snoc x c xs cs (by simpa using h), kept]
    split <;> simp
/-- one and the same for all who ask -/
theorem exists_pl : ∃ pl : List (Int × Int) → List Nat → List Int, ∀ (ws : List (Int × Int)) (ts : List Nat) (n : Nat) (room : Nat → Int) (t : Int) (l : List Int), n = ts.length → Gr (PDm ws ts (rms ws)) n room t l → l = pl ws ts := by
  refine ⟨fun ws ts => Classical.epsilon fun l => ∃ room t, Gr (PDm ws ts (rms ws)) ts.length room t l, fun ws ts n room t l hn h => ?_⟩
  subst hn
  obtain ⟨room', t', h'⟩ := Classical.epsilon_spec (p := fun l => ∃ room t, Gr (PDm ws ts (rms ws)) ts.length room t l) ⟨l, room, t, h⟩
  exact (Gr.unique h h').2.2

/-- what holds all along -/
structure OkS (nw ns : Nat) (s : CS) : Prop where
  inn : s.inn < 2 ^ nw
  wl : s.wants.length = ns
  w0 : ∀ k, k < ns → 0 ≤ s.wants.getD k 0
  sm : sumTo (fun k => s.wants.getD k 0) ns ≤ 12
  tl : s.tasks.length = ns
  t12 : ∀ k, k < ns → (s.tasks.getD k []).length ≤ 12
theorem sumTo_le {f g : Nat → Int} : ∀ {n : Nat}, (∀ k, k < n → f k ≤ g k) → sumTo f n ≤ sumTo g n
  | 0, _ => Int.le_refl _
  | n + 1, h => by
    have h1 := sumTo_le (n := n) fun k hk => h k (by omega)
    have h2 := h n (by omega)
    rw [sumTo, sumTo]; omega
theorem sumTo_congr {f g : Nat → Int} {n : Nat} (h : ∀ k, k < n → f k = g k) : sumTo f n = sumTo g n :=
  Int.le_antisymm (sumTo_le fun k hk => Int.le_of_eq (h k hk)) (sumTo_le fun k hk => Int.le_of_eq (h k hk).symm)
theorem sumTo_nonneg {f : Nat → Int} : ∀ {n : Nat}, (∀ k, k < n → 0 ≤ f k) → 0 ≤ sumTo f n
  | 0, _ => Int.le_refl _
  | n + 1, h => by
    have h1 := sumTo_nonneg (n := n) fun k hk => h k (by omega)
    have h2 := h n (by omega)
    rw [sumTo]; omega
theorem sumTo_mono {f : Nat → Int} {n : Nat} (h : ∀ k, k < n → 0 ≤ f k) : ∀ m, m ≤ n → sumTo f m ≤ sumTo f n := by
  intro m hm
  induction n with
  | zero => obtain rfl : m = 0 := by omega
            exact Int.le_refl _
  | succ n ih =>
    by_cases e : m = n + 1
    · subst e; exact Int.le_refl _
    · have h1 := ih (fun k hk => h k (by omega)) (by omega)
      have h2 := h n (by omega)
      rw [sumTo]; omega
theorem sumTo_but {f : Nat → Int} (c : Nat) : ∀ n, sumTo f n = sumTo (fun k => if k = c then 0 else f k) n + if c < n then f c else 0
  | 0 => by simp [sumTo]
  | n + 1 => by
    rw [sumTo, sumTo, sumTo_but c n]
    by_cases e : n = c
    · subst e; simp
    · rw [if_neg e]
      by_cases h : c < n
      · rw [if_pos h, if_pos (by omega)]; omega
      · rw [if_neg h, if_neg (by omega)]; omega
theorem sumTo_term {f : Nat → Int} {n : Nat} (h : ∀ k, k < n → 0 ≤ f k) {c : Nat} (hc : c < n) : f c ≤ sumTo f n := by
  have h1 := sumTo_but (f := f) c n
  rw [if_pos hc] at h1
  have h2 : 0 ≤ sumTo (fun k => if k = c then 0 else f k) n := sumTo_nonneg fun k hk => by
    (try dsimp only); split
    · exact Int.le_refl _
    · exact h k hk
  omega
theorem OkS.others0 {nw ns : Nat} {s : CS} (h : OkS nw ns s) (c m : Nat) (hm : m ≤ ns) : 0 ≤ sumTo (fun k => if k = c then 0 else s.wants.getD k 0) m ∧ sumTo (fun k => if k = c then 0 else s.wants.getD k 0) m ≤ 12 := by
  have hp : ∀ k, k < ns → 0 ≤ (if k = c then 0 else s.wants.getD k 0) := fun k hk => by
    split
    · exact Int.le_refl _
    · exact h.w0 k hk
  refine ⟨sumTo_nonneg fun k hk => hp k (by omega), Int.le_trans (sumTo_mono hp m hm) ?_⟩
  refine Int.le_trans (sumTo_le fun k hk => ?_) h.sm
  split
  · exact h.w0 k hk
  · exact Int.le_refl _
theorem OkS.want {nw ns : Nat} {s : CS} (h : OkS nw ns s) {c : Nat} {n : Int} (hc : c < ns) (hn : 0 ≤ n) (hs : n ≤ 12 - others s.wants c) : OkS nw ns ⟨s.inn, s.wants.set c n, s.tasks⟩ := by
  have e : ∀ k, k < ns → (s.wants.set c n).getD k 0 = if k = c then n else s.wants.getD k 0 := fun k hk => by
    simp only [List.getD]
    by_cases e : k = c
    · subst e; rw [if_pos rfl, List.getElem?_set_self (by rw [h.wl]; exact hk)]; rfl
    · rw [if_neg e, List.getElem?_set_ne (Ne.symm e)]
  refine ⟨h.inn, by rw [List.length_set]; exact h.wl, fun k hk => ?_, ?_, h.tl, h.t12⟩
  · rw [e k hk]
    split
    · exact hn
    · exact h.w0 k hk
  · rw [sumTo_congr e, sumTo_but c ns, if_pos hc, if_pos rfl]
    have : sumTo (fun k => if k = c then 0 else if k = c then n else s.wants.getD k 0) ns = others s.wants c := by
      unfold others
      rw [h.wl]
      exact sumTo_congr fun k _ => by
        by_cases e : k = c <;> simp [e]
    rw [this]; omega
theorem OkS.join {nw ns : Nat} {s : CS} (h : OkS nw ns s) {i : Nat} (hi : i < nw) : OkS nw ns ⟨s.inn ||| 2 ^ i, s.wants, s.tasks⟩ :=
  ⟨Nat.or_lt_two_pow h.inn (Nat.pow_lt_pow_right (by omega) hi), h.wl, h.w0, h.sm, h.tl, h.t12⟩
theorem OkS.leave {nw ns : Nat} {s : CS} (h : OkS nw ns s) (i : Nat) : OkS nw ns (leaveF s i) :=
  ⟨Nat.lt_of_le_of_lt Nat.and_le_left h.inn, h.wl, h.w0, h.sm, by show (s.tasks.map _).length = ns; rw [List.length_map]; exact h.tl, fun k hk => by
    have h1 := h.t12 k hk
    show ((s.tasks.map _).getD k []).length ≤ 12
    simp only [List.getD, List.getElem?_map] at h1 ⊢
    cases hq : s.tasks[k]? with
    | none => simp
    | some l => rw [hq] at h1; exact Nat.le_trans (List.length_filter_le _ _) h1⟩
theorem deal_length : ∀ (ns l : List Int), (deal ns l).length = ns.length
  | [], _ => rfl
  | _ :: ns, l => by rw [deal, List.length_cons, deal_length ns, List.length_cons]
theorem deal_get : ∀ (ns l : List Int) (k : Nat), k < ns.length → (∀ j, j < ns.length → 0 ≤ ns.getD j 0) → (deal ns l).getD k [] = deal1 (ns.getD k 0) (l.drop (sumTo (fun j => ns.getD j 0) k).toNat)
  | [], _, k, hk, _ => by simp at hk
  | n :: ns, l, 0, _, _ => by simp [deal, sumTo]
  | n :: ns, l, k + 1, hk, h0 => by
    have hs : ∀ m, sumTo (fun j => (n :: ns).getD j 0) (m + 1) = n + sumTo (fun j => ns.getD j 0) m := by
      intro m
      induction m with
      | zero => simp [sumTo]
      | succ m ih => rw [sumTo, ih, sumTo]; simp; omega
    have hn : ∀ j, j < ns.length → 0 ≤ ns.getD j 0 := fun j hj => by simpa using h0 (j + 1) (by simp; omega)
    have h00 : 0 ≤ n := by simpa using h0 0 (by simp)
    have h1 : 0 ≤ sumTo (fun j => ns.getD j 0) k := sumTo_nonneg fun j hj => hn j (by simp at hk; omega)
    rw [hs, deal]
    show (deal ns (l.drop n.toNat)).getD k [] = _
    rw [deal_get ns _ k (by simpa using hk) hn, List.drop_drop]
    have : (n + sumTo (fun j => ns.getD j 0) k).toNat = n.toNat + (sumTo (fun j => ns.getD j 0) k).toNat := by omega
    rw [this]
    rfl
theorem OkS.tick {nw ns : Nat} {s : CS} {pl : List (Int × Int) → List Nat → List Int} {ws : List (Int × Int)} {ss : List Nat} (h : OkS nw ns s) : OkS nw ns (tickF pl ws ss s) :=
  ⟨h.inn, h.wl, h.w0, h.sm, by show (deal _ _).length = ns; rw [deal_length]; exact h.wl, fun k hk => by
    show ((deal _ _).getD k []).length ≤ 12
    rw [deal_get _ _ k (by rw [h.wl]; exact hk) (by rw [h.wl]; exact h.w0)]
    have h1 := sumTo_term h.w0 hk
    have h2 := h.sm
    have h3 := h.w0 k hk
    refine Nat.le_trans (List.length_filter_le _ _) ?_
    rw [List.length_take]
    omega⟩
theorem OkS.step {nw ns : Nat} {s : CS} {pl : List (Int × Int) → List Nat → List Int} {ws : List (Int × Int)} {ss : List Nat} (hw : ws.length = nw) (hs : ss.length = ns) (h : OkS nw ns s) (x : Chg) : OkS nw ns (stepS pl ws ss s x) := by
  unfold stepS
  by_cases h0 : stepC ws ss s x = 0
  · rw [if_pos h0]
    unfold doneF
    unfold stepC at h0
    by_cases h1 : x.1 < 1 ∨ 4 < x.1
    · rw [if_pos h1] at h0; cases h0
    · rw [if_neg h1] at h0
      by_cases h4 : x.1 = 4
      · rw [if_pos h4]; exact h.tick
      · rw [if_neg h4] at h0 ⊢
        by_cases h3 : x.1 = 3
        · simp only [if_pos h3] at h0 ⊢
          by_cases hr : x.2.1 < 0 ∨ (ss.length : Int) ≤ x.2.1
          · rw [if_pos hr] at h0; cases h0
          · rw [if_neg hr] at h0
            by_cases h5 : x.2.2 < 0
            · rw [if_pos h5] at h0; cases h0
            · rw [if_neg h5] at h0
              by_cases h6 : 12 - others s.wants x.2.1.toNat < x.2.2
              · rw [if_pos h6] at h0; cases h0
              · exact h.want (by omega) (by omega) (by omega)
        · simp only [if_neg h3] at h0 ⊢
          by_cases hr : x.2.1 < 0 ∨ (ws.length : Int) ≤ x.2.1
          · rw [if_pos hr] at h0; cases h0
          · by_cases h5 : x.1 = 1
            · rw [if_pos h5]; exact h.join (by omega)
            · rw [if_neg h5]; exact h.leave _
  · rw [if_neg h0]; exact h
end Go.Proofs.Yticffbcbfgboeaa
