/- Flows: the search for a way, the push along it, cuts. No program in sight. -/
import Derived.Test.YtgengjneccpaiaaNet
namespace Go.Proofs.Ytgengjneccpaiaa

def sm : Nat → (Nat → Int) → Int
  | 0, _ => 0
  | n + 1, g => sm n g + g n
theorem sm_congr {g h : Nat → Int} : ∀ {n : Nat}, (∀ k, k < n → g k = h k) → sm n g = sm n h
  | 0, _ => rfl
  | n + 1, e => by rw [sm, sm, sm_congr fun k hk => e k (by omega), e n (by omega)]
theorem sm_add (g h : Nat → Int) : ∀ n, sm n (fun k => g k + h k) = sm n g + sm n h
  | 0 => rfl
  | n + 1 => by rw [sm, sm, sm, sm_add g h n]; omega
theorem sm_zero : ∀ n, sm n (fun _ => 0) = 0
  | 0 => rfl
  | n + 1 => by rw [sm, sm_zero n]; rfl
theorem sm_le {g h : Nat → Int} : ∀ {n : Nat}, (∀ k, k < n → g k ≤ h k) → sm n g ≤ sm n h
  | 0, _ => Int.le_refl _
  | n + 1, e => by
    have := sm_le (n := n) fun k hk => e k (by omega)
    have := e n (by omega)
    rw [sm, sm]; omega
theorem sm_swap (a : Nat → Nat → Int) (m : Nat) : ∀ n, sm n (fun u => sm m fun k => a u k) = sm m fun k => sm n fun u => a u k
  | 0 => (sm_zero m).symm
  | n + 1 => by
    rw [sm, sm_swap a m n, ← sm_add]
    rfl
theorem sm_one (x : Int) (c : Nat) : ∀ n, sm n (fun u => if u = c then x else 0) = if c < n then x else 0
  | 0 => by simp [sm]
  | n + 1 => by
    rw [sm, sm_one x c n]
    by_cases h : n = c
    · subst h; simp
    · rw [if_neg h]
      by_cases h2 : c < n
      · rw [if_pos h2, if_pos (by omega)]; omega
      · rw [if_neg h2, if_neg (by omega)]; rfl
theorem sm_upd (g h : Nat → Int) (c : Nat) (x : Int) (hc : h c = g c + x) (ho : ∀ k, k ≠ c → h k = g k) : ∀ n, sm n h = sm n g + if c < n then x else 0
  | 0 => by simp [sm]
  | n + 1 => by
    rw [sm, sm, sm_upd g h c x hc ho n]
    by_cases e : n = c
    · subst e; rw [hc]; simp; omega
    · rw [ho n e]
      by_cases h2 : c < n
      · rw [if_pos h2, if_pos (by omega)]; omega
      · rw [if_neg h2, if_neg (by omega)]; omega

/-! ## nets -/
def fr (l : List Arc) (k : Nat) : Nat := (aat l k).1.toNat
def tn (l : List Arc) (k : Nat) : Nat := (aat l k).2.1.toNat
def mo (l : List Arc) (k : Nat) : Int := (aat l k).2.2.1
/-- an arc as the search sees it -/
structure NOk (N : Nat) (l : List Arc) : Prop where
  ok : ∀ a ∈ l, AOk N a
section
variable {N : Nat} {l : List Arc}
theorem NOk.at (h : NOk N l) {k : Nat} (hk : k < l.length) : fr l k < N ∧ tn l k < N ∧ fr l k ≠ tn l k ∧ 0 ≤ mo l k ∧ mo l k ≤ 1048576 ∧ (aat l k).1 = fr l k ∧ (aat l k).2.1 = tn l k := by
  obtain ⟨h1, h2, h3, h4, h5, h6, h7, _, _⟩ := h.ok _ (aat_mem hk)
  unfold fr tn mo
  refine ⟨by omega, by omega, by omega, h6, h7, by omega, by omega⟩
end
def ex (l : List Arc) (f : Nat → Int) (v : Nat) : Int := sm l.length fun k => (if v = fr l k then f k else 0) - if v = tn l k then f k else 0
def FOk (l : List Arc) (f : Nat → Int) : Prop := ∀ k, k < l.length → 0 ≤ f k ∧ f k ≤ mo l k
structure FL (N : Nat) (l : List Arc) (s t : Nat) (f : Nat → Int) (v : Int) : Prop where
  ok : FOk l f
  kp : ∀ u, u < N → u ≠ s → u ≠ t → ex l f u = 0
  vl : ex l f s = v
def capS (l : List Arc) (S : Nat → Bool) : Int := sm l.length fun k => if S (fr l k) && !S (tn l k) then mo l k else 0
def exS (l : List Arc) (f : Nat → Int) (S : Nat → Bool) : Int := sm l.length fun k => (if S (fr l k) then f k else 0) - if S (tn l k) then f k else 0
theorem sm_sel (S : Nat → Bool) (x : Int) (c n : Nat) (hc : c < n) : (sm n fun u => if S u then (if u = c then x else 0) else 0) = if S c then x else 0 := by
  rw [sm_congr (h := fun u => if u = c then (if S c then x else 0) else 0)]
  · rw [sm_one, if_pos hc]
  · intro k _
    by_cases e : k = c
    · subst e; simp
    · simp [e]
theorem exS_sum {N : Nat} {l : List Arc} (hn : NOk N l) (f : Nat → Int) (S : Nat → Bool) : exS l f S = sm N fun u => if S u then ex l f u else 0 := by
  have e : (sm N fun u => if S u then ex l f u else 0) = sm N fun u => sm l.length fun k => if S u then ((if u = fr l k then f k else 0) - if u = tn l k then f k else 0) else 0 := sm_congr fun u _ => by
    cases S u
    · simp [sm_zero]
    · simp [ex]
  rw [e, sm_swap]
  unfold exS
  refine sm_congr fun k hk => ?_
  have h := hn.at hk
  have e2 : (sm N fun u => if S u then ((if u = fr l k then f k else 0) - if u = tn l k then f k else 0) else 0) = (sm N fun u => if S u then (if u = fr l k then f k else 0) else 0) + sm N fun u => if S u then (if u = tn l k then - f k else 0) else 0 := by
    rw [← sm_add]
    refine sm_congr fun u _ => ?_
    cases S u
    · simp
    · by_cases h1 : u = tn l k <;> simp [h1] <;> omega
  rw [e2, sm_sel S _ _ _ h.1, sm_sel S _ _ _ h.2.1]
  cases S (fr l k) <;> cases S (tn l k) <;> simp <;> omega
theorem FL.sumS {N : Nat} {l : List Arc} {s t : Nat} {f : Nat → Int} {v : Int} (hn : NOk N l) (h : FL N l s t f v) {S : Nat → Bool} (hs : S s = true) (ht : S t = false) (hsN : s < N) : exS l f S = v := by
  rw [exS_sum hn, sm_congr (h := fun u => if u = s then v else 0)]
  · rw [sm_one, if_pos hsN]
  · intro u hu
    by_cases e : u = s
    · subst e; simp [hs, h.vl]
    · by_cases e2 : u = t
      · subst e2; simp [ht, e]
      · simp [e, h.kp u hu e e2]
/-- no flow is greater than what a cut lets go -/
theorem FL.le {N : Nat} {l : List Arc} {s t : Nat} {f : Nat → Int} {v : Int} (hn : NOk N l) (h : FL N l s t f v) {S : Nat → Bool} (hs : S s = true) (ht : S t = false) (hsN : s < N) : v ≤ capS l S := by
  rw [← h.sumS hn hs ht hsN]
  unfold exS capS
  refine sm_le fun k hk => ?_
  have := h.ok k hk
  cases S (fr l k) <;> cases S (tn l k) <;> simp <;> omega

/-! ## steps -/
abbrev Stp := Nat × Bool
def src (l : List Arc) (x : Stp) : Nat := if x.2 then tn l x.1 else fr l x.1
def dst (l : List Arc) (x : Stp) : Nat := if x.2 then fr l x.1 else tn l x.1
def rm (l : List Arc) (f : Nat → Int) (x : Stp) : Int := if x.2 then f x.1 else mo l x.1 - f x.1
def allS (m : Nat) : List Stp := (List.range m).flatMap fun k => [(k, false), (k, true)]
theorem mem_allS {m : Nat} {x : Stp} : x ∈ allS m ↔ x.1 < m := by
  obtain ⟨k, b⟩ := x
  unfold allS
  simp only [List.mem_flatMap, List.mem_range, List.mem_cons, Prod.mk.injEq, List.not_mem_nil, or_false]
  constructor
  · rintro ⟨j, hj, ⟨h, _⟩ | ⟨h, _⟩⟩ <;> omega
  · intro h; refine ⟨k, h, ?_⟩; cases b <;> simp
def updO (par : Nat → Option Stp) (b : Nat) (x : Stp) : Nat → Option Stp := fun u => if u = b then some x else par u
/-- the search: who was come to, in order, and by which step -/
structure BI (N : Nat) (l : List Arc) (f : Nat → Int) (s : Nat) (vis : List Nat) (par : Nat → Option Stp) : Prop where
  nd : vis.Nodup
  hd : vis[0]? = some s
  rg : ∀ v ∈ vis, v < N
  ps : par s = none
  pi : ∀ v, v ≠ s → ((par v).isSome = true ↔ v ∈ vis)
  tr : ∀ i v x, vis[i]? = some v → par v = some x → x.1 < l.length ∧ 0 < rm l f x ∧ dst l x = v ∧ ∃ (j u : Nat), j < i ∧ vis[j]? = some u ∧ src l x = u
section
variable {N : Nat} {l : List Arc} {f : Nat → Int} {s t : Nat} {vis : List Nat} {par : Nat → Option Stp}
theorem BI.start (hs : s < N) : BI N l f s [s] fun _ => none :=
  ⟨by simp, rfl, by simpa using hs, rfl, fun v hv => by simp [hv], fun i v x _ h => by cases h⟩
theorem BI.add (h : BI N l f s vis par) (hn : NOk N l) {x : Stp} (hx : x.1 < l.length) (hr : 0 < rm l f x) {q : Nat} (hq : vis[q]? = some (src l x)) (hs : dst l x ≠ s) (hno : par (dst l x) = none) :
    BI N l f s (vis ++ [dst l x]) (updO par (dst l x) x) := by
  have hnv : dst l x ∉ vis := fun hm => by have := (h.pi _ hs).2 hm; rw [hno] at this; cases this
  have hlt := (List.getElem?_eq_some_iff.1 hq).1
  have h0 := (List.getElem?_eq_some_iff.1 h.hd).1
  refine ⟨?_, ?_, ?_, ?_, ?_, ?_⟩
  · rw [List.nodup_append]
    refine ⟨h.nd, by simp, fun a ha b hb e => ?_⟩
    rw [List.mem_singleton] at hb
    subst hb; subst e; exact hnv ha
  · rw [List.getElem?_append_left h0]; exact h.hd
  · intro v hv
    rcases List.mem_append.1 hv with hv | hv
    · exact h.rg v hv
    · rw [List.mem_singleton] at hv; subst hv
      have := hn.at hx
      unfold dst; split
      · exact this.1
      · exact this.2.1
  · unfold updO; rw [if_neg (Ne.symm hs)]; exact h.ps
  · intro v hv
    unfold updO
    rw [List.mem_append, List.mem_singleton]
    by_cases e : v = dst l x
    · simp [e]
    · rw [if_neg e, h.pi v hv]; simp [e]
  · intro i v y hi hy
    have up : ∀ {j u}, vis[j]? = some u → (vis ++ [dst l x])[j]? = some u := fun hj => by
      rw [List.getElem?_append_left (List.getElem?_eq_some_iff.1 hj).1]; exact hj
    unfold updO at hy
    by_cases e : v = dst l x
    · rw [if_pos e] at hy
      cases hy
      refine ⟨hx, hr, e.symm, q, _, ?_, up hq, rfl⟩
      rcases Nat.lt_or_ge i vis.length with hi2 | hi2
      · rw [List.getElem?_append_left hi2] at hi
        exact absurd (List.mem_of_getElem? hi) (by rw [e]; exact hnv)
      · omega
    · rw [if_neg e] at hy
      have hi2 : i < vis.length := by
        rcases Nat.lt_or_ge i vis.length with hi2 | hi2
        · exact hi2
        · rw [List.getElem?_append_right hi2] at hi
          have := List.mem_of_getElem? hi
          simp at this; exact absurd this e
      rw [List.getElem?_append_left hi2] at hi
      obtain ⟨a, b, c, j, u, h1, h2, h3⟩ := h.tr i v y hi hy
      exact ⟨a, b, c, j, u, h1, up h2, h3⟩
theorem BI.len (h : BI N l f s vis par) : vis.length ≤ N := by
  have := h.nd.length_le_of_subset (l₂ := List.range N) fun v hv => List.mem_range.2 (h.rg v hv)
  simpa using this
/-- all steps from the first q lead to those that were come to -/
def Cld (l : List Arc) (f : Nat → Int) (vis : List Nat) (q : Nat) : Prop := ∀ i u x, i < q → vis[i]? = some u → x.1 < l.length → src l x = u → 0 < rm l f x → dst l x ∈ vis
/-- of the node q, those steps that were looked at -/
def CldQ (l : List Arc) (f : Nat → Int) (vis : List Nat) (q : Nat) (pre : List Stp) : Prop := ∀ x ∈ pre, vis[q]? = some (src l x) → 0 < rm l f x → dst l x ∈ vis
theorem Cld.more {q b : Nat} (h : Cld l f vis q) (hq : q ≤ vis.length) : Cld l f (vis ++ [b]) q := fun i u x hi hu hx hs hr => by
  rw [List.getElem?_append_left (by omega)] at hu
  exact List.mem_append_left _ (h i u x hi hu hx hs hr)
theorem CldQ.more {q b : Nat} {pre : List Stp} (h : CldQ l f vis q pre) (hq : q < vis.length) : CldQ l f (vis ++ [b]) q pre := fun x hx hu hr => by
  rw [List.getElem?_append_left (by omega)] at hu
  exact List.mem_append_left _ (h x hx hu hr)
theorem CldQ.nil {q : Nat} : CldQ l f vis q [] := fun _ h => by cases h
theorem CldQ.snoc {q : Nat} {pre : List Stp} {x : Stp} (h : CldQ l f vis q pre) (hx : vis[q]? = some (src l x) → 0 < rm l f x → dst l x ∈ vis) : CldQ l f vis q (pre ++ [x]) := fun y hy hu hr => by
  rcases List.mem_append.1 hy with hy | hy
  · exact h y hy hu hr
  · rw [List.mem_singleton] at hy; subst hy; exact hx hu hr
theorem Cld.next {q : Nat} (h : Cld l f vis q) (h2 : CldQ l f vis q (allS l.length)) : Cld l f vis (q + 1) := fun i u x hi hu hx hs hr => by
  rcases Nat.lt_or_ge i q with h3 | h3
  · exact h i u x h3 hu hx hs hr
  · obtain rfl : i = q := by omega
    exact h2 x (mem_allS.2 hx) (by rw [hu, hs]) hr
/-- the end: those that were come to are a cut that lets go no more -/
theorem FL.stuck {v : Int} (hf : FL N l s t f v) (hn : NOk N l) (h : BI N l f s vis par) (hc : Cld l f vis vis.length) (ht : t ∉ vis) (hsN : s < N) :
    ∃ S : Nat → Bool, S s = true ∧ S t = false ∧ capS l S = v := by
  refine ⟨fun u => decide (u ∈ vis), by simpa using List.mem_of_getElem? h.hd, by simpa using ht, ?_⟩
  have := hf.sumS hn (S := fun u => decide (u ∈ vis)) (by simpa using List.mem_of_getElem? h.hd) (by simpa using ht) hsN
  rw [← this]
  unfold capS exS
  refine sm_congr fun k hk => ?_
  have hb := hf.ok k hk
  have cl : ∀ b, src l (k, b) ∈ vis → 0 < rm l f (k, b) → dst l (k, b) ∈ vis := fun b h1 h2 => by
    obtain ⟨i, hi, e⟩ := List.mem_iff_getElem.1 h1
    exact hc i _ (k, b) hi (List.getElem?_eq_getElem hi) hk e.symm h2
  have c0 := cl false
  have c1 := cl true
  simp only [src, dst, rm, Bool.false_eq_true, if_false, if_true] at c0 c1
  by_cases h1 : fr l k ∈ vis
  · by_cases h2 : tn l k ∈ vis
    · simp [h1, h2]
    · have : ¬ (0 < mo l k - f k) := fun h3 => h2 (c0 h1 h3)
      simp [h1, h2]; omega
  · by_cases h2 : tn l k ∈ vis
    · have : ¬ (0 < f k) := fun h3 => h1 (c1 h2 h3)
      simp [h1, h2]; omega
    · simp [h1, h2]
end
/-! ## the way back, and the push -/
/-- steps from 'at' on to t (the last one first in memory): each comes to where the next one begins, and lies behind it -/
inductive Wy (l : List Arc) (f : Nat → Int) (vis : List Nat) (t : Nat) (c : Int) : List Stp → Nat → Prop
  | nil : Wy l f vis t c [] t
  | snoc {w : List Stp} {at' : Nat} {x : Stp} {i j : Nat} (h : Wy l f vis t c w at') (hx : x.1 < l.length) (hr : c ≤ rm l f x) (hd : dst l x = at') (hi : vis[i]? = some at') (hj : vis[j]? = some (src l x)) (hji : j < i) : Wy l f vis t c (w ++ [x]) (src l x)
theorem Wy.less {l : List Arc} {f : Nat → Int} {vis : List Nat} {t : Nat} {c c' : Int} {w : List Stp} {a : Nat} (h : Wy l f vis t c w a) (hc : c' ≤ c) : Wy l f vis t c' w a := by
  induction h with
  | nil => exact .nil
  | snoc h hx hr hd hi hj hji ih => exact .snoc ih hx (by omega) hd hi hj hji
/-- what a push of a step does -/
def psh (f : Nat → Int) (c : Int) (x : Stp) : Nat → Int := fun k => if k = x.1 then (if x.2 then f k - c else f k + c) else f k
def pshs (f : Nat → Int) (c : Int) (w : List Stp) : Nat → Int := w.foldl (fun f x => psh f c x) f
theorem pshs_snoc (f : Nat → Int) (c : Int) (w : List Stp) (x : Stp) : pshs f c (w ++ [x]) = psh (pshs f c w) c x := by simp [pshs]
theorem ex_psh {l : List Arc} (f : Nat → Int) (c : Int) {x : Stp} (hx : x.1 < l.length) (hne : fr l x.1 ≠ tn l x.1) (u : Nat) : ex l (psh f c x) u = ex l f u + (if u = src l x then c else 0) - if u = dst l x then c else 0 := by
  have key := sm_upd (fun k => (if u = fr l k then f k else 0) - if u = tn l k then f k else 0) (fun k => (if u = fr l k then psh f c x k else 0) - if u = tn l k then psh f c x k else 0) x.1
    ((if u = src l x then c else 0) - if u = dst l x then c else 0) (by
      obtain ⟨k, b⟩ := x
      dsimp only at hne
      cases b
      · simp only [psh, src, dst, Bool.false_eq_true, if_false, if_true]
        by_cases h1 : u = fr l k
        · rw [if_pos h1, if_pos h1, if_pos h1, if_neg (by omega), if_neg (by omega), if_neg (by omega)]; omega
        · rw [if_neg h1, if_neg h1, if_neg h1]
          by_cases h2 : u = tn l k
          · rw [if_pos h2, if_pos h2, if_pos h2]; omega
          · rw [if_neg h2, if_neg h2, if_neg h2]; omega
      · simp only [psh, src, dst, if_true]
        by_cases h1 : u = fr l k
        · rw [if_pos h1, if_pos h1, if_neg (by omega), if_neg (by omega), if_neg (by omega), if_pos h1]; omega
        · rw [if_neg h1, if_neg h1]
          by_cases h2 : u = tn l k
          · rw [if_pos h2, if_pos h2, if_pos h2, if_neg h1]; omega
          · rw [if_neg h2, if_neg h2, if_neg h2, if_neg h1]; omega) (fun k hk => by
      simp only [psh, if_neg hk]) l.length
  rw [if_pos hx] at key
  show sm _ _ = sm _ _ + _ - _
  rw [key]; omega
section
variable {N : Nat} {l : List Arc} {f : Nat → Int} {s t : Nat} {vis : List Nat} {c : Int} {w : List Stp} {a : Nat}
theorem Wy.exs (h : Wy l f vis t c w a) (hn : NOk N l) (u : Nat) : ex l (pshs f c w) u = ex l f u + (if u = a then c else 0) - if u = t then c else 0 := by
  induction h with
  | nil => show ex l f u = _; omega
  | @snoc w a' x i j h hx hr hd hi hj hji ih =>
    rw [pshs_snoc, ex_psh _ _ hx (hn.at hx).2.2.1, ih, hd]
    omega
/-- an arc that was gone by lies behind -/
theorem Wy.far (h : Wy l f vis t c w a) (hnd : vis.Nodup) {i : Nat} (hi : vis[i]? = some a) : ∀ y ∈ w, ∃ p q, vis[p]? = some (src l y) ∧ vis[q]? = some (dst l y) ∧ p < q ∧ i ≤ p := by
  induction h generalizing i with
  | nil => intro y hy; cases hy
  | @snoc w a' x i' j h hx hr hd hi' hj hji ih =>
    intro y hy
    have hij : i = j := by
      have h1 := (List.getElem?_eq_some_iff.1 hi).1
      have h2 := (List.getElem?_eq_some_iff.1 hj).1
      exact (List.getElem?_inj h1 hnd).1 (by rw [hi, hj])
    subst hij
    rcases List.mem_append.1 hy with hy | hy
    · obtain ⟨p, q, h1, h2, h3, h4⟩ := ih hi' y hy
      exact ⟨p, q, h1, h2, h3, by omega⟩
    · rw [List.mem_singleton] at hy; subst hy
      exact ⟨i, i', hj, by rw [hd]; exact hi', hji, Nat.le_refl _⟩
theorem pos_inj {vis : List Nat} (hnd : vis.Nodup) {i j v : Nat} (hi : vis[i]? = some v) (hj : vis[j]? = some v) : i = j :=
  (List.getElem?_inj (List.getElem?_eq_some_iff.1 hi).1 hnd).1 (by rw [hi, hj])
/-- no arc is gone by twice -/
theorem Wy.once (h : Wy l f vis t c w a) (hnd : vis.Nodup) : ∀ k, (∀ b, (k, b) ∉ w) ∧ pshs f c w k = f k ∨ ∃ b, (k, b) ∈ w ∧ k < l.length ∧ c ≤ rm l f (k, b) ∧ pshs f c w k = if b then f k - c else f k + c := by
  induction h with
  | nil => intro k; left; exact ⟨by simp, rfl⟩
  | @snoc w a' x i j h hx hr hd hi hj hji ih =>
    intro k
    rw [pshs_snoc]
    by_cases hk : k = x.1
    · subst hk
      have hno : ∀ b, (x.1, b) ∉ w := fun b hb => by
        obtain ⟨p, q, h1, h2, h3, h4⟩ := h.far hnd hi _ hb
        obtain ⟨k, b'⟩ := x
        dsimp only at *
        by_cases e : b = b'
        · subst e
          have := pos_inj hnd h1 hj
          omega
        · have e1 : src l (k, b) = dst l (k, b') := by cases b <;> cases b' <;> simp_all [src, dst]
          have e2 : dst l (k, b) = src l (k, b') := by cases b <;> cases b' <;> simp_all [src, dst]
          rw [e1, hd] at h1; rw [e2] at h2
          have := pos_inj hnd h1 hi
          have := pos_inj hnd h2 hj
          omega
      right
      refine ⟨x.2, by simp, hx, hr, ?_⟩
      rcases ih x.1 with ⟨_, e⟩ | ⟨b, hb, _⟩
      · simp [psh, e]
      · exact absurd hb (hno b)
    · have e : psh (pshs f c w) c x k = pshs f c w k := by simp [psh, hk]
      rw [e]
      rcases ih k with ⟨h1, h2⟩ | ⟨b, hb, h1, h2, h3⟩
      · left
        refine ⟨fun b hb => ?_, h2⟩
        rcases List.mem_append.1 hb with hb | hb
        · exact h1 b hb
        · rw [List.mem_singleton] at hb; rw [← hb] at hk; exact hk rfl
      · exact .inr ⟨b, List.mem_append_left _ hb, h1, h2, h3⟩
theorem Wy.push {v : Int} (h : Wy l f vis t c w s) (hn : NOk N l) (hnd : vis.Nodup) (hf : FL N l s t f v) (hst : s ≠ t) (hc : 0 ≤ c) : FL N l s t (pshs f c w) (v + c) := by
  refine ⟨fun k hk => ?_, fun u hu h1 h2 => ?_, ?_⟩
  · have hb := hf.ok k hk
    rcases h.once hnd k with ⟨_, e⟩ | ⟨b, _, _, hr, e⟩
    · rw [e]; exact hb
    · rw [e]
      cases b <;> simp [rm] at hr ⊢ <;> omega
  · rw [h.exs hn, if_neg h1, if_neg h2, hf.kp u hu h1 h2]; rfl
  · rw [h.exs hn, if_pos rfl, if_neg hst, hf.vl]; omega
/-- the order of the steps does not matter -/
theorem pshs_rev (h : Wy l f vis t c w a) (hnd : vis.Nodup) : pshs f c w.reverse = pshs f c w := by
  have gen : ∀ (w : List Stp), (w.map (·.1)).Nodup → ∀ (g : Nat → Int) (k : Nat), pshs g c w k = (match w.find? fun x => x.1 == k with | some x => if x.2 then g k - c else g k + c | none => g k) := by
    intro w
    induction w with
    | nil => intro _ g k; rfl
    | cons x w ih =>
      intro hw g k
      rw [List.map_cons, List.nodup_cons] at hw
      show pshs (psh g c x) c w k = _
      rw [ih hw.2]
      by_cases hk : x.1 = k
      · subst hk
        have : w.find? (fun y => y.1 == x.1) = none := by
          rw [List.find?_eq_none]
          intro y hy e
          exact hw.1 (List.mem_map.2 ⟨y, hy, by simpa using e⟩)
        simp [this, psh]
      · rw [List.find?_cons_of_neg (by simpa using hk)]
        have hk2 : k ≠ x.1 := fun e => hk e.symm
        simp [psh, hk2]
  have hw : (w.map (·.1)).Nodup := by
    clear gen
    induction h with
    | nil => simp
    | @snoc w a' x i j h hx hr hd hi hj hji ih =>
      rw [List.map_append, List.nodup_append]
      refine ⟨ih, by simp, fun p hp q hq e => ?_⟩
      simp only [List.map_cons, List.map_nil, List.mem_singleton] at hq
      subst hq
      obtain ⟨y, hy, rfl⟩ := List.mem_map.1 hp
      rcases (Wy.snoc h hx hr hd hi hj hji).once hnd x.1 with ⟨h1, _⟩ | _
      · exact h1 x.2 (by simp)
      · obtain ⟨p1, q1, g1, g2, g3, g4⟩ := h.far hnd hi y hy
        obtain ⟨k, b'⟩ := x
        obtain ⟨k2, b⟩ := y
        dsimp only at *
        subst e
        by_cases e : b = b'
        · subst e
          have := pos_inj hnd g1 hj
          omega
        · have e1 : src l (k2, b) = dst l (k2, b') := by cases b <;> cases b' <;> simp_all [src, dst]
          rw [e1, hd] at g1
          have e2 : dst l (k2, b) = src l (k2, b') := by cases b <;> cases b' <;> simp_all [src, dst]
          rw [e2] at g2
          have := pos_inj hnd g1 hi
          have := pos_inj hnd g2 hj
          omega
  funext k
  rw [gen _ (by rw [List.map_reverse]; exact (List.reverse_perm _).nodup_iff.2 hw), gen _ hw]
  have : w.reverse.find? (fun x => x.1 == k) = w.find? fun x => x.1 == k := by
    cases h1 : w.find? fun x => x.1 == k with
    | none =>
      rw [List.find?_eq_none] at h1 ⊢
      intro x hx; exact h1 x (List.mem_reverse.1 hx)
    | some x =>
      have hx := List.mem_of_find?_eq_some h1
      have hxk := List.find?_some h1
      cases h2 : w.reverse.find? fun x => x.1 == k with
      | none =>
        rw [List.find?_eq_none] at h2
        exact absurd hxk (h2 x (List.mem_reverse.2 hx))
      | some y =>
        have hy := List.mem_reverse.1 (List.mem_of_find?_eq_some h2)
        have hyk := List.find?_some h2
        have e : y.1 = x.1 := by simp at hxk hyk; omega
        obtain ⟨i, hi, rfl⟩ := List.mem_iff_getElem.1 hx
        obtain ⟨j, hj, rfl⟩ := List.mem_iff_getElem.1 hy
        have := (List.getElem?_inj (i := j) (j := i) (by simpa using hj) hw).1 (by simp [hi, hj, e])
        subst this; rfl
  rw [this]
end
end Go.Proofs.Ytgengjneccpaiaa
