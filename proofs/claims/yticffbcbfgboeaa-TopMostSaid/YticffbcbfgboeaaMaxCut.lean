/- There are a flow and a cut of one size. No program in sight. -/
import Derived.Test.YticffbcbfgboeaaFlowLaw
namespace Go.Proofs.Yticffbcbfgboeaa

section
variable {N : Nat} {l : List Arc} {f : Nat → Int} {s t : Nat}
/-- a search that comes no further -/
theorem BI.top (hn : NOk N l) : ∀ (m : Nat) (vis : List Nat) (par : Nat → Option Stp), BI N l f s vis par → N - vis.length ≤ m → ∃ vis' par', BI N l f s vis' par' ∧ Cld l f vis' vis'.length := by
  intro m
  induction m with
  | zero =>
    intro vis par h hm
    refine ⟨vis, par, h, fun i u x hi hu hx hs hr => Classical.byContradiction fun hno => ?_⟩
    have hne : dst l x ≠ s := fun e => hno (e ▸ List.mem_of_getElem? h.hd)
    have hp : par (dst l x) = none := by
      cases hp : par (dst l x) with
      | none => rfl
      | some y => exact absurd ((h.pi _ hne).1 (by rw [hp]; rfl)) hno
    have := (h.add hn hx hr (q := i) (by rw [hs]; exact hu) hne hp).len
    simp at this; omega
  | succ m ih =>
    intro vis par h hm
    by_cases hC : ∃ (i : Nat) (x : Stp), vis[i]? = some (src l x) ∧ x.1 < l.length ∧ 0 < rm l f x ∧ dst l x ∉ vis
    · obtain ⟨i, x, hu, hx, hr, hno⟩ := hC
      have hne : dst l x ≠ s := fun e => hno (e ▸ List.mem_of_getElem? h.hd)
      have hp : par (dst l x) = none := by
        cases hp : par (dst l x) with
        | none => rfl
        | some y => exact absurd ((h.pi _ hne).1 (by rw [hp]; rfl)) hno
      exact ih _ _ (h.add hn hx hr hu hne hp) (by simp; omega)
    · exact ⟨vis, par, h, fun i u x hi hu hx hs hr => Classical.byContradiction fun hno => hC ⟨i, x, by rw [hs]; exact hu, hx, hr, hno⟩⟩
theorem BI.way {vis : List Nat} {par : Nat → Option Stp} (h : BI N l f s vis par) : ∀ (m i a : Nat) (w : List Stp), i < m → vis[i]? = some a → Wy l f vis t 1 w a → ∃ w', Wy l f vis t 1 w' s := by
  intro m
  induction m with
  | zero => intro i a w hi; omega
  | succ m ih =>
    intro i a w hi ha hw
    by_cases e : a = s
    · subst e; exact ⟨w, hw⟩
    · have hs := (h.pi a e).2 (List.mem_of_getElem? ha)
      obtain ⟨x, hx⟩ := Option.isSome_iff_exists.1 hs
      obtain ⟨h1, h2, h3, j, u, h4, h5, h6⟩ := h.tr i a x ha hx
      rw [← h6] at h5
      exact ih j (src l x) _ (by omega) h5 (hw.snoc h1 (by omega) h3 ha h5 h4)
theorem FL.zero (hn : NOk N l) : FL N l s t (fun _ => 0) 0 := by
  have e : ∀ u, ex l (fun _ => 0) u = 0 := fun u => by
    unfold ex
    rw [sm_congr (h := fun _ => 0) (fun k _ => by simp), sm_zero]
  exact ⟨fun k hk => ⟨Int.le_refl _, (hn.at hk).2.2.2.1⟩, fun u _ _ _ => e u, e s⟩
theorem maxcut (hn : NOk N l) (hs : s < N) (hst : s ≠ t) : ∃ (f : Nat → Int) (v : Int) (S : Nat → Bool), FL N l s t f v ∧ S s = true ∧ S t = false ∧ capS l S = v := by
  have key : ∀ (m : Nat) (f : Nat → Int) (v : Int), FL N l s t f v → (capS l (fun u => decide (u = s)) - v).toNat ≤ m → ∃ (f : Nat → Int) (v : Int) (S : Nat → Bool), FL N l s t f v ∧ S s = true ∧ S t = false ∧ capS l S = v := by
    intro m
    induction m with
    | zero =>
      intro f v hf hm
      obtain ⟨vis, par, h, hc⟩ := BI.top (f := f) (s := s) hn N _ _ (BI.start hs) (by omega)
      by_cases ht : t ∈ vis
      · obtain ⟨i, hi, e⟩ := List.mem_iff_getElem.1 ht
        obtain ⟨w, hw⟩ := h.way (t := t) vis.length i t [] hi (by rw [List.getElem?_eq_getElem hi, e]) .nil
        have h1 := hw.push hn h.nd hf hst (by omega)
        have h2 := h1.le hn (S := fun u => decide (u = s)) (by simp) (by simp; exact Ne.symm hst) hs
        omega
      · obtain ⟨S, h1, h2, h3⟩ := hf.stuck hn h hc ht hs
        exact ⟨f, v, S, hf, h1, h2, h3⟩
    | succ m ih =>
      intro f v hf hm
      obtain ⟨vis, par, h, hc⟩ := BI.top (f := f) (s := s) hn N _ _ (BI.start hs) (by omega)
      by_cases ht : t ∈ vis
      · obtain ⟨i, hi, e⟩ := List.mem_iff_getElem.1 ht
        obtain ⟨w, hw⟩ := h.way (t := t) vis.length i t [] hi (by rw [List.getElem?_eq_getElem hi, e]) .nil
        exact ih _ _ (hw.push hn h.nd hf hst (by omega)) (by omega)
      · obtain ⟨S, h1, h2, h3⟩ := hf.stuck hn h hc ht hs
        exact ⟨f, v, S, hf, h1, h2, h3⟩
  exact key _ _ _ (FL.zero hn) (Nat.le_refl _)
end
end Go.Proofs.Yticffbcbfgboeaa
