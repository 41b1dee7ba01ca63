/- Havel and Hakimi: who needs the most may have edges with those that need the most. Plain. -/
import Derived.Test.YtfbomimkjiaohaaBase
namespace Go.Proofs.Ytfbomimkjiaohaa

/-- r: edges among W, of each node as many as it needs -/
structure Rz (W : List Nat) (nd : Nat → Nat) (r : Nat → Nat → Bool) : Prop where
  ir : ∀ x, r x x = false
  sy : ∀ x y, r x y = true → r y x = true
  su : ∀ x y, r x y = true → x ∈ W
  dg : ∀ x ∈ W, W.countP (r x) = nd x
def Gph (W : List Nat) (nd : Nat → Nat) : Prop := ∃ r, Rz W nd r
theorem cnt_updW {p q : Nat → Bool} {z : Nat} : ∀ {W : List Nat}, (∀ x ∈ W, x ≠ z → p x = q x) → W.Nodup → z ∈ W → W.countP p + (q z).toNat = W.countP q + (p z).toNat
  | a :: W, h, hn, hz => by
    rw [List.nodup_cons] at hn
    rw [List.countP_cons, List.countP_cons]
    by_cases e : a = z
    · subst e
      rw [show W.countP p = W.countP q from List.countP_congr fun x hx => by rw [h x (List.mem_cons_of_mem _ hx) (fun e => hn.1 (e ▸ hx))]]
      cases p a <;> cases q a <;> simp
    · have := cnt_updW (p := p) (q := q) (fun x hx => h x (List.mem_cons_of_mem _ hx)) hn.2 ((List.mem_cons.1 hz).resolve_left (fun e' => e e'.symm))
      rw [h a (List.mem_cons_self ..) e]
      omega
theorem cnt_upd {p q : Nat → Bool} {z : Nat} (h : ∀ x, x ≠ z → p x = q x) {W : List Nat} (hn : W.Nodup) (hz : z ∈ W) : W.countP p + (q z).toNat = W.countP q + (p z).toNat :=
  cnt_updW (fun x _ => h x) hn hz
theorem cnt_two {p q : Nat → Bool} {s t : Nat} (h : ∀ x, x ≠ s → x ≠ t → p x = q x) (hst : s ≠ t) {W : List Nat} (hn : W.Nodup) (hs : s ∈ W) (ht : t ∈ W) (p1 : p s = true) (q1 : q s = false) (p2 : p t = false) (q2 : q t = true) : W.countP p = W.countP q := by
  have h1 := cnt_upd (p := p) (q := fun x => if x = s then q s else p x) (z := s) (fun x hx => by simp [hx]) hn hs
  have h2 := cnt_upd (p := fun x => if x = s then q s else p x) (q := q) (z := t) (fun x hx => by
    by_cases e : x = s
    · simp [e]
    · simp [e, h x e hx]) hn ht
  simp only [if_true, if_neg hst.symm, p1, q1, p2, q2] at h1 h2
  simp at h1 h2
  omega
/-- two edges for two others -/
def sw (r : Nat → Nat → Bool) (v a b c : Nat) (x y : Nat) : Bool :=
  if (x = v ∧ y = a) ∨ (x = a ∧ y = v) then true
  else if (x = v ∧ y = b) ∨ (x = b ∧ y = v) then false
  else if (x = a ∧ y = c) ∨ (x = c ∧ y = a) then false
  else if (x = b ∧ y = c) ∨ (x = c ∧ y = b) then true
  else r x y
theorem Rz.rev {W : List Nat} {nd : Nat → Nat} {r : Nat → Nat → Bool} (h : Rz W nd r) (x y : Nat) : r x y = r y x := by
  rw [Bool.eq_iff_iff]; exact ⟨h.sy x y, h.sy y x⟩
theorem Rz.sw {W : List Nat} {nd : Nat → Nat} {r : Nat → Nat → Bool} (hn : W.Nodup) (h : Rz W nd r) {v a b c : Nat} (hv : v ∈ W) (ha : a ∈ W) (hb : b ∈ W) (hc : c ∈ W)
    (va : v ≠ a) (vb : v ≠ b) (vc : v ≠ c) (ab : a ≠ b) (ac : a ≠ c) (bc : b ≠ c) (h1 : r v a = false) (h2 : r v b = true) (h3 : r a c = true) (h4 : r b c = false) : Rz W nd (sw r v a b c) := by
  have k1 := (h.rev v a).symm.trans h1
  have k2 := (h.rev v b).symm.trans h2
  have k3 := (h.rev a c).symm.trans h3
  have k4 := (h.rev b c).symm.trans h4
  refine ⟨fun x => ?_, fun x y hxy => ?_, fun x y hxy => ?_, fun x hx => ?_⟩
  · unfold Go.Proofs.Ytfbomimkjiaohaa.sw
    rw [if_neg (by omega), if_neg (by omega), if_neg (by omega), if_neg (by omega), h.ir]
  · rw [← hxy]
    unfold Go.Proofs.Ytfbomimkjiaohaa.sw
    rw [h.rev y x]
    simp only [and_comm, or_comm]
  · unfold Go.Proofs.Ytfbomimkjiaohaa.sw at hxy
    split at hxy
    · rename_i e; rcases e with e | e
      · rw [e.1]; exact hv
      · rw [e.1]; exact ha
    · split at hxy
      · cases hxy
      · split at hxy
        · cases hxy
        · split at hxy
          · rename_i e; rcases e with e | e
            · rw [e.1]; exact hb
            · rw [e.1]; exact hc
          · exact h.su x y hxy
  · rw [← h.dg x hx]
    by_cases e1 : x = v
    · subst e1
      refine cnt_two (s := a) (t := b) (fun y h1 h2 => ?_) ab hn ha hb ?_ h1 ?_ h2
      · unfold Go.Proofs.Ytfbomimkjiaohaa.sw; rw [if_neg (by omega), if_neg (by omega), if_neg (by omega), if_neg (by omega)]
      · unfold Go.Proofs.Ytfbomimkjiaohaa.sw; rw [if_pos (by omega)]
      · unfold Go.Proofs.Ytfbomimkjiaohaa.sw; rw [if_neg (by omega), if_pos (by omega)]
    by_cases e2 : x = a
    · subst e2
      refine cnt_two (s := v) (t := c) (fun y h1 h2 => ?_) vc hn hv hc ?_ k1 ?_ h3
      · unfold Go.Proofs.Ytfbomimkjiaohaa.sw; rw [if_neg (by omega), if_neg (by omega), if_neg (by omega), if_neg (by omega)]
      · unfold Go.Proofs.Ytfbomimkjiaohaa.sw; rw [if_pos (by omega)]
      · unfold Go.Proofs.Ytfbomimkjiaohaa.sw; rw [if_neg (by omega), if_neg (by omega), if_pos (by omega)]
    by_cases e3 : x = b
    · subst e3
      refine cnt_two (s := c) (t := v) (fun y h1 h2 => ?_) vc.symm hn hc hv ?_ h4 ?_ k2
      · unfold Go.Proofs.Ytfbomimkjiaohaa.sw; rw [if_neg (by omega), if_neg (by omega), if_neg (by omega), if_neg (by omega)]
      · unfold Go.Proofs.Ytfbomimkjiaohaa.sw; rw [if_neg (by omega), if_neg (by omega), if_neg (by omega), if_pos (by omega)]
      · unfold Go.Proofs.Ytfbomimkjiaohaa.sw; rw [if_neg (by omega), if_pos (by omega)]
    by_cases e4 : x = c
    · subst e4
      refine cnt_two (s := b) (t := a) (fun y h1 h2 => ?_) ab.symm hn hb ha ?_ k4 ?_ k3
      · unfold Go.Proofs.Ytfbomimkjiaohaa.sw; rw [if_neg (by omega), if_neg (by omega), if_neg (by omega), if_neg (by omega)]
      · unfold Go.Proofs.Ytfbomimkjiaohaa.sw; rw [if_neg (by omega), if_neg (by omega), if_neg (by omega), if_pos (by omega)]
      · unfold Go.Proofs.Ytfbomimkjiaohaa.sw; rw [if_neg (by omega), if_neg (by omega), if_pos (by omega)]
    · refine List.countP_congr fun y _ => ?_
      unfold Go.Proofs.Ytfbomimkjiaohaa.sw; rw [if_neg (by omega), if_neg (by omega), if_neg (by omega), if_neg (by omega)]
/-- who has one edge more than it lacks -/
theorem Rz.third {W : List Nat} {nd : Nat → Nat} {r : Nat → Nat → Bool} (hn : W.Nodup) (h : Rz W nd r) {v a b : Nat} (hv : v ∈ W) (ha : a ∈ W) (hb : b ∈ W) (va : v ≠ a) (h1 : r v a = false) (h2 : r v b = true) (hle : nd b ≤ nd a) :
    ∃ c ∈ W, r a c = true ∧ c ≠ b ∧ r b c = false := by
  rcases hany : W.any (fun c => r a c && c != b && !r b c) with _ | _
  · exfalso
    have hno : ∀ c ∈ W, r a c = true → c ≠ b → r b c = true := fun c hc h3 h4 => by
      have := List.any_eq_false.1 hany c hc
      rw [h3] at this
      have h5 : (c != b) = true := bne_iff_ne.2 h4
      rw [h5] at this
      simpa using this
    have A := cnt_upd (p := fun c => r a c && c != b) (q := r a) (z := b) (fun x hx => by simp [hx]) hn hb
    have B := cnt_upd (p := fun c => r b c && c != a) (q := r b) (z := a) (fun x hx => by simp [hx]) hn ha
    have B' := cnt_upd (p := fun c => if c = v then false else (r b c && c != a)) (q := fun c => r b c && c != a) (z := v) (fun x hx => by simp [hx]) hn hv
    have k2 : r b v = true := h.sy v b h2
    simp only [if_true, k2, Bool.true_and, bne_self_eq_false, Bool.and_false, Bool.toNat_false, Nat.add_zero, bne_iff_ne.2 va, Bool.toNat_true] at A B B'
    have hm : W.countP (fun c => r a c && c != b) ≤ W.countP (fun c => if c = v then false else (r b c && c != a)) := List.countP_mono_left fun c hc h3 => by
      rw [Bool.and_eq_true] at h3
      have hne := bne_iff_ne.1 h3.2
      have hcv : c ≠ v := fun e => by rw [e, h.rev, h1] at h3; cases h3.1
      have hca : c ≠ a := fun e => by rw [e, h.ir] at h3; cases h3.1
      rw [if_neg hcv, hno c hc h3.1 hne, bne_iff_ne.2 hca]; rfl
    rw [h.dg a ha] at A
    rw [h.dg b hb] at B
    rw [h.rev a b] at A
    omega
  · obtain ⟨c, hc, h3⟩ := List.any_eq_true.1 hany
    rw [Bool.and_eq_true, Bool.and_eq_true] at h3
    exact ⟨c, hc, h3.1.1, bne_iff_ne.1 h3.1.2, by simpa using h3.2⟩
theorem havel {v : Nat} {l : List Nat} {nd : Nat → Nat} (hn : (v :: l).Nodup) (hs : l.Pairwise (fun a b => nd b ≤ nd a)) : ∀ (k : Nat) (r : Nat → Nat → Bool), Rz (v :: l) nd r → nd v ≤ l.length → (l.take (nd v)).countP (fun x => !r v x) = k →
    ∃ r', Rz (v :: l) nd r' ∧ ∀ x, r' v x = true ↔ x ∈ l.take (nd v)
  | k, r, h, hd, hk => by
    have hvl : v ∉ l := (List.nodup_cons.1 hn).1
    have hnl := (List.nodup_cons.1 hn).2
    have hdg := h.dg v (List.mem_cons_self ..)
    rw [List.countP_cons, h.ir, if_neg (by decide), Nat.add_zero] at hdg
    have hsplit : l.countP (r v) = (l.take (nd v)).countP (r v) + (l.drop (nd v)).countP (r v) := by rw [← List.countP_append, List.take_append_drop]
    have htl : (l.take (nd v)).length = nd v := by rw [List.length_take]; omega
    have hnot : (l.take (nd v)).countP (r v) + (l.take (nd v)).countP (fun x => !r v x) = nd v := by
      have := List.length_eq_countP_add_countP (r v) (l := l.take (nd v))
      rw [htl] at this
      have e : (l.take (nd v)).countP (fun a => decide ¬r v a = true) = (l.take (nd v)).countP (fun x => !r v x) := List.countP_congr fun x _ => by simp
      omega
    match k with
    | 0 =>
      refine ⟨r, h, fun x => ⟨fun hx => ?_, fun hx => ?_⟩⟩
      · have hxl : x ∈ l := by
          rcases List.mem_cons.1 (h.su x v (h.sy v x hx)) with e | e
          · rw [e, h.ir] at hx; cases hx
          · exact e
        rw [← List.take_append_drop (nd v) l, List.mem_append] at hxl
        rcases hxl with hx' | hx'
        · exact hx'
        · exfalso
          have : 0 < (l.drop (nd v)).countP (r v) := List.countP_pos_iff.2 ⟨x, hx', hx⟩
          omega
      · have := List.countP_eq_zero.1 hk x hx
        simpa using this
    | k + 1 =>
      obtain ⟨a, ha, hra⟩ := List.countP_pos_iff.1 (show 0 < (l.take (nd v)).countP (fun x => !r v x) by omega)
      obtain ⟨b, hb, hrb⟩ := List.countP_pos_iff.1 (show 0 < (l.drop (nd v)).countP (r v) by omega)
      have hra : r v a = false := by simpa using hra
      have hal : a ∈ l := List.mem_of_mem_take ha
      have hbl : b ∈ l := List.mem_of_mem_drop hb
      have hle : nd b ≤ nd a := by
        have := hs
        rw [← List.take_append_drop (nd v) l, List.pairwise_append] at this
        exact this.2.2 a ha b hb
      have hbt : b ∉ l.take (nd v) := fun hb' => by
        have := hnl
        rw [← List.take_append_drop (nd v) l, List.nodup_append] at this
        exact this.2.2 b hb' b hb rfl
      have va : v ≠ a := fun e => hvl (e ▸ hal)
      have vb : v ≠ b := fun e => hvl (e ▸ hbl)
      have ab : a ≠ b := fun e => hbt (e ▸ ha)
      obtain ⟨c, hc, h3, h5, h4⟩ := h.third hn (List.mem_cons_self ..) (List.mem_cons_of_mem _ hal) (List.mem_cons_of_mem _ hbl) va hra hrb hle
      have ac : a ≠ c := fun e => by rw [← e, h.ir] at h3; cases h3
      have vc : v ≠ c := fun e => by rw [← e, h.rev, hra] at h3; cases h3
      have hR := h.sw hn (List.mem_cons_self ..) (List.mem_cons_of_mem _ hal) (List.mem_cons_of_mem _ hbl) hc va vb vc ab ac (fun e => h5 e.symm) hra hrb h3 h4
      refine havel hn hs k _ hR hd ?_
      have := cnt_updW (p := fun x => !sw r v a b c v x) (q := fun x => !r v x) (z := a) (W := l.take (nd v)) (fun x hx hxa => by
        have hxb : x ≠ b := fun e => hbt (e ▸ hx)
        have hxv : x ≠ v := fun e => hvl (e ▸ List.mem_of_mem_take hx)
        unfold sw; rw [if_neg (by omega), if_neg (by omega), if_neg (by omega), if_neg (by omega)]) (hnl.sublist (List.take_sublist ..)) ha
      have e1 : sw r v a b c v a = true := by unfold sw; rw [if_pos (by omega)]
      simp only [e1, hra, Bool.not_true, Bool.not_false, Bool.toNat_true, Bool.toNat_false] at this
      omega
theorem Gph.perm {W W' : List Nat} {nd : Nat → Nat} (h : Gph W nd) (hp : W.Perm W') : Gph W' nd := by
  obtain ⟨r, h⟩ := h
  exact ⟨r, h.ir, h.sy, fun x y hxy => hp.mem_iff.1 (h.su x y hxy), fun x hx => by rw [← hp.countP_eq]; exact h.dg x (hp.mem_iff.2 hx)⟩
theorem Gph.congr {W : List Nat} {nd nd' : Nat → Nat} (h : Gph W nd) (e : ∀ x ∈ W, nd x = nd' x) : Gph W nd' := by
  obtain ⟨r, h⟩ := h
  exact ⟨r, h.ir, h.sy, h.su, fun x hx => by rw [h.dg x hx, e x hx]⟩
/-- who needs the most gets its edges: the rest may have what is left -/
theorem havel_step {v : Nat} {l : List Nat} {nd : Nat → Nat} (hn : (v :: l).Nodup) (hs : l.Pairwise (fun a b => nd b ≤ nd a)) (h : Gph (v :: l) nd) :
    nd v ≤ l.length ∧ (∀ x ∈ l.take (nd v), 1 ≤ nd x) ∧ Gph l (fun x => if x ∈ l.take (nd v) then nd x - 1 else nd x) := by
  obtain ⟨r0, h0⟩ := h
  have hvl : v ∉ l := (List.nodup_cons.1 hn).1
  have hd : nd v ≤ l.length := by
    have := h0.dg v (List.mem_cons_self ..)
    rw [List.countP_cons, h0.ir, if_neg (by decide), Nat.add_zero] at this
    rw [← this]; exact List.countP_le_length
  obtain ⟨r, h, hr⟩ := havel hn hs _ r0 h0 hd rfl
  have hdeg : ∀ x ∈ l, l.countP (r x) + (if x ∈ l.take (nd v) then 1 else 0) = nd x := fun x hx => by
    have := h.dg x (List.mem_cons_of_mem _ hx)
    rw [List.countP_cons] at this
    rw [← this]
    congr 1
    by_cases e : x ∈ l.take (nd v)
    · rw [if_pos e, if_pos (h.sy _ _ ((hr x).2 e))]
    · rw [if_neg e, if_neg (fun e' => e ((hr x).1 (h.sy _ _ e')))]
  refine ⟨hd, fun x hx => ?_, fun x y => r x y && x != v && y != v, fun x => by simp [h.ir], fun x y hxy => ?_, fun x y hxy => ?_, fun x hx => ?_⟩
  · have := hdeg x (List.mem_of_mem_take hx)
    rw [if_pos hx] at this; omega
  · simp only [Bool.and_eq_true] at hxy ⊢
    exact ⟨⟨h.sy _ _ hxy.1.1, hxy.2⟩, hxy.1.2⟩
  · simp only [Bool.and_eq_true, bne_iff_ne] at hxy
    exact (List.mem_cons.1 (h.su x y hxy.1.1)).resolve_left hxy.1.2
  · have h1 := hdeg x hx
    have h2 : l.countP (fun y => r x y && x != v && y != v) = l.countP (r x) := List.countP_congr fun y hy => by
      have hxv : (x != v) = true := bne_iff_ne.2 fun e => hvl (e ▸ hx)
      have hyv : (y != v) = true := bne_iff_ne.2 fun e => hvl (e ▸ hy)
      rw [hxv, hyv, Bool.and_true, Bool.and_true]
    rw [h2]
    split at h1 <;> rename_i e
    · rw [if_pos e]; omega
    · rw [if_neg e]; omega
end Go.Proofs.Ytfbomimkjiaohaa
