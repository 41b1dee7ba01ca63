/- TUTTE, BERGE (by GALLAI's lemma): behind some wall as many odd parts are left over as nodes must be. Plain. -/
import Derived.Test.YtcjokjfiikkpfaaDoorOddLaw
namespace Go.Proofs.YtcjokjfiikkpfaaDoor

def cN (n : Nat) (f : VS) : Nat := (List.range n).countP f
theorem cN_rmv {n : Nat} {f : VS} {a : Nat} (ha : a < n) (h : f a = true) : cN n f = cN n (rmv f a) + 1 := cnt_rmv ha h
theorem cN_pos {n : Nat} {f : VS} (h : 0 < cN n f) : ∃ v, v < n ∧ f v = true := by
  obtain ⟨v, hv, h⟩ := List.countP_pos_iff.1 h
  exact ⟨v, List.mem_range.1 hv, h⟩
theorem cN_some {n : Nat} {f : VS} {a : Nat} (ha : a < n) (h : f a = true) : 0 < cN n f := List.countP_pos_iff.2 ⟨a, List.mem_range.2 ha, h⟩
theorem cN_congr {n : Nat} {f g : VS} (h : ∀ v, v < n → f v = g v) : cN n f = cN n g := List.countP_congr fun v hv => by rw [h v (List.mem_range.1 hv)]
theorem cN_mono {n : Nat} {f g : VS} (h : ∀ v, v < n → f v = true → g v = true) : cN n f ≤ cN n g := List.countP_mono_left fun v hv => h v (List.mem_range.1 hv)
theorem cN_two {n : Nat} {f : VS} {u v : Nat} (hu : u < n) (hv : v < n) (huv : u ≠ v) (h1 : f u = true) (h2 : f v = true) : 2 ≤ cN n f := by
  rw [cN_rmv hu h1, cN_rmv hv (rmv_at.2 ⟨h2, huv.symm⟩)]; omega
theorem cN_lt {n : Nat} {f g : VS} {a : Nat} (ha : a < n) (h : ∀ v, v < n → f v = true → g v = true) (h1 : f a = false) (h2 : g a = true) : cN n f < cN n g := by
  have : cN n f ≤ cN n (rmv g a) := cN_mono fun v hv hf => rmv_at.2 ⟨h v hv hf, fun e => by rw [e, h1] at hf; cases hf⟩
  rw [cN_rmv ha h2]; omega
theorem cN_add {n : Nat} {f g h : VS} (hd : ∀ v, v < n → h v = (f v || g v)) (hx : ∀ v, v < n → f v = true → g v = false) : cN n h = cN n f + cN n g := by
  have : ∀ m, m ≤ n → cN m h = cN m f + cN m g := fun m => by
    induction m with
    | zero => intro _; rfl
    | succ m ih =>
      intro hm
      have hi := ih (by omega)
      unfold cN at hi ⊢
      simp only [List.range_succ, List.countP_append, List.countP_cons, List.countP_nil, Nat.zero_add, hi]
      have h1 := hd m (by omega); have h2 := hx m (by omega)
      rw [h1]
      cases hf : f m
      · simp; omega
      · rw [h2 hf]; simp; omega
  exact this n (Nat.le_refl _)
theorem cN_inj {n : Nat} : ∀ (k : Nat) {f g : VS} {p : Nat → Nat}, cN n f = k → (∀ u v, u < n → v < n → f u = true → f v = true → p u = p v → u = v) → (∀ v, v < n → f v = true → p v < n ∧ g (p v) = true) → k ≤ cN n g
  | 0, _, _, _, _, _, _ => Nat.zero_le _
  | k + 1, f, g, p, hk, hi, hg => by
    obtain ⟨v, hv, hf⟩ := cN_pos (n := n) (f := f) (by omega)
    have h1 := cN_rmv hv hf
    obtain ⟨h2, h3⟩ := hg v hv hf
    have := cN_inj k (f := rmv f v) (g := rmv g (p v)) (p := p) (by omega) (fun a b ha hb h1 h2 => hi a b ha hb (rmv_at.1 h1).1 (rmv_at.1 h2).1) (fun a ha h => by
      obtain ⟨h4, h5⟩ := rmv_at.1 h
      have := hg a ha h4
      exact ⟨this.1, rmv_at.2 ⟨this.2, fun e => h5 (hi a v ha hv h4 hf e)⟩⟩)
    rw [cN_rmv h2 h3]; omega
/-- pairs among some nodes: each one's partner; who has none is its own -/
structure PM (E : Nat → Nat → Prop) (P : VS) (μ : Nat → Nat) : Prop where
  inv : ∀ v, μ (μ v) = v
  ed : ∀ v, μ v ≠ v → E v (μ v)
  inP : ∀ v, μ v ≠ v → P v = true
def cv (μ : Nat → Nat) : VS := fun v => decide (μ v ≠ v)
theorem cv_at {μ : Nat → Nat} {v : Nat} : cv μ v = true ↔ μ v ≠ v := by simp [cv]
def drp (μ : Nat → Nat) (v : Nat) : Nat → Nat := fun k => if k = v ∨ k = μ v then k else μ k
def put (μ : Nat → Nat) (x y : Nat) : Nat → Nat := fun k => if k = x then y else if k = y then x else μ k
section
variable {E : Nat → Nat → Prop} {P : VS} {μ : Nat → Nat}
theorem PM.ne (h : PM E P μ) {v : Nat} (hv : μ v ≠ v) : μ (μ v) ≠ μ v := by rw [h.inv]; exact fun e => hv e.symm
theorem PM.inj (h : PM E P μ) {a b : Nat} (e : μ a = μ b) : a = b := by rw [← h.inv a, e, h.inv]
theorem drp_eq {v k : Nat} : drp μ v k = if k = v ∨ k = μ v then k else μ k := rfl
theorem PM.drp (h : PM E P μ) (v : Nat) : PM E P (drp μ v) := by
  refine ⟨fun k => ?_, fun k hk => ?_, fun k hk => ?_⟩
  · simp only [drp_eq]
    by_cases e : k = v ∨ k = μ v
    · rw [if_pos e, if_pos e]
    · rw [if_neg e, if_neg ?_, h.inv]
      rintro (e2 | e2)
      · exact e (.inr (by rw [← e2, h.inv]))
      · exact e (.inl (h.inj e2))
  · rw [drp_eq] at hk ⊢
    by_cases e : k = v ∨ k = μ v
    · rw [if_pos e] at hk; exact absurd rfl hk
    · rw [if_neg e] at hk ⊢; exact h.ed k hk
  · rw [drp_eq] at hk
    by_cases e : k = v ∨ k = μ v
    · rw [if_pos e] at hk; exact absurd rfl hk
    · rw [if_neg e] at hk; exact h.inP k hk
theorem cv_drp (v : Nat) : cv (Go.Proofs.YtcjokjfiikkpfaaDoor.drp μ v) = rmv (rmv (cv μ) v) (μ v) := by
  funext k
  unfold cv rmv
  rw [drp_eq]
  by_cases e1 : k = v
  · subst e1; simp
  · by_cases e2 : k = μ v
    · rw [if_pos (.inr e2)]; simp [e2]
    · rw [if_neg (by simp [e1, e2])]; simp [e1, e2]
theorem cv_drp_n {n : Nat} (h : PM E P μ) (hP : ∀ v, P v = true → v < n) {v : Nat} (hv : μ v ≠ v) : cN n (cv μ) = cN n (cv (Go.Proofs.YtcjokjfiikkpfaaDoor.drp μ v)) + 2 := by
  have h1 := hP v (h.inP v hv)
  have h2 := hP (μ v) (h.inP _ (h.ne hv))
  rw [cv_drp, cN_rmv h1 (cv_at.2 hv), cN_rmv h2 (rmv_at.2 ⟨cv_at.2 (h.ne hv), hv⟩)]
theorem PM.put (hsym : ∀ i j, E i j → E j i) (h : PM E P μ) {x y : Nat} (hx : μ x = x) (hy : μ y = y) (hxy : x ≠ y) (he : E x y) (px : P x = true) (py : P y = true) : PM E P (put μ x y) := by
  have hpe : ∀ k, Go.Proofs.YtcjokjfiikkpfaaDoor.put μ x y k = if k = x then y else if k = y then x else μ k := fun _ => rfl
  refine ⟨fun k => ?_, fun k hk => ?_, fun k hk => ?_⟩
  · simp only [hpe]
    by_cases e1 : k = x
    · rw [if_pos e1, if_neg (Ne.symm hxy), if_pos rfl, e1]
    · rw [if_neg e1]
      by_cases e2 : k = y
      · rw [if_pos e2, if_pos rfl, e2]
      · rw [if_neg e2, if_neg (fun e => e1 (h.inj (by rw [e, hx]))), if_neg (fun e => e2 (h.inj (by rw [e, hy]))), h.inv]
  · rw [hpe] at hk ⊢
    by_cases e1 : k = x
    · rw [if_pos e1, e1]; exact he
    · rw [if_neg e1] at hk ⊢
      by_cases e2 : k = y
      · rw [if_pos e2, e2]; exact hsym _ _ he
      · rw [if_neg e2] at hk ⊢; exact h.ed k hk
  · rw [hpe] at hk
    by_cases e1 : k = x
    · rw [e1]; exact px
    · rw [if_neg e1] at hk
      by_cases e2 : k = y
      · rw [e2]; exact py
      · rw [if_neg e2] at hk; exact h.inP k hk
theorem cv_put_n {n : Nat} {x y : Nat} (hx : μ x = x) (hy : μ y = y) (hxy : x ≠ y) (xn : x < n) (yn : y < n) : cN n (cv (put μ x y)) = cN n (cv μ) + 2 := by
  have h1 : put μ x y x = y := by unfold put; simp
  have h2 : put μ x y y = x := by unfold put; simp [Ne.symm hxy]
  rw [cN_rmv xn (cv_at.2 (by rw [h1]; exact Ne.symm hxy)), cN_rmv yn (rmv_at.2 ⟨cv_at.2 (by rw [h2]; exact hxy), Ne.symm hxy⟩)]
  have : cN n (rmv (rmv (cv (put μ x y)) x) y) = cN n (cv μ) := cN_congr fun k _ => by
    unfold rmv cv put
    by_cases e1 : k = x
    · subst e1; simp [hx]
    · by_cases e2 : k = y
      · subst e2; simp [hy]
      · simp [e1, e2]
  omega
/-- among nodes with which their partners are: an even number has one -/
theorem even_in {n : Nat} : ∀ (k : Nat) {f : VS}, cN n f = k → (∀ v, f v = true → v < n) → (∀ v, f v = true → μ v ≠ v ∧ f (μ v) = true) → (∀ v, μ (μ v) = v) → k % 2 = 0 := by
  intro k
  induction k using Nat.strongRecOn with
  | _ k ih =>
    intro f hk hn hf hinv
    by_cases h0 : k = 0
    · subst h0; rfl
    · obtain ⟨v, hv, hfv⟩ := cN_pos (n := n) (f := f) (by omega)
      obtain ⟨h1, h2⟩ := hf v hfv
      have e1 := cN_rmv hv hfv
      have e2 := cN_rmv (hn _ h2) (rmv_at.2 ⟨h2, h1⟩ : rmv f v (μ v) = true)
      have := ih (cN n (rmv (rmv f v) (μ v))) (by omega) rfl (fun w hw => hn w (rmv_at.1 (rmv_at.1 hw).1).1) (fun w hw => by
        obtain ⟨h3, h4⟩ := rmv_at.1 hw
        obtain ⟨h5, h6⟩ := rmv_at.1 h3
        obtain ⟨h7, h8⟩ := hf w h5
        exact ⟨h7, rmv_at.2 ⟨rmv_at.2 ⟨h8, fun e => h4 (by rw [← e, hinv])⟩, fun e => h6 (by rw [← hinv w, e, hinv])⟩⟩) hinv
      omega
theorem PM.even {n : Nat} (h : PM E P μ) (hP : ∀ v, P v = true → v < n) : cN n (cv μ) % 2 = 0 :=
  even_in _ rfl (fun v hv => hP v (h.inP v (cv_at.1 hv))) (fun _ hv => ⟨cv_at.1 hv, cv_at.2 (h.ne (cv_at.1 hv))⟩) h.inv
end
/-- as many pairs as can be -/
structure Mx (n : Nat) (E : Nat → Nat → Prop) (P : VS) (μ : Nat → Nat) : Prop where
  pm : PM E P μ
  most : ∀ ν, PM E P ν → cN n (cv ν) ≤ cN n (cv μ)
/-- never both left over -/
def Rl (n : Nat) (E : Nat → Nat → Prop) (P : VS) (u v : Nat) : Prop := u = v ∨ ∀ μ, Mx n E P μ → ¬ (μ u = u ∧ μ v = v)
def agr (M N : Nat → Nat) : VS := fun v => decide (N v = M v ∧ N v ≠ v)
theorem agr_at {M N : Nat → Nat} {v : Nat} : agr M N v = true ↔ N v = M v ∧ N v ≠ v := by simp [agr]
section
variable {n : Nat} {E : Nat → Nat → Prop} {P : VS}
/-- GALLAI's step -/
theorem gallai (hsym : ∀ i j, E i j → E j i) (hP : ∀ v, P v = true → v < n) {M : Nat → Nat} {u v t : Nat} (hM : Mx n E P M) (hu : M u = u) (hv : M v = v) (huv : u ≠ v) (hun : u < n) (hvn : v < n)
    (hut : ∀ μ, Mx n E P μ → ¬ (μ u = u ∧ μ t = t)) (htv : ∀ μ, Mx n E P μ → ¬ (μ t = t ∧ μ v = v)) : ∀ (k : Nat) (N : Nat → Nat), n - cN n (agr M N) = k → Mx n E P N → N t = t → False := by
  intro k
  induction k using Nat.strongRecOn with
  | _ k ih =>
    intro N hk hN ht
    have hMt : M t ≠ t := fun e => hut M hM ⟨hu, e⟩
    have hNu : N u ≠ u := fun e => hut N hN ⟨e, ht⟩
    have hNv : N v ≠ v := fun e => htv N hN ⟨ht, e⟩
    have hcard : cN n (cv M) = cN n (cv N) := Nat.le_antisymm (hN.most _ hM.pm) (hM.most _ hN.pm)
    have e1 : cN n (cv M) = cN n (fun w => cv M w && cv N w) + cN n (fun w => cv M w && !cv N w) := cN_add (fun w _ => by cases cv M w <;> cases cv N w <;> rfl) (fun w _ => by cases cv M w <;> cases cv N w <;> simp)
    have e2 : cN n (cv N) = cN n (fun w => cv M w && cv N w) + cN n (fun w => cv N w && !cv M w) := cN_add (fun w _ => by cases cv M w <;> cases cv N w <;> rfl) (fun w _ => by cases cv M w <;> cases cv N w <;> simp)
    have hcM : ∀ w, M w = w → cv M w = false := fun w e => by simp [cv, e]
    have h2 : 2 ≤ cN n (fun w => cv N w && !cv M w) := cN_two hun hvn huv (by rw [cv_at.2 hNu, hcM u hu]; rfl) (by rw [cv_at.2 hNv, hcM v hv]; rfl)
    obtain ⟨x, hxn, hxt, hx⟩ : ∃ x, x < n ∧ x ≠ t ∧ (cv M x && !cv N x) = true := by
      have h3 : 0 < cN n (rmv (fun w => cv M w && !cv N w) t) := by
        by_cases htn : t < n
        · have := cnt_rmv' (R := fun w => cv M w && !cv N w) htn
          unfold cN at *
          split at this <;> omega
        · have : cN n (rmv (fun w => cv M w && !cv N w) t) = cN n (fun w => cv M w && !cv N w) := cN_congr fun w hw => by unfold rmv; simp [show w ≠ t by omega]
          omega
      obtain ⟨x, hxn, hx⟩ := cN_pos h3
      exact ⟨x, hxn, (rmv_at.1 hx).2, (rmv_at.1 hx).1⟩
    rw [Bool.and_eq_true, cv_at, Bool.not_eq_true'] at hx
    obtain ⟨hMx, hNx'⟩ := hx
    have hNx : N x = x := by simpa [cv] using hNx'
    obtain ⟨y, hy⟩ : ∃ y, M x = y := ⟨_, rfl⟩
    have hxy : x ≠ y := fun e => hMx (by rw [hy, e])
    have hMy : M y = x := by rw [← hy, hM.pm.inv]
    have hExy : E x y := by rw [← hy]; exact hM.pm.ed x hMx
    have hPx := hM.pm.inP x hMx
    have hPy := hM.pm.inP y (by rw [hMy]; exact hxy)
    have hyn := hP y hPy
    have hNy : N y ≠ y := fun e => by
      have := hN.most _ (hN.pm.put hsym hNx e hxy hExy hPx hPy)
      rw [cv_put_n hNx e hxy hxn hyn] at this
      omega
    obtain ⟨z, hz⟩ : ∃ z, N y = z := ⟨_, rfl⟩
    have hNz : N z = y := by rw [← hz, hN.pm.inv]
    have hzx : z ≠ x := fun e => hxy (by rw [← hNx, ← e, hNz])
    have hzy : z ≠ y := fun e => hNy (by rw [hz, e])
    have hty : t ≠ y := fun e => hNy (by rw [← e]; exact ht)
    have htz : t ≠ z := fun e => hty (by rw [← ht, e, hNz])
    have hd := hN.pm.drp y
    have hdx : drp N y x = x := by
      rw [drp_eq]; split
      · rfl
      · exact hNx
    have hdy : drp N y y = y := by rw [drp_eq]; simp
    have hp := hd.put hsym hdx hdy hxy hExy hPx hPy
    have hc := cv_put_n hdx hdy hxy hxn hyn
    have hc2 := cv_drp_n hN.pm hP hNy
    have hMx' : Mx n E P (put (drp N y) x y) := ⟨hp, fun ν hν => by have := hN.most ν hν; omega⟩
    have hval : ∀ w, put (drp N y) x y w = if w = x then y else if w = y then x else if w = z then w else N w := fun w => by
      unfold put
      rw [drp_eq, hz]
      by_cases e1 : w = x
      · rw [if_pos e1, if_pos e1]
      · rw [if_neg e1, if_neg e1]
        by_cases e2 : w = y
        · rw [if_pos e2, if_pos e2]
        · rw [if_neg e2, if_neg e2]
          by_cases e3 : w = z
          · rw [if_pos (.inr e3), if_pos e3]
          · rw [if_neg (by simp [e2, e3]), if_neg e3]
    have hlt : cN n (agr M N) < cN n (agr M (put (drp N y) x y)) := by
      refine cN_lt hxn (fun w hw ha => ?_) (by simp [agr, hNx]) (agr_at.2 ?_)
      · rw [agr_at] at ha ⊢
        have w1 : w ≠ x := fun e => ha.2 (by rw [e, hNx])
        have w2 : w ≠ y := fun e => hzx (by rw [← hz, ← e, ha.1, e, hMy])
        have w3 : w ≠ z := fun e => by
          have h1 := ha.1
          rw [e, hNz] at h1
          have : M y = z := by rw [h1, hM.pm.inv]
          exact hzx (by rw [← this, hMy])
        rw [hval, if_neg w1, if_neg w2, if_neg w3]
        exact ha
      · rw [hval, if_pos rfl]
        exact ⟨hy.symm, Ne.symm hxy⟩
    have hle : cN n (agr M (put (drp N y) x y)) ≤ n := by
      have := List.countP_le_length (p := agr M (put (drp N y) x y)) (l := List.range n)
      simpa [cN] using this
    exact ih (n - cN n (agr M (put (drp N y) x y))) (by omega) (put (drp N y) x y) rfl hMx' (by rw [hval, if_neg (Ne.symm hxt), if_neg hty, if_neg htz]; exact ht)
theorem Rl.trans (hsym : ∀ i j, E i j → E j i) (hP : ∀ v, P v = true → v < n) {u t v : Nat} (hun : u < n) (hvn : v < n) (hmiss : ∃ N, Mx n E P N ∧ N t = t) (h1 : Rl n E P u t) (h2 : Rl n E P t v) : Rl n E P u v := by
  rcases h1 with rfl | h1
  · exact h2
  · rcases h2 with rfl | h2
    · exact .inr h1
    · by_cases huv : u = v
      · exact .inl huv
      · refine .inr fun M hM ⟨hu, hv⟩ => ?_
        obtain ⟨N, hN, ht⟩ := hmiss
        exact gallai hsym hP hM hu hv huv hun hvn h1 h2 _ N rfl hN ht
theorem Rl.symm {u v : Nat} (h : Rl n E P u v) : Rl n E P v u := by
  rcases h with h | h
  · exact .inl h.symm
  · exact .inr fun μ hμ ⟨a, b⟩ => h μ hμ ⟨b, a⟩
theorem Rl.edge (hsym : ∀ i j, E i j → E j i) (hP : ∀ v, P v = true → v < n) {u v : Nat} (pu : P u = true) (pv : P v = true) (h : E u v) : Rl n E P u v := by
  by_cases huv : u = v
  · exact .inl huv
  · refine .inr fun M hM ⟨hu, hv⟩ => ?_
    have := hM.most _ (hM.pm.put hsym hu hv huv h pu pv)
    rw [cv_put_n hu hv huv (hP u pu) (hP v pv)] at this
    omega
theorem mx_ex : ∃ μ, Mx n E P μ := by
  have h0 : PM E P (fun v => v) := ⟨fun _ => rfl, fun v h => absurd rfl h, fun v h => absurd rfl h⟩
  have : ∀ k, (∃ μ, PM E P μ ∧ n ≤ cN n (cv μ) + k) → ∃ μ, Mx n E P μ := fun k => by
    induction k with
    | zero =>
      rintro ⟨μ, h, hn⟩
      refine ⟨μ, h, fun ν _ => ?_⟩
      have := List.countP_le_length (p := cv ν) (l := List.range n)
      simp only [List.length_range] at this
      unfold cN at hn ⊢
      omega
    | succ k ih =>
      rintro ⟨μ, h, hn⟩
      by_cases hx : ∃ ν, PM E P ν ∧ cN n (cv μ) < cN n (cv ν)
      · obtain ⟨ν, h1, h2⟩ := hx
        exact ih ⟨ν, h1, by omega⟩
      · exact ⟨μ, h, fun ν hν => Nat.le_of_not_lt fun hl => hx ⟨ν, hν, hl⟩⟩
  exact this n ⟨_, h0, by omega⟩
end
/-- in one part of what Q leaves -/
def CnQ (E : Nat → Nat → Prop) (Q : VS) (i j : Nat) : Prop := ∀ R : Nat → Nat → Prop, (∀ i, R i i) → (∀ i j, R i j → R j i) → (∀ i m j, Q m = true → R i m → R m j → R i j) → (∀ i j, Q i = true → Q j = true → E i j → R i j) → R i j
theorem tutte {n : Nat} {E : Nat → Nat → Prop} (hsym : ∀ i j, E i j → E j i) : ∀ (k : Nat) (P : VS), cN n P = k → (∀ v, P v = true → v < n) →
    ∃ Q : VS, (∀ v, Q v = true → P v = true) ∧ ∀ (p : Nat → Nat), (∀ i, Q i = true → p i < n) → (∀ i j, Q i = true → Q j = true → p i = p j → CnQ E Q i j) → (∀ i j, Q i = true → Q j = true → E i j → p i = p j) →
      ∀ M, Mx n E P M → 2 * cN n P ≤ cN n Q + cN n (cv M) + oddL n p Q (List.range n)
  | 0, P, hk, _ => ⟨fun _ => false, fun v h => (by simp at h), fun p _ _ _ M _ => by omega⟩
  | k + 1, P, hk, hP => by
    by_cases hall : ∃ v, P v = true ∧ ∀ M, Mx n E P M → M v ≠ v
    · obtain ⟨v, pv, hv⟩ := hall
      have hcP := cN_rmv (hP v pv) pv
      obtain ⟨Q, hQ, hQp⟩ := tutte hsym k (rmv P v) (by omega) (fun w hw => hP w (rmv_at.1 hw).1)
      refine ⟨Q, fun w hw => (rmv_at.1 (hQ w hw)).1, fun p h1 h2 h3 M hM => ?_⟩
      obtain ⟨M', hM'⟩ := mx_ex (n := n) (E := E) (P := rmv P v)
      have hb := hQp p h1 h2 h3 M' hM'
      have hpm : PM E P M' := ⟨hM'.pm.inv, hM'.pm.ed, fun w hw => (rmv_at.1 (hM'.pm.inP w hw)).1⟩
      have hle := hM.most M' hpm
      have hne : cN n (cv M') ≠ cN n (cv M) := fun e => by
        have hmx : Mx n E P M' := ⟨hpm, fun ν hν => by rw [e]; exact hM.most ν hν⟩
        exact hv M' hmx (Classical.byContradiction fun hn => (rmv_at.1 (hM'.pm.inP v hn)).2 rfl)
      have he1 := hpm.even hP
      have he2 := hM.pm.even hP
      omega
    · have hmiss : ∀ v, P v = true → ∃ N, Mx n E P N ∧ N v = v := fun v pv => Classical.byContradiction fun h => hall ⟨v, pv, fun M hM e => h ⟨M, hM, e⟩⟩
      refine ⟨P, fun v h => h, fun p h1 h2 h3 M hM => ?_⟩
      -- who is left over, and who is not
      have hsplit : cN n P = cN n (cv M) + cN n (fun v => P v && !cv M v) := cN_add (fun v _ => by
        cases hc : cv M v
        · simp
        · rw [hM.pm.inP v (cv_at.1 hc)]; rfl) (fun v _ h => by rw [h]; simp)
      have hinj : cN n (fun v => P v && !cv M v) ≤ oddL n p P (List.range n) := by
        refine cN_inj _ (g := fun i => clsL p P i (List.range n) % 2 == 1) (p := p) rfl (fun u v hu hv h4 h5 e => ?_) (fun v hv h4 => ?_)
        · rw [Bool.and_eq_true, Bool.not_eq_true'] at h4 h5
          have hR : Rl n E P u v ∨ ¬ (u < n ∧ v < n) := h2 u v h4.1 h5.1 e (fun a b => Rl n E P a b ∨ ¬ (a < n ∧ b < n)) (fun i => .inl (.inl rfl)) (fun i j h => by
            rcases h with h | h
            · exact .inl h.symm
            · exact .inr fun h' => h ⟨h'.2, h'.1⟩) (fun i m j pm h h' => by
            by_cases hin : i < n ∧ j < n
            · have hmn := hP m pm
              refine .inl (Rl.trans hsym hP hin.1 hin.2 (hmiss m pm) ?_ ?_)
              · rcases h with h | h
                · exact h
                · exact absurd ⟨hin.1, hmn⟩ h
              · rcases h' with h' | h'
                · exact h'
                · exact absurd ⟨hmn, hin.2⟩ h'
            · exact .inr hin) (fun i j pi pj he => .inl (Rl.edge hsym hP pi pj he))
          rcases hR with (hR | hR) | hR
          · exact hR
          · exact absurd ⟨by simpa [cv] using h4.2, by simpa [cv] using h5.2⟩ (hR M hM)
          · exact absurd ⟨hu, hv⟩ hR
        · rw [Bool.and_eq_true, Bool.not_eq_true'] at h4
          refine ⟨h1 v h4.1, ?_⟩
          -- the class of v: all are paired but v alone
          have hcl : clsL p P (p v) (List.range n) = cN n (fun j => (decide (p j = p v) && P j) && cv M j) + 1 := by
            have hv1 : (decide (p v = p v) && P v) = true := by simp [h4.1]
            have e1 := cN_rmv (n := n) (f := fun j => decide (p j = p v) && P j) hv hv1
            have e2 : cN n (rmv (fun j => decide (p j = p v) && P j) v) = cN n (fun j => (decide (p j = p v) && P j) && cv M j) := cN_congr fun j hj => by
              unfold rmv
              dsimp only
              by_cases ej : j = v
              · subst ej; rw [h4.2]; simp
              · cases hq : (decide (p j = p v) && P j)
                · simp
                · rw [Bool.and_eq_true, decide_eq_true_eq] at hq
                  cases hc : cv M j
                  · exfalso
                    have hR : Rl n E P j v ∨ ¬ (j < n ∧ v < n) := h2 j v hq.2 h4.1 hq.1 (fun a b => Rl n E P a b ∨ ¬ (a < n ∧ b < n)) (fun i => .inl (.inl rfl)) (fun i j h => by
                      rcases h with h | h
                      · exact .inl h.symm
                      · exact .inr fun h' => h ⟨h'.2, h'.1⟩) (fun i m j pm h h' => by
                      by_cases hin : i < n ∧ j < n
                      · have hmn := hP m pm
                        refine .inl (Rl.trans hsym hP hin.1 hin.2 (hmiss m pm) ?_ ?_)
                        · rcases h with h | h
                          · exact h
                          · exact absurd ⟨hin.1, hmn⟩ h
                        · rcases h' with h' | h'
                          · exact h'
                          · exact absurd ⟨hmn, hin.2⟩ h'
                      · exact .inr hin) (fun i j pi pj he => .inl (Rl.edge hsym hP pi pj he))
                    rcases hR with (hR | hR) | hR
                    · exact ej hR
                    · exact hR M hM ⟨by simpa [cv] using hc, by simpa [cv] using h4.2⟩
                    · exact hR ⟨hj, hv⟩
                  · simp [ej]
            unfold clsL
            unfold cN at e1 e2 ⊢
            omega
          have hev := even_in (n := n) (μ := M) _ (f := fun j => (decide (p j = p v) && P j) && cv M j) rfl (fun w hw => by
            simp only [Bool.and_eq_true] at hw; exact hP w hw.1.2) (fun w hw => by
            simp only [Bool.and_eq_true, decide_eq_true_eq] at hw ⊢
            obtain ⟨⟨q1, q2⟩, q3⟩ := hw
            have q4 := cv_at.1 q3
            have q5 := hM.pm.inP _ (hM.pm.ne q4)
            exact ⟨q4, ⟨by rw [← h3 w (M w) q2 q5 (hM.pm.ed w q4)]; exact q1, q5⟩, cv_at.2 (hM.pm.ne q4)⟩) hM.pm.inv
          rw [hcl, beq_iff_eq]
          omega
      omega
end Go.Proofs.YtcjokjfiikkpfaaDoor
