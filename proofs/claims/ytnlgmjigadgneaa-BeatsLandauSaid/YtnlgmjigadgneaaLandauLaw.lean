/- LANDAU: which scores players can have. Plain. -/
import Derived.Test.YtnlgmjigadgneaaBase
namespace Go.Proofs.Ytnlgmjigadgneaa

/-- each against each -/
structure Trn (B : Nat → Nat → Bool) : Prop where
  irr : ∀ a, B a a = false
  one : ∀ a b, a ≠ b → B a b = !B b a
def scr (n : Nat) (B : Nat → Nat → Bool) (x : Nat) : Nat := (List.range n).countP (B x)
theorem countP_upd (f : Nat → Bool) (y : Nat) (b : Bool) : ∀ n, y < n → ((List.range n).countP fun j => if j = y then b else f j) + (if f y then 1 else 0) = (List.range n).countP f + (if b then 1 else 0) := by
  have hlow : ∀ n, n ≤ y → ((List.range n).countP fun j => if j = y then b else f j) = (List.range n).countP f := fun n hn => List.countP_congr fun x hx => by
    have := List.mem_range.1 hx
    rw [if_neg (by omega)]
  intro n
  induction n with
  | zero => intro h; omega
  | succ n ih =>
    intro h
    rw [List.range_succ, List.countP_append, List.countP_append, List.countP_singleton, List.countP_singleton]
    by_cases hy : y = n
    · subst hy
      rw [hlow y (Nat.le_refl _), if_pos rfl]
      cases b <;> cases f y <;> simp
    · have := ih (by omega)
      have e : (if n = y then b else f n) = f n := if_neg (fun e => hy e.symm)
      rw [e]
      omega
def sumN (f : Nat → Nat) : Nat → Nat
  | 0 => 0
  | n + 1 => sumN f n + f n
theorem sumN_congr {f g : Nat → Nat} : ∀ n, (∀ i, i < n → f i = g i) → sumN f n = sumN g n
  | 0, _ => rfl
  | n + 1, h => by rw [sumN, sumN, sumN_congr n (fun i hi => h i (by omega)), h n (by omega)]
theorem sumN_le {f g : Nat → Nat} : ∀ n, (∀ i, i < n → f i ≤ g i) → sumN f n ≤ sumN g n
  | 0, _ => Nat.le_refl _
  | n + 1, h => by
    have := sumN_le (f := f) (g := g) n (fun i hi => h i (by omega))
    have := h n (by omega)
    rw [sumN, sumN]; omega
theorem sumN_lt {f g : Nat → Nat} : ∀ n, (∀ i, i < n → f i ≤ g i) → (∃ i, i < n ∧ f i < g i) → sumN f n < sumN g n
  | 0, _, ⟨i, h, _⟩ => by omega
  | n + 1, h, ⟨i, hi, hlt⟩ => by
    have h1 := sumN_le (f := f) (g := g) n (fun i hi => h i (by omega))
    have h2 := h n (by omega)
    rw [sumN, sumN]
    by_cases he : i = n
    · subst he; omega
    · have := sumN_lt (f := f) (g := g) n (fun i hi => h i (by omega)) ⟨i, by omega, hlt⟩
      omega
theorem sumN_upd (f : Nat → Nat) (y v : Nat) : ∀ n, y < n → sumN (fun j => if j = y then v else f j) n + f y = sumN f n + v := by
  intro n
  induction n with
  | zero => intro h; omega
  | succ n ih =>
    intro h
    rw [sumN, sumN]
    by_cases hy : y = n
    · subst hy
      rw [sumN_congr (g := f) y (fun i hi => by rw [if_neg (by omega)]), if_pos rfl]
      omega
    · have := ih (by omega)
      rw [if_neg (fun e => hy e.symm)]
      omega
/-- one game turned: from x beats y to y beats x -/
def flipB (B : Nat → Nat → Bool) (x y : Nat) : Nat → Nat → Bool := fun a b => if a = x ∧ b = y then false else if a = y ∧ b = x then true else B a b
theorem Trn.flip {B : Nat → Nat → Bool} (h : Trn B) {x y : Nat} (hxy : x ≠ y) : Trn (flipB B x y) where
  irr := fun a => by
    unfold flipB
    rw [if_neg (by omega), if_neg (by omega), h.irr]
  one := fun a b hab => by
    unfold flipB
    by_cases h1 : a = x ∧ b = y
    · rw [if_pos h1, if_neg (by omega), if_pos (by omega)]; rfl
    · by_cases h2 : a = y ∧ b = x
      · rw [if_neg h1, if_pos h2, if_pos (by omega)]; rfl
      · rw [if_neg h1, if_neg h2, if_neg (by omega), if_neg (by omega)]; exact h.one a b hab
theorem scr_flip_x {B : Nat → Nat → Bool} {n x y : Nat} (hxy : x ≠ y) (hy : y < n) (hB : B x y = true) : scr n (flipB B x y) x + 1 = scr n B x := by
  have := countP_upd (B x) y false n hy
  rw [hB] at this
  unfold scr
  simp only [if_true, Bool.false_eq_true, if_false] at this
  rw [show flipB B x y x = fun j => if j = y then false else B x j from by
    funext j; unfold flipB
    by_cases hj : j = y
    · rw [if_pos ⟨rfl, hj⟩, if_pos hj]
    · rw [if_neg (fun h => hj h.2), if_neg (fun h => hxy h.1), if_neg hj]]
  omega
theorem scr_flip_y {B : Nat → Nat → Bool} {n x y : Nat} (hxy : x ≠ y) (hx : x < n) (hB : B y x = false) : scr n (flipB B x y) y = scr n B y + 1 := by
  have := countP_upd (B y) x true n hx
  rw [hB] at this
  unfold scr
  simp only [if_true, Bool.false_eq_true, if_false] at this
  rw [show flipB B x y y = fun j => if j = x then true else B y j from by
    funext j; unfold flipB
    by_cases hj : j = x
    · rw [if_neg (fun h => hxy h.1.symm), if_pos ⟨rfl, hj⟩, if_pos hj]
    · rw [if_neg (fun h => hxy h.1.symm), if_neg (fun h => hj h.2), if_neg hj]]
  omega
theorem scr_flip_o {B : Nat → Nat → Bool} {n x y z : Nat} (h1 : z ≠ x) (h2 : z ≠ y) : scr n (flipB B x y) z = scr n B z := by
  unfold scr
  rw [show flipB B x y z = B z from by funext j; unfold flipB; rw [if_neg (fun h => h1 h.1), if_neg (fun h => h2 h.1)]]
/-- how much too many wins there are -/
def dev (n : Nat) (s : Nat → Nat) (B : Nat → Nat → Bool) : Nat := sumN (fun x => scr n B x - s x) n
/-- a row of players, each beats the next one -/
def Pth (B : Nat → Nat → Bool) : List Nat → Prop
  | [] => True
  | [_] => True
  | x :: y :: l => B x y = true ∧ x ∉ y :: l ∧ Pth B (y :: l)
theorem dev_flip {B : Nat → Nat → Bool} {n x y : Nat} {s : Nat → Nat} (hxy : x ≠ y) (hx : x < n) (hy : y < n) (hB : B x y = true) (hB2 : B y x = false) (he : s x < scr n B x) :
    dev n s (flipB B x y) + 1 = dev n s B + (if s y ≤ scr n B y then 1 else 0) := by
  unfold dev
  obtain ⟨F, hF⟩ : ∃ F : Nat → Nat, F = fun z => if z = x then scr n B x - 1 - s x else scr n B z - s z := ⟨_, rfl⟩
  have hFy : F y = scr n B y - s y := by rw [hF]; exact if_neg (fun e => hxy e.symm)
  have e1 : (fun z => scr n (flipB B x y) z - s z) = fun z => if z = y then scr n B y + 1 - s y else F z := by
    funext z
    by_cases h1 : z = y
    · subst h1; rw [if_pos rfl, scr_flip_y hxy hx hB2]
    · rw [if_neg h1, hF]
      by_cases h2 : z = x
      · subst h2
        have := scr_flip_x hxy hy hB
        simp only [if_true]
        omega
      · simp only [if_neg h2]; rw [scr_flip_o h2 h1]
  rw [e1]
  have a1 := sumN_upd F y (scr n B y + 1 - s y) n hy
  have a2 := sumN_upd (fun z => scr n B z - s z) x (scr n B x - 1 - s x) n hx
  rw [← hF] at a2
  rw [hFy] at a1
  split <;> omega
theorem sq1 (k : Nat) : (k + 1) * (k + 1) = k * k + 2 * k + 1 := by rw [Nat.add_mul, Nat.mul_add]; omega
theorem pth_flip {B : Nat → Nat → Bool} {x y : Nat} : ∀ l : List Nat, Pth B l → x ∉ l → Pth (flipB B x y) l
  | [], _, _ => trivial
  | [_], _, _ => trivial
  | a :: b :: l, h, hx => by
    simp only [List.mem_cons, not_or] at hx
    refine ⟨?_, h.2.1, pth_flip (b :: l) h.2.2 (by simp only [List.mem_cons, not_or]; exact hx.2)⟩
    unfold flipB
    rw [if_neg (fun e => hx.1 e.1.symm), if_neg (fun e => hx.2.1 e.2.symm)]
    exact h.1
/-- a row from one with too many wins to one with too few: it gets better -/
theorem improve {n : Nat} {s : Nat → Nat} : ∀ (l : List Nat) (B : Nat → Nat → Bool) (x z : Nat), Trn B → Pth B (x :: l) → (x :: l).getLast? = some z → (∀ a ∈ x :: l, a < n) → s x < scr n B x → scr n B z < s z → ∃ B', Trn B' ∧ dev n s B' < dev n s B
  | [], B, x, z, _, _, hl, _, h1, h2 => by simp at hl; subst hl; omega
  | y :: l, B, x, z, hT, hP, hl, hn, h1, h2 => by
    obtain ⟨hB, hx, hP'⟩ := hP
    have hxy : x ≠ y := fun e => hx (by simp [e])
    have hxn := hn x (by simp)
    have hyn := hn y (by simp)
    have hB2 : B y x = false := by rw [hT.one y x (Ne.symm hxy), hB]; rfl
    have hd := dev_flip (s := s) hxy hxn hyn hB hB2 h1
    by_cases hy : s y ≤ scr n B y
    · rw [if_pos hy] at hd
      have hzl : z ∈ y :: l := by
        rw [List.getLast?_cons_cons] at hl
        exact List.mem_of_getLast? hl
      have hzx : z ≠ x := fun e => hx (e ▸ hzl)
      have hzy : z ≠ y := fun e => by subst e; omega
      obtain ⟨B', hB', hlt⟩ := improve (s := s) l (flipB B x y) y z (hT.flip hxy) (pth_flip _ hP' hx) (by rwa [List.getLast?_cons_cons] at hl) (fun a ha => hn a (List.mem_cons_of_mem _ ha)) (by rw [scr_flip_y hxy hxn hB2]; omega) (by rw [scr_flip_o hzx hzy]; exact h2)
      exact ⟨B', hB', by omega⟩
    · rw [if_neg hy] at hd
      exact ⟨_, hT.flip hxy, by omega⟩
theorem pth_from {B : Nat → Nat → Bool} {x : Nat} : ∀ l : List Nat, Pth B l → x ∈ l → ∃ l', Pth B (x :: l') ∧ (x :: l').getLast? = l.getLast? ∧ (∀ a ∈ x :: l', a ∈ l)
  | [], _, h => by cases h
  | [a], _, h => by
    simp at h; subst h
    exact ⟨[], trivial, rfl, fun a h => h⟩
  | a :: b :: l, h, hx => by
    by_cases he : x = a
    · subst he; exact ⟨b :: l, h, rfl, fun a h => h⟩
    · obtain ⟨l', h1, h2, h3⟩ := pth_from (b :: l) h.2.2 (by rcases List.mem_cons.1 hx with h | h; exact absurd h he; exact h)
      exact ⟨l', h1, by rw [h2, List.getLast?_cons_cons], fun a ha => List.mem_cons_of_mem _ (h3 a ha)⟩
/-- who wins within some -/
def inS (S : Nat → Bool) (B : Nat → Nat → Bool) (n x : Nat) : Nat := (List.range n).countP fun j => S j && B x j
def sumS (S : Nat → Bool) (f : Nat → Nat) (n : Nat) : Nat := sumN (fun x => if S x then f x else 0) n
def sizeS (S : Nat → Bool) (n : Nat) : Nat := (List.range n).countP S
theorem inS_succ (S : Nat → Bool) (B : Nat → Nat → Bool) (n x : Nat) : inS S B (n + 1) x = inS S B n x + if S n && B x n then 1 else 0 := by
  unfold inS
  rw [List.range_succ, List.countP_append, List.countP_singleton]
theorem sizeS_succ (S : Nat → Bool) (n : Nat) : sizeS S (n + 1) = sizeS S n + if S n then 1 else 0 := by
  unfold sizeS
  rw [List.range_succ, List.countP_append, List.countP_singleton]
/-- all the games among some -/
theorem games (S : Nat → Bool) {B : Nat → Nat → Bool} (hT : Trn B) : ∀ n, 2 * sumS S (inS S B n) n + sizeS S n = sizeS S n * sizeS S n
  | 0 => by simp [sumS, sumN, sizeS]
  | n + 1 => by
    have ih := games S hT n
    have key : ∀ m, m ≤ n → sumN (fun x => if S x then inS S B (n + 1) x else 0) m + (if S n then (List.range m).countP (fun j => S j && B n j) else 0) = sumN (fun x => if S x then inS S B n x else 0) m + (if S n then sizeS S m else 0) := by
      intro m
      induction m with
      | zero => simp [sumN, sizeS]
      | succ m ihm =>
        intro hm
        have ihm := ihm (by omega)
        rw [sumN, sumN, List.range_succ, List.countP_append, List.countP_singleton, sizeS_succ, inS_succ]
        have h1 := hT.one n m (by omega)
        cases hn : S n <;> cases hm' : S m <;> cases hb : B m n <;> simp [hn, hb, h1] at ihm ⊢ <;> omega
    have hk := key n (Nat.le_refl _)
    have hself : inS S B (n + 1) n = inS S B n n := by rw [inS_succ, hT.irr]; simp
    unfold sumS at *
    rw [sumN, sizeS_succ, hself]
    cases hn : S n
    · rw [hn] at hk
      simp only [Bool.false_eq_true, if_false, Nat.add_zero] at hk ⊢
      rw [hk]; exact ih
    · rw [hn] at hk
      simp only [if_true] at hk ⊢
      have : (List.range n).countP (fun j => S j && B n j) = inS S B n n := rfl
      rw [this] at hk
      rw [sq1]
      omega
theorem sumS_all (f : Nat → Nat) (n : Nat) : sumS (fun _ => true) f n = sumN f n := by simp [sumS]
/-- LANDAU, the one way -/
theorem landau_must (S : Nat → Bool) {B : Nat → Nat → Bool} (hT : Trn B) (n : Nat) : sizeS S n * sizeS S n ≤ 2 * sumS S (scr n B) n + sizeS S n := by
  have h := games S hT n
  have : sumS S (inS S B n) n ≤ sumS S (scr n B) n := sumN_le n fun i _ => by
    split
    · exact List.countP_mono_left fun x _ hx => by rw [Bool.and_eq_true] at hx; exact hx.2
    · exact Nat.le_refl _
  omega
theorem landau_all {B : Nat → Nat → Bool} (hT : Trn B) (n : Nat) : n * n = 2 * sumN (scr n B) n + n := by
  have h := games (fun _ => true) hT n
  have e : sizeS (fun _ => true) n = n := by unfold sizeS; rw [List.countP_true]; simp
  rw [e, sumS_all] at h
  have e2 : sumN (inS (fun _ => true) B n) n = sumN (scr n B) n := sumN_congr n fun i _ => by unfold inS scr; congr 1
  rw [e2] at h
  exact h.symm
/-- LANDAU, the other way -/
theorem landau {n : Nat} {s : Nat → Nat} (hall : n * n = 2 * sumN s n + n) (hS : ∀ S : Nat → Bool, sizeS S n * sizeS S n ≤ 2 * sumS S s n + sizeS S n) : ∃ B, Trn B ∧ ∀ x, x < n → scr n B x = s x := by
  have hex : ∀ d B, dev n s B = d → Trn B → ∃ B', Trn B' ∧ dev n s B' = 0 := by
    intro d
    induction d using Nat.strongRecOn with
    | _ d ih =>
      intro B hd hT
      rcases Nat.eq_zero_or_pos d with h0 | h0
      · exact ⟨B, hT, by omega⟩
      · obtain ⟨i, hi, hie⟩ : ∃ i, i < n ∧ s i < scr n B i := Classical.byContradiction fun hno => by
          have : dev n s B = sumN (fun _ => 0) n := sumN_congr n fun i hi => by
            have : ¬ s i < scr n B i := fun h => hno ⟨i, hi, h⟩
            omega
          have h2 : ∀ m, sumN (fun _ => 0) m = 0 := fun m => by induction m with
            | zero => rfl
            | succ m ih => rw [sumN, ih]
          rw [h2] at this
          omega
        have himp : ∃ B', Trn B' ∧ dev n s B' < dev n s B := Classical.byContradiction fun hno => by
          -- from whom one comes to one with too few
          have hU : ∀ x, (∃ l z, Pth B (x :: l) ∧ (x :: l).getLast? = some z ∧ (∀ a ∈ x :: l, a < n) ∧ scr n B z < s z) → ¬ s x < scr n B x := fun x ⟨l, z, h1, h2, h3, h4⟩ h5 => hno (improve l B x z hT h1 h2 h3 h5 h4)
          let S : Nat → Bool := fun x => @decide (¬ ∃ l z, Pth B (x :: l) ∧ (x :: l).getLast? = some z ∧ (∀ a ∈ x :: l, a < n) ∧ scr n B z < s z) (Classical.propDecidable _)
          have hSi : S i = true := by
            simp only [S, decide_eq_true_eq]
            exact fun h => hU i h hie
          have hSs : ∀ x, x < n → S x = true → s x ≤ scr n B x := fun x hx h => by
            simp only [S, decide_eq_true_eq] at h
            exact Nat.le_of_not_lt fun hlt => h ⟨[], x, trivial, rfl, fun a ha => by simp at ha; subst ha; exact hx, hlt⟩
          have hSc : ∀ x y, x < n → y < n → S x = true → B x y = true → S y = true := fun x y hx hy h1 hB => by
            simp only [S, decide_eq_true_eq] at h1 ⊢
            intro ⟨l, z, p1, p2, p3, p4⟩
            apply h1
            by_cases hm : x ∈ y :: l
            · obtain ⟨l', q1, q2, q3⟩ := pth_from (y :: l) p1 hm
              exact ⟨l', z, q1, by rw [q2, p2], fun a ha => p3 a (q3 a ha), p4⟩
            · exact ⟨y :: l, z, ⟨hB, hm, p1⟩, by rw [List.getLast?_cons_cons]; exact p2, fun a ha => by
                rcases List.mem_cons.1 ha with rfl | ha
                · exact hx
                · exact p3 a ha, p4⟩
          have hg := games S hT n
          have e : sumS S (inS S B n) n = sumS S (scr n B) n := sumN_congr n fun x hx => by
            split
            · rename_i h
              unfold inS scr
              refine List.countP_congr fun j hj => ?_
              have hjn := List.mem_range.1 hj
              cases hb : B x j
              · simp
              · rw [hSc x j hx hjn h hb]; simp
            · rfl
          rw [e] at hg
          have hlt : sumS S s n < sumS S (scr n B) n := sumN_lt n (fun x hx => by
            split
            · rename_i h; exact hSs x hx h
            · exact Nat.le_refl _) ⟨i, hi, by rw [if_pos hSi, if_pos hSi]; exact hie⟩
          have := hS S
          omega
        obtain ⟨B', h1, h2⟩ := himp
        exact ih _ (by omega) B' rfl h1
  obtain ⟨B, hT, h0⟩ := hex _ (fun a b => decide (a < b)) rfl ⟨fun a => by simp, fun a b hab => by
    by_cases h : a < b
    · rw [decide_eq_true h, decide_eq_false (by omega)]; rfl
    · rw [decide_eq_false h, decide_eq_true (by omega)]; rfl⟩
  refine ⟨B, hT, ?_⟩
  have hle : ∀ x, x < n → scr n B x ≤ s x := fun x hx => Nat.le_of_not_lt fun hlt => by
    have hz : ∀ m, sumN (fun _ => 0) m = 0 := fun m => by induction m with
      | zero => rfl
      | succ m ih => rw [sumN, ih]
    have := sumN_lt (f := fun _ => 0) (g := fun x => scr n B x - s x) n (fun i _ => Nat.zero_le _) ⟨x, hx, by omega⟩
    rw [hz] at this
    unfold dev at h0
    omega
  have ha := landau_all hT n
  have hsum : sumN (scr n B) n = sumN s n := by omega
  intro x hx
  refine Classical.byContradiction fun hne => ?_
  have := sumN_lt (f := scr n B) (g := s) n hle ⟨x, hx, by have := hle x hx; omega⟩
  omega
end Go.Proofs.Ytnlgmjigadgneaa
