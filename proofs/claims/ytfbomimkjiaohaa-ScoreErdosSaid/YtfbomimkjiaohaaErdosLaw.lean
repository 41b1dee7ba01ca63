/- Erdos and Gallai's condition: for any set of places just if for the greatest ones. Plain. -/
import Derived.Test.YtfbomimkjiaohaaBase
namespace Go.Proofs.Ytfbomimkjiaohaa

def isum : List Int → Int
  | [] => 0
  | a :: l => a + isum l
theorem isum_append (a b : List Int) : isum (a ++ b) = isum a + isum b := by
  induction a with
  | nil => simp [isum]
  | cons x a ih => simp only [List.cons_append, isum, ih]; omega
theorem isum_perm {a b : List Int} (h : a.Perm b) : isum a = isum b := by
  induction h with
  | nil => rfl
  | cons x _ ih => simp only [isum, ih]
  | swap x y l => simp only [isum]; omega
  | trans _ _ ih1 ih2 => exact ih1.trans ih2
/-- what is picked of a list by a mask -/
def selS (g : Int → Int) (m : List Bool) (l : List Int) : Int := isum ((m.zip l).map fun p => if p.1 then g p.2 else 0)
theorem selS_cons (g : Int → Int) (b : Bool) (m : List Bool) (a : Int) (l : List Int) : selS g (b :: m) (a :: l) = (if b then g a else 0) + selS g m l := rfl
/-- a mask of a list is one of any order of it -/
theorem mask_perm {l d : List Int} (h : l.Perm d) : ∀ m : List Bool, m.length = l.length → ∃ m' : List Bool, m'.length = d.length ∧ m'.count true = m.count true ∧ ∀ g, selS g m' d = selS g m l := by
  induction h with
  | nil => exact fun m hm => ⟨m, hm, rfl, fun _ => rfl⟩
  | @cons x l1 l2 _ ih =>
    intro m hm
    match m, hm with
    | b :: m, hm =>
      obtain ⟨m', h1, h2, h3⟩ := ih m (by simpa using hm)
      exact ⟨b :: m', by simp [h1], by rw [List.count_cons, List.count_cons, h2], fun g => by rw [selS_cons, selS_cons, h3]⟩
  | swap x y l =>
    intro m hm
    match m, hm with
    | b :: c :: m, hm =>
      refine ⟨c :: b :: m, by simpa using hm, by simp only [List.count_cons]; omega, fun g => ?_⟩
      simp only [selS_cons]; omega
  | trans _ _ ih1 ih2 =>
    intro m hm
    obtain ⟨m1, h1, h2, h3⟩ := ih1 m hm
    obtain ⟨m2, h4, h5, h6⟩ := ih2 m1 h1
    exact ⟨m2, h4, h5.trans h2, fun g => (h6 g).trans (h3 g)⟩
theorem take_snocI (g : Int → Int) (l : List Int) (k : Nat) (hk : k < l.length) : isum ((l.take (k + 1)).map g) = isum ((l.take k).map g) + g (l.getD k 0) := by
  rw [List.take_add_one, show l[k]? = some (l.getD k 0) by simp [List.getD, hk], Option.toList_some, List.map_append, isum_append]
  simp [isum]
/-- of a list, the greatest first, nothing picked is more than its beginning -/
theorem top_le {g : Int → Int} (hg : ∀ a b, a ≤ b → g a ≤ g b) : ∀ (l : List Int), l.Pairwise (fun a b => b ≤ a) → ∀ m : List Bool, m.length = l.length → selS g m l ≤ isum ((l.take (m.count true)).map g)
  | [], _, m, hm => by
    obtain rfl : m = [] := List.length_eq_zero_iff.1 hm
    exact Int.le_refl _
  | a :: l, hs, b :: m, hm => by
    rw [List.pairwise_cons] at hs
    have hm' : m.length = l.length := by simpa using hm
    have ih := top_le hg l hs.2 m hm'
    rw [selS_cons, List.count_cons]
    cases b
    · have hc : m.count true ≤ l.length := hm' ▸ List.count_le_length
      rw [show ((if false = true then g a else 0) : Int) = 0 from rfl, Int.zero_add, show (List.count true m + if (false == true) = true then 1 else 0) = m.count true from rfl]
      generalize m.count true = k at *
      match k with
      | 0 => simpa [isum] using ih
      | k + 1 =>
        rw [take_snocI g l k (by omega)] at ih
        have h1 : g (l.getD k 0) ≤ g a := hg _ _ (hs.1 _ (by simp [List.getD, show k < l.length by omega]))
        rw [List.take_succ_cons, List.map_cons, isum]
        omega
    · simp only [if_true, beq_self_eq_true]
      rw [List.take_succ_cons, List.map_cons, isum]
      omega
theorem count_rep (k n : Nat) : (List.replicate k true ++ List.replicate n false).count true = k := by
  rw [List.count_append, List.count_replicate, List.count_replicate]; simp
theorem sel_top (g : Int → Int) : ∀ (l : List Int) (k n : Nat), l.length = k + n → selS g (List.replicate k true ++ List.replicate n false) l = isum ((l.take k).map g)
  | [], k, n, h => by
    obtain rfl : k = 0 := by simp at h; omega
    obtain rfl : n = 0 := by simp at h; omega
    rfl
  | a :: l, 0, 0, h => by simp at h
  | a :: l, 0, n + 1, h => by
    have ih := sel_top g l 0 n (by simp at h; omega)
    rw [List.replicate_succ, List.replicate_zero, List.nil_append, selS_cons]
    rw [List.replicate_zero, List.nil_append] at ih
    rw [ih]; simp [isum]
  | a :: l, k + 1, n, h => by
    have ih := sel_top g l k n (by simp at h; omega)
    rw [List.replicate_succ, List.cons_append, selS_cons, ih, List.take_succ_cons, List.map_cons, isum]; rfl
/-- the bits of a word, as a mask -/
def maskW (n s : Nat) : List Bool := (List.range n).map s.testBit
theorem maskW_len (n s : Nat) : (maskW n s).length = n := by simp [maskW]
def wordM : List Bool → Nat
  | [] => 0
  | b :: m => (if b then 1 else 0) + 2 * wordM m
theorem wordM_lt : ∀ m : List Bool, wordM m < 2 ^ m.length
  | [] => by simp [wordM]
  | b :: m => by
    have := wordM_lt m
    rw [wordM, List.length_cons, Nat.pow_succ]
    split <;> omega
theorem wordM_bit : ∀ (m : List Bool) (i : Nat), (wordM m).testBit i = m.getD i false
  | [], i => by simp [wordM]
  | b :: m, 0 => by
    rw [wordM, Nat.testBit_zero]
    cases b <;> simp <;> omega
  | b :: m, i + 1 => by
    rw [Nat.testBit_succ, wordM, show ((if b then 1 else 0) + 2 * wordM m) / 2 = wordM m by split <;> omega, wordM_bit m i]
    rfl
theorem maskW_wordM (m : List Bool) : maskW m.length (wordM m) = m := by
  refine List.ext_getElem (by simp [maskW]) fun i h1 h2 => ?_
  simp only [maskW, List.getElem_map, List.getElem_range, wordM_bit]
  simp [List.getD, h2]
/-- a sum over the places ahead of i -/
def sumI (f : Nat → Int → Int) (d : List Int) (i : Nat) : Int := isum ((List.range i).map fun j => f j (d.getD j 0))
theorem sumI_zero (f : Nat → Int → Int) (d : List Int) : sumI f d 0 = 0 := rfl
theorem sumI_succ (f : Nat → Int → Int) (d : List Int) (i : Nat) : sumI f d (i + 1) = sumI f d i + f i (d.getD i 0) := by
  unfold sumI
  rw [List.range_succ, List.map_append, isum_append]
  simp [isum]
theorem sumI_sel (g : Int → Int) (d : List Int) (s : Nat) : sumI (fun j x => if s.testBit j then g x else 0) d d.length = selS g (maskW d.length s) d := by
  unfold sumI selS
  congr 1
  refine List.ext_getElem (by simp [maskW]) fun i h1 h2 => ?_
  have hi : i < d.length := by simpa using h1
  simp [maskW, List.getD, hi]
theorem sumI_map (g : Int → Int) (d : List Int) : sumI (fun _ x => g x) d d.length = isum (d.map g) := by
  unfold sumI
  congr 1
  refine List.ext_getElem (by simp) fun i h1 h2 => ?_
  have hi : i < d.length := by simpa using h1
  simp [List.getD, hi]
theorem sumI_add {f g h : Nat → Int → Int} (d : List Int) (n : Nat) (e : ∀ j x, f j x + g j x = h j x) : sumI f d n + sumI g d n = sumI h d n := by
  induction n with
  | zero => rfl
  | succ n ih => rw [sumI_succ, sumI_succ, sumI_succ, ← ih, ← e]; omega
def mn (k : Nat) (x : Int) : Int := if x < k then x else k
def Fk (k : Nat) (x : Int) : Int := x + mn k x
theorem Fk_mono (k : Nat) (a b : Int) (h : a ≤ b) : Fk k a ≤ Fk k b := by
  unfold Fk mn; split <;> split <;> omega
/-- what those in s have is no more than they can have -/
def condS (d : List Int) (s : Nat) : Prop :=
  sumI (fun j x => if s.testBit j then x else 0) d d.length ≤ ((maskW d.length s).count true : Int) * ((maskW d.length s).count true - 1 : Int) + sumI (fun j x => if s.testBit j then 0 else mn ((maskW d.length s).count true) x) d d.length
/-- the same of the first k -/
def condK (l : List Int) (k : Nat) : Prop := isum (l.take k) ≤ (k : Int) * (k - 1 : Int) + isum ((l.drop k).map (mn k))
theorem isum_addF (k : Nat) : ∀ l : List Int, isum (l.map (Fk k)) = isum l + isum (l.map (mn k))
  | [] => rfl
  | a :: l => by
    have := isum_addF k l
    simp only [List.map_cons, isum, this, Fk]; omega
theorem condS_iff (d : List Int) (s : Nat) : condS d s ↔ selS (Fk ((maskW d.length s).count true)) (maskW d.length s) d ≤ ((maskW d.length s).count true : Int) * ((maskW d.length s).count true - 1 : Int) + isum (d.map (mn ((maskW d.length s).count true))) := by
  unfold condS
  rw [← sumI_sel, ← sumI_map]
  generalize (maskW d.length s).count true = k
  have h1 := sumI_add (f := fun j x => if s.testBit j then x else 0) (g := fun j x => if s.testBit j then mn k x else 0) (h := fun j x => if s.testBit j then Fk k x else 0) d d.length (fun j x => by split <;> simp [Fk])
  have h2 := sumI_add (f := fun j x => if s.testBit j then mn k x else 0) (g := fun j x => if s.testBit j then 0 else mn k x) (h := fun _ x => mn k x) d d.length (fun j x => by split <;> simp)
  omega
theorem condK_iff (l : List Int) (k : Nat) : condK l k ↔ isum ((l.take k).map (Fk k)) ≤ (k : Int) * (k - 1 : Int) + isum (l.map (mn k)) := by
  unfold condK
  rw [isum_addF]
  have : isum (l.map (mn k)) = isum ((l.take k).map (mn k)) + isum ((l.drop k).map (mn k)) := by
    rw [← isum_append, ← List.map_append, List.take_append_drop]
  omega
theorem erdos {d l : List Int} (hp : l.Perm d) (hs : l.Pairwise (fun a b => b ≤ a)) : (∀ s, s < 2 ^ d.length → condS d s) ↔ ∀ k, k ≤ d.length → condK l k := by
  have hl := hp.length_eq
  have hM : ∀ k, isum (l.map (mn k)) = isum (d.map (mn k)) := fun k => isum_perm (hp.map _)
  constructor
  · intro h k hk
    rw [condK_iff, hM]
    obtain ⟨m, h1, h2, h3⟩ := mask_perm hp (List.replicate k true ++ List.replicate (l.length - k) false) (by simp; omega)
    rw [count_rep] at h2
    have hw := h (wordM m) (h1 ▸ wordM_lt m)
    rw [condS_iff, ← h1, maskW_wordM, h2, h3, sel_top _ l k (l.length - k) (by omega)] at hw
    exact hw
  · intro h s _
    rw [condS_iff]
    obtain ⟨m, h1, h2, h3⟩ := mask_perm hp.symm (maskW d.length s) (maskW_len _ _)
    have hk : (maskW d.length s).count true ≤ d.length := by
      have := List.count_le_length (a := true) (l := maskW d.length s)
      rwa [maskW_len] at this
    have := h _ hk
    rw [condK_iff, hM] at this
    rw [← h3]
    refine Int.le_trans ?_ this
    have := top_le (Fk_mono ((maskW d.length s).count true)) l hs m h1
    rw [h2] at this
    exact this
end Go.Proofs.Ytfbomimkjiaohaa
