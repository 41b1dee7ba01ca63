/- wish.All: what its variables hold; slices.Clone, slices.Contains at int. -/
import Derived.Test.YtcmefjfhcdedjaaHoldsB
import Derived.RangeFuncBox
namespace Go.Proofs.Ytcmefjfhcdedjaa
open Go.RowKit

theorem contains_any (A : Option Addr) (len cap : Nat) (zs : List Int) (x : Int) (w : World) (hz : Rd w A len 1 (ints .i64 zs)) (hl : len ≤ 9223372036854775807) :
    Calls Try.prog 18 #[.slice A len cap, .int .i64 x] w fun e w' => e = .returned (.bool (decide (pos zs x < zs.length))) ∧ w = w' := by
  have H := Lib.hid (index_any A len cap zs x w hz hl)
  have hd : decide (0 ≤ idxOf zs x) = decide (pos zs x < zs.length) := by
    unfold idxOf
    split <;> rename_i h <;> simp [h]
  rw [← hd]
  clear hz hd
  generalize idxOf zs x = y at *
  go_enter Try.func18, Try.ntmps18
  go_wp2_with fail
  refine H.out.mono ?_
  rintro e w' ⟨rfl, rfl⟩
  go_wp2
  go_ret
  exact ⟨rfl, rfl⟩
theorem cloneI_any (g n cap : Nat) (xs : List Int) (w : World) (hr : Rd w (some ⟨g, 0, none⟩) n 1 (ints .i64 xs)) (hn : n ≤ 65536) :
    Calls Try.prog 17 #[.slice (some ⟨g, 0, none⟩) n cap] w fun e w' => ∃ g' cap', e = .returned (.slice (some ⟨g', 0, none⟩) n cap') ∧ w'.ownsRow w.heap.size 3 1 (.slice (some ⟨g', 0, none⟩) n cap') n (ints .i64 xs) ∧ Below w.heap.size w w' := by
  have hrH := Lib.hid hr; clear hr
  have hnil := fun W => Lib.run_eql_slice_nil (P := Try.prog) W 29 3 (some ⟨g, 0, none⟩) n cap 0 0 Try.underlying29
  go_enter Try.func17, Try.ntmps17
  go_wp2_with (at_builtin; refine wpList_app (s := .tmp 5) (x := .tmp 6) _ tiI (World.ownsRow_lit (base := w.heap.size) w #[] 0 (Nat.le_refl _) (Nat.zero_le _) rfl) (hrH.out.alloc _) ints_one (by omega) (by omega) (by simp) rfl rfl rfl rfl ?_)
  intro v' w' hown hg hat
  have hb : Below w.heap.size w w' := ((Below.refl _ _).alloc (Nat.le_refl _) _).grown hg (by simp) (by simp [Value.ownBlock])
  obtain ⟨g', cap', hv⟩ : ∃ g' cap', v' = .slice (some ⟨g', 0, none⟩) n cap' := by
    rcases Nat.eq_zero_or_pos n with h0 | h0
    · rcases hown.2 with ⟨rfl, _⟩ | ⟨g', cap', cur, rfl, _⟩
      · simp [Value.ownBlock] at hat
      · exact ⟨g', cap', rfl⟩
    · obtain ⟨g', cap', rfl, _⟩ := hown.form h0
      exact ⟨g', cap', rfl⟩
  subst hv
  clear hg hat hnil
  go_wp2
  go_ret
  exact ⟨g', cap', rfl, hown, hb⟩
theorem own_neW {w : World} {b b' e e' n n' : Nat} {v v' : Value} {xs xs' : List Value} (h : w.ownsRow b e 1 v n xs) (h' : w.ownsRow b' e' 1 v' n' xs') (he : e ≠ e') : v.ownBlock = none ∨ v.ownBlock ≠ v'.ownBlock := by
  rcases h.2 with ⟨rfl, _⟩ | ⟨g, cap, cur, rfl, _, hg, _⟩
  · exact .inl rfl
  · rcases h'.2 with ⟨rfl, _⟩ | ⟨g', cap', cur', rfl, _, hg', _⟩
    · right; simp [Value.ownBlock]
    · right
      intro e2
      obtain rfl : g = g' := by simpa [Value.ownBlock] using e2
      rw [hg] at hg'
      simp at hg'
      exact he hg'.2
theorem own_neb {w : World} {b e n g : Nat} {v : Value} {xs : List Value} (h : w.ownsRow b e 1 v n xs) (hg : g < b) : v.ownBlock ≠ some g := fun e => by have := (h.lt g e).1; omega

structure AF (B0 B1 bn bw bl ba bo gl : Nat) : Prop where
  lo : B0 ≤ bn ∧ B0 ≤ bw ∧ B0 ≤ bl ∧ B0 ≤ ba ∧ B0 ≤ bo ∧ B0 ≤ gl
  hi : bn < B1 ∧ bw < B1 ∧ bl < B1 ∧ ba < B1 ∧ bo < B1 ∧ gl < B1
  ng : gl ≠ bn ∧ gl ≠ bw ∧ gl ≠ bl ∧ gl ≠ ba ∧ gl ≠ bo
  na : ba ≠ bn ∧ ba ≠ bw ∧ ba ≠ bl ∧ ba ≠ bo
def onV (bn bw bl ba bo : Nat) : Value := .func (.func 15) #[] #[.pointer (some ⟨bn, 0, none⟩), .pointer (some ⟨bw, 0, none⟩), .pointer (some ⟨bl, 0, none⟩), .pointer (some ⟨ba, 0, none⟩), .pointer (some ⟨bo, 0, none⟩)]
structure AS (B0 B1 : Nat) (W0 : World) (n c d : Nat) (A B : Option Addr) (bn bw bl ba bo gl : Nat) (W : World) (M : Nat → Int) (rs : List Rw) : Prop where
  kn : W.cell? ⟨bn, 0, none⟩ = some (.int .i64 n)
  kw0 : W.cell? ⟨bw, 0, none⟩ = some (.slice A n c)
  kw1 : W.cell? ⟨bw, 1, none⟩ = some (.slice B n d)
  kl : W.cell? ⟨bl, 0, none⟩ = some (.slice (some ⟨gl, 0, none⟩) n n)
  ko : W.cell? ⟨bo, 0, none⟩ = some (onV bn bw bl ba bo)
  ol : W.ownsRow B0 3 1 (.slice (some ⟨gl, 0, none⟩) n n) n (row n M)
  ka : ∃ v, Boxed W ba 22 v ∧ W.ownsRow B1 29 1 v rs.length (rs.map rv)
  cl : ∀ r ∈ rs, W.ownsRow B1 3 1 (rv r) n (ints .i64 r.zs)
  hb : Below B0 W0 W
  sz : B1 ≤ W.heap.size
section
variable {B0 B1 : Nat} {W0 : World} {n c d : Nat} {A B : Option Addr} {bn bw bl ba bo gl : Nat} {W W' : World} {M : Nat → Int} {rs : List Rw}
theorem AS.later (f : AF B0 B1 bn bw bl ba bo gl) (h : AS B0 B1 W0 n c d A B bn bw bl ba bo gl W M rs) (hb : Below W.heap.size W W') : AS B0 B1 W0 n c d A B bn bw bl ba bo gl W' M rs where
  kn := below_cell hb (by have := f.hi; have := h.sz; omega) h.kn
  kw0 := below_cell hb (by have := f.hi; have := h.sz; omega) h.kw0
  kw1 := below_cell hb (by have := f.hi; have := h.sz; omega) h.kw1
  kl := below_cell hb (by have := f.hi; have := h.sz; omega) h.kl
  ko := below_cell hb (by have := f.hi; have := h.sz; omega) h.ko
  ol := own_below h.ol hb
  ka := by
    obtain ⟨v, h1, h2⟩ := h.ka
    exact ⟨v, (hb.block ba h1.lt).trans h1, own_below h2 hb⟩
  cl := fun r hr => own_below (h.cl r hr) hb
  hb := h.hb.trans (hb.mono (by have := h.sz; have := f.lo; have := f.hi; omega))
  sz := Nat.le_trans h.sz hb.size
theorem AS.setL (f : AF B0 B1 bn bw bl ba bo gl) (h : AS B0 B1 W0 n c d A B bn bw bl ba bo gl W M rs) (i : Nat) (x : Int) : AS B0 B1 W0 n c d A B bn bw bl ba bo gl (W.setCell ⟨gl, i, none⟩ (.int .i64 x)) (updH M i x) rs where
  kn := cell_set_other (fun e => f.ng.1 e.symm) h.kn
  kw0 := cell_set_other (fun e => f.ng.2.1 e.symm) h.kw0
  kw1 := cell_set_other (fun e => f.ng.2.1 e.symm) h.kw1
  kl := cell_set_other (fun e => f.ng.2.2.1 e.symm) h.kl
  ko := cell_set_other (fun e => f.ng.2.2.2.2 e.symm) h.ko
  ol := by rw [← row_updH]; exact (h.ol.stored i _).1
  ka := by
    obtain ⟨v, h1, h2⟩ := h.ka
    exact ⟨v, (heap_setCell_other W ⟨gl, i, none⟩ ba _ (fun e => f.ng.2.2.2.1 e.symm)).trans h1, own_set_other h2 (own_neb h2 f.hi.2.2.2.2.2) _⟩
  cl := fun r hr => own_set_other (h.cl r hr) (own_neb (h.cl r hr) f.hi.2.2.2.2.2) _
  hb := h.hb.setCell (p := ⟨gl, i, none⟩) f.lo.2.2.2.2.2 _
  sz := by simpa using h.sz
theorem AS.push (f : AF B0 B1 bn bw bl ba bo gl) (h : AS B0 B1 W0 n c d A B bn bw bl ba bo gl W M rs) {W2 w5 : World} {o : Obj} {v v' : Value} {r : Rw} (hb : Below W.heap.size W W2) (hr : W2.ownsRow W.heap.size 3 1 (rv r) n (ints .i64 r.zs))
    (hv : W.cell? ⟨ba, 0, none⟩ = some v) (hown : w5.ownsRow B1 29 1 v' (rs.length + 1) (rs.map rv ++ [rv r])) (hg : (W2.alloc o).grownBy w5 v.ownBlock) :
    AS B0 B1 W0 n c d A B bn bw bl ba bo gl (w5.setCell ⟨ba, 0, none⟩ v') M (rs ++ [r]) := by
  have h2 := (h.later f hb)
  have h3 := h2.later f ((Below.refl _ W2).alloc (Nat.le_refl _) o)
  obtain ⟨v0, k1, k2⟩ := h3.ka
  have hv0 : v0 = v := by
    obtain ⟨v1, q1, _⟩ := h.ka
    have q2 := q1.cell
    rw [hv] at q2
    injection q2 with q2
    have q3 : Boxed W2 ba 22 v1 := (hb.block ba q1.lt).trans q1
    have q4 := (q3.alloc o).cell
    rw [k1.cell] at q4
    injection q4 with q4
    rw [q4, ← q2]
  subst hv0
  have hi := f.hi
  have hne : ∀ g, g < B1 → v0.ownBlock ≠ some g := fun g hg => own_neb k2 hg
  have hgc : ∀ {b i : Nat} {u : Value}, b < B1 → b ≠ ba → (W2.alloc o).cell? ⟨b, i, none⟩ = some u → (w5.setCell ⟨ba, 0, none⟩ v').cell? ⟨b, i, none⟩ = some u := fun hb1 hb2 hc =>
    cell_set_other hb2 (grown_cell hg (Nat.lt_of_lt_of_le hb1 h3.sz) (hne _ hb1) hc)
  refine ⟨hgc hi.1 (fun e => f.na.1 e.symm) h3.kn, hgc hi.2.1 (fun e => f.na.2.1 e.symm) h3.kw0, hgc hi.2.1 (fun e => f.na.2.1 e.symm) h3.kw1, hgc hi.2.2.1 (fun e => f.na.2.2.1 e.symm) h3.kl, hgc hi.2.2.2.2.1 (fun e => f.na.2.2.2 e.symm) h3.ko, ?_, ⟨v', ?_, ?_⟩, fun r' hr' => ?_, ?_, ?_⟩
  · refine own_set_other (h3.ol.kept hg (.inr ?_)) (by simp [Value.ownBlock]; exact f.ng.2.2.2.1) _
    exact fun e => hne gl hi.2.2.2.2.2 e.symm
  · exact (k1.kept hg (fun e => hne ba hi.2.2.2.1 e.symm)).set v'
  · rw [List.length_append, List.map_append]
    exact own_set_other hown (own_neb hown hi.2.2.2.1) _
  · rcases List.mem_append.1 hr' with hr' | hr'
    · have q := h3.cl r' hr'
      exact own_set_other (q.kept hg (own_neW q k2 (by decide))) (own_neb q hi.2.2.2.1) _
    · have e : r' = r := by simpa using hr'
      subst e
      have q := own_base (b' := B1) h.sz (hr.alloc o)
      exact own_set_other (q.kept hg (own_neW q k2 (by decide))) (own_neb q hi.2.2.2.1) _
  · have hlo := f.lo
    refine Below.setCell (p := ⟨ba, 0, none⟩) (h3.hb.grown hg (by have := h3.sz; have := h3.hb.size; omega) (fun g hg' => by have := (k2.lt g hg').1; omega)) hlo.2.2.2.1 _
  · have := hg.size
    have := h3.sz
    simp only [World.size_alloc] at *
    simp
    omega
end
/-- what is settled of a pairing: the first i; used: whom they have -/
structure PM (n i used : Nat) (M : Nat → Int) : Prop where
  lt : used < 256
  bit : ∀ x : Nat, used.testBit x = true ↔ ∃ k, k < i ∧ M k = x
  inn : ∀ k, k < i → -1 ≤ M k ∧ M k < n
  inj : ∀ k k', k < i → k' < i → M k = M k' → 0 ≤ M k → k = k'
  rest : ∀ k, i ≤ k → M k = -1
section
variable {n i used : Nat} {M : Nat → Int}
theorem PM.start : PM n 0 0 (fun _ => -1) := ⟨by omega, fun x => by simp, fun k hk => absurd hk (by omega), fun k _ hk => absurd hk (by omega), fun _ _ => rfl⟩
theorem PM.ok (h : PM n n used M) : OkM n M := ⟨h.inn, h.inj⟩
theorem PM.none (h : PM n i used M) : PM n (i + 1) used M where
  lt := h.lt
  bit := fun x => by
    rw [h.bit]
    constructor
    · rintro ⟨k, hk, e⟩
      exact ⟨k, by omega, e⟩
    · rintro ⟨k, hk, e⟩
      refine ⟨k, ?_, e⟩
      by_cases hki : k = i
      · subst hki
        have := h.rest k (Nat.le_refl _)
        omega
      · omega
  inn := fun k hk => by
    by_cases hki : k = i
    · subst hki
      have := h.rest k (Nat.le_refl _)
      omega
    · exact h.inn k (by omega)
  inj := fun k k' hk hk' e h0 => by
    have h1 : k ≠ i := fun e' => by subst e'; have := h.rest k (Nat.le_refl _); omega
    have h2 : k' ≠ i := fun e' => by subst e'; have := h.rest k' (Nat.le_refl _); omega
    exact h.inj k k' (by omega) (by omega) e h0
  rest := fun k hk => h.rest k (by omega)
theorem PM.take (h : PM n i used M) {j : Nat} (hn : n ≤ 8) (hj : j < n) (hb : used.testBit j = false) : PM n (i + 1) (used ||| 2 ^ j) (updH M i j) where
  lt := Nat.or_lt_two_pow (n := 8) h.lt (Nat.pow_lt_pow_right (by omega) (by omega))
  bit := fun x => by
    rw [Nat.testBit_or, Nat.testBit_two_pow, Bool.or_eq_true, h.bit, decide_eq_true_iff]
    unfold updH
    constructor
    · rintro (⟨k, hk, e⟩ | rfl)
      · exact ⟨k, by omega, by rw [if_neg (by omega)]; exact e⟩
      · exact ⟨i, by omega, by rw [if_pos rfl]⟩
    · rintro ⟨k, hk, e⟩
      by_cases hki : k = i
      · rw [if_pos hki] at e
        right; omega
      · rw [if_neg hki] at e
        exact .inl ⟨k, by omega, e⟩
  inn := fun k hk => by
    unfold updH
    by_cases hki : k = i
    · rw [if_pos hki]; omega
    · rw [if_neg hki]; exact h.inn k (by omega)
  inj := fun k k' hk hk' e h0 => by
    have hfr : ∀ q, q < i → M q ≠ j := fun q hq e => by
      have := (h.bit j).2 ⟨q, hq, e⟩
      rw [hb] at this
      cases this
    unfold updH at e h0
    by_cases hki : k = i
    · by_cases hki' : k' = i
      · omega
      · rw [if_pos hki, if_neg hki'] at e
        exact absurd e.symm (hfr k' (by omega))
    · by_cases hki' : k' = i
      · rw [if_neg hki, if_pos hki'] at e
        exact absurd e (hfr k (by omega))
      · rw [if_neg hki, if_neg hki'] at e
        rw [if_neg hki] at h0
        exact h.inj k k' (by omega) (by omega) e h0
  rest := fun k hk => by
    unfold updH
    rw [if_neg (by omega)]
    exact h.rest k (by omega)
end
theorem updH_self {M : Nat → Int} {i : Nat} {v : Int} (h : M i = v) : updH M i v = M := by
  funext k
  unfold updH
  split
  · rename_i e; rw [e, h]
  · rfl
theorem updH_updH (M : Nat → Int) (i : Nat) (x y : Int) : updH (updH M i x) i y = updH M i y := by
  funext k
  unfold updH
  split <;> rfl
/-- r tells what F is -/
def Match (n : Nat) (r : Rw) (F : Nat → Int) : Prop := ∀ i, i < n → mAt r.zs i = F i
structure Ext (n : Nat) (L R : Nat → List Int) (Q : (Nat → Int) → Prop) (rs rs' : List Rw) : Prop where
  old : ∀ r ∈ rs, r ∈ rs'
  good : ∀ r ∈ rs', r ∈ rs ∨ Stab n L R (mAt r.zs)
  all : ∀ F, Stab n L R F → Q F → ∃ r ∈ rs', Match n r F
theorem Ext.trans {n : Nat} {L R : Nat → List Int} {Q Q' : (Nat → Int) → Prop} {a b c : List Rw} (h : Ext n L R Q a b) (h' : Ext n L R Q' b c) : Ext n L R (fun F => Q F ∨ Q' F) a c where
  old := fun r hr => h'.old r (h.old r hr)
  good := fun r hr => by
    rcases h'.good r hr with h1 | h1
    · exact h.good r h1
    · exact .inr h1
  all := fun F hF hQ => by
    rcases hQ with hQ | hQ
    · obtain ⟨r, h1, h2⟩ := h.all F hF hQ
      exact ⟨r, h'.old r h1, h2⟩
    · exact h'.all F hF hQ
theorem Ext.weak {n : Nat} {L R : Nat → List Int} {Q Q' : (Nat → Int) → Prop} {a b : List Rw} (h : Ext n L R Q a b) (hq : ∀ F, Stab n L R F → Q' F → Q F) : Ext n L R Q' a b := ⟨h.old, h.good, fun F hF hQ => h.all F hF (hq F hF hQ)⟩
theorem Ext.refl {n : Nat} {L R : Nat → List Int} {Q : (Nat → Int) → Prop} {a : List Rw} (hq : ∀ F, Stab n L R F → ¬ Q F) : Ext n L R Q a a := ⟨fun _ h => h, fun _ h => .inl h, fun F hF hQ => absurd hQ (hq F hF)⟩
end Go.Proofs.Ytcmefjfhcdedjaa
