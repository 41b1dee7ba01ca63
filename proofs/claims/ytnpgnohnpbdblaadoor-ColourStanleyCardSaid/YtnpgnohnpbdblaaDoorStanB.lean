/- colour.Turned: by the sets from which no edge leads to the others. -/
import Derived.Test.YtnpgnohnpbdblaaDoorStanA
import Derived.Test.YtnpgnohnpbdblaaDoorNearGr
import Derived.Test.YtnpgnohnpbdblaaDoorOnes
namespace Go.Proofs.YtnpgnohnpbdblaaDoor
open Go.RowKit Go.Shelf

def aOf (es : List E) (k : Nat) : Nat := (es.getD k (0, 0, 0)).1.toNat
def bOf (es : List E) (k : Nat) : Nat := (es.getD k (0, 0, 0)).2.1.toNat
noncomputable def Sf (es : List E) (w : Nat) : Int := Fw es.length (aOf es) (bOf es) w
def Dn (w s : Nat) : Nat := w &&& (4294967295 - s)
noncomputable def trm (es : List E) (ns : List Nat) (w s : Nat) : Int := if s &&& w = s ∧ apB ns s = true then -(sgE s) * Sf es (Dn w s) else 0
noncomputable def psum (es : List E) (ns : List Nat) (w s : Nat) : Int := sq s fun i => trm es ns w (i + 1)
theorem Sf_bd {es : List E} (h : es.length ≤ 45) (w : Nat) : 0 ≤ Sf es w ∧ Sf es w ≤ 35184372088832 := by
  have h1 := Fw_bd (m := es.length) (A := aOf es) (B := bOf es) w
  have h2 : 2 ^ es.length ≤ 2 ^ 45 := Nat.pow_le_pow_right (by omega) h
  unfold Sf
  omega
theorem trm_bd {es : List E} {ns : List Nat} (h : es.length ≤ 45) (w s : Nat) : -35184372088832 ≤ trm es ns w s ∧ trm es ns w s ≤ 35184372088832 := by
  have h1 := Sf_bd h (Dn w s)
  unfold trm sgE
  split
  · split
    · rw [Int.neg_neg, Int.one_mul]; omega
    · rw [Int.neg_mul, Int.one_mul]; omega
  · omega
theorem psum_bd {es : List E} {ns : List Nat} (h : es.length ≤ 45) (w : Nat) : ∀ s, -(s * 35184372088832) ≤ psum es ns w s ∧ psum es ns w s ≤ s * 35184372088832
  | 0 => by simp [psum, sq]
  | s + 1 => by
    have h1 := psum_bd (ns := ns) h w s
    have h2 := trm_bd (ns := ns) h w (s + 1)
    have e : psum es ns w (s + 1) = psum es ns w s + trm es ns w (s + 1) := rfl
    rw [e]; omega
theorem sub_nextS : ∀ (s u w : Nat), u < s → u &&& w = u → s &&& w = s → u ≤ (s - 1) &&& w := by
  intro s u w hu huw hsw
  rcases Nat.eq_zero_or_pos u with h0 | h0
  · omega
  · -- the highest place where s and u differ
    have key : ∀ n s u, s < 2 ^ n → u < s → u &&& w = u → s &&& w = s → u ≤ (s - 1) &&& w := by
      intro n
      induction n with
      | zero => intro s u hs hu; simp at hs; omega
      | succ n ih =>
        intro s u hs hu huw hsw
        rw [Nat.pow_succ] at hs
        by_cases hsn : s < 2 ^ n
        · exact ih s u hsn hu huw hsw
        · obtain ⟨s', rfl⟩ : ∃ s', s = s' + 2 ^ n := ⟨s - 2 ^ n, by omega⟩
          have hs' : s' < 2 ^ n := by omega
          obtain ⟨h1, h2⟩ := (sub_hi hs').1 hsw
          by_cases hun : u < 2 ^ n
          · by_cases h3 : s' = 0
            · subst h3
              rw [Nat.zero_add]
              have e : (2 ^ n - 1) &&& w &&& u = u := by
                apply Nat.eq_of_testBit_eq
                intro i
                rw [Nat.testBit_and, Nat.testBit_and, Nat.testBit_two_pow_sub_one]
                cases hb : u.testBit i
                · simp
                · have := sub_iff.1 huw i hb
                  have := bit_lt hun hb
                  simp [*]
              calc u = (2 ^ n - 1) &&& w &&& u := e.symm
                _ ≤ (2 ^ n - 1) &&& w := Nat.and_le_left
            · have h4 : (s' + 2 ^ n - 1) &&& w = ((s' - 1) &&& w) + 2 ^ n := by
                apply Nat.eq_of_testBit_eq
                intro i
                rw [show s' + 2 ^ n - 1 = 2 ^ n + (s' - 1) by omega, Nat.testBit_and, Nat.add_comm _ (2 ^ n)]
                have hl : (s' - 1) &&& w < 2 ^ n := Nat.lt_of_le_of_lt Nat.and_le_left (by omega)
                by_cases hi : i < n
                · rw [Nat.testBit_two_pow_add_gt hi, Nat.testBit_two_pow_add_gt hi, Nat.testBit_and]
                · by_cases hi2 : i = n
                  · subst hi2
                    rw [Nat.testBit_two_pow_add_eq, Nat.testBit_two_pow_add_eq, Nat.testBit_lt_two_pow (show s' - 1 < 2 ^ i by omega), Nat.testBit_lt_two_pow hl, h2]; rfl
                  · have h5 : 2 ^ (n + 1) ≤ 2 ^ i := Nat.pow_le_pow_right (by omega) (by omega)
                    rw [Nat.pow_succ] at h5
                    rw [Nat.testBit_lt_two_pow (show 2 ^ n + (s' - 1) < 2 ^ i by omega), Nat.testBit_lt_two_pow (show 2 ^ n + ((s' - 1) &&& w) < 2 ^ i by omega)]; rfl
              rw [h4]; omega
          · obtain ⟨u', rfl⟩ : ∃ u', u = u' + 2 ^ n := ⟨u - 2 ^ n, by omega⟩
            have hu' : u' < 2 ^ n := by omega
            obtain ⟨h6, _⟩ := (sub_hi hu').1 huw
            have h7 := ih s' u' hs' (by omega) h6 h1
            have h4 : (s' + 2 ^ n - 1) &&& w = ((s' - 1) &&& w) + 2 ^ n := by
              apply Nat.eq_of_testBit_eq
              intro i
              rw [show s' + 2 ^ n - 1 = 2 ^ n + (s' - 1) by omega, Nat.testBit_and, Nat.add_comm _ (2 ^ n)]
              have hl : (s' - 1) &&& w < 2 ^ n := Nat.lt_of_le_of_lt Nat.and_le_left (by omega)
              by_cases hi : i < n
              · rw [Nat.testBit_two_pow_add_gt hi, Nat.testBit_two_pow_add_gt hi, Nat.testBit_and]
              · by_cases hi2 : i = n
                · subst hi2
                  rw [Nat.testBit_two_pow_add_eq, Nat.testBit_two_pow_add_eq, Nat.testBit_lt_two_pow (show s' - 1 < 2 ^ i by omega), Nat.testBit_lt_two_pow hl, h2]; rfl
                · have h5 : 2 ^ (n + 1) ≤ 2 ^ i := Nat.pow_le_pow_right (by omega) (by omega)
                  rw [Nat.pow_succ] at h5
                  rw [Nat.testBit_lt_two_pow (show 2 ^ n + (s' - 1) < 2 ^ i by omega), Nat.testBit_lt_two_pow (show 2 ^ n + ((s' - 1) &&& w) < 2 ^ i by omega)]; rfl
            rw [h4]; omega
    exact key s s u Nat.lt_two_pow_self hu huw hsw
theorem psum_next {es : List E} {ns : List Nat} {w s : Nat} (h0 : 0 < s) (hs : s &&& w = s) : psum es ns w s = psum es ns w ((s - 1) &&& w) + trm es ns w s := by
  obtain ⟨t, rfl⟩ : ∃ t, s = t + 1 := ⟨s - 1, by omega⟩
  have e : psum es ns w (t + 1) = psum es ns w t + trm es ns w (t + 1) := rfl
  rw [e, Nat.add_sub_cancel]
  congr 1
  have hle : t &&& w ≤ t := Nat.and_le_left
  refine sq_cut hle fun k h1 h2 => ?_
  unfold trm
  rw [if_neg]
  rintro ⟨h3, _⟩
  have := sub_nextS (t + 1) (k + 1) w (by omega) h3 hs
  rw [Nat.add_sub_cancel] at this
  omega
/-- the edges of a graph, and its words -/
theorem apB_iff {N : Nat} {es : List E} (h : gchk N es = 0) {s : Nat} (hs : s < 2 ^ N) : apB (nearW N es) s = true ↔ Ind es.length (aOf es) (bOf es) s := by
  obtain ⟨_, h10, _, hok, _⟩ := gchk_ok h
  rw [Int.toNat_natCast] at hok
  have h10 : N ≤ 10 := by omega
  unfold apB
  rw [List.all_eq_true]
  constructor
  · intro ha k hk
    have hmem : es.getD k (0, 0, 0) ∈ es := by simp [List.getD, hk]
    obtain ⟨x, y, hx, hy, hxn, hyn, hne⟩ := hok _ hmem
    have eA : aOf es k = x := by unfold aOf; rw [hx]; rfl
    have eB : bOf es k = y := by unfold bOf; rw [hy]; rfl
    unfold inW
    rw [eA, eB]
    cases h1 : s.testBit x
    · rfl
    · cases h2 : s.testBit y
      · rfl
      · exfalso
        have h3 := ha x (mem_bitsL.2 ⟨by omega, h1⟩)
        unfold nearNo at h3
        have h4 : ((nearW N es).getD x 0 &&& s).testBit y = true := by
          rw [Nat.testBit_and, h2, nearW_bit es hok x y hxn]
          have : adj es x y = true := List.any_eq_true.2 ⟨_, hmem, by unfold adjE; rw [hx, hy]; simp⟩
          rw [this]; rfl
        rw [eq_of_beq h3, Nat.zero_testBit] at h4
        cases h4
  · intro hI i hi
    have hib := (mem_bitsL.1 hi).2
    have hin : i < N := bit_lt hs hib
    unfold nearNo
    rw [beq_iff_eq]
    refine Classical.byContradiction fun hne => ?_
    obtain ⟨j, hj⟩ := has_bit hne
    rw [Nat.testBit_and, nearW_bit es hok i j hin] at hj
    simp only [Bool.and_eq_true] at hj
    obtain ⟨e, he, hae⟩ := List.any_eq_true.1 hj.1
    obtain ⟨k, hk, rfl⟩ := List.mem_iff_getElem.1 he
    have eg : es.getD k (0, 0, 0) = es[k] := by simp [List.getD, hk]
    have := hI k hk
    unfold inW aOf bOf at this
    rw [eg] at this
    obtain ⟨x, y, hx, hy, hxn, hyn, hxy⟩ := hok _ he
    unfold adjE at hae
    rw [hx, hy] at hae this
    simp only [Int.toNat_natCast] at this
    simp only [Bool.or_eq_true, Bool.and_eq_true, beq_iff_eq] at hae
    rcases hae with ⟨h1, h2⟩ | ⟨h1, h2⟩
    · have h1 : x = i := by omega
      have h2 : y = j := by omega
      rw [h1, h2, hib, hj.2] at this; cases this
    · have h1 : x = j := by omega
      have h2 : y = i := by omega
      rw [h1, h2, hib, hj.2] at this; cases this
theorem Dn_bit {w s : Nat} (hs : s < 4294967296) (hw : w < 2 ^ 32) (i : Nat) : (Dn w s).testBit i = (w.testBit i && !s.testBit i) := by
  unfold Dn
  rw [Nat.testBit_and, show 4294967295 - s = 2 ^ 32 - (s + 1) by omega, Nat.testBit_two_pow_sub_succ (by omega)]
  cases hb : w.testBit i
  · rfl
  · have := bit_lt hw hb
    simp [this]
theorem psum_all {N : Nat} {es : List E} (h : gchk N es = 0) {w : Nat} (hw : w < 2 ^ N) (h0 : w ≠ 0) : psum es (nearW N es) w w = Sf es w := by
  obtain ⟨_, h10, _, _, _⟩ := gchk_ok h
  have h10 : N ≤ 10 := by omega
  have hp10 : 2 ^ N ≤ 2 ^ 10 := Nat.pow_le_pow_right (by omega) h10
  exact stanley h10 hw h0 (Dn w) (fun s hs i => Dn_bit (by have := sub_le hs; omega) (by omega) i) (apB (nearW N es)) (fun s hs => apB_iff h (by have := sub_le hs; omega))
/-- the table, up to w -/
def TbI (es : List E) (w : Nat) (c : Int) (G : Nat → Int) : Prop := (∀ v, v < w → G v = Sf es v) ∧ G w = c ∧ ∀ v, w < v → G v = 0
end Go.Proofs.YtnpgnohnpbdblaaDoor
