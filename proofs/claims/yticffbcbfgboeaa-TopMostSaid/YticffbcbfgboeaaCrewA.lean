/- A crew in memory; who is in; how many are wanted. -/
import Derived.Test.YticffbcbfgboeaaRows
import Derived.Test.YticffbcbfgboeaaCrewLaw
import Derived.Test.YticffbcbfgboeaaDel
import Derived.Test.YticffbcbfgboeaaBlk
namespace Go.Proofs.Yticffbcbfgboeaa
open Go.RowKit Go.Shelf

theorem grown_setA' (W : World) (b j : Nat) (v : Value) : W.grownBy (W.setCell ⟨b, j, none⟩ v) (some b) := grown_setA W b j v
theorem own_form1 {w : World} {b e n : Nat} {v : Value} {xs : List Value} (h : w.ownsRow b e 1 v n xs) (hn : 0 < n) : ∃ g c, v = .slice (some ⟨g, 0, none⟩) n c ∧ b ≤ g ∧ g < w.heap.size := by
  rcases h.2 with ⟨_, h0⟩ | ⟨g, c, cur, rfl, hb, hg, _⟩
  · omega
  · exact ⟨g, c, rfl, hb, (Array.getElem?_eq_some_iff.1 hg).1⟩
structure CM (cb ns : Nat) (vw vs : Value) (s : CS) (cs : List Int) (vC vW vT : Value) (tv : List Value) (W : World) : Prop where
  bk : Blk W cb 51 #[vw, vs, vC, .int .u32 (s.inn : Int), vW, vT]
  co : W.ownsRow (cb + 1) 33 1 vC cs.length (ints .i64 cs)
  wa : W.ownsRow (cb + 1) 3 1 vW ns (ints .i64 s.wants)
  ta : W.ownsRow (cb + 1) 29 1 vT ns tv
  tk : ∀ k, k < ns → W.ownsRow (cb + 1) 3 1 (tv.getD k undef) (s.tasks.getD k []).length (ints .i64 (s.tasks.getD k []))
  dw : ∀ k, k < ns → ∀ g, (tv.getD k undef).ownBlock = some g → vW.ownBlock ≠ some g
  dt : ∀ j k, j < ns → k < ns → j ≠ k → ∀ g, (tv.getD j undef).ownBlock = some g → (tv.getD k undef).ownBlock ≠ some g
section
variable {cb ns : Nat} {vw vs : Value} {s : CS} {cs : List Int} {vC vW vT : Value} {tv : List Value} {W W' : World}
theorem CM.lt (h : CM cb ns vw vs s cs vC vW vT tv W) : cb < W.heap.size := h.bk.lt
theorem CM.later (h : CM cb ns vw vs s cs vC vW vT tv W) (hb : Below W.heap.size W W') : CM cb ns vw vs s cs vC vW vT tv W' :=
  ⟨h.bk.below hb h.bk.lt, own_below h.co hb, own_below h.wa hb, own_below h.ta hb, fun k hk => own_below (h.tk k hk) hb, h.dw, h.dt⟩
theorem own_types {b b' e e' sz sz' n n' : Nat} {v v' : Value} {xs xs' : List Value} (h : W.ownsRow b e sz v n xs) (h' : W.ownsRow b' e' sz' v' n' xs') (hne : e ≠ e') {g : Nat} (hg : v.ownBlock = some g) : v'.ownBlock ≠ some g := by
  rcases h.2 with ⟨rfl, _⟩ | ⟨g1, c1, cur1, rfl, _, h1, _⟩
  · cases hg
  · cases hg
    rcases h'.2 with ⟨rfl, _⟩ | ⟨g2, c2, cur2, rfl, _, h2, _⟩
    · simp [Value.ownBlock]
    · intro e2
      cases e2
      rw [h1] at h2
      cases h2
      exact hne rfl
/-- behind a store into the row of those wanted -/
theorem CM.setW (h : CM cb ns vw vs s cs vC vW vT tv W) {g k : Nat} {c : Nat} (hv : vW = .slice (some ⟨g, 0, none⟩) ns c) (z : Int) : CM cb ns vw vs ⟨s.inn, s.wants.set k z, s.tasks⟩ cs vC vW vT tv (W.setCell ⟨g, k, none⟩ (.int .i64 z)) := by
  subst hv
  have hs := h.wa.stored k (.int .i64 z)
  rw [ints_setK] at hs
  have hgb := (h.wa.lt g rfl).1
  have hne : ∀ {v : Value} {e : Nat} {n : Nat} {xs : List Value}, W.ownsRow (cb + 1) e 1 v n xs → e ≠ 3 → some g ≠ v.ownBlock := fun ho hne e2 => own_types ho h.wa hne e2.symm rfl
  exact ⟨h.bk.kept hs.2 (fun e => by cases e; omega), h.co.kept hs.2 (by
      cases hb : vC.ownBlock with
      | none => exact .inl rfl
      | some q => exact .inr (by rw [← hb]; exact fun e => own_types h.co h.wa (by decide) e rfl)), hs.1, h.ta.kept hs.2 (by
      cases hb : vT.ownBlock with
      | none => exact .inl rfl
      | some q => exact .inr (by rw [← hb]; exact fun e => own_types h.ta h.wa (by decide) e rfl)), fun j hj => (h.tk j hj).kept hs.2 (by
      cases hb : (tv.getD j undef).ownBlock with
      | none => exact .inl rfl
      | some q => exact .inr (fun e => h.dw j hj q hb (by rw [e]; rfl))), h.dw, h.dt⟩
end
theorem shr_bit (x i : Nat) (hx : x < 4294967296) : (bits .and .u32 ((x : Int) / 2 ^ i) 1 == 1) = x.testBit i := by
  have e : ((x : Int) / 2 ^ i) = ((x / 2 ^ i : Nat) : Int) := by simp
  rw [e, show (1 : Int) = ((1 : Nat) : Int) from rfl, u32_and_nat _ 1 (Nat.lt_of_le_of_lt (Nat.div_le_self ..) hx) (by omega), Nat.and_one_is_mod, Nat.testBit_eq_decide_div_mod_eq]
  rcases Nat.mod_two_eq_zero_or_one (x / 2 ^ i) with h | h <;> rw [h] <;> rfl
set_option maxHeartbeats 800000 in
theorem in_any (cb : Nat) (vw vs vC vW vT : Value) (inn i : Nat) (W : World) (h : Blk W cb 51 #[vw, vs, vC, .int .u32 (inn : Int), vW, vT]) (hin : inn < 4294967296) (hi : i < 32) :
    Calls Try.prog 24 #[.pointer (some ⟨cb, 0, none⟩), .int .i64 (i : Int)] W fun e w' => e = .returned (.bool (inn.testBit i)) ∧ W = w' := by
  have c3 := h.cell (j := 3) rfl
  have hi0 : (0 : Int) ≤ i := by omega
  have hi1 : (i : Int) < 32 := by omega
  have hsb := shr_bit inn i hin
  clear h
  go_enter Try.func24, Try.ntmps24
  go_wp2
  go_ret
  exact ⟨rfl, rfl⟩
/-- what comes of so many wanted -/
def wantC (s : CS) (k : Nat) (n : Int) : Int := if n < 0 then 4 else if 12 - others s.wants k < n then 1 else 0
set_option maxHeartbeats 1600000 in
set_option maxRecDepth 100000 in
theorem want_any (cb nw ns k : Nat) (n : Int) (vw vs : Value) (s : CS) (cs : List Int) (vC vW vT : Value) (tv : List Value) (W : World) (h : CM cb ns vw vs s cs vC vW vT tv W) (hs : OkS nw ns s) (hk : k < ns) (h12 : ns ≤ 12) :
    Calls Try.prog 23 #[.pointer (some ⟨cb, 0, none⟩), .int .i64 (k : Int), .int .i64 n] W fun e w' => e = .returned (.int .i64 (wantC s k n)) ∧ CM cb ns vw vs (if wantC s k n = 0 then ⟨s.inn, s.wants.set k n, s.tasks⟩ else s) cs vC vW vT tv w' ∧ Below cb W w' := by
  have c4 := h.bk.cell (j := 4) rfl
  obtain ⟨g, c, rfl, hgb, hgl⟩ := own_form1 h.wa (by omega)
  have hcell := fun j (hj : j < ns) => (h.wa.cellAt j (by omega)).trans (ints_get (k := .i64) (zs := s.wants) (j := j) (by rw [hs.wl]; exact hj))
  have hfz := h.wa.frozenAt k
  have hck := hcell k hk
  have ho := Lib.hid (hs.others0 k)
  have hw0 := Lib.hid hs.w0
  have hfin := Lib.hid (And.intro (h.setW rfl (k := k) n) (And.intro h ((Below.refl cb W).setCell (p := ⟨g, k, none⟩) (by show cb ≤ g; omega) (.int .i64 n))))
  have hoe : others s.wants k = sumTo (fun j => if j = k then 0 else s.wants.getD j 0) ns := by unfold others; rw [hs.wl]
  have hkn : (k : Int) < ns := by omega
  have hk0 : (0 : Int) ≤ k := by omega
  have hsmH := Lib.hid (fun m (hm : m < ns) => Int.le_trans (sumTo_term hs.w0 hm) hs.sm)
  have hcellH := Lib.hid hcell
  clear h hs hcell
  obtain ⟨cd, hcd⟩ : ∃ cd, wantC s k n = cd := ⟨_, rfl⟩
  obtain ⟨s', hs'⟩ : ∃ s', (if cd = 0 then (⟨s.inn, s.wants.set k n, s.tasks⟩ : CS) else s) = s' := ⟨_, rfl⟩
  rw [hcd, hs']
  have hcdH := Lib.hid hcd; have hsH := Lib.hid hs'
  clear hcd hs'
  unfold wantC at hcdH
  rw [hoe] at hcdH
  by_cases hn : n < 0
  · have hd : decide (n < 0) = true := decide_eq_true hn
    obtain rfl : 4 = cd := by have := hcdH.out; rw [if_pos hn] at this; exact this
    obtain rfl : s = s' := by have := hsH.out; rw [if_neg (by decide)] at this; exact this
    go_enter Try.func23, Try.ntmps23
    go_wp2
    go_ret
    exact ⟨rfl, hfin.out.2.1, Below.refl _ _⟩
  rw [if_neg hn] at hcdH
  have hd : decide (n < 0) = false := decide_eq_false hn
  go_enter Try.func23, Try.ntmps23
  go_wp2
  go_loopw [7, 8, 9, 18] (fun a _ _ i wr => ∃ m : Nat, m ≤ ns ∧ i = .int .i64 m ∧ a = .int .i64 (sumTo (fun j => if j = k then 0 else s.wants.getD j 0) m) ∧ wr = W) (fun _ _ _ i _ => ns - (intOf i).toNat)
  case atStart => exact ⟨0, Nat.zero_le _, rfl, rfl, rfl⟩
  case round =>
    obtain ⟨m, hm, rfl, rfl, rfl⟩ := hrel
    by_cases hlt : m < ns
    · have hcm := hcellH.out m hlt
      have hb1 := ho.out m hm
      have hb2 := ho.out (m + 1) hlt
      have hwm := hw0.out m hlt
      have hwm2 := hsmH.out m hlt
      have hst := Lib.hid (show sumTo (fun j => if j = k then 0 else s.wants.getD j 0) (m + 1) = sumTo (fun j => if j = k then 0 else s.wants.getD j 0) m + (if m = k then 0 else s.wants.getD m 0) from rfl)
      have hmn : (m : Int) < ns := by omega
      have hm0 : (0 : Int) ≤ m := by omega
      clear hb2
      generalize s.wants.getD m 0 = z at *
      generalize sumTo (fun j => if j = k then 0 else s.wants.getD j 0) m = a at *
      by_cases hmk : m = k
      · subst hmk
        have hq : ((m : Int) != (m : Int)) = false := by simp
        go_wp2
        go_roundw
        case rel => exact ⟨m + 1, by omega, by go_num, by rw [hst.out]; simp, by trivial⟩
        case measure => simp [intOf]; omega
      · have hq : ((m : Int) != (k : Int)) = true := by simp; omega
        have hwr : IntKind.i64.wrap (a + z) = a + z := IntWalk.i64_in _ (by omega)
        go_wp2
        go_roundw
        case rel => exact ⟨m + 1, by omega, by go_num, by rw [hst.out, if_neg hmk], by trivial⟩
        case measure => simp [intOf]; omega
    · obtain rfl : m = ns := by omega
      have hb1 := ho.out m (Nat.le_refl _)
      generalize sumTo (fun j => if j = k then 0 else s.wants.getD j 0) m = a at *
      have hwr : IntKind.i64.wrap (12 - a) = 12 - a := IntWalk.i64_in _ (by omega)
      by_cases hgt : 12 - a < n
      · have hd2 : decide (12 - a < n) = true := decide_eq_true hgt
        obtain rfl : 1 = cd := by have := hcdH.out; rw [if_pos hgt] at this; exact this
        obtain rfl : s = s' := by have := hsH.out; rw [if_neg (by decide)] at this; exact this
        go_wp2
        go_ret
        exact ⟨rfl, hfin.out.2.1, Below.refl _ _⟩
      · have hd2 : decide (12 - a < n) = false := decide_eq_false hgt
        obtain rfl : 0 = cd := by have := hcdH.out; rw [if_neg hgt] at this; exact this
        have hs0 : (⟨s.inn, s.wants.set k n, s.tasks⟩ : CS) = s' := by have := hsH.out; rw [if_pos rfl] at this; exact this
        subst hs0
        go_wp2
        go_ret
        exact ⟨rfl, hfin.out.1, hfin.out.2.2⟩
end Go.Proofs.Yticffbcbfgboeaa
