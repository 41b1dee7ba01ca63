/- wish.holds, wish.Holds. -/
import Derived.Test.YtcmefjfhcdedjaaPair
namespace Go.Proofs.Ytcmefjfhcdedjaa
open Go.RowKit

def mAt (zs : List Int) (i : Nat) : Int := zs.getD i 0
def okB (n : Nat) (L R : Nat → List Int) (M : Nat → Int) (i p : Nat) : Prop := ∀ j : Nat, (L i).getD p 0 = j → rkI (R j) i < 8 → ∃ i', i' < n ∧ M i' = j ∧ rkI (R j) i' ≤ rkI (R j) i
def okI (n : Nat) (L R : Nat → List Int) (M : Nat → Int) (i : Nat) : Prop := ∀ p, p < (L i).length → (∀ q, q ≤ p → (L i).getD q 0 ≠ M i) → okB n L R M i p
theorem noBlock_iff {n : Nat} {L R : Nat → List Int} {M : Nat → Int} : NoBlock n L R M ↔ ∀ i, i < n → okI n L R M i :=
  ⟨fun h i hi p hp hq j hj h8 => h i hi p hp hq j hj h8, fun h i hi p hp hq j hj h8 => h i hi p hp hq j hj h8⟩
def HoldsIs (n : Nat) (l r : List Rw) (zs : List Int) (e : Ending) : Prop := ∃ b : Bool, e = .returned (.bool b) ∧ (b = true ↔ Acc n (rowF l) (rowF r) (mAt zs) ∧ NoBlock n (rowF l) (rowF r) (mAt zs))
theorem holds_no {n : Nat} {l r : List Rw} {zs : List Int} (h : ¬ (Acc n (rowF l) (rowF r) (mAt zs) ∧ NoBlock n (rowF l) (rowF r) (mAt zs))) : HoldsIs n l r zs (.returned (.bool false)) := ⟨false, rfl, by simp only [Bool.false_eq_true, false_iff]; exact h⟩
theorem holds_yes {n : Nat} {l r : List Rw} {zs : List Int} (h : Acc n (rowF l) (rowF r) (mAt zs) ∧ NoBlock n (rowF l) (rowF r) (mAt zs)) : HoldsIs n l r zs (.returned (.bool true)) := ⟨true, rfl, by simp only [true_iff]; exact h⟩
set_option maxHeartbeats 3200000 in
set_option maxRecDepth 100000 in
theorem holds_any (A : Option Addr) (n c : Nat) (l : List Rw) (B : Option Addr) (d : Nat) (r : List Rw) (Z : Option Addr) (cz : Nat) (zs : List Int) (w : World) (hL : RdR w A n l) (hR : RdR w B n r) (hz : Rd w Z n 1 (ints .i64 zs)) (hc : wchk l r = 0) (hok : OkM n (mAt zs)) :
    Calls Try.prog 16 #[.agg #[.slice A n c, .slice B n d], .slice Z n cz] w fun e w' => HoldsIs n l r zs e ∧ Below w.heap.size w w' := by
  obtain ⟨h8, _, hokL, hokR⟩ := wchk_ok hc
  rw [hL.1] at h8 hokL hokR
  have hzl : zs.length = n := by simpa [ints] using hz.1
  have gb := (Below.refl _ w).alloc (Nat.le_refl _) (.cells #[.slice A n c, .slice B n d] 24)
  have hLH := Lib.hid (hL.later gb); have hRH := Lib.hid (hR.later gb); have hzH := Lib.hid (hz.later gb)
  have hokLH := Lib.hid hokL; have hokRH := Lib.hid hokR; have hokH := Lib.hid hok
  have g0 : (w.alloc (.cells #[.slice A n c, .slice B n d] 24)).cell? ⟨w.heap.size, 0, none⟩ = some (.slice A n c) := by go_simp
  have g1 : (w.alloc (.cells #[.slice A n c, .slice B n d] 24)).cell? ⟨w.heap.size, 1, none⟩ = some (.slice B n d) := by go_simp
  have hzlH := Lib.hid hzl
  have HRk := Lib.hid (fun (x : List Rw) (X : Option Addr) (hX : RdR (w.alloc (.cells #[.slice A n c, .slice B n d] 24)) X n x) (j : Nat) (hj : j < n) (y : Int) => rank_any (rat x j).A (rat x j).len (rat x j).cap (rat x j).zs y _ (hX.2.2 _ (rat_mem (by rw [hX.1]; exact hj))).1 (by have := (hX.2.2 _ (rat_mem (l := x) (k := j) (by rw [hX.1]; exact hj))).2.1; unfold maxLen at this; omega))
  clear hL hR hz hc hokL hokR hok hzl
  go_enter Try.func16, Try.ntmps16
  go_wp2_with fail
  generalize w.alloc (.cells #[.slice A n c, .slice B n d] 24) = wg at *
  go_loop [15] (fun i => ∃ k : Nat, k ≤ n ∧ i = .int .i64 k ∧ ∀ i, i < k → ∀ j : Nat, mAt zs i = j → rkI (rowF l i) j < 8 ∧ rkI (rowF r j) i < 8) (fun i => n - (intOf i).toNat)
  case atStart => exact ⟨0, Nat.zero_le _, rfl, fun i hi => absurd hi (by omega)⟩
  case round =>
    obtain ⟨k, hk, rfl, hacc⟩ := hrel
    have haccH := Lib.hid hacc
    by_cases hlt : k < n
    · have hnx : (∀ j : Nat, mAt zs k = j → rkI (rowF l k) j < 8 ∧ rkI (rowF r j) k < 8) → ∀ i, i < k + 1 → ∀ j : Nat, mAt zs i = j → rkI (rowF l i) j < 8 ∧ rkI (rowF r j) i < 8 := fun h i hi => by
        by_cases hik : i = k
        · subst hik; exact h
        · exact haccH.out i (by omega)
      have hnx := Lib.hid hnx
      have hin := hokH.out.1 k hlt
      obtain ⟨bz, oz, rfl, hbz, hcz⟩ := hzH.out.int hlt
      rw [show zs.getD k 0 = mAt zs k from rfl] at hcz
      have hk0 : (0 : Int) ≤ k := by omega
      have hkn : (k : Int) < n := by omega
      clear hacc
      by_cases hneg : mAt zs k < 0
      · have hnx2 := Lib.hid (hnx.out fun j hj => by omega)
        have hd : ¬ (0 : Int) ≤ mAt zs k := by omega
        generalize mAt zs k = y at *
        clear hnx
        go_wp2
        go_round
        case rel => exact ⟨k + 1, by omega, by go_num, hnx2.out⟩
        case measure => simp [intOf]; omega
      · obtain ⟨j, hj⟩ := Int.eq_ofNat_of_zero_le (show 0 ≤ mAt zs k by omega)
        have hjn : j < n := by omega
        rw [hj] at hcz
        obtain ⟨bL, oL, rfl, hbL, hcL, _⟩ := hLH.out.at hlt
        obtain ⟨bR, oR, rfl, hbR, hcR, _⟩ := hRH.out.at hjn
        have H1 := Lib.hid (HRk.out l _ hLH.out k hlt (j : Int))
        have H2 := Lib.hid (HRk.out r _ hRH.out j hjn (k : Int))
        rw [show (rat l k).zs = rowF l k from rfl] at H1
        rw [show (rat r j).zs = rowF r j from rfl] at H2
        have hr1 := Lib.hid (show rkI (rowF l k) j ≤ 8 from rkI_le (hokLH.out.len k hlt))
        have hr2 := Lib.hid (show rkI (rowF r j) k ≤ 8 from rkI_le (hokRH.out.len j hjn))
        have hj0 : (0 : Int) ≤ j := by omega
        have hjnI : (j : Int) < n := by omega
        have hno : ¬ (rkI (rowF l k) j < 8 ∧ rkI (rowF r j) k < 8) → HoldsIs n l r zs (.returned (.bool false)) := fun h => holds_no fun ⟨ha, _⟩ => h (ha k hlt j hj)
        have hno := Lib.hid hno
        have hyes : rkI (rowF l k) j < 8 ∧ rkI (rowF r j) k < 8 → ∀ i, i < k + 1 → ∀ j : Nat, mAt zs i = j → rkI (rowF l i) j < 8 ∧ rkI (rowF r j) i < 8 := fun h => hnx.out fun j' hj' => by
          have : j' = j := by omega
          subst this
          exact h
        have hyes := Lib.hid hyes
        clear hnx hneg hj hin
        generalize rkI (rowF l k) j = x1 at *
        generalize rkI (rowF r j) k = x2 at *
        generalize rat l k = ra0 at *
        obtain ⟨A1, l1, c1, zs1⟩ := ra0
        generalize rat r j = rr0 at *
        obtain ⟨A2, l2, c2, zs2⟩ := rr0
        by_cases hx1 : x1 < 8
        · have hx1b : (((x1 : Nat) : Int) == 8) = false := by rw [beq_eq_false_iff_ne]; omega
          by_cases hx2 : x2 < 8
          · have hx2b : (((x2 : Nat) : Int) == 8) = false := by rw [beq_eq_false_iff_ne]; omega
            have hy := Lib.hid (hyes.out ⟨hx1, hx2⟩)
            clear hyes hno
            go_wp2_with fail
            refine H1.out.mono ?_
            rintro e w3 ⟨rfl, rfl⟩
            go_wp2_with fail
            refine H2.out.mono ?_
            rintro e w3 ⟨rfl, rfl⟩
            go_wp2
            go_round
            case rel => exact ⟨k + 1, by omega, by go_num, hy.out⟩
            case measure => simp [intOf]; omega
          · have hx2b : (((x2 : Nat) : Int) == 8) = true := by rw [beq_iff_eq]; have := hr2.out; omega
            have hy := Lib.hid (hno.out (by omega))
            clear hyes hno
            go_wp2_with fail
            refine H1.out.mono ?_
            rintro e w3 ⟨rfl, rfl⟩
            go_wp2_with fail
            refine H2.out.mono ?_
            rintro e w3 ⟨rfl, rfl⟩
            go_wp2
            go_ret
            exact ⟨hy.out, gb⟩
        · have hx1b : (((x1 : Nat) : Int) == 8) = true := by rw [beq_iff_eq]; have := hr1.out; omega
          have hy := Lib.hid (hno.out (by omega))
          clear hyes hno
          go_wp2_with fail
          refine H1.out.mono ?_
          rintro e w3 ⟨rfl, rfl⟩
          go_wp2
          go_ret
          exact ⟨hy.out, gb⟩
    · have hAcc := Lib.hid (show Acc n (rowF l) (rowF r) (mAt zs) from fun i hi j hj => haccH.out i (by omega) j hj)
      clear hacc haccH
      go_wp2
      go_loop [46] (fun i => ∃ k : Nat, k ≤ n ∧ i = .int .i64 k ∧ ∀ i, i < k → okI n (rowF l) (rowF r) (mAt zs) i) (fun i => n - (intOf i).toNat)
      case atStart => exact ⟨0, Nat.zero_le _, rfl, fun i hi => absurd hi (by omega)⟩
      case round =>
        clear hlt hk
        obtain ⟨k, hk, rfl, hob⟩ := hrel
        have hobH := Lib.hid hob
        by_cases hlt : k < n
        · have hnx : okI n (rowF l) (rowF r) (mAt zs) k → ∀ i, i < k + 1 → okI n (rowF l) (rowF r) (mAt zs) i := fun h i hi => by
            by_cases hik : i = k
            · subst hik; exact h
            · exact hobH.out i (by omega)
          have hnx := Lib.hid hnx
          have hbad : ¬ okI n (rowF l) (rowF r) (mAt zs) k → HoldsIs n l r zs (.returned (.bool false)) := fun h => holds_no fun ⟨_, hb⟩ => h (noBlock_iff.1 hb k hlt)
          have hbad := Lib.hid hbad
          obtain ⟨bL, oL, rfl, hbL, hcL, hfitL⟩ := hLH.out.at hlt
          have hzl1 := Lib.hid (show (rowF l k).length = (rat l k).len from hfitL.zl)
          have hfH := Lib.hid hfitL.1
          obtain ⟨bz, oz, rfl, hbz, hcz⟩ := hzH.out.int hlt
          rw [show zs.getD k 0 = mAt zs k from rfl] at hcz
          have hk0 : (0 : Int) ≤ k := by omega
          have hkn : (k : Int) < n := by omega
          have hL8 := Lib.hid (show (rat l k).len ≤ 8 by have := hokLH.out.len k hlt; have := hzl1.out; omega)
          rw [show (rat l k).zs = rowF l k from rfl] at hfH
          clear hfitL hob
          generalize rat l k = ra0 at *
          obtain ⟨A1, l1, c1, zs1⟩ := ra0
          have hl8 : l1 ≤ 8 := hL8.out
          go_wp2
          go_loop [53] (fun i => ∃ p : Nat, p ≤ l1 ∧ i = .int .i64 p ∧ (∀ q, q < p → (rowF l k).getD q 0 ≠ mAt zs k) ∧ ∀ q, q < p → okB n (rowF l) (rowF r) (mAt zs) k q) (fun i => l1 - (intOf i).toNat)
          case atStart => exact ⟨0, Nat.zero_le _, rfl, fun i hi => absurd hi (by omega), fun i hi => absurd hi (by omega)⟩
          case round =>
            clear hcL
            obtain ⟨p, hp, rfl, hq, hqb⟩ := hrel
            have hqH := Lib.hid hq; have hqbH := Lib.hid hqb
            clear hq hqb
            by_cases hlt2 : p < l1
            · obtain ⟨b2, o2, hA2, hb2, hc2⟩ := hfH.out.int hlt2
              subst hA2
              have hpl : p < (rowF l k).length := by have := hzl1.out; omega
              obtain ⟨j, hj⟩ := Int.eq_ofNat_of_zero_le (hokLH.out.inn k hlt p hpl).1
              have hjn : j < n := by have := (hokLH.out.inn k hlt p hpl).2; omega
              rw [hj] at hc2
              have hp0 : (0 : Int) ≤ p := by omega
              have hpl1 : (p : Int) < l1 := by omega
              have hj0 : (0 : Int) ≤ j := by omega
              have hjnI : (j : Int) < n := by omega
              have hpc : ((p : Int) < c1) ∨ True := .inr trivial
              by_cases hjm : (j : Int) = mAt zs k
              · have hy := Lib.hid (hnx.out fun p' hp' hq' => by
                  rcases Nat.lt_or_ge p' p with h | h
                  · exact hqbH.out p' h
                  · exact absurd (hj.trans hjm) (hq' p h))
                have hjb : ((j : Int) == mAt zs k) = true := by rw [beq_iff_eq]; exact hjm
                clear hnx hbad hjm hj
                generalize mAt zs k = mk at *
                go_wp2
                go_round
                case rel => exact ⟨k + 1, by omega, by go_num, hy.out⟩
                case measure => simp [intOf]; omega
              · have hjb : ((j : Int) == mAt zs k) = false := by rw [beq_eq_false_iff_ne]; exact hjm
                have hq1 : ∀ q, q < p + 1 → (rowF l k).getD q 0 ≠ mAt zs k := fun q hq => by
                  by_cases hqp : q = p
                  · subst hqp; rw [hj]; exact hjm
                  · exact hqH.out q (by omega)
                have hq1H := Lib.hid hq1
                have hb1 : okB n (rowF l) (rowF r) (mAt zs) k p → ∀ q, q < p + 1 → okB n (rowF l) (rowF r) (mAt zs) k q := fun h q hq => by
                  by_cases hqp : q = p
                  · subst hqp; exact h
                  · exact hqbH.out q (by omega)
                have hb1 := Lib.hid hb1
                have hno : ¬ okB n (rowF l) (rowF r) (mAt zs) k p → HoldsIs n l r zs (.returned (.bool false)) := fun h => hbad.out fun ho => h (ho p hpl fun q hq => hq1H.out q (by omega))
                have hno := Lib.hid hno
                have hokB := Lib.hid (show okB n (rowF l) (rowF r) (mAt zs) k p ↔ (rkI (rowF r j) k < 8 → ∃ i', i' < n ∧ mAt zs i' = j ∧ rkI (rowF r j) i' ≤ rkI (rowF r j) k) from
                  ⟨fun h => h j hj, fun h j' hj' => by
                    have : j' = j := by omega
                    subst this
                    exact h⟩)
                have HI := Lib.hid (index_any _ n cz zs (j : Int) wg hzH.out (by omega))
                obtain ⟨bR, oR, rfl, hbR, hcR, _⟩ := hRH.out.at hjn
                have H2 := Lib.hid (HRk.out r _ hRH.out j hjn (k : Int))
                have H3 := Lib.hid (fun y : Int => HRk.out r _ hRH.out j hjn y)
                rw [show (rat r j).zs = rowF r j from rfl] at H2 H3
                clear hq1 hnx hbad hjm hj
                generalize rat r j = rr0 at *
                obtain ⟨A2, l2, c2, zs2⟩ := rr0
                by_cases hx2 : rkI (rowF r j) k < 8
                · by_cases hpo : pos zs j < zs.length
                  · obtain ⟨o, ho⟩ : ∃ o, o = pos zs j := ⟨_, rfl⟩
                    have hon : o < n := by have := hzlH.out; omega
                    have hio : idxOf zs j = (o : Int) := by unfold idxOf; rw [if_pos hpo, ho]
                    have hmo : mAt zs o = j := by rw [ho]; exact pos_at hpo
                    have H3 := Lib.hid (H3.out (o : Int))
                    rw [hio] at HI
                    have ho0 : ¬ (o : Int) < 0 := by omega
                    have hx2i : ((rkI (rowF r j) k : Nat) : Int) < 8 := by omega
                    by_cases hlt3 : rkI (rowF r j) k < rkI (rowF r j) o
                    · have hres := Lib.hid (hno.out fun h => by
                        obtain ⟨i', h1, h2, h3⟩ := hokB.out.1 h hx2
                        have := hokH.out.2 i' o h1 hon (by rw [h2, hmo]) (by omega)
                        subst this
                        omega)
                      have hlt3i : ((rkI (rowF r j) k : Nat) : Int) < ((rkI (rowF r j) o : Nat) : Int) := by omega
                      clear hb1 hno hokB hlt3 hmo hio hpo ho hx2
                      generalize ((rkI (rowF r j) k : Nat) : Int) = y2 at *
                      generalize ((rkI (rowF r j) o : Nat) : Int) = y3 at *
                      generalize mAt zs k = mk at *
                      go_wp2_with fail
                      refine HI.out.mono ?_
                      rintro e w3 ⟨rfl, rfl⟩
                      go_wp2_with fail
                      refine H2.out.mono ?_
                      rintro e w3 ⟨rfl, rfl⟩
                      go_wp2_with fail
                      refine H3.out.mono ?_
                      rintro e w3 ⟨rfl, rfl⟩
                      go_wp2
                      go_ret
                      exact ⟨hres.out, gb⟩
                    · have hres := Lib.hid (hb1.out (hokB.out.2 fun _ => ⟨o, hon, hmo, by omega⟩))
                      have hlt3i : ¬ ((rkI (rowF r j) k : Nat) : Int) < ((rkI (rowF r j) o : Nat) : Int) := by omega
                      clear hb1 hno hokB hlt3 hmo hio hpo ho hx2
                      generalize ((rkI (rowF r j) k : Nat) : Int) = y2 at *
                      generalize ((rkI (rowF r j) o : Nat) : Int) = y3 at *
                      generalize mAt zs k = mk at *
                      go_wp2_with fail
                      refine HI.out.mono ?_
                      rintro e w3 ⟨rfl, rfl⟩
                      go_wp2_with fail
                      refine H2.out.mono ?_
                      rintro e w3 ⟨rfl, rfl⟩
                      go_wp2_with fail
                      refine H3.out.mono ?_
                      rintro e w3 ⟨rfl, rfl⟩
                      go_wp2
                      go_round
                      case rel => exact ⟨p + 1, by omega, by go_num, hq1H.out, hres.out⟩
                      case measure => simp [intOf]; omega
                  · have hio : idxOf zs j = -1 := idxOf_none (by omega)
                    rw [hio] at HI
                    have hx2i : ((rkI (rowF r j) k : Nat) : Int) < 8 := by omega
                    have hres := Lib.hid (hno.out fun h => by
                      obtain ⟨i', h1, h2, h3⟩ := hokB.out.1 h hx2
                      have := pos_lt (l := zs) (x := (j : Int)) (p := i') h2
                      have := hzlH.out
                      omega)
                    clear hb1 hno hokB hio hpo hx2 H3
                    generalize ((rkI (rowF r j) k : Nat) : Int) = y2 at *
                    generalize mAt zs k = mk at *
                    go_wp2_with fail
                    refine HI.out.mono ?_
                    rintro e w3 ⟨rfl, rfl⟩
                    go_wp2_with fail
                    refine H2.out.mono ?_
                    rintro e w3 ⟨rfl, rfl⟩
                    go_wp2
                    go_ret
                    exact ⟨hres.out, gb⟩
                · have hres := Lib.hid (hb1.out (hokB.out.2 fun h => absurd h hx2))
                  have hx2i : ¬ ((rkI (rowF r j) k : Nat) : Int) < 8 := by omega
                  clear hb1 hno hokB hx2 H3
                  generalize ((rkI (rowF r j) k : Nat) : Int) = y2 at *
                  generalize mAt zs k = mk at *
                  generalize idxOf zs (j : Int) = y3 at *
                  go_wp2_with fail
                  refine HI.out.mono ?_
                  rintro e w3 ⟨rfl, rfl⟩
                  go_wp2_with fail
                  refine H2.out.mono ?_
                  rintro e w3 ⟨rfl, rfl⟩
                  go_wp2
                  go_round
                  case rel => exact ⟨p + 1, by omega, by go_num, hq1H.out, hres.out⟩
                  case measure => simp [intOf]; omega
            · have hy := Lib.hid (hnx.out fun p' hp' _ => hqbH.out p' (by have := hzl1.out; omega))
              clear hnx hbad
              go_wp2
              go_round
              case rel => exact ⟨k + 1, by omega, by go_num, hy.out⟩
              case measure => simp [intOf]; omega
        · have hy := Lib.hid (holds_yes (n := n) (l := l) (r := r) (zs := zs) ⟨hAcc.out, noBlock_iff.2 fun i hi => hob i (by omega)⟩)
          clear hob
          go_wp2
          go_ret
          exact ⟨hy.out, gb⟩
end Go.Proofs.Ytcmefjfhcdedjaa
