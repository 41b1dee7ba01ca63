/- score.May. -/
import Derived.Test.YtfbomimkjiaohaaErdosLaw
import Derived.Test.YtfbomimkjiaohaaRevInt
import Derived.Test.YtfbomimkjiaohaaCloneAI
namespace Go.Proofs.Ytfbomimkjiaohaa
open Go.RowKit

def MayC (l : List Int) : Prop := (∀ k, k < l.length → 0 ≤ l.getD k 0 ∧ l.getD k 0 < (l.length : Int) ∧ condK l (k + 1)) ∧ isum l % 2 = 0
theorem isum_bd {L : List Int} {n : Nat} (h : ∀ x ∈ L, 0 ≤ x ∧ x ≤ n) : 0 ≤ isum L ∧ isum L ≤ (n : Int) * L.length := by
  induction L with
  | nil => simp [isum]
  | cons a L ih =>
    have h1 := ih fun x hx => h x (List.mem_cons_of_mem _ hx)
    have h2 := h a (List.mem_cons_self ..)
    rw [isum, List.length_cons, Int.natCast_add, Int.mul_add, Int.natCast_one, Int.mul_one]
    omega
theorem may_large (A : Option Addr) (len cap : Nat) (w : World) (hl : 10 < len) :
    Calls Try.prog 5 #[.slice A len cap] w fun e w' => e = .returned (.tuple #[.bool false, .int .i64 1]) ∧ w = w' := by
  have h : (10 : Int) < len := by omega
  go_enter Try.func5, Try.ntmps5
  go_wp2
  go_ret2
  exact ⟨rfl, rfl⟩
theorem sorted_rev {z : List Int} (h : SrI 0 KN z z.length) : z.reverse.Pairwise (fun a b => b ≤ a) := by
  rw [List.pairwise_reverse]
  exact h.pairs.imp fun h => by unfold KN at h; omega
set_option maxHeartbeats 3200000 in
theorem may_any (A : Option Addr) (n cap : Nat) (zs : List Int) (w : World) (hz : Rd w A n 1 (ints .i64 zs)) (hn : n ≤ 10) (b : Bool) (hb : ∀ l, l.Perm zs → l.Pairwise (fun a b => b ≤ a) → (b = true ↔ MayC l)) :
    Calls Try.prog 5 #[.slice A n cap] w fun e w' => e = .returned (.tuple #[.bool b, .int .i64 0]) ∧ Below w.heap.size w w' := by
  have hzl := Lib.hid (show zs.length = n by simpa [ints] using hz.1)
  have HC := Lib.hid (cloneAI A n cap zs w hz (by omega))
  have hbH := Lib.hid hb
  have h10 : decide ((10 : Int) < n) = false := decide_eq_false (by omega)
  clear hz hb
  go_enter Try.func5, Try.ntmps5
  go_wp2_with fail
  refine HC.out.mono ?_
  rintro _ w1 ⟨v, rfl, hown1, hb1⟩
  obtain ⟨A1, c1, rfl⟩ := own_slice hown1
  have HS := Lib.hid (sortI_any A1 n c1 w.heap.size zs w1 hown1 hn)
  have hb1H := Lib.hid hb1
  clear hown1 hb1 HC
  go_wp2_with fail
  refine HS.out.mono ?_
  rintro _ w2 ⟨rfl, z, hpz, hsz, hown2, hb2⟩
  have HR := Lib.hid (revI_any w.heap.size A1 n c1 z w2 hown2 (by omega))
  have hzn : z.length = n := by rw [← hzl.out]; exact hpz.length_eq
  have hbc := hbH.out z.reverse ((List.reverse_perm z).trans hpz) (sorted_rev (by rw [hzn]; exact hsz))
  have hb2H := Lib.hid (hb1H.out.trans hb2)
  obtain ⟨l, hl⟩ : ∃ l, z.reverse = l := ⟨_, rfl⟩
  have hln : l.length = n := by rw [← hl]; simpa using hzn
  have hsl : l.Pairwise (fun a b => b ≤ a) := hl ▸ sorted_rev (by rw [hzn]; exact hsz)
  rw [hl] at hbc HR
  have hbcH := Lib.hid hbc; have hlnH := Lib.hid hln; have hslH := Lib.hid hsl
  clear hown2 hb2 HS hpz hsz hzn hbc hl hb1H hln hsl
  go_wp2_with fail
  refine HR.out.mono ?_
  rintro _ w3 ⟨rfl, hown3, hb3⟩
  have hfin := Lib.hid (hb2H.out.trans hb3)
  have hrd := Lib.hid (Rd.of_own hown3)
  have hownH := Lib.hid hown3
  have hcap : n ≤ c1 := by
    rcases hown3.2 with ⟨h1, h2⟩ | ⟨g, cap, cur, h1, h2, h3, h4, _⟩
    · injection h1; omega
    · injection h1; omega
  clear hown3 hb3 HR hb2H
  go_wp2
  go_loop [5, 25] (fun sv kv => ∃ k : Nat, k ≤ n ∧ kv = .int .i64 k ∧ sv = .int .i64 (isum (l.take k)) ∧ (∀ j, j < k → 0 ≤ l.getD j 0 ∧ l.getD j 0 < n) ∧ ((∀ j, j < n → 0 ≤ l.getD j 0) → ∀ j, j < k → condK l (j + 1))) (fun _ kv => n - (intOf kv).toNat)
  case atStart => exact ⟨0, Nat.zero_le _, rfl, rfl, fun j hj => absurd hj (by omega), fun _ j hj => absurd hj (by omega)⟩
  case round =>
    obtain ⟨k, hk, rfl, rfl, hin, hcd⟩ := hrel
    have hinH := Lib.hid hin; have hcdH := Lib.hid hcd
    have hbd : 0 ≤ isum (l.take k) ∧ isum (l.take k) ≤ 100 := by
      have := isum_bd (L := l.take k) (n := n) (fun x hx => by
        obtain ⟨j, hj, rfl⟩ := List.mem_iff_getElem.1 hx
        rw [List.length_take] at hj
        have := hin j (by omega)
        rw [List.getElem_take]
        rw [show l.getD j 0 = l[j] by simp [List.getD, show j < l.length by omega]] at this
        omega)
      have hle : (l.take k).length ≤ 10 := by rw [List.length_take]; omega
      have h2 : (n : Int) * (l.take k).length ≤ 10 * 10 := Int.mul_le_mul (by omega) (by omega) (by omega) (by omega)
      omega
    clear hin hcd
    by_cases hkn : k < n
    · obtain ⟨bb, o, rfl, _, hc⟩ := hrd.out.int hkn
      have hkI : (k : Int) < n := by omega
      have hk0 : (0 : Int) ≤ k := by omega
      obtain ⟨x, hx⟩ : ∃ x, l.getD k 0 = x := ⟨_, rfl⟩
      have hxH := Lib.hid hx
      rw [hx] at hc
      obtain ⟨S, hS⟩ : ∃ S, isum (l.take k) = S := ⟨_, rfl⟩
      have hSH := Lib.hid hS
      rw [hS] at hbd ⊢
      clear hx hS
      by_cases hbad : 0 ≤ x ∧ x < n
      case neg =>
        have hbf := Lib.hid (show b = false from by
          cases b
          · rfl
          · have := (hbcH.out.1 rfl).1 k (by rw [hlnH.out]; exact hkn)
            rw [hxH.out, hlnH.out] at this
            exact absurd ⟨this.1, this.2.1⟩ hbad)
        by_cases hneg : x < 0
        · have hd : decide (x < 0) = true := decide_eq_true hneg
          clear hbad
          go_wp2
          go_ret2
          exact ⟨by rw [hbf.out]; rfl, hfin.out⟩
        · have hd : decide (x < 0) = false := decide_eq_false hneg
          have hd2 : decide ((n : Int) ≤ x) = true := decide_eq_true (by omega)
          clear hbad
          go_wp2
          go_ret2
          exact ⟨by rw [hbf.out]; rfl, hfin.out⟩
      obtain ⟨hx0, hxn⟩ := hbad
      have hd : decide (x < 0) = false := decide_eq_false (by omega)
      have hd2 : decide ((n : Int) ≤ x) = false := decide_eq_false (by omega)
      obtain ⟨M, hM⟩ : ∃ M : Nat, (k + 1) * k = M := ⟨_, rfl⟩
      have hMb : M ≤ 110 := by rw [← hM]; exact Nat.mul_le_mul (show k + 1 ≤ 11 by omega) (show k ≤ 10 by omega)
      have hMI : ((k : Int) + 1) * k = (M : Int) := by rw [← hM]; simp
      have hMH := Lib.hid hM
      clear hM
      rcases Nat.lt_or_ge (k + 1) n with h1n | h1n
      · have hne : ¬ c1 = k + 1 := by omega
        go_wp2
        go_loop [9, 49] (fun mv iv => ∃ (j : Nat) (m : Int), j ≤ n - (k + 1) ∧ iv = .int .i64 j ∧ mv = .int .i64 m ∧ ((∀ i, i < n → 0 ≤ l.getD i 0) → m = (M : Int) + isum (((l.drop (k + 1)).take j).map (mn (k + 1))))) (fun _ iv => n - (intOf iv).toNat)
        case atStart => exact ⟨0, _, Nat.zero_le _, rfl, rfl, fun _ => by simp [isum]⟩
        case round =>
          obtain ⟨j, m, hj, rfl, rfl, hm⟩ := hrel
          have hmH := Lib.hid hm
          clear hm
          by_cases hjl : j < n - (k + 1)
          · obtain ⟨b2, o2, he, _, hc2⟩ := hrd.out.int (show k + 1 + j < n by omega)
            cases he
            have hq1 : (j : Int) < (n : Int) - (k + 1) := by omega
            have hq0 : (0 : Int) ≤ j := by omega
            rw [← Nat.add_assoc] at hc2
            have hz2 : l.getD (k + 1 + j) 0 = (l.drop (k + 1)).getD j 0 := by simp only [List.getD, List.getElem?_drop]
            have hjd : j < (l.drop (k + 1)).length := by rw [List.length_drop, hlnH.out]; exact hjl
            have hsn := Lib.hid (take_snocI (mn (k + 1)) (l.drop (k + 1)) j hjd)
            obtain ⟨y, hy⟩ : ∃ y, l.getD (k + 1 + j) 0 = y := ⟨_, rfl⟩
            have hyH := Lib.hid hy
            have hyzH := Lib.hid (hz2.symm.trans hy)
            rw [hy] at hc2
            clear hy hz2 hjd
            have hmb := Lib.hid (show (∀ i, i < n → 0 ≤ l.getD i 0) → 0 ≤ isum (((l.drop (k + 1)).take j).map (mn (k + 1))) ∧ isum (((l.drop (k + 1)).take j).map (mn (k + 1))) ≤ 110 from fun hp => by
              have := isum_bd (L := ((l.drop (k + 1)).take j).map (mn (k + 1))) (n := 11) (fun u hu => by
                obtain ⟨u', hu', rfl⟩ := List.mem_map.1 hu
                obtain ⟨q, hq, rfl⟩ := List.mem_iff_getElem.1 (List.mem_of_mem_drop (List.mem_of_mem_take hu'))
                have := hp q (by rw [← hlnH.out]; exact hq)
                rw [show l.getD q 0 = l[q] by simp [List.getD, hq]] at this
                unfold mn; split <;> omega)
              have hle : (((l.drop (k + 1)).take j).map (mn (k + 1))).length ≤ 10 := by rw [List.length_map, List.length_take]; omega
              omega)
            by_cases hlt : (k : Int) + 1 < y
            · obtain ⟨s, hs⟩ : ∃ s, IntKind.i64.wrap (m + ((k : Int) + 1)) = s := ⟨_, rfl⟩
              have hnx := Lib.hid (show (∀ i, i < n → 0 ≤ l.getD i 0) → s = (M : Int) + isum (((l.drop (k + 1)).take (j + 1)).map (mn (k + 1))) from fun hp => by
                have h1 := hmH.out hp
                have h2 := hmb.out hp
                rw [hsn.out, hyzH.out, ← hs, h1, IntWalk.i64_in _ (by omega)]
                have h4 : mn (k + 1) y = (k : Int) + 1 := by unfold mn; rw [if_neg (by omega)]; omega
                rw [h4]; omega)
              go_wp2
              go_round
              case rel => exact ⟨j + 1, s, by omega, by go_num, rfl, hnx.out⟩
              case measure => simp [intOf]; omega
            · obtain ⟨s, hs⟩ : ∃ s, IntKind.i64.wrap (m + y) = s := ⟨_, rfl⟩
              have hnx := Lib.hid (show (∀ i, i < n → 0 ≤ l.getD i 0) → s = (M : Int) + isum (((l.drop (k + 1)).take (j + 1)).map (mn (k + 1))) from fun hp => by
                have h1 := hmH.out hp
                have h2 := hmb.out hp
                have h3 := hp (k + 1 + j) (by omega)
                rw [hyH.out] at h3
                rw [hsn.out, hyzH.out, ← hs, h1, IntWalk.i64_in _ (by omega)]
                have h4 : mn (k + 1) y = y := by unfold mn; split <;> omega
                rw [h4]; omega)
              go_wp2
              go_round
              case rel => exact ⟨j + 1, s, by omega, by go_num, rfl, hnx.out⟩
              case measure => simp [intOf]; omega
          · have hEH := Lib.hid (show (∀ i, i < n → 0 ≤ l.getD i 0) → m = (M : Int) + isum ((l.drop (k + 1)).map (mn (k + 1))) from fun hp => by
              have := hmH.out hp
              rw [List.take_of_length_le (by rw [List.length_drop, hlnH.out]; omega)] at this
              exact this)
            obtain rfl : j = n - (k + 1) := by omega
            clear hmH
            have htk := Lib.hid (show isum (l.take (k + 1)) = S + x from by
              have := take_snocI id l k (by rw [hlnH.out]; exact hkn)
              simp only [List.map_id, id_eq] at this
              rw [this, hSH.out, hxH.out])
            have hck := Lib.hid (show (∀ i, i < n → 0 ≤ l.getD i 0) → (condK l (k + 1) ↔ S + x ≤ m) from fun hp => by
              unfold condK
              rw [htk.out, hEH.out hp, ← hMH.out]
              have e : (((k + 1) * k : Nat) : Int) = ((k + 1 : Nat) : Int) * (((k + 1 : Nat) : Int) - 1) := by
                rw [show ((k + 1 : Nat) : Int) - 1 = (k : Int) by omega]; simp
              rw [e])
            by_cases hgt : m < S + x
            · have hd4 : decide (m < S + x) = true := decide_eq_true hgt
              have hbf := Lib.hid (show b = false from by
                cases b
                · rfl
                · have h1 := (hbcH.out.1 rfl).1
                  rw [hlnH.out] at h1
                  have := (hck.out fun i hi => (h1 i hi).1).1 (h1 k hkn).2.2
                  omega)
              clear hgt
              go_wp2
              go_ret2
              exact ⟨by rw [hbf.out]; rfl, hfin.out⟩
            · have hd4 : decide (m < S + x) = false := decide_eq_false hgt
              have h5 := Lib.hid (show ∀ j, j < k + 1 → 0 ≤ l.getD j 0 ∧ l.getD j 0 < n from fun j hj => by
                by_cases e : j = k
                · subst e; rw [hxH.out]; exact ⟨hx0, hxn⟩
                · exact hinH.out j (by omega))
              have h6 := Lib.hid (show (∀ j, j < n → 0 ≤ l.getD j 0) → ∀ j, j < k + 1 → condK l (j + 1) from fun hp j hj => by
                by_cases e : j = k
                · subst e; exact (hck.out hp).2 (by omega)
                · exact hcdH.out hp j (by omega))
              clear hgt
              go_wp2
              go_round
              case rel => exact ⟨k + 1, by omega, by go_num, by rw [htk.out], h5.out, h6.out⟩
              case measure => simp [intOf]; omega
      · have hnk : n ≤ k + 1 := h1n
        by_cases hc1 : c1 = k + 1
        · obtain rfl : c1 = k + 1 := hc1
          go_wp2
          go_loop [9, 49] (fun mv iv => iv = .int .i64 0 ∧ mv = .int .i64 (M : Int)) (fun _ iv => n - (intOf iv).toNat)
          case atStart => exact ⟨rfl, rfl⟩
          case round =>
            obtain ⟨rfl, rfl⟩ := hrel
            obtain ⟨m, hm⟩ : ∃ m : Int, (M : Int) = m := ⟨_, rfl⟩
            have hEH := Lib.hid (show (∀ i, i < l.length → 0 ≤ l.getD i 0) → m = (M : Int) + isum ((l.drop (k + 1)).map (mn (k + 1))) from fun _ => by
              rw [List.drop_eq_nil_of_le (by rw [hlnH.out]; omega)]; simp [isum, hm])
            rw [hlnH.out] at hEH
            rw [hm]
            clear hm
            have htk := Lib.hid (show isum (l.take (k + 1)) = S + x from by
              have := take_snocI id l k (by rw [hlnH.out]; exact hkn)
              simp only [List.map_id, id_eq] at this
              rw [this, hSH.out, hxH.out])
            have hck := Lib.hid (show (∀ i, i < n → 0 ≤ l.getD i 0) → (condK l (k + 1) ↔ S + x ≤ m) from fun hp => by
              unfold condK
              rw [htk.out, hEH.out hp, ← hMH.out]
              have e : (((k + 1) * k : Nat) : Int) = ((k + 1 : Nat) : Int) * (((k + 1 : Nat) : Int) - 1) := by
                rw [show ((k + 1 : Nat) : Int) - 1 = (k : Int) by omega]; simp
              rw [e])
            by_cases hgt : m < S + x
            · have hd4 : decide (m < S + x) = true := decide_eq_true hgt
              have hbf := Lib.hid (show b = false from by
                cases b
                · rfl
                · have h1 := (hbcH.out.1 rfl).1
                  rw [hlnH.out] at h1
                  have := (hck.out fun i hi => (h1 i hi).1).1 (h1 k hkn).2.2
                  omega)
              clear hgt
              go_wp2
              go_ret2
              exact ⟨by rw [hbf.out]; rfl, hfin.out⟩
            · have hd4 : decide (m < S + x) = false := decide_eq_false hgt
              have h5 := Lib.hid (show ∀ j, j < k + 1 → 0 ≤ l.getD j 0 ∧ l.getD j 0 < n from fun j hj => by
                by_cases e : j = k
                · subst e; rw [hxH.out]; exact ⟨hx0, hxn⟩
                · exact hinH.out j (by omega))
              have h6 := Lib.hid (show (∀ j, j < n → 0 ≤ l.getD j 0) → ∀ j, j < k + 1 → condK l (j + 1) from fun hp j hj => by
                by_cases e : j = k
                · subst e; exact (hck.out hp).2 (by omega)
                · exact hcdH.out hp j (by omega))
              clear hgt
              go_wp2
              go_round
              case rel => exact ⟨k + 1, by omega, by go_num, by rw [htk.out], h5.out, h6.out⟩
              case measure => simp [intOf]; omega
        · go_wp2
          go_loop [9, 49] (fun mv iv => iv = .int .i64 0 ∧ mv = .int .i64 (M : Int)) (fun _ iv => n - (intOf iv).toNat)
          case atStart => exact ⟨rfl, rfl⟩
          case round =>
            obtain ⟨rfl, rfl⟩ := hrel
            obtain ⟨m, hm⟩ : ∃ m : Int, (M : Int) = m := ⟨_, rfl⟩
            have hEH := Lib.hid (show (∀ i, i < l.length → 0 ≤ l.getD i 0) → m = (M : Int) + isum ((l.drop (k + 1)).map (mn (k + 1))) from fun _ => by
              rw [List.drop_eq_nil_of_le (by rw [hlnH.out]; omega)]; simp [isum, hm])
            rw [hlnH.out] at hEH
            rw [hm]
            clear hm
            have htk := Lib.hid (show isum (l.take (k + 1)) = S + x from by
              have := take_snocI id l k (by rw [hlnH.out]; exact hkn)
              simp only [List.map_id, id_eq] at this
              rw [this, hSH.out, hxH.out])
            have hck := Lib.hid (show (∀ i, i < n → 0 ≤ l.getD i 0) → (condK l (k + 1) ↔ S + x ≤ m) from fun hp => by
              unfold condK
              rw [htk.out, hEH.out hp, ← hMH.out]
              have e : (((k + 1) * k : Nat) : Int) = ((k + 1 : Nat) : Int) * (((k + 1 : Nat) : Int) - 1) := by
                rw [show ((k + 1 : Nat) : Int) - 1 = (k : Int) by omega]; simp
              rw [e])
            by_cases hgt : m < S + x
            · have hd4 : decide (m < S + x) = true := decide_eq_true hgt
              have hbf := Lib.hid (show b = false from by
                cases b
                · rfl
                · have h1 := (hbcH.out.1 rfl).1
                  rw [hlnH.out] at h1
                  have := (hck.out fun i hi => (h1 i hi).1).1 (h1 k hkn).2.2
                  omega)
              clear hgt
              go_wp2
              go_ret2
              exact ⟨by rw [hbf.out]; rfl, hfin.out⟩
            · have hd4 : decide (m < S + x) = false := decide_eq_false hgt
              have h5 := Lib.hid (show ∀ j, j < k + 1 → 0 ≤ l.getD j 0 ∧ l.getD j 0 < n from fun j hj => by
                by_cases e : j = k
                · subst e; rw [hxH.out]; exact ⟨hx0, hxn⟩
                · exact hinH.out j (by omega))
              have h6 := Lib.hid (show (∀ j, j < n → 0 ≤ l.getD j 0) → ∀ j, j < k + 1 → condK l (j + 1) from fun hp j hj => by
                by_cases e : j = k
                · subst e; exact (hck.out hp).2 (by omega)
                · exact hcdH.out hp j (by omega))
              clear hgt
              go_wp2
              go_round
              case rel => exact ⟨k + 1, by omega, by go_num, by rw [htk.out], h5.out, h6.out⟩
              case measure => simp [intOf]; omega
    · obtain rfl : k = n := by omega
      have htl : l.take k = l := List.take_of_length_le (by rw [hlnH.out]; exact Nat.le_refl _)
      rw [htl] at hbd ⊢
      have hbr := Lib.hid (show b = decide (isum l % 2 = 0) from by
        have h1 : b = true ↔ isum l % 2 = 0 := by
          rw [hbcH.out]
          refine ⟨fun h => h.2, fun h => ⟨fun j hj => ?_, h⟩⟩
          rw [hlnH.out] at hj ⊢
          exact ⟨(hinH.out j hj).1, (hinH.out j hj).2, hcdH.out (fun i hi => (hinH.out i hi).1) j hj⟩
        rw [Bool.eq_iff_iff, h1, decide_eq_true_iff])
      generalize isum l = S at *
      go_wp2
      go_ret2
      exact ⟨by rw [hbr.out]; rfl, hfin.out⟩
end Go.Proofs.Ytfbomimkjiaohaa
