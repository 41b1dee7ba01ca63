/- The reference's GraphCheck, and good: the code of what is wrong with a graph. -/
import Derived.Test.YtnkmfnnkophccaaDoorRows
import Derived.Test.YtnkmfnnkophccaaDoorGraph
namespace Go.Proofs.YtnkmfnnkophccaaDoor
open Go.RowKit

theorem ps3_len {k₁ k₂ k₃ : IntKind} {w : World} {A : Option Addr} {len : Nat} {es : List E} (h : Rd w A len 3 (ps3 k₁ k₂ k₃ es)) : es.length = len := by
  have := h.1; rw [ps3_length] at this; omega

set_option maxHeartbeats 400000 in
theorem graphCheck_large (N : Int) (A : Option Addr) (len cap : Nat) (w : World) (hlen : len ≤ 9223372036854775807) (h : glarge N len = true) :
    Calls Tryd.prog 17 #[.agg #[.int .i64 N, .slice A len cap]] w fun e w' => e = .returned (.int .i64 1) ∧ Below w.heap.size w w' := by
  by_cases h1 : N < 0
  · go_enter Tryd.func17, Tryd.ntmps17
    go_wp2
    go_ret
    exact ⟨rfl, (Below.refl _ _).alloc (Nat.le_refl _) _⟩
  · by_cases h2 : 10 < N
    · go_enter Tryd.func17, Tryd.ntmps17
      go_wp2
      go_ret
      exact ⟨rfl, (Below.refl _ _).alloc (Nat.le_refl _) _⟩
    · have h3 : 45 < len := by simp [glarge] at h; omega
      clear h
      go_enter Tryd.func17, Tryd.ntmps17
      go_wp2
      go_ret
      exact ⟨rfl, (Below.refl _ _).alloc (Nat.le_refl _) _⟩

theorem echk_in {N : Nat} {a b c : Int} (h : (0 ≤ a ∧ a < N) ∧ 0 ≤ b ∧ b < N) : outE N (a, b, c) = false := by simp [outE]; omega
theorem echk_out {N : Nat} {a b c : Int} (h : ¬ ((0 ≤ a ∧ a < N) ∧ 0 ≤ b ∧ b < N)) : outE N (a, b, c) = true := by simp [outE]; omega
theorem any_take_none {p : E → Bool} {es : List E} {k : Nat} (hk : k ≤ es.length) (h : ∀ i, i < k → p (es.getD i (0, 0, 0)) = false) : (es.take k).any p = false := by
  refine List.any_eq_false.2 fun x hx => ?_
  obtain ⟨i, hi, rfl⟩ := List.mem_iff_getElem.1 hx
  have hi' : i < k := by simp at hi; omega
  have := h i hi'
  simp [List.getD, show i < es.length by omega] at this
  simp [this]
theorem any_take_some {p : E → Bool} {es : List E} {k i : Nat} (hk : k ≤ es.length) (hi : i < k) (h : p (es.getD i (0, 0, 0)) = true) : (es.take k).any p = true := by
  refine List.any_eq_true.2 ⟨es.getD i (0, 0, 0), ?_, h⟩
  rw [List.mem_iff_getElem]
  exact ⟨i, by simp; omega, by simp [List.getD, show i < es.length by omega]⟩

set_option maxHeartbeats 3200000 in
set_option maxRecDepth 100000 in
theorem graphCheck_small (N : Nat) (A : Option Addr) (len cap : Nat) (es : List E) (w : World) (hr : Rd w A len 3 (ps3 .i64 .i64 .i64 es)) (hN : N ≤ 10) (hl : len ≤ 45) (hcap : len ≤ cap) :
    Calls Tryd.prog 17 #[.agg #[.int .i64 N, .slice A len cap]] w fun e w' => e = .returned (.int .i64 (gscan N es)) ∧ Below w.heap.size w w' := by
  have hel := Lib.hid (ps3_len hr)
  have hrH := Lib.hid hr; clear hr
  go_enter Tryd.func17, Tryd.ntmps17
  go_wp2
  have g0 : (w.alloc (Obj.cells #[Value.int IntKind.i64 ↑N, Value.slice A len cap] 27)).cell? ⟨w.heap.size, 0, none⟩ = some (.int .i64 N) := by go_simp
  have g1 : (w.alloc (Obj.cells #[Value.int IntKind.i64 ↑N, Value.slice A len cap] 27)).cell? ⟨w.heap.size, 1, none⟩ = some (.slice A len cap) := by go_simp
  have hS0 : w.heap.size < (w.alloc (Obj.cells #[Value.int IntKind.i64 ↑N, Value.slice A len cap] 27)).heap.size := by simp
  have hbw0 : Below w.heap.size w (w.alloc (Obj.cells #[Value.int IntKind.i64 ↑N, Value.slice A len cap] 27)) := (Below.refl _ _).alloc (Nat.le_refl _) _
  generalize w.alloc (Obj.cells #[Value.int IntKind.i64 ↑N, Value.slice A len cap] 27) = W0 at *
  have hr0 := Lib.hid (hrH.out.later hbw0)
  go_loopw [24] (fun i wr => ∃ k : Nat, k ≤ len ∧ i = .int .i64 k ∧ (∀ j, j < k → echkAt N es j = 0) ∧ Below W0.heap.size W0 wr) (fun i _ => len - (intOf i).toNat)
  case atStart => exact ⟨0, Nat.zero_le _, rfl, fun j hj => absurd hj (by omega), Below.refl _ _⟩
  case round =>
    obtain ⟨k, hk, rfl, hz, hb⟩ := hrel
    obtain ⟨wo, rfl⟩ : ∃ wo : World, wo = wr := ⟨_, rfl⟩
    have hzH := Lib.hid hz; clear hz
    by_cases hlt : k < len
    · have hke : k < es.length := by rw [hel.out]; exact hlt
      have q0 := below_cell hb hS0 g0
      have q1 := below_cell hb hS0 g1
      have hat : ∀ a b c, es.getD k (0, 0, 0) = (a, b, c) → echkAt N es k = echk N (es.take k) (a, b, c) := fun a b c h => by rw [echkAt, h]
      have hatH := Lib.hid hat; clear hat
      obtain ⟨bb, oo, rfl, hab, hc1, hc2, hc3⟩ := (hr0.out.later hb).triple hlt
      have hres : echkAt N es k ≠ 0 → gscan N es = echkAt N es k := fun h => gscan_some hke hzH.out h
      have hresH := Lib.hid hres; clear hres
      have hbw := hbw0.trans (hb.mono hbw0.size)
      have hSr : w.heap.size < wo.heap.size := by have := hb.size; omega
      generalize hgd : es.getD k (0, 0, 0) = e at *
      obtain ⟨a, b, c⟩ := e
      dsimp only at hc1 hc2 hc3
      have hat := hatH.out a b c rfl
      clear hatH
      have hgdH := Lib.hid hgd; clear hgd hke
      by_cases hin : (0 ≤ a ∧ a < N) ∧ 0 ≤ b ∧ b < N
      · have hout := echk_in (c := c) hin
        obtain ⟨⟨ha0, ha1⟩, hb0, hb1⟩ := hin
        cases heq : (a == b)
        · have hatH := Lib.hid hat; have houtH := Lib.hid hout; clear hat hout
          have heqH := Lib.hid heq
          have hkc : k ≤ cap := by omega
          go_wp2
          have x0 : (wo.alloc (Obj.cells #[Value.int IntKind.i64 a, Value.int IntKind.i64 b, Value.int IntKind.i64 c] 40)).cell? ⟨wo.heap.size, 0, none⟩ = some (.int .i64 a) := by go_simp
          have x1 : (wo.alloc (Obj.cells #[Value.int IntKind.i64 a, Value.int IntKind.i64 b, Value.int IntKind.i64 c] 40)).cell? ⟨wo.heap.size, 1, none⟩ = some (.int .i64 b) := by go_simp
          have x2 : (wo.alloc (Obj.cells #[Value.int IntKind.i64 a, Value.int IntKind.i64 b, Value.int IntKind.i64 c] 40)).cell? ⟨wo.heap.size, 2, none⟩ = some (.int .i64 c) := by go_simp
          have hbx : Below wo.heap.size wo (wo.alloc (Obj.cells #[Value.int IntKind.i64 a, Value.int IntKind.i64 b, Value.int IntKind.i64 c] 40)) := (Below.refl _ _).alloc (Nat.le_refl _) _
          have hSx : wo.heap.size < (wo.alloc (Obj.cells #[Value.int IntKind.i64 a, Value.int IntKind.i64 b, Value.int IntKind.i64 c] 40)).heap.size := by simp
          generalize wo.alloc (Obj.cells #[Value.int IntKind.i64 a, Value.int IntKind.i64 b, Value.int IntKind.i64 c] 40) = W1 at *
          have hb1 := hb.trans (hbx.mono hb.size)
          have hbw1 := hbw.trans (hbx.mono hbw.size)
          have hr1 := Lib.hid (hr0.out.later hb1)
          go_loopw [61] (fun i wi => ∃ j : Nat, j ≤ k ∧ i = .int .i64 j ∧ (∀ i, i < j → sameE (a, b, c) (es.getD i (0, 0, 0)) = false) ∧ Below W1.heap.size W1 wi) (fun i _ => k - (intOf i).toNat)
          case atStart => exact ⟨0, Nat.zero_le _, rfl, fun j hj => absurd hj (by omega), Below.refl _ _⟩
          case round =>
            obtain ⟨j, hj, rfl, hn, hbi⟩ := hrel
            have hnH := Lib.hid hn; clear hn
            have y0 := below_cell hbi hSx x0
            have y1 := below_cell hbi hSx x1
            have y2 := below_cell hbi hSx x2
            have hbiw := hbw1.trans (hbi.mono hbw1.size)
            by_cases hlt2 : j < k
            · obtain ⟨_, _, hA, _, hd1, hd2, _⟩ := (hr1.out.later hbi).triple (show j < len by omega)
              injection hA with hA; injection hA with hA hA2 _
              subst hA; subst hA2
              have hSi : wo.heap.size < wr.heap.size := by have := hbi.size; omega
              have hsn : sameE (a, b, c) (es.getD j (0, 0, 0)) = false → ∀ i, i < j + 1 → sameE (a, b, c) (es.getD i (0, 0, 0)) = false := by
                intro h i hi
                rcases Nat.lt_or_ge i j with h' | h'
                · exact hnH.out i h'
                · obtain rfl : i = j := by omega
                  exact h
              have hsy : sameE (a, b, c) (es.getD j (0, 0, 0)) = true → gscan N es = 3 := by
                intro h
                have hv : echkAt N es k = 3 := by
                  rw [hatH.out, echk, if_neg (by simp [houtH.out]), if_neg (by simpa using heqH.out), if_pos (any_take_some (by rw [hel.out]; exact hk) hlt2 h)]
                exact (hresH.out (by omega)).trans hv
              have hsnH := Lib.hid hsn; have hsyH := Lib.hid hsy; clear hsn hsy
              generalize es.getD j (0, 0, 0) = f at *
              obtain ⟨p, q, r⟩ := f
              dsimp only at hd1 hd2
              cases h1 : (p == a)
              all_goals cases h2 : (q == b)
              all_goals cases h3 : (p == b)
              all_goals cases h4 : (q == a)
              all_goals
                first
                  | (have hs := Lib.hid (show sameE (a, b, c) (p, q, r) = false by simp only [sameE, h1, h2, h3, h4]; rfl)
                     go_wp2
                     go_roundw
                     case rel => exact ⟨j + 1, by omega, by go_num, hsnH.out hs.out, hbi.alloc hbi.size _⟩
                     case measure => simp [intOf]; omega)
                  | (have hs := Lib.hid (hsyH.out (show sameE (a, b, c) (p, q, r) = true by simp only [sameE, h1, h2, h3, h4]; rfl))
                     go_wp2
                     go_ret
                     exact ⟨by rw [hs.out]; rfl, hbiw.alloc hbiw.size _⟩)
            · obtain rfl : j = k := by omega
              have hne : (es.take j).any (sameE (a, b, c)) = false := any_take_none (by rw [hel.out]; exact hk) hnH.out
              have hv : echkAt N es j = if heavyE (a, b, c) then 4 else 0 := by
                rw [hatH.out, echk, if_neg (by simp [houtH.out]), if_neg (by simpa using heqH.out), if_neg (by simp [hne])]
              have hvH := Lib.hid hv; clear hv hne
              have hb2 := hb1.trans (hbi.mono hb1.size)
              by_cases hc : -1048576 ≤ c ∧ c ≤ 1048576
              · have hv0 : echkAt N es j = 0 := by rw [hvH.out, if_neg (by simp [heavyE]; omega)]
                have hv0H := Lib.hid hv0; clear hv0
                obtain ⟨hc1', hc2'⟩ := hc
                go_wp2
                go_roundw
                case rel =>
                  refine ⟨j + 1, by omega, by go_num, fun i hi => ?_, hb2⟩
                  rcases Nat.lt_or_ge i j with h' | h'
                  · exact hzH.out i h'
                  · obtain rfl : i = j := by omega
                    exact hv0H.out
                case measure => simp [intOf]; omega
              · have hv0 : echkAt N es j = 4 := by rw [hvH.out, if_pos (by simp [heavyE]; omega)]
                have hr4 := Lib.hid ((hresH.out (by omega)).trans hv0)
                clear hv0
                go_wp2
                all_goals first
                  | (exfalso; omega)
                  | (go_ret
                     exact ⟨by rw [hr4.out]; rfl, hbiw⟩)
        · have hv : echkAt N es k = 3 := by rw [hat, echk, if_neg (by simp [hout]), if_pos (by simpa using heq)]
          have hr3 := Lib.hid ((hresH.out (by omega)).trans hv)
          clear hv hat hout
          go_wp2
          go_ret
          exact ⟨by rw [hr3.out]; rfl, hbw.alloc hbw.size _⟩
      · have hv : echkAt N es k = 2 := by rw [hat, echk, if_pos (echk_out hin)]
        have hr3 := Lib.hid ((hresH.out (by omega)).trans hv)
        clear hv hat
        go_wp2
        all_goals first
          | (exfalso; omega)
          | (go_ret
             exact ⟨by rw [hr3.out]; rfl, hbw.alloc hbw.size _⟩)
    · have hr3 := Lib.hid (gscan_none (N := N) (es := es) (by rw [hel.out]; intro j hj; exact hzH.out j (by omega)))
      go_wp2
      go_ret
      exact ⟨by rw [hr3.out]; rfl, hbw0.trans (hb.mono hbw0.size)⟩
end Go.Proofs.YtnkmfnnkophccaaDoor
