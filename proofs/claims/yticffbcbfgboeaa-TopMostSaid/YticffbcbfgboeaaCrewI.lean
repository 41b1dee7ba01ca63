/- Play, for whatever arguments. -/
import Derived.Test.YticffbcbfgboeaaCrewH
import Derived.Test.YticffbcbfgboeaaCodesEq
namespace Go.Proofs.Yticffbcbfgboeaa
open Go.RowKit Go.Shelf

theorem wds_ofP {zs : List Int} (h : ∀ z ∈ zs, (Lit.int .u32 z).wf = true) : ints .u32 zs = wds (zs.map Int.toNat) ∧ ∀ x ∈ zs.map Int.toNat, x < 4294967296 := by
  refine ⟨?_, fun x hx => ?_⟩
  · unfold ints wds
    rw [List.map_map]
    exact List.map_congr_left fun z hz => by
      have := wf_u32 (h z hz)
      simp only [Function.comp]
      rw [Int.toNat_of_nonneg this.1]
  · obtain ⟨z, hz, rfl⟩ := List.mem_map.1 hx
    have := wf_u32 (h z hz)
    omega
theorem Rd.shortS {w : World} {A : Option Addr} {n s : Nat} {xs : List Value} (h : Rd w A n s xs) {k : Nat} (hk : k ≤ n) : Rd w A k s (xs.take (k * s)) := by
  have hks : k * s ≤ n * s := Nat.mul_le_mul_right s hk
  refine ⟨by rw [List.length_take, h.1]; omega, fun h0 => ?_⟩
  obtain ⟨b, o, e, hlt, hc⟩ := h.2 (by omega)
  exact ⟨b, o, e, hlt, fun j hj => by rw [List.getElem?_take_of_lt (by omega)]; exact hc j (by omega)⟩
theorem ps3_take {k₁ k₂ k₃ : IntKind} : ∀ (l : List (Int × Int × Int)) (k : Nat), (ps3 k₁ k₂ k₃ l).take (k * 3) = ps3 k₁ k₂ k₃ (l.take k)
  | [], k => by simp [ps3]
  | c :: l, 0 => by simp [ps3]
  | c :: l, k + 1 => by
    have ih := ps3_take (k₁ := k₁) (k₂ := k₂) (k₃ := k₃) l k
    have e : ∀ c l, ps3 k₁ k₂ k₃ (c :: l) = .int k₁ c.1 :: .int k₂ c.2.1 :: .int k₃ c.2.2 :: ps3 k₁ k₂ k₃ l := fun _ _ => rfl
    rw [List.take_succ_cons, e, e, ← ih, show (k + 1) * 3 = k * 3 + 1 + 1 + 1 by omega]
    rfl
theorem play_any (A B C : Option Addr) (nw ns nc cA cB cC : Nat) (ws : List (Int × Int)) (ss : List Nat) (xs : List Chg) (w : World) (hA : Rd w A nw 2 (ps2 .i64 .u32 ws)) (hB : Rd w B ns 1 (wds ss)) (hC : Rd w C nc 3 (ps3 .i64 .i64 .i64 xs))
    (hnw : nw ≤ 9223372036854775807) (hns : ns ≤ 9223372036854775807) (hnc : nc ≤ 9223372036854775807) :
    Calls Try.prog 7 #[.slice A nw cA, .slice B ns cB, .slice C nc cC] w fun e w' => (∃ (A1 : Option Addr) (n1 c1 : Nat) (A2 : Option Addr) (n2 c2 : Nat) (A3 : Option Addr) (n3 c3 : Nat) (inn code : Int), e = .returned (.tuple #[.agg #[.slice A1 n1 c1, .int .u32 inn, .slice A2 n2 c2, .slice A3 n3 c3], .int .i64 code])) ∧ Below w.heap.size w w' := by
  by_cases hok : pchk ws ns = 0
  · by_cases h64 : nc ≤ 64
    · obtain ⟨pl, hpl⟩ := exists_pl
      exact (play_ok pl hpl A B C nw ns nc cA cB cC ws ss xs w hA hB hC hok h64).mono fun e w' ⟨vC, vW, vT, tv, he, hP, hb⟩ => by
        obtain ⟨A1, c1, rfl⟩ := own_slice hP.co
        obtain ⟨A2, c2, rfl⟩ := own_slice hP.wa
        obtain ⟨A3, c3, rfl⟩ := own_slice hP.ta
        exact ⟨⟨_, _, _, _, _, _, _, _, _, _, _, he⟩, hb⟩
    · exact (play_big A B C nw ns nc cA cB cC ws w hA hok (by omega) hnc).mono fun e w' ⟨he, hb⟩ => ⟨⟨_, _, _, _, _, _, _, _, _, _, _, he⟩, hb⟩
  · exact (play_bad A B C nw ns nc cA cB cC ws w hA hnw hns hok).mono fun e w' ⟨he, hb⟩ => ⟨⟨_, _, _, _, _, _, _, _, _, _, _, he⟩, hb⟩
end Go.Proofs.Yticffbcbfgboeaa
