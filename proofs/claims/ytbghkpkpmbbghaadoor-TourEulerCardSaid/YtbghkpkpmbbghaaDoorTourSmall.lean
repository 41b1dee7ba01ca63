/- tour: has, turn, one. -/
import Derived.Test.YtbghkpkpmbbghaaDoorTourLaw
import Derived.Test.YtbghkpkpmbbghaaDoorSpread
import Derived.Test.YtbghkpkpmbbghaaDoorNearGr
import Derived.Test.YtbghkpkpmbbghaaDoorBel
import Derived.Test.YtbghkpkpmbbghaaDoorBlk
import Derived.Laws.BitsAllLaws
namespace Go.Proofs.YtbghkpkpmbbghaaDoor
open Go.RowKit Go.Shelf

def hasN (ns : List Nat) : Bool := ns.any fun x => x != 0
theorem has_any (A : Option Addr) (n c : Nat) (ns : List Nat) (w : World) (hr : Rd w A n 1 (wds ns)) (hn : n ≤ 10) :
    Calls Tryd.prog 14 #[.slice A n c] w fun e w' => e = .returned (.bool (hasN ns)) ∧ w = w' := by
  have hl := Lib.hid (show ns.length = n by simpa [wds] using hr.1)
  have hrH := Lib.hid hr
  clear hr
  go_enter Tryd.func14, Tryd.ntmps14
  go_wp2
  go_loop [7] (fun iv => ∃ i : Nat, i ≤ n ∧ iv = .int .i64 i ∧ ∀ j, j < i → ns.getD j 0 = 0) (fun iv => n - (intOf iv).toNat)
  case atStart => exact ⟨0, Nat.zero_le _, rfl, fun j hj => absurd hj (by omega)⟩
  case round =>
    obtain ⟨i, hi, rfl, h0⟩ := hrel
    have h0H := Lib.hid h0
    clear h0
    by_cases hin : i < n
    · obtain ⟨b, o, rfl, _, hc⟩ := hrH.out.wd hin
      have hi0 : (0 : Int) ≤ i := by omega
      have hiI : (i : Int) < n := by omega
      obtain ⟨x, hx⟩ : ∃ x, ns.getD i 0 = x := ⟨_, rfl⟩
      have hxH := Lib.hid hx
      rw [hx] at hc
      clear hx
      by_cases hx0 : x = 0
      · have hb : ((x : Int) != 0) = false := by simp [hx0]
        have hnx := Lib.hid (show ∀ j, j < i + 1 → ns.getD j 0 = 0 from fun j hj => by
          by_cases e : j = i
          · rw [e, hxH.out]; exact hx0
          · exact h0H.out j (by omega))
        clear hx0
        go_wp2
        go_round
        case rel => exact ⟨i + 1, by omega, by go_num, hnx.out⟩
        case measure => simp [intOf]; omega
      · have hb : ((x : Int) != 0) = true := bne_iff_ne.2 (by omega)
        have hv := Lib.hid (show hasN ns = true from List.any_eq_true.2 ⟨x, by rw [← hxH.out]; simp [List.getD, show i < ns.length by rw [hl.out]; exact hin], by simpa using hx0⟩)
        clear hx0
        go_wp2
        go_ret
        exact ⟨by rw [hv.out]; rfl, rfl⟩
    · have hv := Lib.hid (show hasN ns = false from List.any_eq_false.2 fun x hx => by
        obtain ⟨j, hj, rfl⟩ := List.mem_iff_getElem.1 hx
        have := h0H.out j (by rw [hl.out] at hj; omega)
        rw [show ns.getD j 0 = ns[j] by simp [List.getD, hj]] at this
        simp [this])
      go_wp2
      go_ret
      exact ⟨by rw [hv.out]; rfl, rfl⟩
/-- an edge is turned -/
def turnW (ns : List Nat) (a b : Nat) : List Nat := (ns.set a (ns.getD a 0 ^^^ 2 ^ b)).set b (ns.getD b 0 ^^^ 2 ^ a)
theorem wds_setT (ns : List Nat) (k x : Nat) : (wds ns).set k (.int .u32 (x : Int)) = wds (ns.set k x) := by simp [wds, List.map_set]
set_option maxHeartbeats 800000 in
theorem turn_any (B g n a b : Nat) (ns : List Nat) (w : World) (h : w.ownsRow B 38 1 (.slice (some ⟨g, 0, none⟩) n n) n (wds ns)) (hn : n ≤ 10) (ha : a < n) (hb : b < n) (hab : a ≠ b) (hw : ∀ i, ns.getD i 0 < 1024) :
    Calls Tryd.prog 16 #[.slice (some ⟨g, 0, none⟩) n n, .int .i64 (a : Int), .int .i64 (b : Int)] w fun e w' => e = .returned (.tuple #[]) ∧ w'.ownsRow B 38 1 (.slice (some ⟨g, 0, none⟩) n n) n (wds (turnW ns a b)) ∧ w.grownBy w' (some g) := by
  have hl : ns.length = n := by have := h.1; simpa [wds] using this
  have ha10 : a < 10 := by omega
  have hb10 : b < 10 := by omega
  have hwa := hw a; have hwb := hw b
  have h2a : 2 ^ a < 2 ^ 10 := Nat.pow_lt_pow_right (by omega) (by omega)
  have h2b : 2 ^ b < 2 ^ 10 := Nat.pow_lt_pow_right (by omega) (by omega)
  have hca := (h.cellAt a (by omega)).trans (wds_get (by omega))
  have hcb := (h.cellAt b (by omega)).trans (wds_get (by omega))
  have fa := h.frozenAt a; have fb := h.frozenAt b
  have lg := (h.lt g rfl).2
  have x1 : bits .xor .u32 ((ns.getD a 0 : Nat) : Int) ((2 : Int) ^ b % 4294967296) = ((ns.getD a 0 ^^^ 2 ^ b : Nat) : Int) := by
    rw [two_pow_u32 b (by omega), u32_xor_nat _ _ (by omega) (by omega)]
  have x2 : bits .xor .u32 ((ns.getD b 0 : Nat) : Int) ((2 : Int) ^ a % 4294967296) = ((ns.getD b 0 ^^^ 2 ^ a : Nat) : Int) := by
    rw [two_pow_u32 a (by omega), u32_xor_nat _ _ (by omega) (by omega)]
  have haI : (a : Int) < n := by omega
  have hbI : (b : Int) < n := by omega
  have ha0 : (0 : Int) ≤ a := by omega
  have hb0 : (0 : Int) ≤ b := by omega
  obtain ⟨y1, hy1⟩ : ∃ y, ns.getD a 0 ^^^ 2 ^ b = y := ⟨_, rfl⟩
  obtain ⟨y2, hy2⟩ : ∃ y, ns.getD b 0 ^^^ 2 ^ a = y := ⟨_, rfl⟩
  rw [hy1] at x1
  rw [hy2] at x2
  have hba : ¬ b = a := fun e => hab e.symm
  have ho2 := Lib.hid (show (((w.setCell ⟨g, a, none⟩ (.int .u32 (y1 : Int))).drew.setCell ⟨g, b, none⟩ (.int .u32 (y2 : Int))).drew).ownsRow B 38 1 (.slice (some ⟨g, 0, none⟩) n n) n (wds (turnW ns a b)) from by
    have h1 := (own_drew ((h.stored a (.int .u32 (y1 : Int))).1)).stored b (.int .u32 (y2 : Int))
    rw [wds_setT, wds_setT] at h1
    unfold turnW
    rw [hy1, hy2]
    exact own_drew h1.1)
  have hg2 := Lib.hid (show w.grownBy (((w.setCell ⟨g, a, none⟩ (.int .u32 (y1 : Int))).drew.setCell ⟨g, b, none⟩ (.int .u32 (y2 : Int))).drew) (some g) from
    ⟨rfl, rfl, rfl, by simp, fun k hk hne => by
      have e1 := heap_setCell_other (w.setCell ⟨g, a, none⟩ (.int .u32 (y1 : Int))).drew ⟨g, b, none⟩ k (.int .u32 (y2 : Int)) (fun e => hne (by rw [e]))
      have e2 := heap_setCell_other w ⟨g, a, none⟩ k (.int .u32 (y1 : Int)) (fun e => hne (by rw [e]))
      exact e1.trans e2⟩)
  generalize ns.getD a 0 = xa at *
  generalize ns.getD b 0 = xb at *
  clear h hw hy1 hy2 h2a h2b
  go_enter Tryd.func16, Tryd.ntmps16
  go_wp2
  go_region
  go_wp2
  go_region
  go_wp2
  go_end0
  exact ⟨rfl, ho2.out, hg2.out⟩
def oneB (ns : List Nat) (n i : Nat) : Bool := (List.range n).all fun j => ns.getD j 0 == 0 || (ball ns i 10).testBit j
theorem spread_ballT (A : Option Addr) (n cap i : Nat) (ns : List Nat) (w : World) (g : Gr n ns) (hi : i < n) (hr : Rd w A n 1 (wds ns)) (htb : Tb w) (hg : 0 < w.heap.size) :
    Calls Tryd.prog 18 #[.slice A n cap, .int .u32 ((2 ^ i : Nat) : Int), .int .u32 ((2 ^ n - 1 : Nat) : Int)] w fun e w' => e = .returned (.int .u32 (ball ns i 10 : Nat)) ∧ Below w.heap.size w w' := by
  have hp := Nat.pow_le_pow_right (n := 2) (by omega) g.n10
  refine (spread_any A n cap ns (2 ^ i) (2 ^ n - 1) w hr g.n10 g.lt (Nat.pow_lt_pow_right (by omega) hi) (by omega) htb hg).mono ?_
  rintro e w' ⟨⟨R, rfl, _, hs⟩, hb⟩
  rw [hs.same (ball_spread g hi)]
  exact ⟨rfl, hb⟩
theorem shr_bit (x j : Nat) (hx : x < 4294967296) : (bits .and .u32 ((x : Int) / 2 ^ j) 1 == 0) = !x.testBit j := by
  have h : x / 2 ^ j < 4294967296 := Nat.lt_of_le_of_lt (Nat.div_le_self ..) hx
  have e : (x : Int) / 2 ^ j = ((x / 2 ^ j : Nat) : Int) := by simp
  rw [e, show (1 : Int) = ((1 : Nat) : Int) from rfl, u32_and_nat _ 1 h (by omega), Nat.and_one_is_mod, Nat.testBit_eq_decide_div_mod_eq]
  rcases Nat.mod_two_eq_zero_or_one (x / 2 ^ j) with h | h <;> rw [h] <;> rfl
set_option maxHeartbeats 800000 in
theorem one_any (A : Option Addr) (n c i : Nat) (ns : List Nat) (w : World) (hr : Rd w A n 1 (wds ns)) (hgr : Gr n ns) (hi : i < n) (htb : Tb w) (hg : 0 < w.heap.size) :
    Calls Tryd.prog 13 #[.slice A n c, .int .i64 (i : Int)] w fun e w' => e = .returned (.bool (oneB ns n i)) ∧ Below w.heap.size w w' := by
  have hl := Lib.hid (show ns.length = n by simpa [wds] using hr.1)
  have hn := hgr.n10
  have HS := Lib.hid (fun (p : BW w) => spread_ballT A n c i ns p.w' hgr hi (hr.later p.hb) (htb.below hg p.hb) (Nat.lt_of_lt_of_le hg p.hb.size))
  have hRl := Lib.hid (ball_lt hgr hi 10)
  have hrH := Lib.hid hr
  have hov := Lib.hid (show oneB ns n i = (List.range n).all (fun j => ns.getD j 0 == 0 || (ball ns i 10).testBit j) from rfl)
  have hp := Nat.pow_le_pow_right (n := 2) (by omega) hn
  have hp1 := Nat.two_pow_pos n
  have hpi : 2 ^ i < 2 ^ 10 := Nat.pow_lt_pow_right (by omega) (by omega)
  have hRl2 := hRl.out
  clear hr hgr htb
  obtain ⟨R, hR⟩ : ∃ R, ball ns i 10 = R := ⟨_, rfl⟩
  rw [hR] at HS hov hRl2
  obtain ⟨S, hS⟩ : ∃ S, 2 ^ n = S := ⟨_, rfl⟩
  obtain ⟨I, hI⟩ : ∃ I, 2 ^ i = I := ⟨_, rfl⟩
  rw [hS, hI] at HS
  rw [hS] at hp hp1 hRl2
  rw [hI] at hpi
  have hone : (2 : Int) ^ n % 4294967296 = (S : Int) := by rw [two_pow_u32 n (by omega), hS]
  have honei : (2 : Int) ^ i % 4294967296 = (I : Int) := by rw [two_pow_u32 i (by omega), hI]
  rw [show ((S - 1 : Nat) : Int) = (S : Int) - 1 by omega] at HS
  have hR32 : R < 1024 := by omega
  have hi0 : (0 : Int) ≤ i := by omega
  have hiI : (i : Int) < 32 := by omega
  clear hS hI hR hRl
  go_enter Tryd.func13, Tryd.ntmps13
  go_wp2
  refine wp_region_below (by kernel_rfl) (by kernel_rfl) ?_
  repeat (go_big_quiet_step (first | rfl | (with_reducible refine Calls.bel (HS.out _))))
  refine wpQuiet_nil ?_
  rintro _ ⟨p, rfl⟩
  have hpb := Lib.hid p.hb
  have hrp := Lib.hid (hrH.out.later p.hb)
  generalize p.w' = w1 at *
  clear hone honei HS
  go_wp2
  go_loop [18] (fun jv => ∃ j : Nat, j ≤ n ∧ jv = .int .i64 j ∧ ∀ q, q < j → (ns.getD q 0 == 0 || R.testBit q) = true) (fun jv => n - (intOf jv).toNat)
  case atStart => exact ⟨0, Nat.zero_le _, rfl, fun j hj => absurd hj (by omega)⟩
  case round =>
    obtain ⟨j, hj, rfl, h0⟩ := hrel
    have h0H := Lib.hid h0
    clear h0
    by_cases hjn : j < n
    · obtain ⟨b, o, rfl, _, hc⟩ := hrp.out.wd hjn
      have hj0 : (0 : Int) ≤ j := by omega
      have hjI : (j : Int) < n := by omega
      have hsb := shr_bit R j (by omega)
      obtain ⟨x, hx⟩ : ∃ x, ns.getD j 0 = x := ⟨_, rfl⟩
      have hxH := Lib.hid hx
      rw [hx] at hc
      clear hx
      by_cases hx0 : x = 0
      · have hb : ((x : Int) != 0) = false := by simp [hx0]
        have hnx := Lib.hid (show ∀ q, q < j + 1 → (ns.getD q 0 == 0 || R.testBit q) = true from fun q hq => by
          by_cases e : q = j
          · rw [e, hxH.out, hx0]; rfl
          · exact h0H.out q (by omega))
        clear hx0
        go_wp2
        go_round
        case rel => exact ⟨j + 1, by omega, by go_num, hnx.out⟩
        case measure => simp [intOf]; omega
      · have hb : ((x : Int) != 0) = true := bne_iff_ne.2 (by omega)
        cases hbit : R.testBit j
        · rw [hbit] at hsb
          simp only [Bool.not_false] at hsb
          have hv := Lib.hid (show oneB ns n i = false from by
            rw [hov.out]
            refine List.all_eq_false.2 ⟨j, List.mem_range.2 hjn, ?_⟩
            rw [hxH.out, hbit]; simpa using hx0)
          clear hx0 hbit
          go_wp2
          go_ret
          exact ⟨by rw [hv.out]; rfl, hpb.out⟩
        · rw [hbit] at hsb
          simp only [Bool.not_true] at hsb
          have hnx := Lib.hid (show ∀ q, q < j + 1 → (ns.getD q 0 == 0 || R.testBit q) = true from fun q hq => by
            by_cases e : q = j
            · rw [e, hbit, Bool.or_true]
            · exact h0H.out q (by omega))
          clear hx0 hbit
          go_wp2
          go_round
          case rel => exact ⟨j + 1, by omega, by go_num, hnx.out⟩
          case measure => simp [intOf]; omega
    · have hv := Lib.hid (show oneB ns n i = true from by
        rw [hov.out]
        exact List.all_eq_true.2 fun q hq => h0H.out q (by have := List.mem_range.1 hq; omega))
      go_wp2
      go_ret
      exact ⟨by rw [hv.out]; rfl, hpb.out⟩
end Go.Proofs.YtbghkpkpmbbghaaDoor
