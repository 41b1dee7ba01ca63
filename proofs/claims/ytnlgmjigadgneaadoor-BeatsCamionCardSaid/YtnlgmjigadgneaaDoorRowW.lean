/- beats.Row, beats.Ring. -/
import Derived.Test.YtnlgmjigadgneaaDoorListB
namespace Go.Proofs.YtnlgmjigadgneaaDoor
open Go.RowKit Go.Shelf

/-- 's == nil' of a slice of ints -/
@[local go_sem] theorem run_eql_nilI (w : World) (a : Option Addr) (l c : Nat) : (binOp .eql 31 (.slice a l c) (.slice none 0 0)).run Tryd.prog w = .ok (.bool a.isNone) w := by
  simp only [binOp]
  simp [run_equal_slice_nil w 31 3 a l c Tryd.underlying31]
theorem bitsL_full {n : Nat} (hn : n ≤ 32) : (bitsL (2 ^ n - 1)).Perm (List.range n) :=
  (List.perm_ext_iff_of_nodup (bitsL_nodup _) List.nodup_range).2 fun a => by
    rw [mem_bitsL, Nat.testBit_two_pow_sub_one, List.mem_range, decide_eq_true_iff]
    omega
theorem from_idx {ts : List Nat} : ∀ (M : List Nat) (o : Option Nat), From ts o M → ∀ k, k + 1 < M.length → beat ts (M.getD k 0) (M.getD (k + 1) 0) = true
  | [], _, _, k, hk => by simp at hk
  | [a], _, _, k, hk => by simp at hk
  | a :: b :: M, o, h, k, hk => by
    cases k with
    | zero => exact h.2.1 a rfl
    | succ k => exact from_idx (b :: M) (some a) h.2 k (by simpa using hk)
theorem whole_all {ts R : List Nat} {ring : Bool} {n : Nat} (hn : n ≤ 32) (h : Whole ts ring [] (2 ^ n - 1) R) : R.Perm (List.range n) ∧ From ts none R ∧ (ring = true → ∀ a b, R.getLast? = some a → R.head? = some b → beat ts a b = true) := by
  obtain ⟨M, rfl, hp, hf, hr⟩ := h
  exact ⟨hp.trans (bitsL_full hn), hf, hr⟩
theorem all_whole {ts R : List Nat} {ring : Bool} {n : Nat} (hn : n ≤ 32) (h1 : R.Perm (List.range n)) (h2 : From ts none R) (h3 : ring = true → ∀ a b, R.getLast? = some a → R.head? = some b → beat ts a b = true) : Whole ts ring [] (2 ^ n - 1) R :=
  ⟨R, rfl, h1.trans (bitsL_full hn).symm, h2, h3⟩
theorem row_bad (A : Option Addr) (len cap : Nat) (ts : List Nat) (w : World) (hr : Rd w A len 1 (wds ts)) (hl : len ≤ 9223372036854775807) (hwf : ∀ x ∈ ts, x < 4294967296) (hn : ¬ Tour ts) :
    Calls Tryd.prog 10 #[.slice A len cap] w fun e w' => (∃ c : Int, (c != 0) = true ∧ e = .returned (.tuple #[.slice none 0 0, .int .i64 c])) ∧ Below w.heap.size w w' := by
  have HC := Lib.hid (check_any A len cap ts _ hr hl hwf)
  have hnH := Lib.hid hn
  clear hr hwf hn
  go_enter Tryd.func10, Tryd.ntmps10
  go_wp2_with fail
  refine HC.out.mono ?_
  rintro e w1 ⟨⟨c, rfl, hc⟩, hb⟩
  have hc0 : c ≠ 0 := fun h => hnH.out (hc.1 h)
  have hcb : (c != 0) = true := by simpa using hc0
  clear HC hc hc0
  go_wp2
  go_ret2
  exact ⟨⟨c, hcb, rfl⟩, hb⟩
theorem ring_bad (A : Option Addr) (len cap : Nat) (ts : List Nat) (w : World) (hr : Rd w A len 1 (wds ts)) (hl : len ≤ 9223372036854775807) (hwf : ∀ x ∈ ts, x < 4294967296) (hn : ¬ Tour ts ∨ len < 3) :
    Calls Tryd.prog 12 #[.slice A len cap] w fun e w' => (∃ c : Int, (c != 0) = true ∧ e = .returned (.tuple #[.slice none 0 0, .int .i64 c])) ∧ Below w.heap.size w w' := by
  have HC := Lib.hid (check_any A len cap ts _ hr hl hwf)
  have hnH := Lib.hid hn
  clear hr hwf hn
  go_enter Tryd.func12, Tryd.ntmps12
  go_wp2_with fail
  refine HC.out.mono ?_
  rintro e w1 ⟨⟨c, rfl, hc⟩, hb⟩
  by_cases hc0 : c = 0
  · have h3 : (len : Int) < 3 := by
      have := hnH.out.resolve_left (fun h => h (hc.1 hc0))
      omega
    have hcb : (c != 0) = false := by simpa using hc0
    clear HC hc hc0
    go_wp2
    go_ret2
    exact ⟨⟨5, rfl, rfl⟩, hb⟩
  · have hcb : (c != 0) = true := by simpa using hc0
    clear HC hc hc0
    go_wp2
    go_ret2
    exact ⟨⟨c, hcb, rfl⟩, hb⟩
theorem row_ok (A : Option Addr) (len cap : Nat) (ts : List Nat) (w : World) (hr : Rd w A len 1 (wds ts)) (hwf : ∀ x ∈ ts, x < 4294967296) (hT : Tour ts) (htb : Tb w) (hg : 0 < w.heap.size) :
    Calls Tryd.prog 10 #[.slice A len cap] w fun e w' => (∃ A' c R, e = .returned (.tuple #[.slice A' len c, .int .i64 0]) ∧ Rd w' A' len 1 (ints .i64 (natI R)) ∧ len ≤ c ∧ R.Perm (List.range len) ∧ From ts none R) ∧ Below w.heap.size w w' := by
  have hel : ts.length = len := by simpa [wds] using hr.1
  subst hel
  have hlen := hT.len
  have HC := Lib.hid (check_any A ts.length cap ts _ hr (by omega) hwf)
  have hp8 : 2 ^ ts.length ≤ 2 ^ 8 := Nat.pow_le_pow_right (by omega) hlen
  have hpos := Nat.two_pow_pos ts.length
  have hbl : (bitsL (2 ^ ts.length - 1)).length = ts.length := by have := (bitsL_full (n := ts.length) (by omega)).length_eq; simpa using this
  have HL := Lib.hid (fun W (h : Below w.heap.size w W) => list_any ts hT.lt hlen false A cap ts.length [] (2 ^ ts.length - 1) hbl (by simp; omega) (fun a ha => by cases ha) (by omega) (fun h => by cases h) none 0 W (hr.later h) ⟨rfl, fun h => absurd h (by simp)⟩ (Nat.le_refl _) (htb.below hg h) (Nat.lt_of_lt_of_le hg h.size))
  have hredH := Lib.hid (redei hT (List.range ts.length) List.nodup_range (fun m hm => List.mem_range.1 hm))
  have hpi : ((2 : Int) ^ ts.length) = ((2 ^ ts.length : Nat) : Int) := by simp
  have hE : ((2 : Int) ^ ts.length - 1) % 4294967296 = ((2 ^ ts.length - 1 : Nat) : Int) := by rw [hpi]; omega
  have hEm : ((2 : Int) ^ min ts.length 32 - 1) % 4294967296 = ((2 ^ ts.length - 1 : Nat) : Int) := by rw [Nat.min_eq_left (by omega)]; exact hE
  clear hpi
  have hTH := Lib.hid hT
  have hlenH := Lib.hid hlen
  clear hr hwf hT htb hbl hp8 hlen
  have hfin := Lib.hid (fun R (h : Whole ts false [] (2 ^ ts.length - 1) R) => whole_all (by have := hlenH.out; omega) h)
  have hex := Lib.hid (fun R (h1 : R.Perm (List.range ts.length)) (h2 : From ts none R) => all_whole (ring := false) (by have := hlenH.out; omega) h1 h2 (fun h => by cases h))
  generalize hPN : 2 ^ ts.length - 1 = pn at *
  clear hPN
  simp only [List.length_nil] at HL
  go_enter Tryd.func10, Tryd.ntmps10
  go_wp2_with fail
  refine HC.out.mono ?_
  rintro e w1 ⟨⟨c, rfl, hc⟩, hb⟩
  obtain rfl := hc.2 hTH.out
  have HL1 := Lib.hid (HL.out w1 hb)
  clear HC hc HL
  go_wp2_with fail
  refine HL1.out.mono ?_
  rintro e w2 ⟨hb2, ⟨A', c', R, rfl, hR, hRc, _, hW⟩ | ⟨rfl, hno⟩⟩
  · obtain ⟨h1, h2, _⟩ := hfin.out R hW
    have hRl : R.length = ts.length := by simpa using h1.length_eq
    rw [hRl] at hR hRc
    have hRlH := Lib.hid hRl
    clear hRl hW
    have hRH := Lib.hid hR; have h1H := Lib.hid h1
    clear hR h1
    go_wp2
    go_ret2
    exact ⟨⟨A', c', R, by rw [hRlH.out]; rfl, hRH.out, hRc, h1H.out, h2⟩, hb.trans (hb2.mono hb.size)⟩
  · obtain ⟨M, hp, hf⟩ := hredH.out
    exact absurd (hex.out M hp hf) (hno M)
theorem ring_ok (A : Option Addr) (len cap : Nat) (ts : List Nat) (w : World) (hr : Rd w A len 1 (wds ts)) (hwf : ∀ x ∈ ts, x < 4294967296) (hT : Tour ts) (h3 : 3 ≤ len) (htb : Tb w) (hg : 0 < w.heap.size) :
    Calls Tryd.prog 12 #[.slice A len cap] w fun e w' => ((∃ A' c R, e = .returned (.tuple #[.slice A' len c, .int .i64 0]) ∧ Rd w' A' len 1 (ints .i64 (natI R)) ∧ len ≤ c ∧ Whole ts true [] (2 ^ len - 1) R) ∨
      (e = .returned (.tuple #[.slice none 0 0, .int .i64 5]) ∧ ∀ R, ¬ Whole ts true [] (2 ^ len - 1) R)) ∧ Below w.heap.size w w' := by
  have hel : ts.length = len := by simpa [wds] using hr.1
  subst hel
  have hlen := hT.len
  have HC := Lib.hid (check_any A ts.length cap ts _ hr (by omega) hwf)
  have hp8 : 2 ^ ts.length ≤ 2 ^ 8 := Nat.pow_le_pow_right (by omega) hlen
  have hp3 : 2 ^ 3 ≤ 2 ^ ts.length := Nat.pow_le_pow_right (by omega) h3
  have hpos := Nat.two_pow_pos ts.length
  have hbl : (bitsL (2 ^ ts.length - 1)).length = ts.length := by have := (bitsL_full (n := ts.length) (by omega)).length_eq; simpa using this
  have HL := Lib.hid (fun W (h : Below w.heap.size w W) => list_any ts hT.lt hlen true A cap ts.length [] (2 ^ ts.length - 1) hbl (by simp; omega) (fun a ha => by cases ha) (by omega) (fun _ => .inr (by omega)) none 0 W (hr.later h) ⟨rfl, fun h => absurd h (by simp)⟩ (Nat.le_refl _) (htb.below hg h) (Nat.lt_of_lt_of_le hg h.size))
  have hpi : ((2 : Int) ^ ts.length) = ((2 ^ ts.length : Nat) : Int) := by simp
  have hE : ((2 : Int) ^ ts.length - 1) % 4294967296 = ((2 ^ ts.length - 1 : Nat) : Int) := by rw [hpi]; omega
  have hEm : ((2 : Int) ^ min ts.length 32 - 1) % 4294967296 = ((2 ^ ts.length - 1 : Nat) : Int) := by rw [Nat.min_eq_left (by omega)]; exact hE
  clear hpi
  have hTH := Lib.hid hT
  have hlenH := Lib.hid hlen
  have h3i : (3 : Int) ≤ ts.length := by omega
  clear hr hwf hT htb hbl hp8 hlen hp3
  have hfin := Lib.hid (fun R (h : Whole ts true [] (2 ^ ts.length - 1) R) => whole_all (by have := hlenH.out; omega) h)
  generalize hPN : 2 ^ ts.length - 1 = pn at *
  clear hPN
  simp only [List.length_nil] at HL
  go_enter Tryd.func12, Tryd.ntmps12
  go_wp2_with fail
  refine HC.out.mono ?_
  rintro e w1 ⟨⟨c, rfl, hc⟩, hb⟩
  obtain rfl := hc.2 hTH.out
  have HL1 := Lib.hid (HL.out w1 hb)
  clear HC hc HL
  go_wp2_with fail
  refine HL1.out.mono ?_
  rintro e w2 ⟨hb2, ⟨A', c', R, rfl, hR, hRc, _, hW⟩ | ⟨rfl, hno⟩⟩
  · obtain ⟨h1, h2, _⟩ := hfin.out R hW
    have hRl : R.length = ts.length := by simpa using h1.length_eq
    rw [hRl] at hR hRc
    obtain ⟨bR, oR, rfl, _⟩ := hR.2 (by omega)
    have hRlH := Lib.hid hRl
    have hRH := Lib.hid hR; have hWH := Lib.hid hW
    clear hR h1 hRl hW
    go_wp2
    go_ret2
    exact ⟨.inl ⟨_, c', R, by rw [hRlH.out]; rfl, hRH.out, hRc, hWH.out⟩, hb.trans (hb2.mono hb.size)⟩
  · have hnoH := Lib.hid hno
    clear hno
    go_wp2
    go_ret2
    exact ⟨.inr ⟨rfl, hnoH.out⟩, hb.trans (hb2.mono hb.size)⟩
end Go.Proofs.YtnlgmjigadgneaaDoor
