/- teamsterref.Degree; degrees as words (XDegreeB and the part of XDegLaw that it needs, for seats with XWarsh). -/
import Derived.Test.YtonalhedjjobeaaDoorRefNearA
import Derived.Test.YtonalhedjjobeaaDoorRow
import Derived.Test.YtonalhedjjobeaaDoorBlk
namespace Go.Proofs.YtonalhedjjobeaaDoor
open Go.RowKit

/-- how many edges a node has -/
def incE (i : Nat) (e : E) : Bool := e.1 == (i : Int) || e.2.1 == (i : Int)
def degE (es : List E) (i : Nat) : Nat := (es.filter (incE i)).length
theorem deg_near {n : Nat} (hn : n ≤ 10) (es : List E) (hok : ∀ e ∈ es, okE n e) (hd : ∀ j, j < es.length → echkAt n es j = 0) (i : Nat) (hi : i < n) : ∀ k, k ≤ es.length → popc 10 ((nearW n (es.take k)).getD i 0) = degE (es.take k) i
  | 0, _ => by simp [nearW, degE, popc_zero, List.getD, hi]
  | k + 1, hk => by
    have ih := deg_near hn es hok hd i hi k (by omega)
    have hke : k < es.length := by omega
    rw [take_succ_getD' es (0, 0, 0) k hke, nearW_snoc]
    have hmem : es.getD k (0, 0, 0) ∈ es := by simp [List.getD, hke]
    obtain ⟨x, y, hx, hy, hxn, hyn, hne⟩ := hok _ hmem
    have hz := hd k hke
    rw [echkAt] at hz
    have hany : (es.take k).any (sameE (es.getD k (0, 0, 0))) = false := by
      cases h : (es.take k).any (sameE (es.getD k (0, 0, 0)))
      · rfl
      · unfold echk at hz
        rw [h] at hz
        split at hz
        · omega
        · split at hz
          · omega
          · simp at hz
    have hok' : ∀ e ∈ es.take k, okE n e := fun e he => hok e (List.mem_of_mem_take he)
    have hadj : ∀ i j, (i = x ∧ j = y) ∨ (i = y ∧ j = x) → adj (es.take k) i j = false := by
      intro i j hij
      unfold adj
      refine List.any_eq_false.2 fun f hf => ?_
      have := List.any_eq_false.1 hany f hf
      unfold sameE at this
      rw [hx, hy] at this
      unfold adjE
      simp only [Bool.or_eq_true, Bool.and_eq_true, beq_iff_eq] at this ⊢
      rcases hij with ⟨rfl, rfl⟩ | ⟨rfl, rfl⟩ <;> omega
    have hb1 : ((nearW n (es.take k)).getD x 0).testBit y = false := by rw [nearW_bit _ hok' x y hxn]; exact hadj x y (.inl ⟨rfl, rfl⟩)
    have hb2 : ((nearW n (es.take k)).getD y 0).testBit x = false := by rw [nearW_bit _ hok' y x hyn]; exact hadj y x (.inr ⟨rfl, rfl⟩)
    have hde : degE (es.take k ++ [es.getD k (0, 0, 0)]) i = degE (es.take k) i + if x = i ∨ y = i then 1 else 0 := by
      unfold degE
      rw [List.filter_append, List.length_append]
      congr 1
      unfold incE
      rw [List.filter_cons, hx, hy]
      by_cases h : x = i ∨ y = i
      · rw [if_pos h, if_pos (by simp; omega)]; rfl
      · rw [if_neg h, if_neg (by simp; omega)]; rfl
    rw [hde, ← ih]
    unfold nstep
    rw [hx, hy, Int.toNat_natCast, Int.toNat_natCast, orAt_getD _ y x i (by rw [orAt_length, nearW_length]; exact hyn), orAt_getD _ x y y (by rw [nearW_length]; exact hxn), orAt_getD _ x y i (by rw [nearW_length]; exact hxn), if_neg hne]
    by_cases h1 : y = i
    · subst h1
      rw [if_pos rfl, popc_or _ _ hb2, if_pos (by omega), if_pos (.inr rfl)]
    · rw [if_neg h1]
      by_cases h2 : x = i
      · subst h2
        rw [if_pos rfl, popc_or _ _ hb1, if_pos (by omega), if_pos (.inl rfl)]
      · rw [if_neg h2, if_neg (by omega)]; rfl

theorem filter_len_succ {p : E → Bool} {es : List E} {k : Nat} (hk : k < es.length) : ((es.take (k + 1)).filter p).length = ((es.take k).filter p).length + if p (es.getD k (0, 0, 0)) then 1 else 0 := by
  rw [take_succ_getD' es (0, 0, 0) k hk, List.filter_append, List.length_append, List.filter_cons]
  cases h : p (es.getD k (0, 0, 0)) <;> simp
set_option maxHeartbeats 800000 in
theorem degree_any (n : Nat) (i : Nat) (A : Option Addr) (len cap : Nat) (es : List E) (w : World) (hr : Rd w A len 3 (ps3 .i64 .i64 .i64 es)) (hl : len ≤ 45) (hok : ∀ e ∈ es, okE n e) :
    Calls Tryd.prog 20 #[.agg #[.int .i64 n, .slice A len cap], .int .i64 (i : Int)] w fun e w' => e = .returned (.int .i64 (degE es i : Nat)) ∧ Below w.heap.size w w' := by
  have helH := Lib.hid (ps3_len hr)
  have hrH := Lib.hid hr; have hokH := Lib.hid hok
  clear hr hok
  go_enter Tryd.func20, Tryd.ntmps20
  go_wp2
  have hb0 := (Below.refl w.heap.size w).alloc (Nat.le_refl _) (.cells #[.int .i64 n, .slice A len cap] 24)
  go_loopw [5, 11] (fun d j wr => ∃ k : Nat, k ≤ len ∧ j = .int .i64 k ∧ d = .int .i64 (((es.take k).filter (incE i)).length : Nat) ∧ Below w.heap.size w wr) (fun _ j _ => len - (intOf j).toNat)
  case atStart => exact ⟨0, Nat.zero_le _, rfl, rfl, hb0⟩
  case round =>
    obtain ⟨k, hk, rfl, rfl, hb⟩ := hrel
    have hSr := hb.size
    by_cases hlt : k < len
    · obtain ⟨bb, oo, rfl, hab, hc1, hc2, hc3⟩ := (hrH.out.later hb).triple hlt
      have hke : k < es.length := by rw [helH.out]; exact hlt
      obtain ⟨x, y, c, hat, hx, hy, _⟩ := ok_at hokH.out hke
      have hs := Lib.hid (filter_len_succ (p := incE i) hke)
      have hle : ((es.take k).filter (incE i)).length ≤ k := Nat.le_trans (List.length_filter_le _ _) (List.length_take_le _ _)
      rw [hat] at hc1 hc2 hc3 hs
      dsimp only at hc1 hc2 hc3
      have hinc := Lib.hid (show incE i ((x : Int), (y : Int), c) = (((x : Int) == (i : Int)) || ((y : Int) == (i : Int))) from rfl)
      clear hat hke
      generalize ((es.take k).filter (incE i)).length = d at *
      cases h1 : ((x : Int) == (i : Int))
      · cases h2 : ((y : Int) == (i : Int))
        · have hz := Lib.hid (show ((es.take (k + 1)).filter (incE i)).length = d by rw [hs.out, hinc.out, h1, h2]; rfl)
          go_wp2
          go_roundw
          case rel => exact ⟨k + 1, by omega, by go_num, by rw [hz.out], hb.alloc hSr _⟩
          case measure => simp [intOf]; omega
        · have hz := Lib.hid (show ((es.take (k + 1)).filter (incE i)).length = d + 1 by rw [hs.out, hinc.out, h1, h2]; rfl)
          go_wp2
          go_roundw
          case rel => exact ⟨k + 1, by omega, by go_num, by rw [hz.out]; go_num, hb.alloc hSr _⟩
          case measure => simp [intOf]; omega
      · have hz := Lib.hid (show ((es.take (k + 1)).filter (incE i)).length = d + 1 by rw [hs.out, hinc.out, h1]; rfl)
        go_wp2
        go_roundw
        case rel => exact ⟨k + 1, by omega, by go_num, by rw [hz.out]; go_num, hb.alloc hSr _⟩
        case measure => simp [intOf]; omega
    · have hz := Lib.hid (show ((es.take k).filter (incE i)).length = degE es i by rw [List.take_of_length_le (by rw [helH.out]; omega)]; rfl)
      rw [hz.out]
      go_wp2
      go_ret
      exact ⟨rfl, hb⟩
end Go.Proofs.YtonalhedjjobeaaDoor
