/- teamsterkeep.fewer (XFewer without RefNearA). -/

import Derived.Test.YtnkmfnnkophccaaDoorRow
import Derived.Test.YtnkmfnnkophccaaDoorGood
import Derived.Test.YtnkmfnnkophccaaDoorBlk
namespace Go.Proofs.YtnkmfnnkophccaaDoor
open Go.RowKit

theorem tiE : TI Tryd.prog 25 40 (.agg #[.int .i64 0, .int .i64 0, .int .i64 0]) 3 24 := TI.mk' Tryd.underlying25 (by kernel_rfl) rfl (by decide)
theorem eraseIdx_snoc {α : Type} (l : List α) (x : α) (i : Nat) : (l ++ [x]).eraseIdx i = if i = l.length then l else l.eraseIdx i ++ [x] := by
  rcases Nat.lt_trichotomy i l.length with h | h | h
  · rw [if_neg (by omega), List.eraseIdx_append_of_lt_length h]
  · subst h
    rw [if_pos rfl, List.eraseIdx_append_of_length_le (Nat.le_refl _)]
    simp
  · rw [if_neg (by omega), List.eraseIdx_append_of_length_le (by omega), List.eraseIdx_of_length_le (l := l) (by omega), List.eraseIdx_of_length_le (by simp; omega)]
theorem own_cap {w : World} {b e s n c : Nat} {A : Option Addr} {xs : List Value} (h : w.ownsRow b e s (.slice A n c) n xs) : n ≤ c := by
  rcases h.2 with ⟨h1, h2⟩ | ⟨g, cap, cur, h1, h2⟩
  · injection h1; omega
  · injection h1; omega
def GPost (n : Int) (fs : List E) (B : Nat) (w : World) (e : Ending) (w' : World) : Prop := ∃ (A' : Option Addr) (cap' : Nat), e = .returned (.agg #[.int .i64 n, .slice A' fs.length cap']) ∧ w'.ownsRow B 40 3 (.slice A' fs.length cap') fs.length (ps3 .i64 .i64 .i64 fs) ∧ fs.length ≤ cap' ∧ Below B w w'
set_option maxHeartbeats 1600000 in
theorem fewer_any (n : Nat) (i : Nat) (A : Option Addr) (len cap : Nat) (es : List E) (w : World) (hr : Rd w A len 3 (ps3 .i64 .i64 .i64 es)) (hl : len ≤ 45) :
    Calls Tryd.prog 10 #[.agg #[.int .i64 n, .slice A len cap], .int .i64 (i : Int)] w (GPost n (es.eraseIdx i) w.heap.size w) := by
  have helH := Lib.hid (ps3_len hr)
  have hrH := Lib.hid hr
  clear hr
  go_enter Tryd.func10, Tryd.ntmps10
  go_wp2
  have hB0 : Below w.heap.size w ((((w.alloc (.cells #[.int .i64 n, .slice A len cap] 27)).alloc (.cells #[.int .i64 0, .slice none 0 0] 27)).alloc (.cells #[.int .i64 n, .slice none 0 0] 27))) := (((Below.refl _ w).alloc (Nat.le_refl _) _).alloc (by simp) _).alloc (by simp; omega) _
  have hK1 := (Blk.new (w.alloc (.cells #[.int .i64 n, .slice A len cap] 27)) 27 #[.int .i64 0, .slice none 0 0]).alloc (.cells #[.int .i64 n, .slice none 0 0] 27)
  have hK2 := Blk.new ((w.alloc (.cells #[.int .i64 n, .slice A len cap] 27)).alloc (.cells #[.int .i64 0, .slice none 0 0] 27)) 27 #[.int .i64 n, .slice none 0 0]
  have hS : ((((w.alloc (.cells #[.int .i64 n, .slice A len cap] 27)).alloc (.cells #[.int .i64 0, .slice none 0 0] 27)).alloc (.cells #[.int .i64 n, .slice none 0 0] 27))).heap.size = w.heap.size + 3 := by simp
  simp only [World.size_alloc] at hK1 hK2
  generalize (((w.alloc (.cells #[.int .i64 n, .slice A len cap] 27)).alloc (.cells #[.int .i64 0, .slice none 0 0] 27)).alloc (.cells #[.int .i64 n, .slice none 0 0] 27)) = w1 at *
  go_loopw [6, 7, 14] (fun _ _ q wr => ∃ (k : Nat) (v : Value), k ≤ len ∧ q = .int .i64 k ∧ wr.ownsRow (w.heap.size + 3) 40 3 v ((es.take k).eraseIdx i).length (ps3 .i64 .i64 .i64 ((es.take k).eraseIdx i)) ∧ Blk wr (w.heap.size + 1) 27 #[.int .i64 0, .slice none 0 0] ∧ Blk wr (w.heap.size + 1 + 1) 27 #[.int .i64 n, v] ∧ Below w.heap.size w wr ∧ w.heap.size + 3 ≤ wr.heap.size) (fun _ _ q _ => len - (intOf q).toNat)
  case atStart => exact ⟨0, .slice none 0 0, Nat.zero_le _, rfl, ⟨rfl, .inl ⟨rfl, rfl⟩⟩, hK1, hK2, hB0, by omega⟩
  case round =>
    clear hK1 hK2 hB0 hS
    obtain ⟨k, v, hk, rfl, hown, hK1, hK2, hb, hs⟩ := hrel
    obtain ⟨A1, c1, rfl⟩ := own_slice hown
    by_cases hlt : k < len
    · obtain ⟨bb, oo, rfl, hab, hc1, hc2, hc3⟩ := (hrH.out.later hb).triple hlt
      have hke : k < es.length := by rw [helH.out]; exact hlt
      have hsn := eraseIdx_snoc (es.take k) (es.getD k (0, 0, 0)) i
      rw [← take_succ_getD' es (0, 0, 0) k hke, List.length_take, show min k es.length = k by omega] at hsn
      have hm45 : ((es.take k).eraseIdx i).length ≤ 45 := Nat.le_trans (List.eraseIdx_sublist _ _).length_le (by rw [List.length_take]; have := helH.out; omega)
      have hownH := Lib.hid hown; have hrwH := Lib.hid (hrH.out.later hb)
      clear hown
      generalize es.getD k (0, 0, 0) = c at *
      obtain ⟨x, y, z⟩ := c
      dsimp only at hc1 hc2 hc3
      have hcv : wr.cell? ⟨w.heap.size + 1 + 1, 1, none⟩ = some (.slice A1 ((es.take k).eraseIdx i).length c1) := hK2.cell rfl
      have hfz := hK2.frozen 1
      have hklt := hK2.lt
      have hK2H := Lib.hid hK2; have hK1H := Lib.hid hK1; have hbH := Lib.hid hb
      by_cases hki : k = i
      · subst hki
        rw [if_pos rfl, ← List.eraseIdx_of_length_le (l := es.take k) (k := k) (by rw [List.length_take]; omega)] at hsn
        have hsnH := Lib.hid hsn
        clear hsn hK1 hK2 hb
        go_wp2
        go_roundw
        case rel => exact ⟨k + 1, _, by omega, by go_num, by rw [hsnH.out]; exact hownH.out.alloc _, hK1H.out.alloc _, hK2H.out.alloc _, hbH.out.alloc hbH.out.size _, by simp; omega⟩
        case measure => simp [intOf]; omega
      · rw [if_neg (Ne.symm hki)] at hsn
        have hsnH := Lib.hid hsn
        have hkiZ : (k : Int) ≠ i := by omega
        generalize hM : ((es.take k).eraseIdx i).length = m at *
        have hMH := Lib.hid hM
        have hrdH := Lib.hid (show Rd ((wr.alloc (.cells #[.int .i64 x, .int .i64 y, .int .i64 z] 40)).alloc (.cells #[.int .i64 x, .int .i64 y, .int .i64 z] 40)) (some ⟨wr.heap.size + 1, 0, none⟩) 1 3 [.int .i64 x, .int .i64 y, .int .i64 z] from by
          have := rd_new3 (wr.alloc (.cells #[.int .i64 x, .int .i64 y, .int .i64 z] 40)) (.int .i64 x) (.int .i64 y) (.int .i64 z) 40
          rwa [World.size_alloc] at this)
        clear hsn hK1 hK2 hb hki hM
        go_wp2_with (at_builtin; refine wpList_app (s := .tmp 23) (x := .tmp 25) _ tiE ((hownH.out.alloc _).alloc _) hrdH.out (ps3_one (l := [(x, y, z)])) (by omega) (by omega) (by simp; omega) rfl rfl rfl rfl ?_)
        intro v' w2 hown' hg hat
        obtain ⟨g', cap', rfl⟩ := ownsRow_succ hown'
        have hne : ∀ j, j < w.heap.size + 3 → (some j : Option Nat) ≠ (Value.slice A1 m c1).ownBlock := fun j hj e => by
          have := (hownH.out.lt j e.symm).1
          omega
        have hK2' := (((hK2H.out.alloc (.cells #[.int .i64 x, .int .i64 y, .int .i64 z] 40)).alloc (.cells #[.int .i64 x, .int .i64 y, .int .i64 z] 40)).kept hg (hne _ (by omega)))
        have hK1' := (((hK1H.out.alloc (.cells #[.int .i64 x, .int .i64 y, .int .i64 z] 40)).alloc (.cells #[.int .i64 x, .int .i64 y, .int .i64 z] 40)).kept hg (hne _ (by omega)))
        have hb' : Below w.heap.size w w2 := ((hbH.out.alloc hbH.out.size _).alloc (by simp; have := hbH.out.size; omega) _).grown hg (by simp; omega) (fun g e => by have := (hownH.out.lt g e).1; omega)
        have hs2 := hg.size
        simp only [World.size_alloc] at hs2
        have hcv2 : w2.cell? ⟨w.heap.size + 1 + 1, 1, none⟩ = some (.slice A1 m c1) := hK2'.cell rfl
        have hfz2 := hK2'.frozen 1
        have hlt2 := hK2'.lt
        have hown3 := own_set_other hown' (a := ⟨w.heap.size + 1 + 1, 1, none⟩) (by
          intro e
          have := (hown'.lt _ e).1
          simp at this
          omega) (.slice (some ⟨g', 0, none⟩) (m + 1) cap')
        have hK13 := hK1'.other (a := ⟨w.heap.size + 1 + 1, 1, none⟩) (show w.heap.size + 1 ≠ w.heap.size + 1 + 1 by omega) (.slice (some ⟨g', 0, none⟩) (m + 1) cap')
        have hK23 := hK2'.set 1 (.slice (some ⟨g', 0, none⟩) (m + 1) cap')
        have hb3 := hb'.setCell (p := ⟨w.heap.size + 1 + 1, 1, none⟩) (show w.heap.size ≤ w.heap.size + 1 + 1 by omega) (.slice (some ⟨g', 0, none⟩) (m + 1) cap')
        have h1 := Lib.hid hown3; have h2 := Lib.hid hK13; have h3 := Lib.hid hK23; have h4 := Lib.hid hb3
        clear hown3 hK13 hK23 hb3 hb' hK1' hK2' hown' hg hat hne
        go_wp2
        go_roundw
        case rel =>
          refine ⟨k + 1, .slice (some ⟨g', 0, none⟩) (m + 1) cap', by omega, by go_num, ?_, h2.out, h3.out, h4.out, by simp; omega⟩
          have h1 := h1.out
          rw [hsnH.out, List.length_append, hMH.out]
          rw [show ps3 .i64 .i64 .i64 ((es.take k).eraseIdx i ++ [(x, y, z)]) = ps3 .i64 .i64 .i64 ((es.take k).eraseIdx i) ++ [.int .i64 x, .int .i64 y, .int .i64 z] by simp [ps3]]
          exact h1
        case measure => simp [intOf]; omega
    · have hke : es.take k = es := List.take_of_length_le (by have := helH.out; omega)
      rw [hke] at hown hK2
      have hm45 : (es.eraseIdx i).length ≤ 45 := Nat.le_trans (List.eraseIdx_sublist _ _).length_le (by have := helH.out; omega)
      have hc20 : wr.cell? ⟨w.heap.size + 1 + 1, 0, none⟩ = some (.int .i64 n) := hK2.cell rfl
      have hc21 : wr.cell? ⟨w.heap.size + 1 + 1, 1, none⟩ = some (.slice A1 (es.eraseIdx i).length c1) := hK2.cell rfl
      have hc10 : wr.cell? ⟨w.heap.size + 1, 0, none⟩ = some (.int .i64 0) := hK1.cell rfl
      have hc11 : wr.cell? ⟨w.heap.size + 1, 1, none⟩ = some (.slice none 0 0) := hK1.cell rfl
      have hf0 := hK1.frozen 0
      have hf1 := hK1.frozen 1
      have hl1 := hK1.lt
      have hownH := Lib.hid hown; have hbH := Lib.hid hb
      clear hown hK1 hK2 hb
      go_wp2
      have e0 : ((wr.setCell ⟨w.heap.size + 1, 0, none⟩ (.int .i64 n)).setCell ⟨w.heap.size + 1, 1, none⟩ (.slice A1 (es.eraseIdx i).length c1)).cell? ⟨w.heap.size + 1, 0, none⟩ = some (.int .i64 n) := (World.cell?_setCell_other _ _ _ _ (by intro e; injection e with _ e; omega)).trans (World.cell?_setCell_same _ _ _ hc10)
      have e1 : ((wr.setCell ⟨w.heap.size + 1, 0, none⟩ (.int .i64 n)).setCell ⟨w.heap.size + 1, 1, none⟩ (.slice A1 (es.eraseIdx i).length c1)).cell? ⟨w.heap.size + 1, 1, none⟩ = some (.slice A1 (es.eraseIdx i).length c1) := World.cell?_setCell_same _ _ _ ((World.cell?_setCell_other _ _ _ _ (by intro e; injection e with _ e; omega)).trans hc11)
      refine bodyPost_ret (v := .agg #[.int .i64 n, .slice A1 (es.eraseIdx i).length c1]) (by simp [results, Tryd.results10, go_sem, e0, e1]) rfl ?_
      have hne : ∀ o, (Value.slice A1 (es.eraseIdx i).length c1).ownBlock ≠ some (⟨w.heap.size + 1, o, none⟩ : Addr).block := fun o e => by
        have := (hownH.out.lt _ e).1
        simp at this
      exact ⟨A1, c1, rfl, own_base (by omega) (own_set_other (own_set_other hownH.out (hne 0) _) (hne 1) _), own_cap hownH.out, (hbH.out.setCell (by simp) _).setCell (by simp) _⟩
end Go.Proofs.YtnkmfnnkophccaaDoor
