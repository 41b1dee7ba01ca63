/- teamsterkeep.some: a graph of some of the edges. -/
import Derived.Test.YtdmbbddkbfknlaaSpanLeast
import Derived.Deep.RegionLaw
namespace Go.Proofs.Ytdmbbddkbfknlaa
open Go.RowKit
attribute [local go_sem] Oper.semAt_some

theorem tiEs : TI Try.prog 22 34 (.agg #[.int .i64 0, .int .i64 0, .int .i64 0]) 3 24 := TI.mk' Try.underlying22 (by kernel_rfl) rfl (by decide)
theorem own_capS {w : World} {b e s n c : Nat} {A : Option Addr} {xs : List Value} (h : w.ownsRow b e s (.slice A n c) n xs) : n ≤ c := by
  rcases h.2 with ⟨h1, h2⟩ | ⟨g, cap, cur, h1, h2⟩
  · injection h1; omega
  · injection h1; omega
def SGPost (n : Int) (fs : List E) (B : Nat) (w : World) (e : Ending) (w' : World) : Prop := ∃ (A' : Option Addr) (cap' : Nat), e = .returned (.agg #[.int .i64 n, .slice A' fs.length cap']) ∧ Rd w' A' fs.length 3 (ps3 .i64 .i64 .i64 fs) ∧ fs.length ≤ cap' ∧ Below B w w'
set_option maxHeartbeats 1600000 in
theorem some_any (n : Nat) (A L : Option Addr) (len cap ll cl : Nat) (es : List E) (l : List Nat) (w : World) (hr : Rd w A len 3 (ps3 .i64 .i64 .i64 es)) (hrl : Rd w L ll 1 (ints .i64 (natI l))) (hin : ∀ i ∈ l, i < es.length) (hll : ll ≤ 45) :
    Calls Try.prog 22 #[.agg #[.int .i64 n, .slice A len cap], .slice L ll cl] w (SGPost n (l.map (eAt es)) w.heap.size w) := by
  have hlen : l.length = ll := by simpa [ints, natI] using hrl.1
  have helH := Lib.hid (ps3_len hr)
  have hrH := Lib.hid hr; have hrlH := Lib.hid hrl; have hinH := Lib.hid hin
  have hlenH := Lib.hid hlen
  clear hr hrl hin hlen
  go_enter Try.func22, Try.ntmps22
  go_wp2
  have hB0 : Below w.heap.size w ((((w.alloc (.cells #[.int .i64 n, .slice A len cap] 24)).alloc (.cells #[.int .i64 0, .slice none 0 0] 24)).alloc (.cells #[.int .i64 n, .slice none 0 0] 24))) := (((Below.refl _ w).alloc (Nat.le_refl _) _).alloc (by simp) _).alloc (by simp; omega) _
  have hK0 := ((Blk.new w 24 #[.int .i64 n, .slice A len cap]).alloc (.cells #[.int .i64 0, .slice none 0 0] 24)).alloc (.cells #[.int .i64 n, .slice none 0 0] 24)
  have hK1 := (Blk.new (w.alloc (.cells #[.int .i64 n, .slice A len cap] 24)) 24 #[.int .i64 0, .slice none 0 0]).alloc (.cells #[.int .i64 n, .slice none 0 0] 24)
  have hK2 := Blk.new ((w.alloc (.cells #[.int .i64 n, .slice A len cap] 24)).alloc (.cells #[.int .i64 0, .slice none 0 0] 24)) 24 #[.int .i64 n, .slice none 0 0]
  have hS : ((((w.alloc (.cells #[.int .i64 n, .slice A len cap] 24)).alloc (.cells #[.int .i64 0, .slice none 0 0] 24)).alloc (.cells #[.int .i64 n, .slice none 0 0] 24))).heap.size = w.heap.size + 3 := by simp
  simp only [World.size_alloc] at hK0 hK1 hK2
  generalize (((w.alloc (.cells #[.int .i64 n, .slice A len cap] 24)).alloc (.cells #[.int .i64 0, .slice none 0 0] 24)).alloc (.cells #[.int .i64 n, .slice none 0 0] 24)) = w1 at *
  go_loopw [7, 13] (fun _ q wr => ∃ (k : Nat) (v : Value), k ≤ ll ∧ q = .int .i64 k ∧ wr.ownsRow (w.heap.size + 3) 34 3 v k (ps3 .i64 .i64 .i64 ((l.take k).map (eAt es))) ∧ Blk wr w.heap.size 24 #[.int .i64 n, .slice A len cap] ∧ Blk wr (w.heap.size + 1) 24 #[.int .i64 0, .slice none 0 0] ∧ Blk wr (w.heap.size + 1 + 1) 24 #[.int .i64 n, v] ∧ Below w.heap.size w wr ∧ w.heap.size + 3 ≤ wr.heap.size) (fun _ q _ => ll - (intOf q).toNat)
  case atStart => exact ⟨0, .slice none 0 0, Nat.zero_le _, rfl, ⟨rfl, .inl ⟨rfl, rfl⟩⟩, hK0, hK1, hK2, hB0, by omega⟩
  case round =>
    clear hK0 hK1 hK2 hB0 hS
    obtain ⟨wo, rfl⟩ : ∃ wo : World, wo = wr := ⟨_, rfl⟩
    obtain ⟨k, v, hk, rfl, hown, hK0, hK1, hK2, hb, hs⟩ := hrel
    obtain ⟨A1, c1, rfl⟩ := own_slice hown
    by_cases hlt : k < ll
    · have hkl : k < l.length := by rw [hlenH.out]; exact hlt
      obtain ⟨bl, ol, rfl, hbl, hcl⟩ := (hrlH.out.later hb).int hlt
      rw [natI_at hkl] at hcl
      have hyk : l.getD k 0 < len := by rw [← helH.out]; exact hinH.out _ (by rw [List.getD, List.getElem?_eq_getElem hkl]; exact List.getElem_mem _)
      obtain ⟨bb, oo, rfl, hab, hc1, hc2, hc3⟩ := (hrH.out.later hb).triple hyk
      have hsn := Lib.hid (show (l.take (k + 1)).map (eAt es) = (l.take k).map (eAt es) ++ [es.getD (l.getD k 0) (0, 0, 0)] by
        rw [take_succ_getD' l 0 k hkl, List.map_append]; rfl)
      generalize l.getD k 0 = i at *
      generalize es.getD i (0, 0, 0) = c at *
      obtain ⟨x, y, z⟩ := c
      dsimp only at hc1 hc2 hc3
      have hgv : wo.cell? ⟨w.heap.size, 1, none⟩ = some (.slice (some ⟨bb, oo, none⟩) len cap) := hK0.cell rfl
      have hcv : wo.cell? ⟨w.heap.size + 1 + 1, 1, none⟩ = some (.slice A1 k c1) := hK2.cell rfl
      have hfz := hK2.frozen 1
      have hklt := hK2.lt
      have hi0 : (0 : Int) ≤ i := by omega
      have hil : (i : Int) < len := by omega
      have hownH := Lib.hid hown
      have hK2H := Lib.hid hK2; have hK1H := Lib.hid hK1; have hK0H := Lib.hid hK0; have hbH := Lib.hid hb
      have hrdH := Lib.hid ((rd_new3 wo (.int .i64 x) (.int .i64 y) (.int .i64 z) 34).drew)
      clear hown hK0 hK1 hK2 hb hyk
      go_upto_region 5 with fail
      go_region_law (refine step_app (s := .tmp 18) (x := .tmp 24) _ tiEs (own_drew (hownH.out.alloc _)) hrdH.out (ps3_one (l := [(x, y, z)])) (by omega) (by omega) (by simp; omega) rfl rfl rfl rfl ?_
                     intro v' w2 hown' hg hat
                     obtain ⟨g', cap', rfl⟩ := ownsRow_succ hown'
                     have hne : ∀ j, j < w.heap.size + 3 → (some j : Option Nat) ≠ (Value.slice A1 k c1).ownBlock := fun j hj e => by
                       have := (hownH.out.lt j e.symm).1
                       omega
                     have hK2' := (show Blk (wo.alloc (.cells #[.int .i64 x, .int .i64 y, .int .i64 z] 34)).drew _ _ _ from hK2H.out.alloc (.cells #[.int .i64 x, .int .i64 y, .int .i64 z] 34)).kept hg (hne _ (by omega))
                     have hK1' := (show Blk (wo.alloc (.cells #[.int .i64 x, .int .i64 y, .int .i64 z] 34)).drew _ _ _ from hK1H.out.alloc (.cells #[.int .i64 x, .int .i64 y, .int .i64 z] 34)).kept hg (hne _ (by omega))
                     have hK0' := (show Blk (wo.alloc (.cells #[.int .i64 x, .int .i64 y, .int .i64 z] 34)).drew _ _ _ from hK0H.out.alloc (.cells #[.int .i64 x, .int .i64 y, .int .i64 z] 34)).kept hg (hne _ (by omega))
                     have hb' : Below w.heap.size w w2 := (hbH.out.alloc hbH.out.size (.cells #[.int .i64 x, .int .i64 y, .int .i64 z] 34)).drew.grown hg (by have := hbH.out.size; simp; omega) (fun g e => by have := (hownH.out.lt g e).1; omega)
                     have hs2 := hg.size
                     have hcv2 : w2.cell? ⟨w.heap.size + 1 + 1, 1, none⟩ = some (.slice A1 k c1) := hK2'.cell rfl
                     have hfz2 := hK2'.frozen 1
                     have hlt2 := hK2'.lt)
      all_goals
        have hown3 := own_set_other hown' (a := ⟨w.heap.size + 1 + 1, 1, none⟩) (by
          intro e
          have := (hown'.lt _ e).1
          simp at this
          omega) (.slice (some ⟨g', 0, none⟩) (k + 1) cap')
        have hK03 := hK0'.other (a := ⟨w.heap.size + 1 + 1, 1, none⟩) (show w.heap.size ≠ w.heap.size + 1 + 1 by omega) (.slice (some ⟨g', 0, none⟩) (k + 1) cap')
        have hK13 := hK1'.other (a := ⟨w.heap.size + 1 + 1, 1, none⟩) (show w.heap.size + 1 ≠ w.heap.size + 1 + 1 by omega) (.slice (some ⟨g', 0, none⟩) (k + 1) cap')
        have hK23 := hK2'.set 1 (.slice (some ⟨g', 0, none⟩) (k + 1) cap')
        have hb3 := hb'.setCell (p := ⟨w.heap.size + 1 + 1, 1, none⟩) (show w.heap.size ≤ w.heap.size + 1 + 1 by omega) (.slice (some ⟨g', 0, none⟩) (k + 1) cap')
        have h1 := Lib.hid hown3; have h2 := Lib.hid hK13; have h3 := Lib.hid hK23; have h4 := Lib.hid hb3; have h5 := Lib.hid hK03
        clear hown3 hK03 hK13 hK23 hb3 hb' hK0' hK1' hK2' hown' hg hat hne
        go_wp2
        go_roundw
        case rel =>
          refine ⟨k + 1, .slice (some ⟨g', 0, none⟩) (k + 1) cap', by omega, by go_num, ?_, h5.out, h2.out, h3.out, h4.out, by simp at hs2 ⊢; omega⟩
          have h1 := h1.out
          rw [hsn.out]
          rw [show ps3 .i64 .i64 .i64 ((l.take k).map (eAt es) ++ [(x, y, z)]) = ps3 .i64 .i64 .i64 ((l.take k).map (eAt es)) ++ [.int .i64 x, .int .i64 y, .int .i64 z] by simp [ps3]]
          exact h1
        case measure => simp [intOf]; omega
    · obtain rfl : ll = k := by omega
      have hke : l.take ll = l := List.take_of_length_le (by have := hlenH.out; omega)
      rw [hke] at hown
      have hll2 : (l.map (eAt es)).length = ll := by rw [List.length_map]; exact hlenH.out
      have hc20 : wo.cell? ⟨w.heap.size + 1 + 1, 0, none⟩ = some (.int .i64 n) := hK2.cell rfl
      have hc21 : wo.cell? ⟨w.heap.size + 1 + 1, 1, none⟩ = some (.slice A1 ll c1) := hK2.cell rfl
      have hc10 : wo.cell? ⟨w.heap.size + 1, 0, none⟩ = some (.int .i64 0) := hK1.cell rfl
      have hc11 : wo.cell? ⟨w.heap.size + 1, 1, none⟩ = some (.slice none 0 0) := hK1.cell rfl
      have hf0 := hK1.frozen 0
      have hf1 := hK1.frozen 1
      have hl1 := hK1.lt
      have hownH := Lib.hid hown; have hbH := Lib.hid hb; have hll2H := Lib.hid hll2
      clear hown hK0 hK1 hK2 hb hll2
      go_wp2
      have e0 : ((wo.setCell ⟨w.heap.size + 1, 0, none⟩ (.int .i64 n)).setCell ⟨w.heap.size + 1, 1, none⟩ (.slice A1 ll c1)).cell? ⟨w.heap.size + 1, 0, none⟩ = some (.int .i64 n) := (World.cell?_setCell_other _ _ _ _ (by intro e; injection e with _ e; omega)).trans (World.cell?_setCell_same _ _ _ hc10)
      have e1 : ((wo.setCell ⟨w.heap.size + 1, 0, none⟩ (.int .i64 n)).setCell ⟨w.heap.size + 1, 1, none⟩ (.slice A1 ll c1)).cell? ⟨w.heap.size + 1, 1, none⟩ = some (.slice A1 ll c1) := World.cell?_setCell_same _ _ _ ((World.cell?_setCell_other _ _ _ _ (by intro e; injection e with _ e; omega)).trans hc11)
      refine bodyPost_ret (v := .agg #[.int .i64 n, .slice A1 ll c1]) (by simp [results, Try.results22, go_sem, e0, e1]) rfl ?_
      have hne : ∀ o, (Value.slice A1 ll c1).ownBlock ≠ some (⟨w.heap.size + 1, o, none⟩ : Addr).block := fun o e => by
        have := (hownH.out.lt _ e).1
        simp at this
      refine ⟨A1, c1, by rw [hll2H.out], ?_, by rw [hll2H.out]; exact own_capS hownH.out, (hbH.out.setCell (by simp) _).setCell (by simp) _⟩
      rw [hll2H.out]
      exact Rd.of_own (own_set_other (own_set_other hownH.out (hne 0) _) (hne 1) _)
end Go.Proofs.Ytdmbbddkbfknlaa
