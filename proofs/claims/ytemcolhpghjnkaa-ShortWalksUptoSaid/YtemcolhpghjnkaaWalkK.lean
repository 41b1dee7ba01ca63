/- teamsterkeep.walk: is a list of arcs a walk, and how long? -/
import Derived.Test.YtemcolhpghjnkaaWaysLaw
import Derived.Test.YtemcolhpghjnkaaShortE
import Derived.Test.YtemcolhpghjnkaaBlk
namespace Go.Proofs.Ytemcolhpghjnkaa
open Go.RowKit

def WkRes (l : List Arc) (s t : Int) (zs : List Int) (e : Ending) : Prop :=
  (wgo l s 0 zs = none ∧ e = .returned (.tuple #[.int .i64 0, .bool false])) ∨ ∃ y j : Int, wgo l s 0 zs = some (y, j) ∧ e = .returned (.tuple #[.int .i64 y, .bool (j == t)])
theorem wgo_bad {l : List Arc} {at_ x k : Int} {r : List Int} (h : ¬ (0 ≤ k ∧ k < l.length ∧ (aat l k.toNat).1 = at_)) : wgo l at_ x (k :: r) = none := by
  unfold wgo
  rw [if_neg]
  simp only [Bool.and_eq_true, decide_eq_true_eq, beq_iff_eq, and_assoc]
  exact h
theorem wgo_good {l : List Arc} {at_ x k : Int} {r : List Int} (h0 : 0 ≤ k) (h1 : k < l.length) (h2 : (aat l k.toNat).1 = at_) : wgo l at_ x (k :: r) = wgo l (aat l k.toNat).2.1 (x + (aat l k.toNat).2.2.2) r := by
  conv => lhs; unfold wgo
  rw [if_pos]
  simp only [Bool.and_eq_true, decide_eq_true_eq, beq_iff_eq, and_assoc]
  exact ⟨h0, h1, h2⟩
theorem drop_getD {l : List Int} {k : Nat} (h : k < l.length) : l.drop k = l.getD k 0 :: l.drop (k + 1) := by
  rw [List.drop_eq_getElem_cons h]; simp [List.getD, h]
set_option maxHeartbeats 1600000 in
set_option maxRecDepth 100000 in
theorem walk_any (N : Nat) (s t : Int) (A : Option Addr) (len cap : Nat) (l : List Arc) (B : Option Addr) (lb cb : Nat) (zs : List Int) (w : World) (hr : Rd w A len 4 (arcs l)) (_hl : len ≤ 30) (hok : ∀ a ∈ l, AOk N a) (hz : Rd w B lb 1 (ints .i64 zs)) (hlb : lb ≤ 1048576) :
    Calls Try.prog 12 #[.agg #[.int .i64 N, .slice A len cap], .int .i64 s, .int .i64 t, .slice B lb cb] w fun e w' => WkRes l s t zs e ∧ Below w.heap.size w w' := by
  have helH := Lib.hid (arcs_len hr)
  have hzl : zs.length = lb := by simpa [ints] using hz.1
  have hzlH := Lib.hid hzl
  have gb := (Below.refl _ w).alloc (Nat.le_refl _) (.cells #[.int .i64 N, .slice A len cap] 24)
  have bG := Blk.new w 24 #[.int .i64 N, .slice A len cap]
  have hrH := Lib.hid (hr.later gb); have hzH := Lib.hid (hz.later gb); have hokH := Lib.hid hok; have bGH := Lib.hid bG; have gbH := Lib.hid gb
  have hgs : (w.alloc (.cells #[.int .i64 N, .slice A len cap] 24)).heap.size = w.heap.size + 1 := by simp
  clear hr hz hok gb bG hzl
  go_enter Try.func12, Try.ntmps12
  go_wp2
  generalize w.alloc (.cells #[.int .i64 N, .slice A len cap] 24) = wg at *
  have hgl : w.heap.size < wg.heap.size := by omega
  go_loopw [1, 8, 9, 10, 12, 15] (fun at_ r b x _ q wr => ∃ (k : Nat) (x' a' : Int), k ≤ lb ∧ q = .int .i64 k ∧ at_ = .int .i64 a' ∧ x = .int .i64 x' ∧ r = .int .i64 0 ∧ b = .bool false ∧ Hid (wgo l s 0 zs = wgo l a' x' (zs.drop k)) ∧ -(k * 1048576 : Int) ≤ x' ∧ x' ≤ k * 1048576 ∧ Below wg.heap.size wg wr) (fun _ _ _ _ _ q _ => lb - (intOf q).toNat)
  case atStart => exact ⟨0, 0, s, Nat.zero_le _, rfl, rfl, rfl, rfl, rfl, Lib.hid rfl, by omega, by omega, Below.refl _ _⟩
  case round =>
    obtain ⟨k, x, a', hk, rfl, rfl, rfl, rfl, rfl, hW, hx0, hx1, hb⟩ := hrel
    have hbH := Lib.hid hb
    have hs5 := hb.size
    have b1 := bGH.out.below hb hgl
    have c0 := b1.cell (j := 0) (v := .int .i64 N) rfl; have c1 := b1.cell (j := 1) (v := .slice A len cap) rfl
    by_cases hlt : k < lb
    · obtain ⟨b, o, rfl, hab, hc⟩ := (hzH.out.later hb).int hlt
      have hdr := Lib.hid (drop_getD (l := zs) (k := k) (by rw [hzlH.out]; exact hlt))
      generalize zs.getD k 0 = z at *
      obtain ⟨w1, rfl⟩ : ∃ w1 : World, w1 = wr := ⟨_, rfl⟩
      have hba := hb.alloc hs5 (.cells #[.int .i64 z] 3)
      have HI := Lib.hid (inside_any len (some ⟨w1.heap.size, 0, none⟩) 1 1 [z] _ (rd_new1 w1 (.int .i64 z) 3) (by omega))
      have d0 := alloc_cell (by omega) c0 (.cells #[.int .i64 z] 3); have d1 := alloc_cell (by omega) c1 (.cells #[.int .i64 z] 3)
      have hbaH := Lib.hid hba
      have hsa : (w1.alloc (.cells #[.int .i64 z] 3)).heap.size = w1.heap.size + 1 := by simp
      clear hb b1 hba c0
      by_cases hin : 0 ≤ z ∧ z < len
      · have hi : insideB len [z] = true := by simp [insideB, inB]; exact hin
        rw [hi] at HI
        obtain ⟨i, rfl⟩ := Int.eq_ofNat_of_zero_le hin.1
        have hil : i < len := by omega
        obtain ⟨ba, oa, rfl, hba, e0, e1, e2, e3⟩ := (hrH.out.later hbaH.out).arc hil
        have hmem := aat_mem (l := l) (k := i) (by rw [helH.out]; exact hil)
        have hok := hokH.out _ hmem
        have h0 := hok.w0; have h1 := hok.w1
        have hbad := Lib.hid (show ¬ (aat l i).1 = a' → wgo l s 0 zs = none from fun h => by
          rw [hW.out, hdr.out]
          exact wgo_bad fun hh => h hh.2.2)
        have hgood := Lib.hid (show (aat l i).1 = a' → wgo l s 0 zs = wgo l (aat l i).2.1 (x + (aat l i).2.2.2) (zs.drop (k + 1)) from fun h => by
          rw [hW.out, hdr.out]
          exact wgo_good (by omega) (by rw [helH.out]; exact hin.2) h)
        generalize (aat l i).1 = f at *
        generalize (aat l i).2.1 = tt at *
        generalize (aat l i).2.2.2 = ww at *
        clear hok hmem hin hi
        by_cases hf : f = a'
        · have hfb : (f != a') = false := by rw [hf]; simp
          have hnx := Lib.hid (hgood.out hf)
          have hi0 : (0 : Int) ≤ i := by omega
          have hii : (i : Int) < len := by omega
          clear hf hbad hgood
          go_wp2_with fail
          refine HI.out.mono ?_
          rintro _ _ ⟨rfl, rfl⟩
          clear HI
          go_wp2
          go_roundw
          case rel => exact ⟨k + 1, x + ww, tt, by omega, by go_num, rfl, rfl, rfl, rfl, hnx, by omega, by omega, hbaH.out⟩
          case measure => simp [intOf]; omega
        · have hfb : (f != a') = true := by simpa using hf
          have hn := Lib.hid (hbad.out hf)
          have hi0 : (0 : Int) ≤ i := by omega
          have hii : (i : Int) < len := by omega
          have hfin := Lib.hid (gbH.out.trans (hbaH.out.mono gbH.out.size))
          clear hf hbad hgood
          go_wp2_with fail
          refine HI.out.mono ?_
          rintro _ _ ⟨rfl, rfl⟩
          clear HI
          go_wp2
          go_ret2
          exact ⟨.inl ⟨hn.out, rfl⟩, hfin.out⟩
      · have hi : insideB len [z] = false := by simp [insideB, inB]; omega
        rw [hi] at HI
        have hn := Lib.hid (show wgo l s 0 zs = none by
          rw [hW.out, hdr.out]
          exact wgo_bad fun h => hin ⟨h.1, by have := h.2.1; rw [helH.out] at this; exact this⟩)
        have hfin := Lib.hid (gbH.out.trans (hbaH.out.mono gbH.out.size))
        clear hin hi
        go_wp2_with fail
        refine HI.out.mono ?_
        rintro _ _ ⟨rfl, rfl⟩
        clear HI
        go_wp2
        go_ret2
        exact ⟨.inl ⟨hn.out, rfl⟩, hfin.out⟩
    · obtain rfl : k = lb := by omega
      have hn := Lib.hid (show wgo l s 0 zs = some (x, a') by rw [hW.out, List.drop_eq_nil_of_le (by rw [hzlH.out]; exact Nat.le_refl _)]; rfl)
      have hfin := Lib.hid (gbH.out.trans (hb.mono gbH.out.size))
      clear hb b1
      go_wp2
      go_ret2
      exact ⟨.inr ⟨x, a', hn.out, rfl⟩, hfin.out⟩
end Go.Proofs.Ytemcolhpghjnkaa
