/- sameEdges, where it says yes (split off XCircleBondy). -/
import Derived.Test.YtdmbbddkbfknlaaDoorRefNearA
import Derived.Test.YtdmbbddkbfknlaaDoorBlk
import Derived.Test.YtdmbbddkbfknlaaDoorNearGr
import Derived.Test.YtdmbbddkbfknlaaDoorEachBits
namespace Go.Proofs.YtdmbbddkbfknlaaDoor
open Go.RowKit Go.Shelf

set_option maxHeartbeats 800000 in
theorem sameEdges_true (n : Nat) (A A2 : Option Addr) (len cap cap2 : Nat) (es fs : List E) (w : World) (hr : Rd w A len 3 (ps3 .i64 .i64 .i64 es)) (hr2 : Rd w A2 len 3 (ps3 .i64 .i64 .i64 fs)) (hl : len ≤ 45) (hok : ∀ e ∈ es, okE n e) (hok2 : ∀ e ∈ fs, okE n e) (hs : ∀ x y, adj es x y = adj fs x y) :
    Calls Tryd.prog 10 #[.agg #[.int .i64 n, .slice A len cap], .agg #[.int .i64 n, .slice A2 len cap2]] w fun e w' => e = .returned (.bool true) ∧ Below w.heap.size w w' := by
  have helH := Lib.hid (ps3_len hr)
  have gb := ((Below.refl _ w).alloc (Nat.le_refl _) (.cells #[.int .i64 n, .slice A len cap] 25)).alloc (by simp) (.cells #[.int .i64 n, .slice A2 len cap2] 25)
  have b1 := (Blk.new w 25 #[.int .i64 n, .slice A len cap]).alloc (.cells #[.int .i64 n, .slice A2 len cap2] 25)
  have b2 := Blk.new (w.alloc (.cells #[.int .i64 n, .slice A len cap] 25)) 25 #[.int .i64 n, .slice A2 len cap2]
  rw [World.size_alloc] at b2
  have hsz : ((w.alloc (.cells #[.int .i64 n, .slice A len cap] 25)).alloc (.cells #[.int .i64 n, .slice A2 len cap2] 25)).heap.size = w.heap.size + 2 := by simp
  have c1 := b1.cell (j := 0) rfl; have c2 := b1.cell (j := 1) rfl
  have c3 := b2.cell (j := 0) rfl; have c4 := b2.cell (j := 1) rfl
  have hin := Lib.hid (fun (k : Nat) (hk : k < es.length) (x y : Nat) (h1 : (es.getD k (0, 0, 0)).1 = x) (h2 : (es.getD k (0, 0, 0)).2.1 = y) => show adj fs x y = true by
    rw [← hs]
    refine List.any_eq_true.2 ⟨es.getD k (0, 0, 0), by simp [List.getD, hk], ?_⟩
    unfold adjE; rw [h1, h2]; simp)
  have hr1H := Lib.hid (hr.later gb); have hr2H := Lib.hid (hr2.later gb); have hokH := Lib.hid hok; have hok2H := Lib.hid hok2; have gbH := Lib.hid gb; have b2H := Lib.hid b2
  clear hr hr2 hok hok2 gb b1 b2 hs
  go_enter Tryd.func10, Tryd.ntmps10
  go_wp2
  generalize (w.alloc (.cells #[.int .i64 n, .slice A len cap] 25)).alloc (.cells #[.int .i64 n, .slice A2 len cap2] 25) = wg at *
  have hgl : w.heap.size + 1 < wg.heap.size := by omega
  clear c1 c2 c3 c4 hsz
  go_loopw [4, 24] (fun r q wr => ∃ k : Nat, k ≤ len ∧ q = .int .i64 k ∧ r = .bool false ∧ Below wg.heap.size wg wr) (fun _ q _ => len - (intOf q).toNat)
  case atStart => exact ⟨0, Nat.zero_le _, rfl, rfl, Below.refl _ _⟩
  case round =>
    obtain ⟨k, hk, rfl, rfl, hb⟩ := hrel
    have hbH := Lib.hid hb
    by_cases hlt : k < len
    · obtain ⟨bb, oo, rfl, hab, hc1, hc2, hc3⟩ := (hr1H.out.later hb).triple hlt
      have hke : k < es.length := by rw [helH.out]; exact hlt
      have hmem : es.getD k (0, 0, 0) ∈ es := by simp [List.getD, hke]
      obtain ⟨x, y, hx, hy, hxN, hyN, hne⟩ := hokH.out _ hmem
      have hadj := hin.out k hke x y hx hy
      rw [hx] at hc1
      rw [hy] at hc2
      generalize (es.getD k (0, 0, 0)).2.2 = c at *
      have b3 := (b2H.out.below hb hgl).alloc (.cells #[.int .i64 x, .int .i64 y, .int .i64 c] 38)
      have d0 := b3.cell (j := 0) (v := .int .i64 n) rfl; have d1 := b3.cell (j := 1) (v := .slice A2 len cap2) rfl
      have hs1 := hb.size
      have hba := hb.alloc hs1 (.cells #[.int .i64 x, .int .i64 y, .int .i64 c] 38)
      have HN := Lib.hid (refNear_any n x y A2 len cap2 fs _ (hr2H.out.later hba) hl hok2H.out)
      rw [hadj] at HN
      have hbaH := Lib.hid hba
      clear hx hy hadj b3 hba hb hmem hke
      go_wp2_with fail
      refine HN.out.mono ?_
      rintro _ w2 ⟨rfl, hb2⟩
      have hfin := Lib.hid (hbaH.out.trans (hb2.mono hbaH.out.size))
      clear hb2 HN
      go_wp2
      go_roundw
      case rel => exact ⟨k + 1, by omega, by go_num, rfl, hfin.out⟩
      case measure => simp [intOf]; omega
    · obtain rfl : k = len := by omega
      have hfin := Lib.hid (gbH.out.trans (hb.mono gbH.out.size))
      clear hb
      go_wp2
      go_ret
      exact ⟨rfl, hfin.out⟩
end Go.Proofs.YtdmbbddkbfknlaaDoor
