/- CircleBondy: the walk of the law. -/
import Derived.Test.YtknfflhmhjfkeaaDoorCircleBondy
namespace Go.Proofs.YtknfflhmhjfkeaaDoor
open Go.RowKit Go.Shelf

set_option maxHeartbeats 1600000 in
theorem circleBondy_bad (N : Int) (A : Option Addr) (len cap : Nat) (es : List E) (w : World) (hr : Rd w A len 3 (ps3 .i64 .i64 .i64 es)) (hlen : len ≤ 9223372036854775807) (hcap : len ≤ cap) (hok : gchk N es ≠ 0) :
    Calls Tryd.prog 4 #[.agg #[.int .i64 N, .slice A len cap]] w fun e w' => e = .returned (.bool true) ∧ Below w.heap.size w w' := by
  have gb := (Below.refl _ w).alloc (Nat.le_refl _) (.cells #[.int .i64 N, .slice A len cap] 24)
  have g0 : (w.alloc (.cells #[.int .i64 N, .slice A len cap] 24)).cell? ⟨w.heap.size, 0, none⟩ = some (.int .i64 N) := by go_simp
  have g1 : (w.alloc (.cells #[.int .i64 N, .slice A len cap] 24)).cell? ⟨w.heap.size, 1, none⟩ = some (.slice A len cap) := by go_simp
  have gs : (w.alloc (.cells #[.int .i64 N, .slice A len cap] 24)).heap.size = w.heap.size + 1 := by simp
  have HG := Lib.hid (fun W (h : Below w.heap.size w W) => good_any N A len cap es W (hr.later h) hlen hcap)
  have HR := Lib.hid (ring_bad N A len cap es _ (hr.later gb) hlen hok)
  have HC := Lib.hid (fun W (h : Below w.heap.size w W) => close_bad N A len cap es W (hr.later h) hlen hok)
  have hf : (gchk N es == 0) = false := by simpa using hok
  rw [hf] at HG
  have hne : (gchk N es != 0) = true := bne_iff_ne.2 hok
  generalize gchk N es = z at *
  have gbH := Lib.hid gb
  clear hr hok gb
  go_enter Tryd.func4, Tryd.ntmps4
  go_wp2_with fail
  refine HR.out.mono ?_
  rintro _ w1 ⟨rfl, hb1⟩
  have hb1' := gbH.out.trans (hb1.mono gbH.out.size)
  have q0 := below_cell hb1 (by omega) g0; have q1 := below_cell hb1 (by omega) g1
  have hs1 := hb1.size
  have HC1 := Lib.hid (HC.out w1 hb1')
  have hb1H := Lib.hid hb1'
  clear hb1 hb1' HR HC g0 g1
  go_wp2_with fail
  refine HC1.out.mono ?_
  rintro _ w2 ⟨rfl, hb2⟩
  have hb2a := hb2.alloc hb2.size (.cells #[.int .i64 0, .slice none 0 0] 24)
  have r0 := below_cell hb2a (by omega) q0; have r1 := below_cell hb2a (by omega) q1
  have hb2' := hb1H.out.trans (hb2a.mono hb1H.out.size)
  have HG1 := Lib.hid (HG.out _ hb2')
  have hb2H := Lib.hid hb2'
  clear hb2 hb2a hb2' q0 q1 HC1 HG
  go_wp2_with fail
  refine HG1.out.mono ?_
  rintro _ w3 ⟨rfl, hb3⟩
  have hfin := Lib.hid (hb2H.out.trans (hb3.mono hb2H.out.size))
  clear hb3 r0 r1 HG1
  go_wp2
  go_ret
  exact ⟨rfl, hfin.out⟩
set_option maxHeartbeats 6400000 in
set_option maxRecDepth 100000 in
theorem circleBondy_ok (N : Nat) (A : Option Addr) (len cap : Nat) (es : List E) (w : World) (hr : Rd w A len 3 (ps3 .i64 .i64 .i64 es)) (hlen : len ≤ 9223372036854775807) (hcap : len ≤ cap) (hok : gchk N es = 0) (htb : Tb w) (hgw : 0 < w.heap.size) :
    Calls Tryd.prog 4 #[.agg #[.int .i64 N, .slice A len cap]] w fun e w' => e = .returned (.bool true) ∧ Below w.heap.size w w' := by
  have gb := (Below.refl _ w).alloc (Nat.le_refl _) (.cells #[.int .i64 N, .slice A len cap] 24)
  have g0 : (w.alloc (.cells #[.int .i64 N, .slice A len cap] 24)).cell? ⟨w.heap.size, 0, none⟩ = some (.int .i64 N) := by go_simp
  have g1 : (w.alloc (.cells #[.int .i64 N, .slice A len cap] 24)).cell? ⟨w.heap.size, 1, none⟩ = some (.slice A len cap) := by go_simp
  have gs : (w.alloc (.cells #[.int .i64 N, .slice A len cap] 24)).heap.size = w.heap.size + 1 := by simp
  obtain ⟨_, h10, hl45, _, _⟩ := gchk_ok hok
  have hOL := (gchk_iff.1 hok).2
  have h10 : N ≤ 10 := by omega
  have hel := ps3_len hr
  rw [hel] at hl45
  have HG := Lib.hid (fun W (h : Below w.heap.size w W) => good_any N A len cap es W (hr.later h) hlen hcap)
  rw [show (gchk N es == 0) = true by simpa using hok] at HG
  have HR := Lib.hid (ring_all N A len cap es _ (hr.later gb) hlen hok (htb.below hgw gb) (by omega))
  have HC := Lib.hid (fun W (h : Below w.heap.size w W) => close_ok N A len cap es W (hr.later h) hlen hok)
  have gbH := Lib.hid gb; have htbH := Lib.hid htb; have hOLH := Lib.hid hOL; have hrH := Lib.hid hr; have hokH := Lib.hid hok; have helH := Lib.hid hel
  clear hr hok gb htb hOL hel
  go_enter Tryd.func4, Tryd.ntmps4
  go_wp2_with fail
  refine HR.out.mono ?_
  rintro _ w1 ⟨RA, rl, rc, z, rfl, hb1, hz⟩
  have hb1' := gbH.out.trans (hb1.mono gbH.out.size)
  have q0 := below_cell hb1 (by omega) g0; have q1 := below_cell hb1 (by omega) g1
  have hs1 := hb1.size
  rw [gs] at hs1
  have HC1 := Lib.hid (HC.out w1 hb1')
  have hb1H := Lib.hid hb1'
  have hzH := Lib.hid hz
  clear hb1 hb1' HR HC g0 g1 hz gs
  go_wp2_with fail
  refine HC1.out.mono ?_
  rintro _ w2 ⟨HA, hc, fs, rfl, hrf, hcf, hgw1, hsh, hb2⟩
  have hOF := hgw1.ok hOLH.out
  have hf45 := okL_45 h10 hOF
  obtain ⟨hl, hhl⟩ : ∃ l, fs.length = l := ⟨_, rfl⟩
  rw [hhl] at hrf hcf hf45 ⊢
  have hb2a := hb2.alloc hb2.size (.cells #[.int .i64 N, .slice HA hl hc] 24)
  have hs2 := hb2.size
  have bH := Blk.new w2 24 #[.int .i64 N, .slice HA hl hc]
  have r0 := below_cell hb2a (by omega) q0; have r1 := below_cell hb2a (by omega) q1
  have hb2' := hb1H.out.trans (hb2a.mono hb1H.out.size)
  have HG1 := Lib.hid (HG.out _ hb2')
  have hrf2 := hrf.alloc (.cells #[.int .i64 N, .slice HA hl hc] 24)
  have hb2H := Lib.hid hb2'; have bHH := Lib.hid bH; have hrfH := Lib.hid hrf2
  have gw1H := Lib.hid hgw1; have shH := Lib.hid hsh; have hOFH := Lib.hid hOF; have hhlH := Lib.hid hhl
  have hsz2 : (w2.alloc (.cells #[.int .i64 N, .slice HA hl hc] 24)).heap.size = w2.heap.size + 1 := by simp
  clear hb2 hb2a hb2' q0 q1 HC1 HG bH hrf hrf2 hgw1 hsh hOF hhl
  go_wp2_with fail
  generalize hw2a : w2.alloc (.cells #[.int .i64 N, .slice HA hl hc] 24) = w2a at *
  clear hw2a
  refine HG1.out.mono ?_
  rintro _ w3 ⟨rfl, hb3⟩
  have s0 := below_cell hb3 (by omega) r0; have s1 := below_cell hb3 (by omega) r1
  have bH3 := bHH.out.below hb3 (by omega)
  have t0 := bH3.cell (j := 0) (v := .int .i64 N) rfl; have t1 := bH3.cell (j := 1) (v := .slice HA hl hc) rfl
  have hrf3 := hrfH.out.later hb3
  have HGh := Lib.hid (good_any N HA hl hc fs w3 hrf3 (by omega) hcf)
  rw [show (gchk N fs == 0) = true by rw [gchk_okL h10 hOFH.out]; rfl] at HGh
  have hb3H := Lib.hid (hb2H.out.trans (hb3.mono hb2H.out.size))
  have bH3H := Lib.hid bH3; have hrf3H := Lib.hid hrf3
  have hs3 := hb3.size
  clear hb3 r0 r1 HG1 bH3 hrf3 hb2H bHH hrfH
  go_wp2_with fail
  refine HGh.out.mono ?_
  rintro _ w4 ⟨rfl, hb4⟩
  have r0 := below_cell hb4 (by omega) s0; have r1 := below_cell hb4 (by omega) s1
  have bH4 := bH3H.out.below hb4 (by omega)
  have u0 := bH4.cell (j := 0) (v := .int .i64 N) rfl; have u1 := bH4.cell (j := 1) (v := .slice HA hl hc) rfl
  have hrf4H := Lib.hid (hrf3H.out.later hb4)
  have hb4H := Lib.hid (hb3H.out.trans (hb4.mono hb3H.out.size))
  have bH4H := Lib.hid bH4
  have hs4 := hb4.size
  clear hb4 s0 s1 t0 t1 HGh bH4 hb3H bH3H hrf3H
  go_wp2
  have hbl : w2.heap.size < w4.heap.size := by omega
  have hgl : w.heap.size < w4.heap.size := by omega
  have v0H := Lib.hid r0; have v1H := Lib.hid r1
  have hinc := Lib.hid (fun (k : Nat) (hk : k < es.length) (x y : Nat) (h1 : (es.getD k (0, 0, 0)).1 = x) (h2 : (es.getD k (0, 0, 0)).2.1 = y) => show adj fs x y = true from
    gw1H.out.sub (List.any_eq_true.2 ⟨es.getD k (0, 0, 0), by simp [List.getD, hk], by unfold adjE; rw [h1, h2]; simp⟩))
  clear r0 r1 u0 u1 hs1 hs2 hsz2 hs3 hs4
  go_loopw [2, 53] (fun r q wr => ∃ k : Nat, k ≤ len ∧ q = .int .i64 k ∧ r = .bool false ∧ Below w4.heap.size w4 wr) (fun _ q _ => len - (intOf q).toNat)
  case atStart => exact ⟨0, Nat.zero_le _, rfl, rfl, Below.refl _ _⟩
  case round =>
    obtain ⟨k, hk, rfl, rfl, hb⟩ := hrel
    obtain ⟨w5, rfl⟩ : ∃ w5 : World, w5 = wr := ⟨_, rfl⟩
    have hbH := Lib.hid hb
    have hs5 := hb.size
    by_cases hlt : k < len
    · obtain ⟨bb, oo, rfl, hab, hc1, hc2, hc3⟩ := ((hrH.out.later hb4H.out).later (hb.mono hb4H.out.size |> fun h => hb)).triple hlt
      have hke : k < es.length := by rw [helH.out]; exact hlt
      have hmem : es.getD k (0, 0, 0) ∈ es := by simp [List.getD, hke]
      obtain ⟨x, y, hx, hy, hxN, hyN, hne⟩ := hOLH.out.ok _ hmem
      have hadj := hinc.out k hke x y hx hy
      rw [hx] at hc1
      rw [hy] at hc2
      generalize (es.getD k (0, 0, 0)).2.2 = c at *
      have b3 := (bH4H.out.below hb hbl).alloc (.cells #[.int .i64 x, .int .i64 y, .int .i64 c] 36)
      have d0 := b3.cell (j := 0) (v := .int .i64 N) rfl; have d1 := b3.cell (j := 1) (v := .slice HA hl hc) rfl
      have hba := hb.alloc hs5 (.cells #[.int .i64 x, .int .i64 y, .int .i64 c] 36)
      have HN := Lib.hid (refNear_any N x y HA hl hc fs _ (hrf4H.out.later hba) hf45 hOFH.out.ok)
      rw [hadj] at HN
      have hbaH := Lib.hid hba
      clear hx hy hadj b3 hba hb hmem hke
      go_wp2_with fail
      refine HN.out.mono ?_
      rintro _ w6 ⟨rfl, hb2⟩
      have hfin := Lib.hid (hbaH.out.trans (hb2.mono hbaH.out.size))
      clear hb2 HN d0 d1
      go_wp2
      go_roundw
      case rel => exact ⟨k + 1, by omega, by go_num, rfl, hfin.out⟩
      case measure => simp [intOf]; omega
    · obtain rfl : k = len := by omega
      have hkk : k ≤ 45 := hl45
      have hb5 := hb4H.out.trans (hb.mono hb4H.out.size)
      have b5 := bH4H.out.below hb hbl
      have hrf5 := hrf4H.out.later hb
      have r0 := below_cell hb hgl v0H.out; have r1 := below_cell hb hgl v1H.out
      have u0 := b5.cell (j := 0) (v := .int .i64 N) rfl; have u1 := b5.cell (j := 1) (v := .slice HA hl hc) rfl
      have HR := Lib.hid (ring_all N HA hl hc fs w5 hrf5 (by omega) (gchk_okL h10 hOFH.out) (htbH.out.below hgw hb5) (by omega))
      have hb5H := Lib.hid hb5; have b5H := Lib.hid b5; have hrf5H := Lib.hid hrf5
      have hbl5 : w2.heap.size < w5.heap.size := by omega
      have hgl5 : w.heap.size < w5.heap.size := by omega
      clear hb hb5 b5 hrf5 v0H v1H
      go_wp2_with fail
      refine HR.out.mono ?_
      rintro _ w6 ⟨RA2, rl2, rc2, z2, rfl, hb6, hz2⟩
      have hzz := Lib.hid (show z = z2 from by
        have hrg : (3 ≤ N ∧ ∃ R, Wy (nearW N fs) 0 (but0 N) R) ↔ (3 ≤ N ∧ ∃ R, Wy (nearW N es) 0 (but0 N) R) := ⟨fun h => ⟨h.1, (gw1H.out.wy h10 h.1 hOLH.out).1 h.2⟩, fun h => ⟨h.1, (gw1H.out.wy h10 h.1 hOLH.out).2 h.2⟩⟩
        rcases hzH.out with ⟨e1, h1⟩ | ⟨e1, h1⟩ <;> rcases hz2 with ⟨e2, h2⟩ | ⟨e2, h2⟩
        · rw [e1, e2]
        · exact absurd (hrg.2 h1) h2
        · exact absurd (hrg.1 h2) h1
        · rw [e1, e2])
      have r0' := below_cell hb6 hgl5 r0; have r1' := below_cell hb6 hgl5 r1
      have b6 := b5H.out.below hb6 hbl5
      have hb6' := hb5H.out.trans (hb6.mono hb5H.out.size)
      have hrf6 := Lib.hid (hrf5H.out.later hb6)
      have hs6 := hb6.size
      have b6H := Lib.hid b6; have hb6H := Lib.hid hb6'
      have bk := Blk.new w6 24 #[.int .i64 N, .slice none 0 0]
      have r0a := alloc_cell (by omega) r0' (.cells #[.int .i64 N, .slice none 0 0] 24); have r1a := alloc_cell (by omega) r1' (.cells #[.int .i64 N, .slice none 0 0] 24)
      have be7 := hb6'.alloc hb6'.size (.cells #[.int .i64 N, .slice none 0 0] 24)
      have hs7 : (w6.alloc (.cells #[.int .i64 N, .slice none 0 0] 24)).heap.size = w6.heap.size + 1 := by simp
      have bkH := Lib.hid bk; have be7H := Lib.hid be7; have r0aH := Lib.hid r0a; have r1aH := Lib.hid r1a; have b7H := Lib.hid (b6.alloc (.cells #[.int .i64 N, .slice none 0 0] 24))
      clear hb6 hb6' b6 bk be7 r0 r1 u0 u1 HR hz2
      go_wp2
      generalize hw7 : w6.alloc (.cells #[.int .i64 N, .slice none 0 0] 24) = w7 at *
      have hw7H := Lib.hid hw7
      have r0H := Lib.hid r0'; have r1H := Lib.hid r1'
      clear r0a r1a hw7 r0' r1' r0aH r1aH
      have hg6 : w.heap.size < w6.heap.size := by omega
      have hg7 : w2.heap.size < w6.heap.size := by omega
      have hnil : (es.drop (k - 0)).reverse = [] := by rw [List.drop_eq_nil_of_le (by have := helH.out; omega)]; rfl
      go_loopw [12] (fun q wr => ∃ (j : Nat) (v : Value), j ≤ k ∧ q = .int .i64 ((k : Int) - 1 - j) ∧ wr.ownsRow (w6.heap.size + 1) 36 3 v j (ps3 .i64 .i64 .i64 (es.drop (k - j)).reverse) ∧ Blk wr w6.heap.size 24 #[.int .i64 N, v] ∧ Below w6.heap.size w6 wr ∧ w6.heap.size + 1 ≤ wr.heap.size) (fun q _ => (intOf q + 1).toNat)
      case atStart => exact ⟨0, .slice none 0 0, Nat.zero_le _, by go_num, by rw [hnil]; exact World.ownsRow_nil _ _ _ _, bkH.out, by rw [← hw7H.out]; exact (Below.refl _ _).alloc (Nat.le_refl _) _, by omega⟩
      case round =>
        clear hnil
        obtain ⟨j, v, hj, rfl, hown, hBk, hb8, hs8⟩ := hrel
        obtain ⟨A1, c1, rfl⟩ := own_slice hown
        obtain ⟨w8, rfl⟩ : ∃ w8 : World, w8 = wr := ⟨_, rfl⟩
        have hownH := Lib.hid hown; have hBkH := Lib.hid hBk; have hb8H := Lib.hid hb8
        have hb8' := hb6H.out.trans (hb8.mono (by omega))
        have r1 := below_cell hb8 hg6 r1H.out
        have hb8aH := Lib.hid hb8'
        by_cases hjk : j < k
        · obtain ⟨i, hi⟩ : ∃ i : Nat, k - 1 - j = i := ⟨_, rfl⟩
          have hii : ((k : Int) - 1 - j) = i := by omega
          obtain ⟨bb, oo, rfl, hab, hc1, hc2, hc3⟩ := (hrH.out.later hb8').triple (j := i) (by omega)
          have hke : i < es.length := by rw [helH.out]; omega
          have hdr := Lib.hid (show (es.drop (k - (j + 1))).reverse = (es.drop (k - j)).reverse ++ [es.getD i (0, 0, 0)] by
            rw [show k - (j + 1) = i by omega, List.drop_eq_getElem_cons hke, show i + 1 = k - j by omega, List.reverse_cons]
            simp [List.getD, hke])
          generalize es.getD i (0, 0, 0) = c at *
          obtain ⟨x, y, wt⟩ := c
          dsimp only at hc1 hc2 hc3
          have m1 := hBk.cell (j := 1) (v := .slice A1 j c1) rfl
          have hi0 : (0 : Int) ≤ i := by omega
          have hik : (i : Int) < k := by omega
          rw [hii]
          have hiH := Lib.hid hi
          clear hown hBk hb8 hb8' hke hi hii
          have hrdH := Lib.hid ((rd_new3 w8 (.int .i64 x) (.int .i64 y) (.int .i64 wt) 36).drew)
          have hmh := hBkH.out.lt
          go_wp2
          go_region_law (refine step_app (s := .tmp 82) (x := .tmp 88) _ tiEc (own_drew (hownH.out.alloc _)) hrdH.out (ps3_one (l := [(x, y, wt)])) (by omega) (by omega) (by simp; omega) rfl rfl rfl rfl ?_
                         intro v' w9 hown' hg hat
                         obtain ⟨g', cap', rfl⟩ := ownsRow_succ hown'
                         have hne3 : (some w6.heap.size : Option Nat) ≠ (Value.slice A1 j c1).ownBlock := fun e => by
                           have := (hownH.out.lt w6.heap.size e.symm).1
                           omega
                         have bk9 : Blk w9 w6.heap.size 24 #[.int .i64 N, .slice A1 j c1] := (show Blk (w8.alloc (.cells #[.int .i64 x, .int .i64 y, .int .i64 wt] 36)).drew w6.heap.size 24 #[.int .i64 N, .slice A1 j c1] from hBkH.out.alloc (.cells #[.int .i64 x, .int .i64 y, .int .i64 wt] 36)).kept hg hne3
                         have be9 := (hb8H.out.alloc (by omega) (.cells #[.int .i64 x, .int .i64 y, .int .i64 wt] 36)).drew.grown hg (by simp; omega) (fun g e => by have := (hownH.out.lt g e).1; omega)
                         have hs9 : w8.heap.size + 1 ≤ w9.heap.size := by have := hg.size; simpa using this
                         have p1' := bk9.cell (j := 1) (v := .slice A1 j c1) rfl
                         have p1f := bk9.frozen 1
                         have hl8 := bk9.lt)
          all_goals
            have hne4 : (Value.slice (some ⟨g', 0, none⟩) (j + 1) cap').ownBlock ≠ some (⟨w6.heap.size, 1, none⟩ : Addr).block := fun e => by
              have := (hown'.lt _ e).1
              simp only at this
              omega
            have hownF := Lib.hid (show (w9.setCell ⟨w6.heap.size, 1, none⟩ (.slice (some ⟨g', 0, none⟩) (j + 1) cap')).ownsRow (w6.heap.size + 1) 36 3 (.slice (some ⟨g', 0, none⟩) (j + 1) cap') (j + 1) (ps3 .i64 .i64 .i64 (es.drop (k - (j + 1))).reverse) from by
              rw [hdr.out, show ps3 .i64 .i64 .i64 ((es.drop (k - j)).reverse ++ [(x, y, wt)]) = ps3 .i64 .i64 .i64 (es.drop (k - j)).reverse ++ [.int .i64 x, .int .i64 y, .int .i64 wt] by simp [ps3]]
              exact own_set_other hown' hne4 _)
            have bkF := Lib.hid (bk9.set 1 (.slice (some ⟨g', 0, none⟩) (j + 1) cap'))
            have beF := Lib.hid (be9.setCell (p := ⟨w6.heap.size, 1, none⟩) (Nat.le_refl _) (.slice (some ⟨g', 0, none⟩) (j + 1) cap'))
            clear hne4 hown' bk9 be9 hg hat
            go_wp2
            go_roundw
            case rel => exact ⟨j + 1, .slice (some ⟨g', 0, none⟩) (j + 1) cap', by omega, by have := hiH.out; go_num, hownF.out, bkF.out, beF.out, by simp; omega⟩
            case measure => simp [intOf] <;> omega
        · obtain rfl : j = k := by omega
          have hdr : (es.drop (j - j)).reverse = es.reverse := by rw [Nat.sub_self]; rfl
          rw [hdr] at hown
          have hm0 : ((j : Int) - 1 - j) = -1 := by omega
          rw [hm0]
          have u0 := hBk.cell (j := 0) (v := .int .i64 N) rfl; have u1 := hBk.cell (j := 1) (v := .slice A1 j c1) rfl
          have hOR := okL_rev hOLH.out
          have HB := Lib.hid (close_ok N A1 j c1 es.reverse w8 (Rd.of_own hown) (by omega) (gchk_okL h10 hOR))
          have b8 := b6H.out.below hb8 hg7
          have hrf8H := Lib.hid (hrf6.out.later (hb8.mono (by omega) |> fun _ => hb8))
          have b8H := Lib.hid b8; have hORH := Lib.hid hOR
          have hs68 : w6.heap.size + 1 ≤ w8.heap.size := hs8
          clear hown hBk hb8 hb8' hdr hm0 b8 hOR r1
          go_wp2_with fail
          refine HB.out.mono ?_
          rintro _ w9 ⟨OA, oc, os, rfl, hro, hco, hgo, hso, hb9⟩
          obtain ⟨sm1, ln1⟩ := gw_same h10 gw1H.out hgo hOLH.out hORH.out shH.out hso (fun x y h => hgo.sub (by rw [adj_rev]; exact h)) (fun x y h => gw1H.out.sub (by rw [adj_rev] at h; exact h))
          have hol : os.length = hl := by rw [← ln1]; exact hhlH.out
          have hOO := hgo.ok hORH.out
          rw [hol] at hro hco ⊢
          have hs9 := hb9.size
          have b9 := (b8H.out.below hb9 (by omega)).alloc (.cells #[.int .i64 N, .slice OA hl oc] 24)
          have bo := Blk.new w9 24 #[.int .i64 N, .slice OA hl oc]
          have hb9' := hb8aH.out.trans (hb9.mono hb8aH.out.size)
          have hb9a := hb9'.alloc hb9'.size (.cells #[.int .i64 N, .slice OA hl oc] 24)
          have hrf9 := (hrf8H.out.later hb9).alloc (.cells #[.int .i64 N, .slice OA hl oc] 24)
          have hro9 := hro.alloc (.cells #[.int .i64 N, .slice OA hl oc] 24)
          have HC2 := Lib.hid (close_ok N HA hl hc fs _ hrf9 (by omega) (gchk_okL h10 hOFH.out))
          have t0 := b9.cell (j := 0) (v := .int .i64 N) rfl; have t1 := b9.cell (j := 1) (v := .slice HA hl hc) rfl
          have b9H := Lib.hid b9; have boH := Lib.hid bo; have hb9H := Lib.hid hb9a; have hrf9H := Lib.hid hrf9; have hro9H := Lib.hid hro9
          have sm1H := Lib.hid sm1; have hOOH := Lib.hid hOO
          have hsz9 : (w9.alloc (.cells #[.int .i64 N, .slice OA hl oc] 24)).heap.size = w9.heap.size + 1 := by simp
          clear hro hgo hso hb9 ln1 sm1 hol hOO b9 bo hb9' hb9a hrf9 hro9 HB u0 u1
          go_wp2_with fail
          generalize w9.alloc (.cells #[.int .i64 N, .slice OA hl oc] 24) = w9a at *
          refine HC2.out.mono ?_
          rintro _ w10 ⟨GA, gc, gs, rfl, hrg, hcg, hgg, hsg, hb10⟩
          obtain ⟨sm2, ln2⟩ := gw_same h10 gw1H.out hgg hOLH.out hOFH.out shH.out hsg (fun x y h => hgg.sub (gw1H.out.sub h)) (fun x y h => h)
          have hgl2 : gs.length = hl := by rw [← ln2]; exact hhlH.out
          have hOG := hgg.ok hOFH.out
          rw [hgl2] at hrg hcg ⊢
          have hs10 := hb10.size
          have b10 := (b9H.out.below hb10 (by omega)).alloc (.cells #[.int .i64 N, .slice GA hl gc] 24)
          have bo10 := (boH.out.below hb10 (by omega)).alloc (.cells #[.int .i64 N, .slice GA hl gc] 24)
          have bg := Blk.new w10 24 #[.int .i64 N, .slice GA hl gc]
          have hb10' := hb9H.out.trans (hb10.mono hb9H.out.size)
          have hb10a := hb10'.alloc hb10'.size (.cells #[.int .i64 N, .slice GA hl gc] 24)
          have hrf10 := (hrf9H.out.later hb10).alloc (.cells #[.int .i64 N, .slice GA hl gc] 24)
          have hro10 := (hro9H.out.later hb10).alloc (.cells #[.int .i64 N, .slice GA hl gc] 24)
          have hrg10 := hrg.alloc (.cells #[.int .i64 N, .slice GA hl gc] 24)
          have HS1 := Lib.hid (sameEdges_true N HA OA hl hc oc fs os _ hrf10 hro10 hf45 hOFH.out.ok hOOH.out.ok sm1H.out)
          have t0' := b10.cell (j := 0) (v := .int .i64 N) rfl; have t1' := b10.cell (j := 1) (v := .slice HA hl hc) rfl
          have o0 := bo10.cell (j := 0) (v := .int .i64 N) rfl; have o1 := bo10.cell (j := 1) (v := .slice OA hl oc) rfl
          have b10H := Lib.hid b10; have bgH := Lib.hid bg; have hb10H := Lib.hid hb10a; have hrf10H := Lib.hid hrf10; have hrg10H := Lib.hid hrg10
          have sm2H := Lib.hid sm2; have hOGH := Lib.hid hOG
          have hsz10 : (w10.alloc (.cells #[.int .i64 N, .slice GA hl gc] 24)).heap.size = w10.heap.size + 1 := by simp
          have hzI : (z == z2) = true := by rw [hzz.out]; simp
          clear hrg hgg hsg hb10 ln2 sm2 hgl2 hOG b10 bo10 bg hb10' hb10a hrf10 hro10 hrg10 HC2 t0 t1 b9H boH hb9H hrf9H hro9H
          go_wp2_with fail
          refine HS1.out.mono ?_
          rintro _ w11 ⟨rfl, hb11⟩
          have b11 := b10H.out.below hb11 (by omega)
          have bg11 := bgH.out.below hb11 (by omega)
          have hs11 := hb11.size
          have HS2 := Lib.hid (sameEdges_true N HA GA hl hc gc fs gs w11 (hrf10H.out.later hb11) (hrg10H.out.later hb11) hf45 hOFH.out.ok hOGH.out.ok sm2H.out)
          have e0 := b11.cell (j := 0) (v := .int .i64 N) rfl; have e1 := b11.cell (j := 1) (v := .slice HA hl hc) rfl
          have i0 := bg11.cell (j := 0) (v := .int .i64 N) rfl; have i1 := bg11.cell (j := 1) (v := .slice GA hl gc) rfl
          have hb11H := Lib.hid (hb10H.out.trans (hb11.mono hb10H.out.size))
          clear hb11 b11 bg11 HS1 t0' t1' o0 o1
          go_wp2_with fail
          refine HS2.out.mono ?_
          rintro _ w12 ⟨rfl, hb12⟩
          have hfin := Lib.hid (hb11H.out.trans (hb12.mono hb11H.out.size))
          clear hb12 HS2
          go_wp2
          go_ret
          exact ⟨rfl, hfin.out⟩
theorem circleBondy_any (N : Int) (A : Option Addr) (len cap : Nat) (es : List E) (w : World) (hr : Rd w A len 3 (ps3 .i64 .i64 .i64 es)) (hlen : len ≤ 9223372036854775807) (hcap : len ≤ cap) (htb : Tb w) (hgw : 0 < w.heap.size) :
    Calls Tryd.prog 4 #[.agg #[.int .i64 N, .slice A len cap]] w fun e w' => e = .returned (.bool true) ∧ Below w.heap.size w w' := by
  by_cases hok : gchk N es = 0
  · obtain ⟨h0, _, _, _, _⟩ := gchk_ok hok
    obtain ⟨n, rfl⟩ := Int.eq_ofNat_of_zero_le h0
    exact circleBondy_ok n A len cap es w hr hlen hcap hok htb hgw
  · exact circleBondy_bad N A len cap es w hr hlen hcap hok
end Go.Proofs.YtknfflhmhjfkeaaDoor
