/- teamsterkeep.right: is a list a colouring? -/
import Derived.Test.YtnpgnohnpbdblaaDoorPaintD
import Derived.Test.YtnpgnohnpbdblaaDoorInside
namespace Go.Proofs.YtnpgnohnpbdblaaDoor
open Go.RowKit Go.Shelf

def difE (zs : List Int) (e : E) : Bool := zs.getD e.1.toNat 0 != zs.getD e.2.1.toNat 0
def rightB (N : Nat) (k : Int) (es : List E) (zs : List Int) : Bool := decide (zs.length = N) && insideB k zs && es.all (difE zs)
theorem edge_of {N : Nat} {es : List E} (hok : ∀ e ∈ es, okE N e) {k : Nat} (hk : k < es.length) : ∃ x y : Nat, (es.getD k (0, 0, 0)).1 = x ∧ (es.getD k (0, 0, 0)).2.1 = y ∧ x < N ∧ y < N ∧ x ≠ y := hok _ (by simp [List.getD, hk])
theorem rightB_iff {N : Nat} {k : Nat} {es : List E} {zs : List Int} (hok : gchk N es = 0) : rightB N k es zs = true ↔ zs.length = N ∧ Col (nearW N es) N k fun j => zs.getD j 0 := by
  obtain ⟨_, _, _, hokE, _⟩ := gchk_ok hok
  rw [Int.toNat_natCast] at hokE
  have g := nearGr hok
  unfold rightB
  simp only [Bool.and_eq_true, decide_eq_true_eq]
  have hnb : ∀ i j, i < N → nb (nearW N es) i j = adj es i j := fun i j hi => nearW_bit es hokE i j hi
  constructor
  · rintro ⟨⟨hl, hin⟩, hall⟩
    refine ⟨hl, fun j hj => ?_⟩
    have h1 := List.all_eq_true.1 hin (zs.getD j 0) (by simp [List.getD, show j < zs.length by omega])
    unfold inB at h1
    simp only [Bool.and_eq_true, decide_eq_true_eq] at h1
    refine ⟨h1.1, h1.2, fun m hm => ?_⟩
    rw [hnb j m hj] at hm
    obtain ⟨e, he, hae⟩ := List.any_eq_true.1 hm
    have h2 := List.all_eq_true.1 hall e he
    obtain ⟨x, y, ex, ey, hx, hy, hxy⟩ := hokE e he
    unfold difE at h2
    unfold adjE at hae
    rw [ex, ey] at h2 hae
    simp at hae
    simp only [Int.toNat_natCast, bne_iff_ne] at h2
    dsimp only
    rcases hae with ⟨p, q⟩ | ⟨p, q⟩
    · obtain rfl : x = j := by omega
      obtain rfl : y = m := by omega
      exact fun e => h2 e.symm
    · obtain rfl : y = j := by omega
      obtain rfl : x = m := by omega
      exact h2
  · rintro ⟨hl, hc⟩
    refine ⟨⟨hl, List.all_eq_true.2 fun z hz => ?_⟩, List.all_eq_true.2 fun e he => ?_⟩
    · obtain ⟨i, hi, rfl⟩ := List.getElem_of_mem hz
      have := hc i (by omega)
      simp only [List.getD, List.getElem?_eq_getElem hi, Option.getD_some] at this
      unfold inB; simp; omega
    · obtain ⟨x, y, ex, ey, hx, hy, hxy⟩ := hokE e he
      unfold difE
      rw [ex, ey]
      simp only [Int.toNat_natCast, bne_iff_ne]
      refine (hc y hy).2.2 x ?_
      rw [hnb y x hy]
      exact List.any_eq_true.2 ⟨e, he, by unfold adjE; rw [ex, ey]; simp⟩
set_option maxHeartbeats 1600000 in
theorem right_any (N : Nat) (k : Int) (A : Option Addr) (len cap : Nat) (es : List E) (A2 : Option Addr) (len2 cap2 : Nat) (zs : List Int) (w : World) (hr : Rd w A len 3 (ps3 .i64 .i64 .i64 es)) (hr2 : Rd w A2 len2 1 (ints .i64 zs)) (hl : len ≤ 45) (hl2 : len2 ≤ 9223372036854775807) (hN : N ≤ 10) (hok : ∀ e ∈ es, okE N e) :
    Calls Tryd.prog 18 #[.agg #[.int .i64 N, .slice A len cap], .int .i64 k, .slice A2 len2 cap2] w fun e w' => e = .returned (.bool (rightB N k es zs)) ∧ Below w.heap.size w w' := by
  have hel := ps3_len hr
  have hel2 : zs.length = len2 := by simpa [ints] using hr2.1
  have gb := (Below.refl _ w).alloc (Nat.le_refl _) (.cells #[.int .i64 N, .slice A len cap] 24)
  have g0 : (w.alloc (.cells #[.int .i64 N, .slice A len cap] 24)).cell? ⟨w.heap.size, 0, none⟩ = some (.int .i64 N) := by go_simp
  have g1 : (w.alloc (.cells #[.int .i64 N, .slice A len cap] 24)).cell? ⟨w.heap.size, 1, none⟩ = some (.slice A len cap) := by go_simp
  have gs : (w.alloc (.cells #[.int .i64 N, .slice A len cap] 24)).heap.size = w.heap.size + 1 := by simp
  have HI := Lib.hid (inside_any k A2 len2 cap2 zs _ (hr2.later gb) hl2)
  have hv0 := Lib.hid (show rightB N k es zs = (decide (zs.length = N) && insideB k zs && es.all (difE zs)) from rfl)
  cases hlq : ((len2 : Int) != (N : Int))
  · obtain rfl : len2 = N := by simp at hlq; omega
    cases hin : insideB k zs
    · rw [hin] at HI
      have hv := Lib.hid (show rightB len2 k es zs = false by rw [hv0.out, hin]; simp)
      clear hr hr2 hel hel2 hin hok
      go_enter Tryd.func18, Tryd.ntmps18
      go_wp2_with fail
      refine HI.out.mono ?_
      rintro _ w1 ⟨rfl, rfl⟩
      go_wp2
      go_ret
      exact ⟨by rw [hv.out]; rfl, gb⟩
    · rw [hin] at HI
      have hv := Lib.hid (show rightB len2 k es zs = es.all (difE zs) by rw [hv0.out, hin, hel2]; simp)
      have hrH := Lib.hid hr; have hr2H := Lib.hid hr2; have helH := Lib.hid hel; have hel2H := Lib.hid hel2; have hokH := Lib.hid hok
      clear hr hr2 hel hel2 hin hok
      go_enter Tryd.func18, Tryd.ntmps18
      go_wp2_with fail
      refine HI.out.mono ?_
      rintro _ w1 ⟨rfl, hw1⟩
      subst hw1
      go_wp2
      generalize w.alloc (.cells #[.int .i64 len2, .slice A len cap] 24) = wg at *
      go_loopw [8, 23] (fun _ i wr => ∃ j : Nat, j ≤ len ∧ i = .int .i64 j ∧ (es.take j).all (difE zs) = true ∧ Below w.heap.size w wr) (fun _ i _ => len - (intOf i).toNat)
      case atStart => exact ⟨0, Nat.zero_le _, rfl, rfl, gb⟩
      case round =>
        clear gb g0 g1
        obtain ⟨j, hj, rfl, hall, hb⟩ := hrel
        have hallH := Lib.hid hall; clear hall
        by_cases hlt : j < len
        · obtain ⟨b, o, rfl, hab, hc1, hc2, hc3⟩ := (hrH.out.later hb).triple hlt
          obtain ⟨x, y, hx, hy, hxN, hyN, hne⟩ := edge_of hokH.out (k := j) (by rw [helH.out]; exact hlt)
          have hnext := Lib.hid (all_take_succ' (difE zs) (0, 0, 0) es j (by rw [helH.out]; exact hlt) hallH.out)
          have hstop := Lib.hid (all_of_getD' (difE zs) (0, 0, 0) es j (by rw [helH.out]; exact hlt))
          have hd := Lib.hid (show difE zs (es.getD j (0, 0, 0)) = (zs.getD x 0 != zs.getD y 0) by unfold difE; rw [hx, hy, Int.toNat_natCast, Int.toNat_natCast])
          rw [hx] at hc1
          rw [hy] at hc2
          generalize (es.getD j (0, 0, 0)).2.2 = c3 at *
          have hbe := hb.alloc hb.size (.cells #[.int .i64 x, .int .i64 y, .int .i64 c3] 60)
          obtain ⟨b2, o2, rfl, hab2, hz1⟩ := (hr2H.out.later hbe).int hxN
          obtain ⟨_, _, hA, hab3, hz2⟩ := (hr2H.out.later hbe).int hyN
          cases hA
          have e0 : (wr.alloc (.cells #[.int .i64 x, .int .i64 y, .int .i64 c3] 60)).cell? ⟨wr.heap.size, 0, none⟩ = some (.int .i64 x) := by go_simp
          have e1 : (wr.alloc (.cells #[.int .i64 x, .int .i64 y, .int .i64 c3] 60)).cell? ⟨wr.heap.size, 1, none⟩ = some (.int .i64 y) := by go_simp
          have esz : (wr.alloc (.cells #[.int .i64 x, .int .i64 y, .int .i64 c3] 60)).heap.size = wr.heap.size + 1 := by simp
          have hxi : (x : Int) < len2 := by omega
          have hyi : (y : Int) < len2 := by omega
          have hbeH := Lib.hid hbe
          generalize zs.getD x 0 = zx at *
          generalize zs.getD y 0 = zy at *
          clear hx hy hb hbe
          go_wp2
          generalize wr.alloc (.cells #[.int .i64 x, .int .i64 y, .int .i64 c3] 60) = we at *
          generalize wr.heap.size = sr at *
          by_cases heq : zx = zy
          · have hres := Lib.hid (show rightB len2 k es zs = false by rw [hv.out]; exact hstop.out (by rw [hd.out]; simpa using heq))
            subst heq
            go_quiet (fail)
            go_wp2
            go_ret
            exact ⟨by rw [hres.out]; rfl, below_drewN hbeH.out nq⟩
          · have hnx := Lib.hid (hnext.out (by rw [hd.out]; simpa using heq))
            have hnq : (zx == zy) = false := by simpa using heq
            clear heq
            go_quiet (fail)
            go_wp2
            go_roundw
            case rel => exact ⟨j + 1, by omega, by go_num, hnx.out, below_drewN hbeH.out nq⟩
            case measure => simp [intOf]; omega
        · have hres := Lib.hid (show rightB len2 k es zs = true by
            have := hallH.out
            rw [List.take_of_length_le (by rw [helH.out]; omega)] at this
            rw [hv.out, this])
          go_wp2
          go_ret
          exact ⟨by rw [hres.out]; rfl, hb⟩
  · have hv := Lib.hid (show rightB N k es zs = false by rw [hv0.out, show decide (zs.length = N) = false by simp at hlq ⊢; omega]; rfl)
    clear hr hr2 hel hel2 hok
    go_enter Tryd.func18, Tryd.ntmps18
    go_wp2
    go_ret
    exact ⟨by rw [hv.out]; rfl, gb⟩
end Go.Proofs.YtnpgnohnpbdblaaDoor
