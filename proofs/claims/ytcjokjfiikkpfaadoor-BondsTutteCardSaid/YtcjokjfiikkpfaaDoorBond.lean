/- teamsterkeep.bond: is it one? -/
import Derived.Test.YtcjokjfiikkpfaaDoorOnce
import Derived.Test.YtcjokjfiikkpfaaDoorInside
import Derived.Test.YtcjokjfiikkpfaaDoorRefNearA
import Derived.Test.YtcjokjfiikkpfaaDoorBlk
import Derived.Deep.RegionLaw
namespace Go.Proofs.YtcjokjfiikkpfaaDoor
open Go.RowKit
attribute [local go_sem] Oper.semAt_some

theorem tiIb : TI Tryd.prog 25 3 (.int .i64 0) 1 8 := TI.mk' Tryd.underlying25 (by kernel_rfl) rfl (by decide)
def incAt (n : Int) (zs : List Int) (k : Nat) : Bool := inB n (zs.getD k 0) && (k == 0 || decide (zs.getD (k - 1) 0 < zs.getD k 0))
def incB (n : Int) (zs : List Int) : Bool := (List.range zs.length).all (incAt n zs)
def metI (es : List E) (zs : List Int) : List Int := zs.flatMap fun i => [(es.getD i.toNat e0).1, (es.getD i.toNat e0).2.1]
def bondB (es : List E) (zs : List Int) : Bool := incB es.length zs && onceB (metI es zs)
theorem metI_snoc (es : List E) (zs : List Int) (z : Int) : metI es (zs ++ [z]) = metI es zs ++ [(es.getD z.toNat e0).1, (es.getD z.toNat e0).2.1] := by simp [metI]
theorem metI_len (es : List E) (zs : List Int) : (metI es zs).length = zs.length * 2 := by
  induction zs with
  | nil => rfl
  | cons z zs ih => unfold metI at *; rw [List.flatMap_cons, List.length_append, ih]; simp; omega
theorem incB_yes {n : Int} {zs : List Int} (h : ∀ k, k < zs.length → incAt n zs k = true) : incB n zs = true := by
  unfold incB; rw [List.all_eq_true]; intro k hk; exact h k (by simpa using hk)
theorem incB_no {n : Int} {zs : List Int} {k : Nat} (hk : k < zs.length) (h : incAt n zs k = false) : incB n zs = false := by
  unfold incB; rw [List.all_eq_false]; exact ⟨k, by simpa using hk, by rw [h]; simp⟩
theorem inc_ge {n : Int} {zs : List Int} : ∀ k : Nat, (∀ j, j < k + 1 → incAt n zs j = true) → (k : Int) ≤ zs.getD k 0
  | 0, h => by
    have := h 0 (by omega)
    unfold incAt inB at this
    simp at this
    have h2 := this.1
    simp; omega
  | k + 1, h => by
    have h1 := inc_ge k (fun j hj => h j (by omega))
    have := h (k + 1) (by omega)
    unfold incAt at this
    simp at this
    have h2 := this.2
    simp at h1 ⊢
    omega
theorem inc_le {n : Nat} {zs : List Int} {k : Nat} (h : ∀ j, j < k → incAt n zs j = true) : k ≤ n := by
  cases k with
  | zero => omega
  | succ k =>
    have h1 := inc_ge k h
    have h2 := h k (by omega)
    unfold incAt inB at h2
    rw [Bool.and_eq_true, Bool.and_eq_true, decide_eq_true_eq, decide_eq_true_eq] at h2
    omega
set_option maxHeartbeats 3200000 in
set_option maxRecDepth 100000 in
theorem bond_any (N : Int) (A : Option Addr) (len cap : Nat) (es : List E) (Az : Option Addr) (lz cz : Nat) (zs : List Int) (w : World) (hr : Rd w A len 3 (ps3 .i64 .i64 .i64 es)) (hl : len ≤ 45) (hz : Rd w Az lz 1 (ints .i64 zs)) (hlz : lz ≤ 9223372036854775807) :
    Calls Tryd.prog 7 #[.agg #[.int .i64 N, .slice A len cap], .slice Az lz cz] w fun e w' => e = .returned (.bool (bondB es zs)) ∧ Below w.heap.size w w' := by
  have hel := ps3_len hr
  have hzl : zs.length = lz := by simpa [ints] using hz.1
  have gb := (Below.refl _ w).alloc (Nat.le_refl _) (.cells #[.int .i64 N, .slice A len cap] 24)
  have bG := Blk.new w 24 #[.int .i64 N, .slice A len cap]
  have hsz : (w.alloc (.cells #[.int .i64 N, .slice A len cap] 24)).heap.size = w.heap.size + 1 := by simp
  have gbH := Lib.hid gb; have bGH := Lib.hid bG; have hrH := Lib.hid hr; have hzH := Lib.hid hz; have helH := Lib.hid hel; have hzlH := Lib.hid hzl
  clear hr hz gb bG hel hzl
  go_enter Tryd.func7, Tryd.ntmps7
  go_wp2
  generalize w.alloc (.cells #[.int .i64 N, .slice A len cap] 24) = w0 at *
  go_loopw [5, 10] (fun v kv wr => ∃ k : Nat, k ≤ lz ∧ kv = .int .i64 k ∧ (∀ j, j < k → incAt len zs j = true) ∧ wr.ownsRow (w.heap.size + 1) 3 1 v (k * 2) (ints .i64 (metI es (zs.take k))) ∧ Blk wr w.heap.size 24 #[.int .i64 N, .slice A len cap] ∧ Below w.heap.size w wr) (fun _ kv _ => lz - (intOf kv).toNat)
  case atStart => exact ⟨0, by omega, rfl, fun j hj => absurd hj (by omega), World.ownsRow_nil _ _ _ _, bGH.out, gbH.out⟩
  case round =>
    obtain ⟨k, hk, rfl, hinc, hown, hbg, hb⟩ := hrel
    obtain ⟨w2, rfl⟩ : ∃ w2 : World, w2 = wr := ⟨_, rfl⟩
    have hs2 := hb.size
    have hbl := hbg.lt
    clear gbH bGH
    by_cases hkl : k < lz
    · have hkl' : (k : Int) < lz := by omega
      have hk45 := inc_le hinc
      have hkz : k < zs.length := by rw [hzlH.out]; exact hkl
      obtain ⟨bz, oz, rfl, _, cz0⟩ := (hzH.out.later hb).int hkl
      have hg1 := hbg.cell (j := 1) (v := .slice A len cap) rfl
      have hat : incAt len zs k = (inB len (zs.getD k 0) && (k == 0 || decide (zs.getD (k - 1) 0 < zs.getD k 0))) := rfl
      have hprev := fun (h0 : 0 < k) => ((hzH.out.later hb).int (show k - 1 < lz by omega))
      have htk := take_succ_getD' zs 0 k hkz
      have hms := metI_snoc es (zs.take k) (zs.getD k 0)
      rw [← htk] at hms
      have hnoH := Lib.hid (incB_no (n := (len : Int)) hkz)
      have HI := Lib.hid (inside_any len (some ⟨w2.heap.size, 0, none⟩) 1 1 [zs.getD k 0] (w2.alloc (.cells #[.int .i64 (zs.getD k 0)] 3)) (by simpa [ints] using rd_new1 w2 (.int .i64 (zs.getD k 0)) 3) (by omega))
      have hin1 : insideB len [zs.getD k 0] = inB len (zs.getD k 0) := by simp [insideB]
      rw [hin1] at HI
      have hincH := Lib.hid hinc; have hownH := Lib.hid hown; have hbgH := Lib.hid hbg; have hbH := Lib.hid hb; have hmsH := Lib.hid hms; have hatH := Lib.hid hat; have hprevH := Lib.hid hprev
      clear hinc hown hbg hb hms hat hprev htk hkz hin1
      obtain ⟨z, hz⟩ : ∃ z, zs.getD k 0 = z := ⟨_, rfl⟩
      rw [hz] at cz0 HI hmsH hatH
      have hzeq := Lib.hid hz
      clear hz
      have hbA := Lib.hid (hbH.out.alloc hbH.out.size (.cells #[.int .i64 z] 3))
      by_cases hin : inB len z = true
      · rw [hin] at HI
        have hz0 : 0 ≤ z ∧ z < len := by
          unfold inB at hin; simpa using hin
        obtain ⟨i, rfl⟩ : ∃ i : Nat, z = i := ⟨z.toNat, by omega⟩
        have hi : i < len := by omega
        have hi' : (i : Int) < len := by omega
        have hi0 : (0 : Int) ≤ i := by omega
        obtain ⟨x, hx⟩ : ∃ x, (es.getD i e0).1 = x := ⟨_, rfl⟩
        obtain ⟨y, hy⟩ : ∃ y, (es.getD i e0).2.1 = y := ⟨_, rfl⟩
        simp only [Int.toNat_natCast, hx, hy] at hmsH
        obtain ⟨bb, oo, rfl, hab, hc1, hc2, _⟩ := (hrH.out.later hbA.out).triple hi
        rw [show (es.getD i (0, 0, 0)).1 = x from hx] at hc1
        rw [show (es.getD i (0, 0, 0)).2.1 = y from hy] at hc2
        clear hx hy
        have hbgA := hbgH.out.alloc (.cells #[.int .i64 (i : Int)] 3)
        have hownA := hownH.out.alloc (.cells #[.int .i64 (i : Int)] 3)
        have g1A := hbgA.cell (j := 1) (v := .slice (some ⟨bb, oo, none⟩) len cap) rfl
        have hsA : (w2.alloc (.cells #[.int .i64 (i : Int)] 3)).heap.size = w2.heap.size + 1 := by simp
        have hownAH := Lib.hid hownA; have hbgAH := Lib.hid hbgA
        clear hownA hbgA hin hz0
        by_cases hbad : (k == 0 || decide (zs.getD (k - 1) 0 < (i : Int))) = true
        · have hincN := Lib.hid (show ∀ j, j < k + 1 → incAt len zs j = true from fun j hj => by
            by_cases e : j = k
            · subst e; rw [hatH.out, hbad]; simp [inB]; omega
            · exact hincH.out j (by omega))
          go_wp2_with fail
          refine HI.out.mono ?_
          rintro _ _ ⟨rfl, rfl⟩
          clear HI cz0
          cases k with
          | zero =>
            go_upto_region 7 with fail
            generalize w2.alloc (.cells #[.int .i64 (i : Int)] 3) = wA at *
            have hrdA := Lib.hid ((show Rd (wA.alloc (.cells #[.int .i64 x, .int .i64 y] 3)) (some ⟨wA.heap.size, 0, none⟩) 2 1 (ints .i64 [x, y]) from rd_lit wA [.int .i64 x, .int .i64 y] 3 2 1 rfl).drew)
            have hsB : w2.heap.size + 1 ≤ wA.heap.size := Nat.le_of_eq hsA.symm
            clear hab hsA
            go_region_law (
              refine step_app (s := .tmp 35) (x := .tmp 48) _ tiIb (own_drew (hownAH.out.alloc _)) hrdA.out (ints_one (l := [x, y])) (by omega) (by omega) (by simp; omega) rfl rfl rfl rfl ?_
              intro v' w4 hown4 hg4 _
              have hbg4 := (show Blk (wA.alloc (.cells #[.int .i64 x, .int .i64 y] 3)).drew w.heap.size _ _ from hbgAH.out.alloc (.cells #[.int .i64 x, .int .i64 y] 3)).kept hg4 (fun e => by have := (hownAH.out.lt _ e.symm).1; omega)
              have hb4 := (hbA.out.alloc hbA.out.size (.cells #[.int .i64 x, .int .i64 y] 3)).drew.grown hg4 (by have := hbA.out.size; simp; omega) (fun g hg => by have := (hownAH.out.lt _ hg).1; omega)
              have hfin := Lib.hid (show v'.ownBlock = v'.ownBlock ∧ w4.ownsRow (w.heap.size + 1) 3 1 v' ((0 + 1) * 2) (ints .i64 (metI es (zs.take (0 + 1)))) from ⟨rfl, by
                rw [hmsH.out, show (0 + 1) * 2 = 0 * 2 + 2 by omega]
                simpa [ints] using hown4⟩)
              have hbg4H := Lib.hid hbg4; have hb4H := Lib.hid hb4
              clear hown4 hg4 hbg4 hb4)
            all_goals
              go_wp2
              go_roundw
              case rel => exact ⟨0 + 1, by omega, by go_num, hincN.out, hfin.out.2, hbg4H.out, hb4H.out⟩
              case measure => simp [intOf]; omega
          | succ k' =>
            obtain ⟨_, _, hA, _, cz1⟩ := hprevH.out (by omega)
            injection hA with hA; injection hA with hA1 hA2 hA3
            subst hA1; subst hA2
            rw [show k' + 1 - 1 = k' by omega] at cz1
            have hzb : zs.getD k' 0 < (i : Int) := by simpa using hbad
            obtain ⟨z', hz'⟩ : ∃ z', zs.getD k' 0 = z' := ⟨_, rfl⟩
            rw [hz'] at cz1 hzb
            clear hz'
            have cz2 : (w2.alloc (.cells #[.int .i64 (i : Int)] 3)).cell? ⟨bz, oz + k', none⟩ = some (.int .i64 z') := alloc_cell (World.block_lt_of_cell? w2 _ cz1) cz1 _
            have hk'l : (k' : Int) < lz := by omega
            go_upto_region 7 with fail
            generalize w2.alloc (.cells #[.int .i64 (i : Int)] 3) = wA at *
            have hrdA := Lib.hid ((show Rd (wA.alloc (.cells #[.int .i64 x, .int .i64 y] 3)) (some ⟨wA.heap.size, 0, none⟩) 2 1 (ints .i64 [x, y]) from rd_lit wA [.int .i64 x, .int .i64 y] 3 2 1 rfl).drew)
            have hsB : w2.heap.size + 1 ≤ wA.heap.size := Nat.le_of_eq hsA.symm
            clear hab hsA
            go_region_law (
              refine step_app (s := .tmp 35) (x := .tmp 48) _ tiIb (own_drew (hownAH.out.alloc _)) hrdA.out (ints_one (l := [x, y])) (by omega) (by omega) (by simp; omega) rfl rfl rfl rfl ?_
              intro v' w4 hown4 hg4 _
              have hbg4 := (show Blk (wA.alloc (.cells #[.int .i64 x, .int .i64 y] 3)).drew w.heap.size _ _ from hbgAH.out.alloc (.cells #[.int .i64 x, .int .i64 y] 3)).kept hg4 (fun e => by have := (hownAH.out.lt _ e.symm).1; omega)
              have hb4 := (hbA.out.alloc hbA.out.size (.cells #[.int .i64 x, .int .i64 y] 3)).drew.grown hg4 (by have := hbA.out.size; simp; omega) (fun g hg => by have := (hownAH.out.lt _ hg).1; omega)
              have hfin := Lib.hid (show v'.ownBlock = v'.ownBlock ∧ w4.ownsRow (w.heap.size + 1) 3 1 v' (((k' + 1) + 1) * 2) (ints .i64 (metI es (zs.take ((k' + 1) + 1)))) from ⟨rfl, by
                rw [hmsH.out, show ((k' + 1) + 1) * 2 = (k' + 1) * 2 + 2 by omega]
                simpa [ints] using hown4⟩)
              have hbg4H := Lib.hid hbg4; have hb4H := Lib.hid hb4
              clear hown4 hg4 hbg4 hb4)
            all_goals
              go_wp2
              go_roundw
              case rel => exact ⟨(k' + 1) + 1, by omega, by go_num, hincN.out, hfin.out.2, hbg4H.out, hb4H.out⟩
              case measure => simp [intOf]; omega
        · rw [Bool.not_eq_true] at hbad
          cases k with
          | zero => simp at hbad
          | succ k' =>
            obtain ⟨_, _, hA, _, cz1⟩ := hprevH.out (by omega)
            injection hA with hA; injection hA with hA1 hA2 hA3
            subst hA1; subst hA2
            rw [show k' + 1 - 1 = k' by omega] at cz1
            have hres := hnoH.out (by rw [hatH.out, hbad]; simp)
            have hbB := Lib.hid (show bondB es zs = false by unfold bondB; rw [helH.out, hres]; rfl)
            have hzb : (i : Int) ≤ zs.getD k' 0 := by simpa using hbad
            obtain ⟨z', hz'⟩ : ∃ z', zs.getD k' 0 = z' := ⟨_, rfl⟩
            rw [hz'] at cz1 hzb
            clear hz' hres hnoH hatH
            have cz2 : (w2.alloc (.cells #[.int .i64 (i : Int)] 3)).cell? ⟨bz, oz + k', none⟩ = some (.int .i64 z') := alloc_cell (World.block_lt_of_cell? w2 _ cz1) cz1 _
            have hk'l : (k' : Int) < lz := by omega
            go_wp2_with fail
            refine HI.out.mono ?_
            rintro _ _ ⟨rfl, rfl⟩
            go_wp2
            go_ret
            exact ⟨by rw [hbB.out]; rfl, hbA.out⟩
      · rw [Bool.not_eq_true] at hin
        rw [hin] at HI
        have hres := hnoH.out (by rw [hatH.out, hin]; rfl)
        have hbB := Lib.hid (show bondB es zs = false by unfold bondB; rw [helH.out, hres]; rfl)
        clear hres hnoH hatH
        go_wp2_with fail
        refine HI.out.mono ?_
        rintro _ _ ⟨rfl, rfl⟩
        go_wp2
        go_ret
        exact ⟨by rw [hbB.out]; rfl, hbA.out⟩
    · obtain rfl : k = lz := by omega
      have hic : incB (len : Int) zs = true := incB_yes (by rw [hzlH.out]; exact hinc)
      have hk45 := inc_le hinc
      rw [List.take_of_length_le (by rw [hzlH.out]; exact Nat.le_refl _)] at hown
      obtain ⟨Am, cm, rfl⟩ := own_slice hown
      have hcm : k * 2 ≤ cm := by
        rcases hown.2 with ⟨e, h⟩ | ⟨g, c, cur, e, _, _, h, _⟩
        · injection e with _ _ e; omega
        · injection e with _ _ e; omega
      have HO := Lib.hid (once_any Am (k * 2) cm (metI es zs) w2 (Rd.of_own hown) (by omega) hcm)
      have hbB := Lib.hid (show bondB es zs = onceB (metI es zs) by unfold bondB; rw [helH.out, hic]; rfl)
      have hbH := Lib.hid hb
      clear hown hb hbg hinc hic
      go_wp2_with fail
      refine HO.out.mono ?_
      rintro _ _ ⟨rfl, rfl⟩
      go_wp2
      go_ret
      exact ⟨by rw [hbB.out]; rfl, hbH.out⟩
end Go.Proofs.YtcjokjfiikkpfaaDoor
