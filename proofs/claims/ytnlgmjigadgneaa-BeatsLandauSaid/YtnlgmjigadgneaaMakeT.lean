/- beats.Make: the closure. -/
import Derived.Test.YtnlgmjigadgneaaLandauTs
import Derived.Test.YtnlgmjigadgneaaOnes
import Derived.Test.YtnlgmjigadgneaaRow
import Derived.Test.YtnlgmjigadgneaaBel
namespace Go.Proofs.Ytnlgmjigadgneaa
open Go.RowKit

theorem ones_below (x : Nat) (w : World) (hx : x < 1024) :
    Calls Try.prog 9 #[.int .u32 (x : Int)] w fun e w' => e = .returned (.int .i64 (popc 10 x : Nat)) ∧ Below w.heap.size w w' :=
  (ones_any x w hx).mono fun _ _ ⟨he, n, hn⟩ => ⟨he, hn ▸ below_drewN (Below.refl _ w) n⟩
theorem shr_bit1 (x i : Nat) (hx : x < 4294967296) : bits .and .u32 ((x : Int) / (2 : Int) ^ i) 1 = ((if x.testBit i then 1 else 0 : Nat) : Int) := by
  rw [show ((x : Int) / (2 : Int) ^ i) = ((x / 2 ^ i : Nat) : Int) by simp, show (1 : Int) = ((1 : Nat) : Int) from rfl, u32_and_nat _ _ (Nat.lt_of_le_of_lt (Nat.div_le_self _ _) hx) (by omega)]
  congr 1
  rw [Nat.and_one_is_mod, Nat.testBit_eq_decide_div_mod_eq]
  have := Nat.mod_two_eq_zero_or_one (x / 2 ^ i)
  rcases this with h | h <;> simp [h]
theorem now_step (T : List Nat) (i k : Nat) (hk : k < 10) (hx : T.getD k 0 < 4294967296) (x : Nat) (hxe : T.getD k 0 = x) :
    bits .or .u32 ((nowW T i k : Nat) : Int) (bits .xor .u32 (bits .and .u32 ((x : Int) / (2 : Int) ^ i) 1) 1 * 2 ^ k % 4294967296) = ((nowW T i (k + 1) : Nat) : Int) := by
  rw [hxe] at hx
  have hn := nowW_lt T i k
  have h10 : 2 ^ k < 2 ^ 10 := Nat.pow_lt_pow_right (by omega) hk
  rw [shr_bit1 x i hx, nowW, hxe]
  cases hb : x.testBit i
  · rw [show bits .xor .u32 (((if false = true then 1 else 0 : Nat)) : Int) 1 = 1 from by decide +kernel, Int.one_mul, two_pow_u32 k (by omega), u32_or_nat _ _ (by omega) (by omega)]
    simp
  · rw [show bits .xor .u32 (((if true = true then 1 else 0 : Nat)) : Int) 1 = 0 from by decide +kernel, Int.zero_mul, show (0 : Int) % 4294967296 = ((0 : Nat) : Int) from rfl, u32_or_nat _ _ (by omega) (by omega)]
    simp
def mkV (B bt bo : Nat) : Value := .func (.func 8) #[] #[.pointer (some ⟨B + 1, 0, none⟩), .pointer (some ⟨bt, 0, none⟩), .pointer (some ⟨B, 0, none⟩), .pointer (some ⟨bo, 0, none⟩)]
/-- the memory of Make: the scores' box at B, n at B + 1, the words at B + 2, their box at bt, the closure's at bo -/
structure LS (bt bo n cap : Nat) (A : Option Addr) (sc : List Int) (W0 : World) (W : World) (T : List Nat) : Prop where
  kn : W.cell? ⟨W0.heap.size + 1, 0, none⟩ = some (.int .i64 n)
  kt : W.cell? ⟨bt, 0, none⟩ = some (.slice (some ⟨W0.heap.size + 2, 0, none⟩) n n)
  ks : W.cell? ⟨W0.heap.size, 0, none⟩ = some (.slice A n cap)
  ko : W.cell? ⟨bo, 0, none⟩ = some (mkV W0.heap.size bt bo)
  ot : W.ownsRow W0.heap.size 27 1 (.slice (some ⟨W0.heap.size + 2, 0, none⟩) n n) n (wds T)
  hb : Below W0.heap.size W0 W
  tl : W0.heap.size + 2 < bt
  ol : W0.heap.size + 2 < bo
  sz : bt < W.heap.size
  so : bo < W.heap.size
section
variable {bt bo n cap : Nat} {A : Option Addr} {sc : List Int} {W0 W W' : World} {T : List Nat}
theorem LS.later (h : LS bt bo n cap A sc W0 W T) (hb : Below W.heap.size W W') : LS bt bo n cap A sc W0 W' T where
  kn := below_cell hb (by have := h.sz; have := h.so; have := h.tl; have := h.ol; omega) h.kn
  kt := below_cell hb (by have := h.sz; have := h.so; have := h.tl; have := h.ol; omega) h.kt
  ks := below_cell hb (by have := h.sz; have := h.so; have := h.tl; have := h.ol; omega) h.ks
  ko := below_cell hb (by have := h.sz; have := h.so; have := h.tl; have := h.ol; omega) h.ko
  ot := own_below h.ot hb
  hb := h.hb.trans (hb.mono (by have := h.sz; have := h.so; have := h.tl; have := h.ol; omega))
  tl := h.tl
  ol := h.ol
  sz := Nat.lt_of_lt_of_le h.sz hb.size
  so := Nat.lt_of_lt_of_le h.so hb.size
theorem wds_setW (T : List Nat) (i x : Nat) : (wds T).set i (.int .u32 (x : Int)) = wds (T.set i x) := by simp [wds, List.map_set]
theorem LS.set (h : LS bt bo n cap A sc W0 W T) (i x : Nat) : LS bt bo n cap A sc W0 (W.setCell ⟨W0.heap.size + 2, i, none⟩ (.int .u32 (x : Int))) (T.set i x) where
  kn := cell_set_other (by omega) h.kn
  kt := cell_set_other (by have := h.tl; omega) h.kt
  ks := cell_set_other (by omega) h.ks
  ko := cell_set_other (by have := h.ol; omega) h.ko
  ot := by rw [← wds_setW]; exact (h.ot.stored i _).1
  hb := h.hb.setCell (p := ⟨W0.heap.size + 2, i, none⟩) (by simp) _
  tl := h.tl
  ol := h.ol
  sz := by simpa using h.sz
  so := by simpa using h.so
end
def OnP (bt bo n cap : Nat) (A : Option Addr) (sc : List Int) (W0 : World) (i : Nat) (T : List Nat) (e : Ending) (W' : World) : Prop :=
  ∃ (r : Bool) (T' : List Nat), e = .returned (.bool r) ∧ LS bt bo n cap A sc W0 W' T' ∧ T'.length = n ∧ (∀ a, a < i → T'.getD a 0 = T.getD a 0) ∧ (r = true → TS n sc n T') ∧ (r = false → ∀ X : List Nat, (∀ a, a < i → X.getD a 0 = T.getD a 0) → ¬ TS n sc n X)
set_option maxHeartbeats 3200000 in
set_option maxRecDepth 100000 in
theorem makeOn_any (bt bo n cap : Nat) (A : Option Addr) (sc : List Int) (W0 : World) (h6 : n ≤ 6) (hr : Rd W0 A n 1 (ints .i64 sc)) :
    ∀ (d i : Nat) (T : List Nat) (W : World), i + d = n → LS bt bo n cap A sc W0 W T → T.length = n → TS n sc i T →
      Calls Try.prog 8 #[.int .i64 i, .pointer (some ⟨W0.heap.size + 1, 0, none⟩), .pointer (some ⟨bt, 0, none⟩), .pointer (some ⟨W0.heap.size, 0, none⟩), .pointer (some ⟨bo, 0, none⟩)] W (OnP bt bo n cap A sc W0 i T) := by
  intro d
  induction d with
  | zero =>
    intro i T W hi hS hT hTS
    obtain rfl : n = i := by omega
    have kn := hS.kn
    have hee : ((n : Int) == (n : Int)) = true := by simp
    have hfin := Lib.hid (show OnP bt bo n cap A sc W0 n T (.returned (.bool true)) W from ⟨true, T, rfl, hS, hT, fun _ _ => rfl, fun _ => hTS, fun h => by cases h⟩)
    clear hS hT hTS hr
    go_enter Try.func8, Try.ntmps8
    go_wp2
    go_ret
    exact hfin.out
  | succ d ih =>
    intro i T W hi hS hT hTS
    have hin : i < n := by omega
    have hine : ((i : Int) == (n : Int)) = false := by rw [beq_eq_false_iff_ne]; omega
    have hp64 : 2 ^ n ≤ 2 ^ 6 := Nat.pow_le_pow_right (by omega) h6
    have hpi : 2 ^ i ≤ 2 ^ n := Nat.pow_le_pow_right (by omega) (by omega)
    have h1i := Nat.two_pow_pos i
    obtain ⟨P, hP⟩ : ∃ P : Nat, P = 2 ^ i := ⟨_, rfl⟩
    obtain ⟨Q, hQ⟩ : ∃ Q : Nat, Q = 2 ^ n := ⟨_, rfl⟩
    have hone : (2 : Int) ^ i % 4294967296 = (P : Int) := by rw [two_pow_u32 i (by omega), hP]
    have hQone : (2 : Int) ^ n % 4294967296 = (Q : Int) := by rw [two_pow_u32 n (by omega), hQ]
    rw [← hP] at hpi h1i
    rw [← hQ] at hp64 hpi
    have hPH := Lib.hid hP; have hQH := Lib.hid hQ
    have hSH := Lib.hid hS; have hTH := Lib.hid hT; have hTSH := Lib.hid hTS; have ihH := Lib.hid ih; have hrH := Lib.hid hr
    have kn := hS.kn; have kt := hS.kt
    have hs0 := hS.sz; have hs0t := hS.tl
    clear hS hT hTS ih hr hP hQ
    go_enter Try.func8, Try.ntmps8
    go_wp2
    go_loopw [8, 9, 18] (fun nw _ q wr => ∃ k : Nat, k ≤ i ∧ q = .int .i64 k ∧ nw = .int .u32 (nowW T i k : Nat) ∧ W = wr) (fun _ _ q _ => i - (intOf q).toNat)
    case atStart => exact ⟨0, Nat.zero_le _, rfl, rfl, rfl⟩
    case round =>
      obtain ⟨k, hk, rfl, rfl, rfl⟩ := hrel
      by_cases hki : k < i
      · have hc := (hSH.out.ot.cellAt k (by omega)).trans (wds_get (by rw [hTH.out]; omega))
        have hx := hTSH.out.lt k hki
        obtain ⟨x, hxe⟩ : ∃ x, T.getD k 0 = x := ⟨_, rfl⟩
        have hst := Lib.hid (now_step T i k (by omega) (by rw [← hQH.out] at hx; omega) x hxe)
        rw [hxe] at hc
        clear hx hxe
        go_wp2
        go_roundw
        case rel => exact ⟨k + 1, by omega, by go_num, by rw [hst.out], by first | rfl | trivial⟩
        case measure => simp [intOf]; omega
      · obtain rfl : k = i := by omega
        obtain ⟨nw, hnw⟩ : ∃ nw, nowW T k k = nw := ⟨_, rfl⟩
        have hnwlt := nowW_lt T k k
        rw [← hPH.out, hnw] at hnwlt
        rw [hnw]
        have hnwH := Lib.hid hnw
        clear hnw kn kt hone
        go_wp2
        go_loopw [6, 10] (fun r q wr => ∃ (x : Nat) (T' : List Nat), x ≤ Q ∧ q = .int .u32 (x : Int) ∧ r = .bool false ∧ LS bt bo n cap A sc W0 wr T' ∧ T'.length = n ∧ (∀ a, a < k → T'.getD a 0 = T.getD a 0) ∧ ∀ X : List Nat, (∀ a, a < k → X.getD a 0 = T.getD a 0) → TS n sc n X → x ≤ X.getD k 0) (fun _ q _ => Q - (intOf q).toNat)
        case atStart => exact ⟨nw, T, by omega, rfl, rfl, hSH.out, hTH.out, fun _ _ => rfl, fun X hX hTX => by rw [← hnwH.out]; exact now_le (ts_word hin hTX hX).2.1⟩
        case round =>
          obtain ⟨x, T', hxQ, rfl, rfl, hS, hT, hag, hmin⟩ := hrel
          obtain ⟨w1, rfl⟩ : ∃ w1 : World, w1 = wr := ⟨_, rfl⟩
          have hSH' := Lib.hid hS; have hTH' := Lib.hid hT; have hagH := Lib.hid hag; have hminH := Lib.hid hmin
          have kn := hS.kn; have kt := hS.kt; have ks := hS.ks; have ko := hS.ko
          have hs1 := hS.sz; have hs1t := hS.tl; have hs1o := hS.ol; have hs1b := hS.so
          unfold mkV at ko
          by_cases hlt : x < Q
          · have hand : bits .and .u32 (x : Int) ((P : Int) - 1) = ((x &&& (P - 1) : Nat) : Int) := by rw [show ((P : Int) - 1) = ((P - 1 : Nat) : Int) by omega, u32_and_nat _ _ (by omega) (by omega)]
            have hsb := shr_bit1 x k (by omega)
            obtain ⟨b, o, rfl, hab, hcs⟩ := (hrH.out.later hS.hb).int hin
            have hO := Lib.hid (fun (p : BW w1) => ones_below x p.w' (by omega))
            have hnx := Lib.hid (show ¬ (x &&& (P - 1) = nw ∧ x.testBit k = false ∧ ((popc 10 x : Nat) : Int) = sc.getD k 0) → ∀ X : List Nat, (∀ a, a < k → X.getD a 0 = T.getD a 0) → TS n sc n X → x + 1 ≤ X.getD k 0 from fun hno X hX hTX => by
              have h1 := hminH.out X hX hTX
              refine Nat.lt_of_le_of_ne h1 fun e => hno ?_
              have h2 := ts_word hin hTX hX
              rw [← e, hnwH.out, ← hPH.out] at h2
              exact h2.2)
            have hyes := Lib.hid (show x &&& (P - 1) = nw ∧ x.testBit k = false ∧ ((popc 10 x : Nat) : Int) = sc.getD k 0 → TS n sc (k + 1) (T'.set k x) from fun ⟨h1, h2, h3⟩ => by
              have hTS' : TS n sc k T' := ⟨fun a ha => by rw [hagH.out a ha]; exact hTSH.out.lt a ha, fun a ha => by rw [hagH.out a ha]; exact hTSH.out.self a ha, fun a ha => by rw [hagH.out a ha]; exact hTSH.out.sum a ha, fun a b hab hb => by rw [hagH.out a (by omega), hagH.out b hb]; exact hTSH.out.one a b hab hb⟩
              refine ts_step hTH'.out hin hTS' (by rw [← hQH.out]; exact hlt) ?_ h2 h3
              rw [← hPH.out, h1, ← hnwH.out]
              exact (nowW_congr k k hagH.out).symm)
            have hk0 : (0 : Int) ≤ k := by omega
            have hkn : (k : Int) < n := by omega
            generalize sc.getD k 0 = z at *
            obtain ⟨pc, hpc⟩ : ∃ pc : Nat, popc 10 x = pc := ⟨_, rfl⟩
            rw [hpc] at hO hnx hyes
            generalize x &&& (P - 1) = xa at *
            have x0 := BW.cell (w := w1) kn; have x1 := BW.cell (w := w1) kt; have x2 := BW.cell (w := w1) ks; have x3 := BW.cell (w := w1) hcs
            have hltI : (x : Int) < Q := by omega
            clear hS hT hag hmin hpc
            by_cases h1 : xa = nw
            · have b1 : ((xa : Int) == (nw : Int)) = true := by rw [h1]; simp
              cases h2 : x.testBit k
              · rw [h2] at hsb
                have hsb0 : bits .and .u32 ((x : Int) / (2 : Int) ^ k) 1 = 0 := hsb
                by_cases h3 : (pc : Int) = z
                · have b3 : ((pc : Int) == z) = true := by rw [h3]; simp
                  have hTS2 := Lib.hid (hyes.out ⟨h1, h2, h3⟩)
                  have hxk : ∀ a, a < k → (T'.set k x).getD a 0 = T.getD a 0 := fun a ha => by
                    rw [← hagH.out a ha]
                    simp only [List.getD, List.getElem?_set, if_neg (show ¬ k = a by omega)]
                  have hxkH := Lib.hid hxk
                  have hxself := Lib.hid (show (T'.set k x).getD k 0 = x by simp [List.getD, hTH'.out, hin])
                  have hnx3 := Lib.hid (fun (hF : ∀ X : List Nat, (∀ a, a < k + 1 → X.getD a 0 = (T'.set k x).getD a 0) → ¬ TS n sc n X) => show ∀ X : List Nat, (∀ a, a < k → X.getD a 0 = T.getD a 0) → TS n sc n X → x + 1 ≤ X.getD k 0 from fun X hX hTX => by
                    have h1 := hminH.out X hX hTX
                    refine Nat.lt_of_le_of_ne h1 fun e => hF X (fun a ha => ?_) hTX
                    by_cases hak : a = k
                    · subst hak; rw [hxself.out, e]
                    · rw [hxkH.out a (by omega)]; exact hX a (by omega))
                  clear h1 h2 h3 hsb hnx hyes hxk
                  go_upto_region 13 with fail
                  refine wp_region_below (by kernel_rfl) (by kernel_rfl) ?_
                  repeat (go_big_quiet_step (first | rfl | (with_reducible refine Calls.bel (hO.out _))))
                  refine wpQuiet_nil ?_
                  rintro _ ⟨p, rfl⟩
                  have hS2 := Lib.hid (hSH'.out.later p.hb)
                  generalize p.w' = w2 at *
                  clear x0 x1 x2 x3 kn kt ks ko hO hcs
                  have hS3 := hS2.out.set k x
                  have kt := hS2.out.kt; have kf := hS2.out.ot.frozenAt k; have kc := (hS2.out.ot.cellAt k (by omega)).trans (wds_get (by rw [hTH'.out]; exact hin))
                  have ko3 := hS3.ko
                  unfold mkV at ko3
                  have hs2 := hS2.out.sz; have hs2b := hS2.out.so
                  have HI := Lib.hid (ihH.out (k + 1) (T'.set k x) _ (by omega) hS3 (by rw [List.length_set]; exact hTH'.out) hTS2.out)
                  generalize T'.getD k 0 = old at kc
                  clear hS3
                  go_wp2_with fail
                  refine HI.out.mono ?_
                  rintro _ w3 ⟨r, T3, rfl, hS4, hT4, hag4, hyes4, hno4⟩
                  have hS4H := Lib.hid hS4; have hT4H := Lib.hid hT4
                  have hag5 := Lib.hid (show ∀ a, a < k → T3.getD a 0 = T.getD a 0 from fun a ha => by rw [hag4 a (by omega), hxkH.out a ha])
                  cases r
                  · have hn3 := Lib.hid (hnx3.out (hno4 rfl))
                    clear hS4 hT4 hag4 hyes4 hno4 kt kf kc ko3 HI
                    go_wp2
                    go_roundw
                    case rel => exact ⟨x + 1, T3, by omega, by go_num, rfl, hS4H.out, hT4H.out, hag5.out, hn3.out⟩
                    case measure => simp [intOf]; omega
                  · have hfin := Lib.hid (show OnP bt bo n cap (some ⟨b, o, none⟩) sc W0 k T (.returned (.bool true)) w3 from ⟨true, T3, rfl, hS4, hT4, hag5.out, fun _ => hyes4 rfl, fun h => by cases h⟩)
                    clear hS4 hT4 hag4 hyes4 hno4 kt kf kc ko3 HI
                    go_wp2
                    go_ret
                    exact hfin.out
                · have b3 : ((pc : Int) == z) = false := by rw [beq_eq_false_iff_ne]; exact h3
                  have hn2 := Lib.hid (hnx.out (fun h => h3 h.2.2))
                  clear hnx hyes
                  go_upto_region 13 with fail
                  refine wp_region_below (by kernel_rfl) (by kernel_rfl) ?_
                  repeat (go_big_quiet_step (first | rfl | (with_reducible refine Calls.bel (hO.out _))))
                  refine wpQuiet_nil ?_
                  rintro _ ⟨p, rfl⟩
                  have hS2 := Lib.hid (hSH'.out.later p.hb)
                  generalize p.w' = w2 at *
                  clear x0 x1 x2 x3 kn kt ks ko hO hcs
                  go_wp2
                  go_roundw
                  case rel => exact ⟨x + 1, T', by omega, by go_num, rfl, hS2.out, hTH'.out, hagH.out, hn2.out⟩
                  case measure => simp [intOf]; omega
              · rw [h2] at hsb
                have hsb0 : bits .and .u32 ((x : Int) / (2 : Int) ^ k) 1 = 1 := hsb
                have hn2 := Lib.hid (hnx.out (fun h => by rw [h2] at h; cases h.2.1))
                clear hnx hyes
                go_upto_region 13 with fail
                refine wp_region_below (by kernel_rfl) (by kernel_rfl) ?_
                repeat (go_big_quiet_step (first | rfl | (with_reducible refine Calls.bel (hO.out _))))
                refine wpQuiet_nil ?_
                rintro _ ⟨p, rfl⟩
                have hS2 := Lib.hid (hSH'.out.later p.hb)
                generalize p.w' = w2 at *
                clear x0 x1 x2 x3 kn kt ks ko hO hcs
                go_wp2
                go_roundw
                case rel => exact ⟨x + 1, T', by omega, by go_num, rfl, hS2.out, hTH'.out, hagH.out, hn2.out⟩
                case measure => simp [intOf]; omega
            · have b1 : ((xa : Int) == (nw : Int)) = false := by rw [beq_eq_false_iff_ne]; omega
              have hn2 := Lib.hid (hnx.out (fun h => h1 h.1))
              clear hnx hyes
              go_upto_region 13 with fail
              refine wp_region_below (by kernel_rfl) (by kernel_rfl) ?_
              repeat (go_big_quiet_step (first | rfl | (with_reducible refine Calls.bel (hO.out _))))
              refine wpQuiet_nil ?_
              rintro _ ⟨p, rfl⟩
              have hS2 := Lib.hid (hSH'.out.later p.hb)
              generalize p.w' = w2 at *
              clear x0 x1 x2 x3 kn kt ks ko hO hcs
              go_wp2
              go_roundw
              case rel => exact ⟨x + 1, T', by omega, by go_num, rfl, hS2.out, hTH'.out, hagH.out, hn2.out⟩
              case measure => simp [intOf]; omega
          · obtain rfl : x = Q := by omega
            have hfin := Lib.hid (show OnP bt bo n cap A sc W0 k T (.returned (.bool false)) w1 from ⟨false, T', rfl, hS, hT, hag, fun h => by (cases h), fun _ X hX hTX => by
              have h1 := hminH.out X hX hTX
              have h2 := (ts_word hin hTX hX).1
              rw [← hQH.out] at h2
              omega⟩)
            clear hS hT hag hmin
            go_wp2
            go_ret
            exact hfin.out
end Go.Proofs.Ytnlgmjigadgneaa
