/- NewsGrows, NewsBack: the contracts joined. -/
import Derived.Test.YtmcijljadcfpmaaLaw
namespace Go.Proofs.Ytmcijljadcfpmaa
open Go.RowKit

theorem pairs_of {w : World} {A : Option Addr} {len : Nat} {cs : List (Int × Int)} (h : Rd w A len 2 (ps2 .i64 .i64 cs)) : Pairs w A len cs :=
  ⟨by have := h.1; rw [ps2_length] at this; omega, fun _ hk => h.pair hk⟩
theorem ps2_len {w : World} {A : Option Addr} {len : Nat} {cs : List (Int × Int)} (h : Rd w A len 2 (ps2 .i64 .i64 cs)) : cs.length = len := (pairs_of h).1

def KRes (B : Nat) (w : World) (n : Int) (cs : List (Int × Int)) (v : Value) : Prop :=
  if chk n cs = 0 then w.ownsRow B 30 1 v n.toNat ((know n.toNat cs).map wd) else v = .slice none 0 0
def KPost (w : World) (n : Int) (cs : List (Int × Int)) (e : Ending) (w' : World) : Prop :=
  ∃ v, e = .returned (.tuple #[v, .int .i64 (chk n cs)]) ∧ KRes w.heap.size w' n cs v ∧ Below w.heap.size w w'
theorem KRes.base {B B' : Nat} {w : World} {n : Int} {cs : List (Int × Int)} {v : Value} (hB : B' ≤ B) (h : KRes B w n cs v) : KRes B' w n cs v := by
  unfold KRes at h ⊢
  split
  · rename_i hc; rw [if_pos hc] at h; exact own_base hB h
  · rename_i hc; rw [if_neg hc] at h; exact h
theorem large_false {n : Int} {len : Nat} (h : large n len = false) : 1 ≤ n ∧ n ≤ 8 ∧ len ≤ 64 := by simp [large] at h; omega
theorem know_any (n : Int) (A : Option Addr) (len cap : Nat) (cs : List (Int × Int)) (w : World) (hr : Rd w A len 2 (ps2 .i64 .i64 cs)) (hlen : len ≤ 9223372036854775807) :
    Calls Try.prog 6 #[.int .i64 n, .slice A len cap] w (KPost w n cs) := by
  have hp := pairs_of hr
  cases hL : large n len
  · obtain ⟨h1, h2, h3⟩ := large_false hL
    obtain ⟨m, rfl⟩ := Int.eq_ofNat_of_zero_le (show 0 ≤ n by omega)
    by_cases hc : chk m cs = 0
    · refine (know_ok m A len cap cs w hp (by omega) (by omega) h3 hc).mono ?_
      rintro e w' ⟨v, rfl, ho, hb⟩
      exact ⟨v, by rw [hc], by rw [KRes, if_pos hc]; exact ho, hb⟩
    · refine (know_bad m A len cap cs w hp (by omega) (by omega) h3 hc).mono ?_
      rintro e w' ⟨rfl, hb⟩
      exact ⟨_, rfl, by rw [KRes, if_neg hc], hb⟩
  · have hc : chk n cs = 1 := by simp [chk, hp.1, hL]
    refine (know_large n A len cap w hlen hL).mono ?_
    rintro e w' ⟨rfl, hb⟩
    exact ⟨_, by rw [hc], by rw [KRes, if_neg (by omega)], hb⟩
theorem callsCheck_any (n : Int) (A : Option Addr) (len cap : Nat) (cs : List (Int × Int)) (w : World) (hr : Rd w A len 2 (ps2 .i64 .i64 cs)) (hlen : len ≤ 9223372036854775807) :
    Calls Try.prog 7 #[.int .i64 n, .slice A len cap] w fun e w' => e = .returned (.int .i64 (chk n cs)) ∧ Below w.heap.size w w' := by
  have hp := pairs_of hr
  cases hL : large n len
  · obtain ⟨h1, h2, h3⟩ := large_false hL
    obtain ⟨m, rfl⟩ := Int.eq_ofNat_of_zero_le (show 0 ≤ n by omega)
    exact callsCheck_small m A len cap cs w hp (by omega) (by omega) h3
  · have hc : chk n cs = 1 := by simp [chk, hp.1, hL]
    rw [hc]
    exact callsCheck_large n A len cap w hlen hL

theorem ti22 : TI Try.prog 22 24 (.agg #[.int .i64 0, .int .i64 0]) 2 16 := TI.mk' Try.underlying22 (by kernel_rfl) rfl (by decide)

set_option maxRecDepth 100000 in
set_option maxHeartbeats 800000 in
theorem grows_any (n : Int) (A : Option Addr) (len cap : Nat) (cs : List (Int × Int)) (a b : Int) (w : World) (hr : Rd w A len 2 (ps2 .i64 .i64 cs)) (hlen : len * 16 ≤ 140737488351232) :
    Calls Try.prog 3 #[.int .i64 n, .slice A len cap, .agg #[.int .i64 a, .int .i64 b]] w fun e w' => e = .returned (.bool true) ∧ Below w.heap.size w w' := by
  have hrH := Lib.hid hr; clear hr
  go_enter Try.func3, Try.ntmps3
  go_wp2_with fail
  refine (know_any n A len cap cs _ (hrH.out.later ((Below.refl _ _).alloc (Nat.le_refl _) _)) (by omega)).mono ?_
  rintro e w1 ⟨v1, rfl, hk1, hb1⟩
  have hx0 : w1.cell? ⟨w.heap.size, 0, none⟩ = some (.int .i64 a) := below_cell hb1 (by simp) (by go_simp)
  have hx1 : w1.cell? ⟨w.heap.size, 1, none⟩ = some (.int .i64 b) := below_cell hb1 (by simp) (by go_simp)
  have hS1 : w.heap.size < w1.heap.size := by have := hb1.size; simp at this; omega
  have hbw1 : Below w.heap.size w w1 := ((Below.refl _ _).alloc (Nat.le_refl _) _).trans (hb1.mono (by simp))
  have hr1 := Lib.hid (hrH.out.later hbw1)
  clear hb1
  have r0 := Below.refl w1.heap.size w1
  have c1 := r0.alloc (Nat.le_refl _) (.cells #[] 24)
  have c2 := c1.alloc c1.size (Obj.cells #[Value.int IntKind.i64 a, Value.int IntKind.i64 b] 24)
  have c3 := r0.alloc (Nat.le_refl _) (Obj.cells #[Value.int IntKind.i64 a, Value.int IntKind.i64 b] 24)
  have c4 := c3.alloc c3.size (.cells #[] 24)
  have own1 := World.ownsRow_lit (base := w1.heap.size) (e := 24) (size := 2) w1 #[] 0 (Nat.le_refl _) (Nat.zero_le _) rfl
  have own2 := own1.alloc (Obj.cells #[Value.int IntKind.i64 a, Value.int IntKind.i64 b] 24)
  have own3 := World.ownsRow_lit (base := w1.heap.size) (e := 24) (size := 2) (w1.alloc (Obj.cells #[Value.int IntKind.i64 a, Value.int IntKind.i64 b] 24)) #[] 0 c3.size (Nat.zero_le _) rfl
  rw [World.size_alloc] at own3
  have ab2 : Rd ((w1.alloc (.cells #[] 24)).alloc (Obj.cells #[Value.int IntKind.i64 a, Value.int IntKind.i64 b] 24)) (some ⟨w1.heap.size + 1, 0, none⟩) 1 2 [Value.int IntKind.i64 a, Value.int IntKind.i64 b] := by simpa using rd_new2 (w1.alloc (.cells #[] 24)) (.int .i64 a) (.int .i64 b) 24
  have ab3 := (rd_new2 w1 (.int .i64 a) (.int .i64 b) 24).alloc (.cells #[] 24)
  go_upto_region 2 with fail
  go_cut [9, 10] (fun v2 e2 wx => e2 = .int .i64 (chk n (cs ++ [(a, b)])) ∧ KRes w1.heap.size wx n (cs ++ [(a, b)]) v2 ∧ Below w1.heap.size w1 wx)
  case first =>
    go_region_held3 (fun w' => w'.cell? ⟨w.heap.size, 0, none⟩ = some (.int .i64 a) ∧ w'.cell? ⟨w.heap.size, 1, none⟩ = some (.int .i64 b)) (first | go_keep | exact ⟨below_cell bC hS1 hx0, below_cell bC hS1 hx1⟩ | exact ⟨below_cell bB hS1 hx0, below_cell bB hS1 hx1⟩ | exact ⟨below_cell bA hS1 hx0, below_cell bA hS1 hx1⟩) ((first
      | (refine step_app (s := .tmp 22) (x := .tmp 23) _ ti22 (own_drew own1) (hr1.out.later (Below.drew c1)) ps2_one (by omega) (by omega) c1.size rfl rfl rfl rfl ?_
         intro vA wA ownA gA atA
         have bA : Below w1.heap.size w1 wA := (Below.drew c1).grown gA c1.size (fun g hg => ((own_drew own1).lt g hg).1)
         clear gA)
      | (refine step_app (s := .tmp 22) (x := .tmp 23) _ ti22 (own_drew own2) (hr1.out.later (Below.drew c2)) ps2_one (by omega) (by omega) c2.size rfl rfl rfl rfl ?_
         intro vA wA ownA gA atA
         have bA : Below w1.heap.size w1 wA := (Below.drew c2).grown gA c2.size (fun g hg => ((own_drew own2).lt g hg).1)
         have rAB := ab2.drew.grown gA (by intro b o h; simp at h; simp [Value.ownBlock]; omega)
         clear gA)
      | (refine step_app (s := .tmp 22) (x := .tmp 23) _ ti22 (own_drew own3) (hr1.out.later (Below.drew c4)) ps2_one (by omega) (by omega) c4.size rfl rfl rfl rfl ?_
         intro vA wA ownA gA atA
         have bA : Below w1.heap.size w1 wA := (Below.drew c4).grown gA c4.size (fun g hg => ((own_drew own3).lt g hg).1)
         have rAB := ab3.drew.grown gA (by intro b o h; simp at h; simp [Value.ownBlock]; omega)
         clear gA)
      | (refine step_app (s := .tmp 24) (x := .tmp 26) _ ti22 (ownA.alloc _) (rd_new2 wA (.int .i64 a) (.int .i64 b) 24) (ps2_one (l := [(a, b)])) (by omega) (by omega) (bA.alloc bA.size _).size rfl rfl rfl rfl ?_
         intro vB wB ownB gB atB
         have bB : Below w1.heap.size w1 wB := (bA.alloc bA.size _).grown gB (bA.alloc bA.size _).size (fun g hg => (ownA.lt g hg).1)
         simp only [Nat.zero_add] at ownB
         obtain ⟨gb, cB, rfl, _, _⟩ := ownB.form (by omega)
         have rB := Rd.of_own ownB
         rw [show [] ++ ps2 IntKind.i64 IntKind.i64 cs ++ [Value.int IntKind.i64 a, Value.int IntKind.i64 b] = ps2 .i64 .i64 (cs ++ [(a, b)]) by simp [ps2]] at rB
         clear gB atA atB)
      | (refine step_app (s := .tmp 24) (x := .tmp 26) _ ti22 ownA rAB (ps2_one (l := [(a, b)])) (by omega) (by omega) bA.size rfl rfl rfl rfl ?_
         intro vB wB ownB gB atB
         have bB : Below w1.heap.size w1 wB := bA.grown gB bA.size (fun g hg => (ownA.lt g hg).1)
         simp only [Nat.zero_add] at ownB
         obtain ⟨gb, cB, rfl, _, _⟩ := ownB.form (by omega)
         have rB := Rd.of_own ownB
         rw [show [] ++ ps2 IntKind.i64 IntKind.i64 cs ++ [Value.int IntKind.i64 a, Value.int IntKind.i64 b] = ps2 .i64 .i64 (cs ++ [(a, b)]) by simp [ps2]] at rB
         clear gB atA atB)
      | (go_at_call 6
         refine (know_any n (some ⟨gb, 0, none⟩) (len + 1) cB (cs ++ [(a, b)]) _ rB (by omega)).mono ?_
         rintro e wC ⟨v2, rfl, hk2, hbC⟩
         have bC := bB.trans (hbC.mono bB.size)
         have hk3 := KRes.base bB.size hk2)
      | fail))
    all_goals (go_wp2_with fail; go_meet; exact ⟨rfl, hk3, bC⟩)
  case rest =>
    obtain ⟨rfl, hk2, hbx⟩ := hcut
    clear c1 c2 c3 c4 own1 own2 own3 ab2 ab3 r0
    have hrx := Lib.hid ((callsCheck_any n A len cap cs wc (hr1.out.later hbx) (by omega)))
    have hbwc := hbw1.trans (hbx.mono (by omega))
    go_wp2_with fail
    refine hrx.out.mono ?_
    rintro e wy ⟨rfl, hby⟩
    have hbwy := hbwc.trans (hby.mono hbwc.size)
    by_cases hc0 : chk n cs = 0
    · have hc0b : (chk n cs != 0) = false := by rw [hc0]; rfl
      have hc0H := Lib.hid hc0; clear hc0
      obtain ⟨hn1, hn8, hl64, hokc⟩ := chk_ok hc0H.out
      obtain ⟨m, rfl⟩ := Int.eq_ofNat_of_zero_le (show 0 ≤ n by omega)
      rw [Int.toNat_natCast] at hokc
      have hokH := Lib.hid hokc; clear hokc
      rw [KRes, if_pos hc0H.out] at hk1
      obtain ⟨g1, cap1, rfl, _, _⟩ := hk1.form (by omega)
      have hrl : Rd wy (some ⟨g1, 0, none⟩) m 1 (wds (know m cs)) := (((Rd.of_own hk1).later hbx).later hby)
      have hrlH := Lib.hid hrl; clear hrl hk1
      go_wp2
      go_loop [47] (fun i => ∃ k : Nat, k ≤ m ∧ i = .int .i64 k) (fun i => m - (intOf i).toNat)
      case atStart => exact ⟨0, Nat.zero_le _, rfl⟩
      case round =>
        obtain ⟨k, hk, rfl⟩ := hrel
        by_cases hlt : k < m
        · obtain ⟨_, _, hA, hab, hc1⟩ := hrlH.out.wd hlt
          injection hA with hA; injection hA with hA hA2 _
          subst hA; subst hA2
          rw [Nat.zero_add] at hc1
          have hbit := know_self hokH.out k hlt
          have hp256 := getD_lt (know_lt (n := m) (by omega) cs) k
          generalize (know m cs).getD k 0 = p at *
          have hbt : (decide (0 ≤ (k : Int)) && decide ((k : Int) < 32) && p.testBit (k : Int).toNat) = true := by
            rw [Int.toNat_natCast, hbit]; simp; omega
          have hbtH := Lib.hid hbt; clear hbt hbit
          go_wp2_with fail
          refine (bit_any p k _ (by omega)).mono ?_
          rw [hbtH.out]
          rintro e wz ⟨rfl, rfl⟩
          go_wp2
          go_round
          case rel => exact ⟨k + 1, by omega, by go_num⟩
          case measure => simp [intOf]; omega
        · clear hk
          by_cases hc2 : chk m (cs ++ [(a, b)]) = 0
          · have hc2b : (chk m (cs ++ [(a, b)]) != 0) = false := by rw [hc2]; rfl
            have hc2H := Lib.hid hc2; clear hc2
            obtain ⟨_, _, _, hok2⟩ := chk_ok hc2H.out
            obtain ⟨x, y, hxy, hx, hy, hne⟩ := hok2 (a, b) (by simp)
            injection hxy with ha hb
            subst ha; subst hb
            rw [Int.toNat_natCast] at hx hy
            clear hok2
            rw [KRes, if_pos hc2H.out] at hk2
            obtain ⟨g2, cap2, rfl, _, _⟩ := hk2.form (by omega)
            rw [Int.toNat_natCast, know_snoc] at hk2
            have hrm : Rd wy (some ⟨g2, 0, none⟩) m 1 (wds (step (know m cs) (x, y))) := ((Rd.of_own hk2).later hby)
            have hrmH := Lib.hid hrm; clear hrm hk2
            have hy0 : wy.cell? ⟨w.heap.size, 0, none⟩ = some (.int .i64 x) := below_cell hby (by have := hbx.size; omega) (below_cell hbx hS1 hx0)
            have hy1 : wy.cell? ⟨w.heap.size, 1, none⟩ = some (.int .i64 y) := below_cell hby (by have := hbx.size; omega) (below_cell hbx hS1 hx1)
            have hyS : w.heap.size < wy.heap.size := by have := hbx.size; have := hby.size; omega
            clear hx0 hx1
            have hins : insideB m [(x : Int), (y : Int)] = true := by simp [insideB, isB]; omega
            have hinsH := Lib.hid hins; clear hins
            go_wp2_with fail
            refine (inside_any m _ 2 2 [(x : Int), (y : Int)] _ (rd_lit _ [.int .i64 x, .int .i64 y] 3 2 1 rfl) (by omega)).mono ?_
            rw [hinsH.out]
            rintro e wz ⟨rfl, rfl⟩
            have hwz : Below wy.heap.size wy (wy.alloc (Obj.cells #[Value.int IntKind.i64 ↑x, Value.int IntKind.i64 ↑y] 3)) := (Below.refl _ _).alloc (Nat.le_refl _) _
            have hz0 := below_cell hwz hyS hy0
            have hz1 := below_cell hwz hyS hy1
            have hrlW := Lib.hid (hrlH.out.later hwz)
            have hrmW := Lib.hid (hrmH.out.later hwz)
            have hbW := hbwy.trans (hwz.mono hbwy.size)
            clear hwz hy0 hy1 hrlH hrmH hbwy
            generalize wy.alloc (Obj.cells #[Value.int IntKind.i64 ↑x, Value.int IntKind.i64 ↑y] 3) = W at *
            go_wp2
            go_loopw [13] (fun i wr => ∃ k d : Nat, k ≤ m ∧ i = .int .i64 k ∧ wr = W.drewN d) (fun i _ => m - (intOf i).toNat)
            case atStart => exact ⟨0, 0, Nat.zero_le _, rfl, rfl⟩
            case round =>
              obtain ⟨k, d, hk, rfl, rfl⟩ := hrel
              by_cases hlt : k < m
              · obtain ⟨_, _, hA, _, hcl⟩ := hrlW.out.wd hlt
                injection hA with hA; injection hA with hA hA2 _
                subst hA; subst hA2
                obtain ⟨_, _, hA, _, hcm⟩ := hrmW.out.wd hlt
                injection hA with hA; injection hA with hA hA2 _
                subst hA; subst hA2
                rw [Nat.zero_add] at hcl hcm
                have hst := step_getD (know m cs) x y k (by rw [know_length]; exact hx) (by rw [know_length]; exact hy)
                have hp := getD_lt (know_lt (n := m) (by omega) cs) k
                have hq := getD_lt (step_lt (know_lt (n := m) (by omega) cs) (x, y)) k
                have hsub : ∀ i, ((know m cs).getD k 0).testBit i = true → ((step (know m cs) (x, y)).getD k 0).testBit i = true := by
                  intro i hi
                  rw [hst]
                  split
                  · rename_i h; subst h; rw [Nat.testBit_or, hi, Bool.or_true]
                  · split
                    · rename_i h; subst h; rw [Nat.testBit_or, hi, Bool.true_or]
                    · exact hi
                have han := andNot_zero hp hq hsub
                clear hsub hp hq
                have hk0 : 0 ≤ (k : Int) := by omega
                have hk1 : (k : Int) < m := by omega
                by_cases hkx : k = x
                · have hb1 : ((k : Int) != (x : Int)) = false := by rw [hkx]; simp
                  have hkxH := Lib.hid hkx; clear hkx
                  have hstH := Lib.hid hst; clear hst
                  generalize (step (know m cs) (x, y)).getD k 0 = q at *
                  generalize (know m cs).getD k 0 = p at *
                  go_wp2
                  go_quiet (fail)
                  go_wp2
                  go_roundw
                  case rel => exact ⟨k + 1, _, by omega, by go_num, rfl⟩
                  case measure => simp [intOf]; omega
                · have hb1 : ((k : Int) != (x : Int)) = true := by rw [bne_iff_ne]; omega
                  by_cases hky : k = y
                  · have hb2 : ((k : Int) != (y : Int)) = false := by rw [hky]; simp
                    have hkyH := Lib.hid hky; clear hky hkx
                    have hstH := Lib.hid hst; clear hst
                    generalize (step (know m cs) (x, y)).getD k 0 = q at *
                    generalize (know m cs).getD k 0 = p at *
                    go_wp2
                    go_quiet (fail)
                    go_wp2
                    go_roundw
                    case rel => exact ⟨k + 1, _, by omega, by go_num, rfl⟩
                    case measure => simp [intOf]; omega
                  · have hb2 : ((k : Int) != (y : Int)) = true := by rw [bne_iff_ne]; omega
                    rw [if_neg (Ne.symm hky), if_neg (Ne.symm hkx)] at hst
                    rw [hst] at hcm han
                    clear hst hky hkx
                    generalize (know m cs).getD k 0 = p at *
                    go_wp2
                    go_quiet (fail)
                    go_wp2
                    go_roundw
                    case rel => exact ⟨k + 1, _, by omega, by go_num, rfl⟩
                    case measure => simp [intOf]; omega
              · obtain ⟨_, _, hA, _, hlx⟩ := hrlW.out.wd hx
                injection hA with hA; injection hA with hA hA2 _
                subst hA; subst hA2
                obtain ⟨_, _, hA, _, hly⟩ := hrlW.out.wd hy
                injection hA with hA; injection hA with hA hA2 _
                subst hA; subst hA2
                obtain ⟨_, _, hA, _, hmx⟩ := hrmW.out.wd hx
                injection hA with hA; injection hA with hA hA2 _
                subst hA; subst hA2
                obtain ⟨_, _, hA, _, hmy⟩ := hrmW.out.wd hy
                injection hA with hA; injection hA with hA hA2 _
                subst hA; subst hA2
                rw [Nat.zero_add] at hlx hly hmx hmy
                rw [step_getD (know m cs) x y _ (by rw [know_length]; exact hx) (by rw [know_length]; exact hy)] at hmx hmy
                rw [if_neg (Ne.symm hne), if_pos rfl] at hmx
                rw [if_pos rfl] at hmy
                have hx8 := getD_lt (know_lt (n := m) (by omega) cs) x
                have hy8 := getD_lt (know_lt (n := m) (by omega) cs) y
                generalize (know m cs).getD x 0 = p at *
                generalize (know m cs).getD y 0 = q at *
                have hor := u32_or_nat p q (by omega) (by omega)
                rw [← hor] at hmx hmy
                have hx0' : 0 ≤ (x : Int) := by omega
                have hx1' : (x : Int) < m := by omega
                have hy0' : 0 ≤ (y : Int) := by omega
                have hy1' : (y : Int) < m := by omega
                clear hor hx8 hy8
                go_wp2
                go_quiet (fail)
                go_wp2
                go_ret
                exact ⟨rfl, below_drewN (below_drewN hbW _) _⟩
          · have hc2b : (chk m (cs ++ [(a, b)]) != 0) = true := by simpa using hc2
            rw [KRes, if_neg hc2] at hk2
            subst hk2
            clear hc2
            go_wp2
            go_ret
            exact ⟨rfl, hbwy⟩
    · have hc0b : (chk n cs != 0) = true := by simpa using hc0
      have hc0H := Lib.hid hc0; clear hc0
      go_wp2
      go_ret
      exact ⟨rfl, hbwy⟩
end Go.Proofs.Ytmcijljadcfpmaa
