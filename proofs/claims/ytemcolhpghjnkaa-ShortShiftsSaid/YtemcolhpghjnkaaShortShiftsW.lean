/- ShortShifts: the main way. -/
import Derived.Test.YtemcolhpghjnkaaShortShifts
namespace Go.Proofs.Ytemcolhpghjnkaa
open Go.RowKit

def hgt (hs : List Int) (i : Nat) : Int := hs.getD i 0
theorem shift_arcs_succ {h : Nat → Int} {l : List Arc} {k : Nat} {f t : Nat} {m e : Int} (hk : k < l.length) (ha : aat l k = ((f : Int), (t : Int), m, e)) :
    arcs ((l.map (shift h)).take (k + 1)) = arcs ((l.map (shift h)).take k) ++ [.int .i64 f, .int .i64 t, .int .i64 m, .int .i64 (e + h f - h t)] := by
  rw [← List.map_take, ← List.map_take, atake_succ hk, ha, List.map_append]
  simp [arcs, shift, av, aF, aT]
theorem own_slice_cap' {w : World} {b e s n : Nat} {v : Value} {xs : List Value} (h : w.ownsRow b e s v n xs) : ∃ A c, v = .slice A n c ∧ n ≤ c := by
  rcases h.2 with ⟨rfl, rfl⟩ | ⟨g, cap, cur, rfl, _, _, hc, _⟩
  · exact ⟨none, 0, rfl, Nat.le_refl _⟩
  · exact ⟨_, cap, rfl, hc⟩
theorem swrong_nchk {n s : Int} {l : List Arc} (h : swrong n l [s] ≠ 0) (h0 : 0 ≤ s) (h1 : s < n) : nchk n l ≠ 0 := by
  intro h2
  apply h
  unfold swrong
  rw [insideB_one, h2]
  simp [h0, h1]
theorem quad_one (a b c d : Int) : ∀ u ∈ [Value.int .i64 a, .int .i64 b, .int .i64 c, .int .i64 d], u.oneCell' = true := by
  intro u hu
  simp at hu
  rcases hu with rfl | rfl | rfl | rfl <;> rfl
set_option maxHeartbeats 3200000 in
set_option maxRecDepth 100000 in
theorem shifts_ok (N s : Nat) (A : Option Addr) (len cap : Nat) (l : List Arc) (B : Option Addr) (cap2 : Nat) (hs : List Int) (w : World) (hr : Rd w A len 4 (arcs l)) (hr2 : Rd w B N 1 (ints .i16 hs)) (hwf : ∀ i, -32768 ≤ hgt hs i ∧ hgt hs i ≤ 32767) (hN : N ≤ 10) (hl : len ≤ 30) (hsN : s < N) (hok : ∀ a ∈ l, AOk N a) (hc : swrong N l [(s : Int)] = 0) :
    Calls Try.prog 4 #[.agg #[.int .i64 N, .slice A len cap], .int .i64 s, .slice B N cap2] w fun e w' => e = .returned (.bool true) ∧ Below w.heap.size w w' := by
  have helH := Lib.hid (arcs_len hr)
  have hnB := Lib.hid (show netB N l s = true by rw [netB_swrong]; simpa using hc)
  have HF := Lib.hid (far_ok N s A len cap l _ (hr.alloc (.cells #[.int .i64 N, .slice A len cap] 24)) hN hl hsN hok hc)
  have hrH := Lib.hid hr; have hr2H := Lib.hid hr2; have hokH := Lib.hid hok; have hwfH := Lib.hid hwf
  clear hr hr2 hc hok hwf
  have g0 : (w.alloc (Obj.cells #[Value.int IntKind.i64 (N : Int), Value.slice A len cap] 24)).cell? ⟨w.heap.size, 0, none⟩ = some (.int .i64 N) := by go_simp
  have g1 : (w.alloc (Obj.cells #[Value.int IntKind.i64 (N : Int), Value.slice A len cap] 24)).cell? ⟨w.heap.size, 1, none⟩ = some (.slice A len cap) := by go_simp
  go_enter Try.func4, Try.ntmps4
  go_wp2_with fail
  refine HF.out.mono ?_
  intro e w1 hpost
  obtain ⟨hb, x, y, c, rfl, hres⟩ := FarPost.split hpost
  have hresH := Lib.hid hres
  have hbw := ((Below.refl w.heap.size w).alloc (Nat.le_refl _) (.cells #[.int .i64 N, .slice A len cap] 24)).trans (hb.mono (by simp))
  have hS1 : w.heap.size < w1.heap.size := by have := hb.size; simp at this; omega
  have q0 : w1.cell? ⟨w.heap.size, 0, none⟩ = some (.int .i64 N) := below_cell hb (by simp) g0
  have q1 : w1.cell? ⟨w.heap.size, 1, none⟩ = some (.slice A len cap) := below_cell hb (by simp) g1
  have HN := Lib.hid (net_any N s A len cap l w1 (hrH.out.later hbw) (by omega))
  rw [hnB.out] at HN
  clear g0 g1 hb hpost HF hres
  go_wp2_with fail
  refine HN.out.mono ?_
  rintro e w2 ⟨rfl, hb2⟩
  have q0 := below_cell hb2 hS1 q0
  have q1 := below_cell hb2 hS1 q1
  have hS2 : w.heap.size < w2.heap.size := by have := hb2.size; omega
  have hbe := hbw.trans (hb2.mono hbw.size)
  have hres2 := Lib.hid (hresH.out.later hb2)
  have hrw := Lib.hid (hrH.out.later hbe)
  have hhw := Lib.hid (hr2H.out.later hbe)
  have hbeH := Lib.hid hbe
  clear HN hresH hb2 hbw hbe hS1 hrH hr2H
  have on0 := Lib.hid (World.ownsRow_lit (base := w2.heap.size) (e := 24) (size := 2) w2 #[.int .i64 N, .slice none 0 0] 1 (Nat.le_refl _) (by unfold maxLen; omega) rfl)
  have Q0 := Lib.hid q0
  have Q1 := Lib.hid q1
  go_wp2
  have e0 := (Below.refl w2.heap.size w2).alloc (Nat.le_refl _) (.cells #[.int .i64 N, .slice none 0 0] 24)
  go_loopw [12, 48] (fun _ i wr => ∃ (k : Nat) (v : Value), k ≤ len ∧ i = .int .i64 k ∧ wr.ownsRow w2.heap.size 24 2 (.slice (some ⟨w2.heap.size, 0, none⟩) 1 1) 1 [.int .i64 N, v] ∧ wr.ownsRow (w2.heap.size + 1) 32 4 v k (arcs ((l.map (shift (hgt hs))).take k)) ∧ Below w2.heap.size w2 wr) (fun _ i _ => len - (intOf i).toNat)
  case atStart => exact ⟨0, _, Nat.zero_le _, rfl, by simpa using on0.out, World.ownsRow_nil _ _ _ _, e0⟩
  case round =>
    clear q0 q1
    obtain ⟨k, v, hk, rfl, hon, hov, hb⟩ := hrel
    have hSr := hb.size
    have hSw : w.heap.size < wr.heap.size := by omega
    have q0 := below_cell hb hS2 Q0.out
    have q1 := below_cell hb hS2 Q1.out
    have k0 : wr.cell? ⟨w2.heap.size, 0, none⟩ = some (.int .i64 N) := hon.cellAt 0 (by omega)
    have k1 : wr.cell? ⟨w2.heap.size, 1, none⟩ = some v := hon.cellAt 1 (by omega)
    have sm := (hon.lt _ rfl).2
    have honH := Lib.hid hon; have hovH := Lib.hid hov; have hbH := Lib.hid hb
    by_cases hlt : k < len
    · obtain ⟨bb, oo, rfl, hab, hc1, hc2, hc3, hc4⟩ := (hrw.out.later hb).arc hlt
      have hml : k < l.length := by rw [helH.out]; exact hlt
      obtain ⟨f, t, mo, e, hat, hf, ht, hne, hm0, hm1, he0, he1⟩ := aok_split (hokH.out _ (aat_mem hml))
      have hsucc := Lib.hid (shift_arcs_succ (h := hgt hs) hml hat)
      rw [hat] at hc1 hc2 hc3 hc4
      dsimp only at hc1 hc2 hc3 hc4
      obtain ⟨b3, o3, rfl, hab3, kf⟩ := (hhw.out.later hb).int hf
      obtain ⟨b3', o3', h33, _, kt⟩ := (hhw.out.later hb).int ht
      injection h33 with h33; injection h33 with h33 h34 _
      subst h33; subst h34
      have hbf := hwfH.out f
      have hbt := hwfH.out t
      have hfi : (f : Int) < N := by omega
      have hti : (t : Int) < N := by omega
      change wr.cell? _ = some (.int .i16 (hgt hs f)) at kf
      change wr.cell? _ = some (.int .i16 (hgt hs t)) at kt
      generalize hgt hs f = p at *
      generalize hgt hs t = q at *
      obtain ⟨hp0, hp1⟩ := hbf
      obtain ⟨hq0, hq1⟩ := hbt
      have hrd4 := Lib.hid (show Rd ((wr.alloc (.cells #[.int .i64 f, .int .i64 t, .int .i64 mo, .int .i64 (e + p - q)] 32)).alloc (.cells #[.int .i64 f, .int .i64 t, .int .i64 mo, .int .i64 (e + p - q)] 32)) (some ⟨wr.heap.size + 1, 0, none⟩) 1 4 [.int .i64 f, .int .i64 t, .int .i64 mo, .int .i64 (e + p - q)] by
        simpa using rd_new4 (wr.alloc (.cells #[.int .i64 f, .int .i64 t, .int .i64 mo, .int .i64 (e + p - q)] 32)) (.int .i64 f) (.int .i64 t) (.int .i64 mo) (.int .i64 (e + p - q)) 32)
      clear hat hml hon hov hb
      go_wp2
      go_region
      go_wp2_with (at_builtin; refine wpList_app (s := .tmp 70) (x := .tmp 72) _ tiA (own_drew ((hovH.out.alloc _).alloc _)) hrd4.out.drew (quad_one f t mo (e + p - q)) (by omega) (by omega) (by simp; omega) rfl rfl rfl rfl ?_)
      intro v' w5 hov5 hg5 hat5
      have hon4 := own_drew ((honH.out.alloc (.cells #[.int .i64 f, .int .i64 t, .int .i64 mo, .int .i64 (e + p - q)] 32)).alloc (.cells #[.int .i64 f, .int .i64 t, .int .i64 mo, .int .i64 (e + p - q)] 32))
      have hb4 := ((hbH.out.alloc hSr (.cells #[.int .i64 f, .int .i64 t, .int .i64 mo, .int .i64 (e + p - q)] 32)).alloc (by simp; omega) (.cells #[.int .i64 f, .int .i64 t, .int .i64 mo, .int .i64 (e + p - q)] 32)).drew
      have hnb : ∀ g, v.ownBlock = some g → w2.heap.size + 1 ≤ g := fun g hg => (hovH.out.lt g hg).1
      obtain ⟨A5, c5, rfl⟩ := own_slice hov5
      have hnb' : v.ownBlock ≠ some w2.heap.size := fun h => by have := hnb _ h; omega
      have hnb5 : (Value.slice A5 (k + 1) c5).ownBlock ≠ some w2.heap.size := fun h => by have := (hov5.lt _ h).1; omega
      have hon5 := hon4.kept hg5 (.inr (show some w2.heap.size ≠ v.ownBlock from fun h => hnb' h.symm))
      have hb5 := hb4.grown hg5 (by simp; omega) (fun g hg => by have := hnb g hg; omega)
      have k15 : w5.cell? ⟨w2.heap.size, 1, none⟩ = some v := hon5.cellAt 1 (by omega)
      have z15 := hon5.frozenAt 1
      have hst := Lib.hid (hon5.stored 1 (.slice A5 (k + 1) c5)).1
      have hv' := Lib.hid (own_set_other (a := ⟨w2.heap.size, 1, none⟩) hov5 hnb5 (.slice A5 (k + 1) c5))
      have hbs := Lib.hid (hb5.setCell (p := ⟨w2.heap.size, 1, none⟩) (Nat.le_refl _) (.slice A5 (k + 1) c5))
      rw [← hsucc.out] at hv'
      clear hg5 hat5 hon4 hb4 hnb hnb' hnb5 hov5 hb5
      go_wp2
      go_roundw
      case rel => exact ⟨k + 1, _, by omega, by go_num, by simpa using hst.out, hv'.out, hbs.out⟩
      case measure => simp [intOf]; omega
    · obtain rfl : len = k := by omega
      obtain ⟨Av, cv, rfl, hcv⟩ := own_slice_cap' hov
      have hrv := Rd.of_own hov
      rw [List.take_of_length_le (by simp [helH.out])] at hrv
      have hrvH := Lib.hid hrv
      clear hov hon hb hrv
      by_cases hmc : swrong N (l.map (shift (hgt hs))) [(s : Int)] = 0
      · obtain ⟨hmn, _, _⟩ := swrong_ok hmc
        obtain ⟨_, _, _, hmok⟩ := nchk_ok hmn
        have HF2 := Lib.hid (far_ok N s Av len cv (l.map (shift (hgt hs))) wr hrvH.out hN hl hsN hmok hmc)
        have hmnH := Lib.hid hmn
        have hbdH := Lib.hid (far_bd (s := s) hN hokH.out (by rw [helH.out]; exact hl))
        clear hmc hmn hmok
        go_wp2_with fail
        refine HF2.out.mono ?_
        intro e w4 hpost
        obtain ⟨hb4, x', y', c', rfl, hres'⟩ := FarPost.split hpost
        have hS4 := hb4.size
        have hbw4 := hbH.out.trans (hb4.mono hSr)
        have k0 := below_cell hb4 sm k0
        have k1 := below_cell hb4 sm k1
        have q0 := below_cell hb4 hSw q0
        have q1 := below_cell hb4 hSw q1
        have HC := Lib.hid (netCheck_any N Av len cv (l.map (shift (hgt hs))) w4 (hrvH.out.later hb4) (by omega))
        rw [hmnH.out] at HC
        have hres'H := Lib.hid hres'
        clear hpost hres' HF2 hb4
        go_wp2_with fail
        refine HC.out.mono ?_
        rintro e w5 ⟨rfl, hb5⟩
        have hbw5 := hbw4.trans (hb5.mono (by omega))
        have q0 := below_cell hb5 (by omega) q0
        have q1 := below_cell hb5 (by omega) q1
        have hS5 := hb5.size
        have hr5 := (hres2.out.later hbw5)
        have hr5' := (hres'H.out.later hb5)
        obtain ⟨sh1, sh2, sh3⟩ := shifts (h := hgt hs) (s := s) l (N + 1)
        have hh5 := Lib.hid (hhw.out.later hbw5)
        have hbeE := Lib.hid (hbeH.out.trans (hbw5.mono hbeH.out.size))
        unfold FarRes at hr5 hr5'
        rw [sh1, sh2] at hr5'
        have sh3H := Lib.hid sh3
        generalize (bfRun (l.map (shift (hgt hs))) (N + 1) (bfInit s)).1.F = F' at *
        generalize (bfRun l (N + 1) (bfInit s)).1 = S at *
        obtain ⟨F, T, b0⟩ := S
        simp only at *
        clear sh1 sh2 sh3 HC hbw4 hbw5 hb5 hres2 hres'H
        rcases hr5 with ⟨hq, rfl, rfl, rfl⟩ | ⟨hq, bf, bh, rfl, rfl, rfl, rf, rh⟩
        · rcases hr5' with ⟨_, rfl, rfl, rfl⟩ | ⟨hq', _⟩
          · clear hq
            go_wp2
            go_ret
            exact ⟨rfl, hbeE.out⟩
          · rw [hq] at hq'; cases hq'
        · rcases hr5' with ⟨hq', _⟩ | ⟨_, bf', bh', rfl, rfl, rfl, rf', rh'⟩
          · rw [hq] at hq'; cases hq'
          · have r1 := Lib.hid (Rd.of_own rf)
            have r2 := Lib.hid (Rd.of_own rh)
            have r3 := Lib.hid (Rd.of_own rf')
            have r4 := Lib.hid (Rd.of_own rh')
            clear hq rf rh rf' rh'
            go_wp2
            have Z0 := Lib.hid q0
            obtain ⟨wo, hwo⟩ : ∃ wo : World, wo = w5 := ⟨_, rfl⟩
            have hSw5 : w.heap.size < w5.heap.size := by omega
            go_loopw [16] (fun i wr => ∃ t : Nat, t ≤ N ∧ i = .int .i64 t ∧ Below w5.heap.size w5 wr) (fun i _ => N - (intOf i).toNat)
            case atStart => exact ⟨0, Nat.zero_le _, rfl, Below.refl _ _⟩
            case round =>
              clear k0 k1 q0 q1 hwo
              obtain ⟨t, ht, rfl, hb⟩ := hrel
              have q0 := below_cell hb hSw5 Z0.out
              have hSr := hb.size
              by_cases htN : t < N
              · have kx := row_cell (r1.out.later hb) htN
                have ky := row_cell (r3.out.later hb) htN
                have kp := brow_cell (r2.out.later hb) htN
                have kq := brow_cell (r4.out.later hb) htN
                have s1 := row_lt (r1.out.later hb) htN
                have s2 := row_lt (r2.out.later hb) htN
                have s3 := row_lt (r3.out.later hb) htN
                have s4 := row_lt (r4.out.later hb) htN
                obtain ⟨b3, o3, rfl, hab3, ks⟩ := (hh5.out.later hb).int hsN
                obtain ⟨b3', o3', h33, _, kt⟩ := (hh5.out.later hb).int htN
                injection h33 with h33; injection h33 with h33 h34 _
                subst h33; subst h34
                change wr.cell? _ = some (.int .i16 (hgt hs s)) at ks
                change wr.cell? _ = some (.int .i16 (hgt hs t)) at kt
                have hsh := sh3H.out t
                have hbs := hwfH.out s
                have hbt := hwfH.out t
                have hbx := hbdH.out t
                generalize hgt hs s = p at *
                generalize hgt hs t = q at *
                generalize F t = x at *
                generalize F' t = y at *
                generalize T t = r at *
                obtain ⟨hs0, hs1⟩ := hbs
                obtain ⟨ht0, ht1⟩ := hbt
                obtain ⟨hx0, hx1⟩ := hbx
                have hti : (t : Int) < N := by omega
                have hsi : (s : Int) < N := by omega
                cases r
                · clear hsh
                  go_wp2
                  go_quiet (fail)
                  go_wp2
                  go_roundw
                  case rel => exact ⟨t + 1, by omega, by go_num, below_drewN hb _⟩
                  case measure => simp [intOf]; omega
                · have hy := hsh rfl
                  subst hy
                  clear hsh
                  go_wp2
                  go_quiet (fail)
                  go_wp2
                  go_roundw
                  case rel => exact ⟨t + 1, by omega, by go_num, below_drewN hb _⟩
                  case measure => simp [intOf]; omega
              · go_wp2
                go_ret
                exact ⟨rfl, hbeE.out.trans (hb.mono hbeE.out.size)⟩
      · have hmn := swrong_nchk hmc (by omega) (by omega)
        have HF2 := Lib.hid (far_bad N s Av len cv (l.map (shift (hgt hs))) wr hrvH.out (by omega) hmc)
        have hcb : (swrong N (l.map (shift (hgt hs))) [(s : Int)] != 0) = true := by simpa using hmc
        have hcbH := Lib.hid hcb
        have hmnb := Lib.hid (show (nchk N (l.map (shift (hgt hs))) != 0) = true by simpa using hmn)
        clear hmc hmn hcb
        go_wp2_with fail
        refine HF2.out.mono ?_
        rintro e w4 ⟨rfl, hb4⟩
        have hbw4 := hbH.out.trans (hb4.mono hSr)
        have k0 := below_cell hb4 sm k0
        have k1 := below_cell hb4 sm k1
        have HC := Lib.hid (netCheck_any N Av len cv (l.map (shift (hgt hs))) w4 (hrvH.out.later hb4) (by omega))
        have hcb := hcbH.out
        have hmnb := hmnb.out
        unfold nil3
        go_wp2_with fail
        refine HC.out.mono ?_
        rintro e w5 ⟨rfl, hb5⟩
        go_wp2
        go_ret
        exact ⟨rfl, hbeH.out.trans ((hbw4.trans (hb5.mono (by have := hb4.size; omega))).mono hbeH.out.size)⟩
theorem wf_i16 {n : Int} (h : (Lit.int .i16 n).wf = true) : -32768 ≤ n ∧ n ≤ 32767 := by
  simp [Lit.wf, IntKind.min, IntKind.max, IntKind.bits, IntKind.signed] at h
  omega
theorem shortShifts_any (n : Int) (A : Option Addr) (len cap : Nat) (l : List Arc) (s : Int) (B : Option Addr) (len2 cap2 : Nat) (hs : List Int) (w : World) (_ : (Lit.int .i64 n).wf = true) (hr : Rd w A len 4 (arcs l)) (hlen : len ≤ maxLen) (_ : len ≤ cap) (_ : ∀ a ∈ l, AWf a) (_ : (Lit.int .i64 s).wf = true)
    (hr2 : Rd w B len2 1 (ints .i16 hs)) (_ : len2 ≤ maxLen) (_ : len2 ≤ cap2) (hwf : ∀ z ∈ hs, (Lit.int .i16 z).wf = true) :
    Calls Try.prog 4 #[.agg #[.int .i64 n, .slice A len cap], .int .i64 s, .slice B len2 cap2] w fun e w' => e = .returned (.bool true) ∧ Below w.heap.size w w' := by
  unfold maxLen at hlen
  by_cases hc : swrong n l [s] = 0
  · obtain ⟨h1, h2, h3⟩ := swrong_ok hc
    obtain ⟨h4, h5, h6, h7⟩ := nchk_ok h1
    rw [arcs_len hr] at h6
    obtain ⟨N, rfl⟩ := Int.eq_ofNat_of_zero_le h4
    obtain ⟨S, rfl⟩ := Int.eq_ofNat_of_zero_le h2
    by_cases hl2 : len2 = N
    · subst hl2
      refine shifts_ok len2 S A len cap l B cap2 hs w hr hr2 (fun i => ?_) (by omega) h6 (by omega) h7 hc
      unfold hgt
      by_cases hi : i < hs.length
      · rw [List.getD, List.getElem?_eq_getElem hi]
        exact wf_i16 (hwf _ (List.getElem_mem _))
      · rw [List.getD, List.getElem?_eq_none (by omega)]
        simp
    · exact shifts_len N S A len cap l B len2 cap2 w hr (by omega) h6 (by omega) h7 hc hl2
  · exact shifts_bad n s A len cap l B len2 cap2 w hr hlen hc
end Go.Proofs.Ytemcolhpghjnkaa
