/- CircleDirac: the walk. -/
import Derived.Test.YtknfflhmhjfkeaaDoorCircRingW
import Derived.Test.YtknfflhmhjfkeaaDoorIsRing
import Derived.Test.YtknfflhmhjfkeaaDoorDegreeB
namespace Go.Proofs.YtknfflhmhjfkeaaDoor
open Go.RowKit Go.Shelf

theorem wy_ring {N : Nat} {es : List E} (hok : gchk N es = 0) (h3 : 3 ≤ N) {R : List Nat} (h : Wy (nearW N es) 0 (but0 N) R) : RingZ N es (R.map fun (a : Nat) => (a : Int)) := by
  have g := nearGr hok
  obtain ⟨_, _, _, hokE, _⟩ := gchk_ok hok
  rw [Int.toNat_natCast] at hokE
  obtain ⟨hp, hc⟩ := wy_cy g.n10 (by omega) h
  have hl : R.length = N := by simpa using hp.length_eq
  have hget : ∀ k, k < N → (R.map fun (a : Nat) => (a : Int)).getD k 0 = ((R.getD k 0 : Nat) : Int) := fun k hk => by simp [List.getD, show k < R.length by omega]
  refine ⟨fun k hk => ?_, by simp; omega⟩
  rw [List.length_map, hl] at hk ⊢
  refine ⟨R.getD k 0, R.getD ((k + 1) % N) 0, hget k hk, hget _ (Nat.mod_lt _ (by omega)), hc.lt k hk, ?_, ?_⟩
  · rw [hget k hk]
    unfold hasB
    refine List.any_eq_false.2 fun z hz => ?_
    obtain ⟨i, hi, rfl⟩ := List.mem_take_iff_getElem.1 hz
    simp only [List.length_map] at hi
    have hik : i < k := by omega
    simp only [List.getElem_map, beq_iff_eq]
    intro e
    have e2 : R.getD i 0 = R.getD k 0 := by
      rw [show R.getD i 0 = R[i]'(by omega) by simp [List.getD, show i < R.length by omega]]
      omega
    have := hc.inj i k (by omega) hk e2
    omega
  · rw [← nearW_bit es hokE _ _ (hc.lt k hk)]
    exact hc.adj k hk
set_option maxHeartbeats 1600000 in
theorem circleDirac_any (N : Int) (A : Option Addr) (len cap : Nat) (es : List E) (w : World) (hr : Rd w A len 3 (ps3 .i64 .i64 .i64 es)) (hlen : len ≤ 9223372036854775807) (hcap : len ≤ cap) (htb : Tb w) (hgw : 0 < w.heap.size) :
    Calls Tryd.prog 3 #[.agg #[.int .i64 N, .slice A len cap]] w fun e w' => e = .returned (.bool true) ∧ Below w.heap.size w w' := by
  have gb := (Below.refl _ w).alloc (Nat.le_refl _) (.cells #[.int .i64 N, .slice A len cap] 24)
  have g0 : (w.alloc (.cells #[.int .i64 N, .slice A len cap] 24)).cell? ⟨w.heap.size, 0, none⟩ = some (.int .i64 N) := by go_simp
  have g1 : (w.alloc (.cells #[.int .i64 N, .slice A len cap] 24)).cell? ⟨w.heap.size, 1, none⟩ = some (.slice A len cap) := by go_simp
  have gs : (w.alloc (.cells #[.int .i64 N, .slice A len cap] 24)).heap.size = w.heap.size + 1 := by simp
  have hrg := hr.later gb
  have HG := Lib.hid (fun W (h : Below w.heap.size w W) => good_any N A len cap es W (hr.later h) hlen hcap)
  have hel := ps3_len hr
  by_cases hok : gchk N es = 0
  case neg =>
    have HR := Lib.hid (ring_bad N A len cap es _ hrg hlen hok)
    have hf : (gchk N es == 0) = false := by simpa using hok
    rw [hf] at HG
    have hne : (gchk N es != 0) = true := bne_iff_ne.2 hok
    generalize gchk N es = z at *
    clear hr hrg htb hok
    go_enter Tryd.func3, Tryd.ntmps3
    go_wp2_with fail
    refine HR.out.mono ?_
    rintro _ w1 ⟨rfl, hb1⟩
    have hb1' := gb.trans (hb1.mono gb.size)
    have q0 := below_cell hb1 (by omega) g0; have q1 := below_cell hb1 (by omega) g1
    have HG1 := Lib.hid (HG.out w1 hb1')
    have hb1H := Lib.hid hb1'
    clear hb1 hb1' HR HG gb g0 g1
    go_wp2_with fail
    refine HG1.out.mono ?_
    rintro _ w2 ⟨rfl, hb2⟩
    have hfin := Lib.hid (hb1H.out.trans (hb2.mono hb1H.out.size))
    clear hb2 q0 q1
    go_wp2
    go_ret
    exact ⟨rfl, hfin.out⟩
  obtain ⟨h0, h10, hl45, hokE, hall⟩ := gchk_ok hok
  have ht : (gchk N es == 0) = true := by simpa using hok
  rw [ht] at HG
  by_cases h3 : N < 3
  · have HR := Lib.hid (ring_few N A len cap es _ hrg hlen hok h3)
    clear hr hrg htb hok hokE hall ht h0 h10 hl45
    go_enter Tryd.func3, Tryd.ntmps3
    go_wp2_with fail
    refine HR.out.mono ?_
    rintro _ w1 ⟨rfl, hb1⟩
    have hb1' := gb.trans (hb1.mono gb.size)
    have q0 := below_cell hb1 (by omega) g0; have q1 := below_cell hb1 (by omega) g1
    have HG1 := Lib.hid (HG.out w1 hb1')
    have hb1H := Lib.hid hb1'
    have hs1 := hb1.size
    clear hb1 hb1' HR HG gb g0 g1
    go_wp2_with fail
    refine HG1.out.mono ?_
    rintro _ w2 ⟨rfl, hb2⟩
    have q0' := below_cell hb2 (by omega) q0
    have hfin := Lib.hid (hb1H.out.trans (hb2.mono hb1H.out.size))
    clear hb2 q0 q1
    go_wp2
    go_ret
    exact ⟨rfl, hfin.out⟩
  obtain ⟨n, rfl⟩ := Int.eq_ofNat_of_zero_le h0
  rw [Int.toNat_natCast] at hokE
  have HR := Lib.hid (ring_ok n A len cap es _ hrg hlen hok (by omega) (htb.below hgw gb) (by omega))
  have hWR := Lib.hid (fun R => @wy_ring n es hok (by omega) R)
  have hORE := Lib.hid (fun (hno : ∀ R, ¬ Wy (nearW n es) 0 (but0 n) R) (h : ∀ i, i < n → ∀ j, j < i → adj es i j = false → n ≤ degE es i + degE es j) => show False by
    obtain ⟨R, hR⟩ := ore_wy hok (by omega) (fun i j hi hj ha => h i hi j hj ha)
    exact hno R hR)
  have hlR := Lib.hid (fun R (hR : Wy (nearW n es) 0 (but0 n) R) => (show R.length = n by simpa using (wy_cy (by omega) (by omega) hR).1.length_eq))
  have hrH := Lib.hid hr; have hokH := Lib.hid hokE; have gbH := Lib.hid gb
  have hn3 : 3 ≤ n := by omega
  clear hr hrg htb hok hokE hall ht gb
  go_enter Tryd.func3, Tryd.ntmps3
  go_wp2_with fail
  refine HR.out.mono ?_
  rintro _ w1 ⟨hb1, hcase⟩
  have hb1' := gbH.out.trans (hb1.mono gbH.out.size)
  have q0 := below_cell hb1 (by omega) g0; have q1 := below_cell hb1 (by omega) g1
  have hs1 := hb1.size
  have HG1 := Lib.hid (HG.out w1 hb1')
  have hb1H := Lib.hid hb1'
  clear hb1 hb1' HR HG g0 g1
  rcases hcase with ⟨A', c', R, rfl, hR, hRc, hW⟩ | ⟨rfl, hno⟩
  all_goals
    go_wp2_with fail
    refine HG1.out.mono ?_
    rintro _ w2 ⟨rfl, hb2⟩
    have r0 := below_cell hb2 (by omega) q0; have r1 := below_cell hb2 (by omega) q1
    have hb2H := Lib.hid (hb1H.out.trans (hb2.mono hb1H.out.size))
    have hs2 := hb2.size
  · have hRn := hlR.out R hW
    have HI := Lib.hid (isRing_ok n A len cap es (some A') n c' (R.map fun (a : Nat) => (a : Int)) w2 (hrH.out.later hb2H.out) (by have := hR.later hb2; unfold ints; rw [List.map_map]; exact this) (by omega) (by omega) hRc hokH.out (hWR.out R hW))
    clear hb2 q0 q1 HG1 hR hW hRn
    go_wp2_with fail
    refine HI.out.mono ?_
    rintro _ w3 ⟨rfl, hb3⟩
    have p0 := below_cell hb3 (by omega) r0; have p1 := below_cell hb3 (by omega) r1
    have hb3H := Lib.hid (hb2H.out.trans (hb3.mono hb2H.out.size))
    have hs3 := hb3.size
    clear hb3 r0 r1 HI
    go_wp2
    have k0H := Lib.hid p0; have k1H := Lib.hid p1
    have hwl : w.heap.size < w3.heap.size := by omega
    clear p0 p1
    go_loopw [2, 5, 6] (fun r i _ wr => ∃ k : Nat, k ≤ n ∧ i = .int .i64 k ∧ r = .bool false ∧ Below w3.heap.size w3 wr ∧ ∀ a, a < k → ∀ b, b < a → adj es a b = false → n ≤ degE es a + degE es b) (fun _ i _ _ => n - (intOf i).toNat)
    case atStart => exact ⟨0, Nat.zero_le _, rfl, rfl, Below.refl _ _, fun a ha => by omega⟩
    case round =>
      obtain ⟨k, hk, rfl, rfl, hb, hP⟩ := hrel
      obtain ⟨wo, rfl⟩ : ∃ wo : World, wo = wr := ⟨_, rfl⟩
      have hbH := Lib.hid hb; have hPH := Lib.hid hP
      clear hP
      by_cases hlt : k < n
      · have k0 := below_cell hb hwl k0H.out
        clear hb
        go_wp2
        go_loopw [2, 6] (fun r j wr => ∃ m : Nat, m ≤ k ∧ j = .int .i64 m ∧ r = .bool false ∧ Below w3.heap.size w3 wr ∧ ∀ b, b < m → adj es k b = false → n ≤ degE es k + degE es b) (fun _ j _ => k - (intOf j).toNat)
        case atStart => exact ⟨0, Nat.zero_le _, rfl, rfl, hbH.out, fun b hb => by omega⟩
        case round =>
          clear k0
          obtain ⟨m, hm, rfl, rfl, hb2, hQ⟩ := hrel
          obtain ⟨wi, rfl⟩ : ∃ wi : World, wi = wr := ⟨_, rfl⟩
          have hb2H := Lib.hid hb2; have hQH := Lib.hid hQ
          clear hQ
          by_cases hlm : m < k
          · have k0 := below_cell hb2 hwl k0H.out; have k1 := below_cell hb2 hwl k1H.out
            have HN := Lib.hid (fun (p : BW wi) => refNear_any n k m A len cap es p.w' (((hrH.out.later hb3H.out).later hb2H.out).later p.hb) (by omega) hokH.out)
            have HD1 := Lib.hid (fun (p : BW wi) => degree_any n k A len cap es p.w' (((hrH.out.later hb3H.out).later hb2H.out).later p.hb) (by omega) hokH.out)
            have HD2 := Lib.hid (fun (p : BW wi) => degree_any n m A len cap es p.w' (((hrH.out.later hb3H.out).later hb2H.out).later p.hb) (by omega) hokH.out)
            have x0 := BW.cell (w := wi) k0; have x1 := BW.cell (w := wi) k1
            have hd1 : degE es k ≤ es.length := List.length_filter_le _ _
            have hd2 : degE es m ≤ es.length := List.length_filter_le _ _
            have hnx := Lib.hid (fun (h : adj es k m = false → n ≤ degE es k + degE es m) => show ∀ b, b < m + 1 → adj es k b = false → n ≤ degE es k + degE es b by
              intro b hb
              rcases Nat.lt_or_ge b m with h1 | h1
              · exact hQH.out b h1
              · rw [show b = m by omega]; exact h)
            clear hb2
            cases ha : adj es k m
            · rw [ha] at HN hnx
              obtain ⟨d1, hd1e⟩ : ∃ d1, degE es k = d1 := ⟨_, rfl⟩
              obtain ⟨d2, hd2e⟩ : ∃ d2, degE es m = d2 := ⟨_, rfl⟩
              rw [hd1e] at HD1 hd1
              rw [hd2e] at HD2 hd2
              have e1H := Lib.hid hd1e; have e2H := Lib.hid hd2e
              clear hd1e hd2e ha
              have hadd : IntKind.i64.wrap ((d1 : Int) + d2) = ((d1 + d2 : Nat) : Int) := by rw [IntWalk.i64_in _ (by omega)]; omega
              by_cases hsum : d1 + d2 < n
              · have hsI : decide (((d1 + d2 : Nat) : Int) < n) = true := decide_eq_true (by omega)
                have hsN : decide (d1 + d2 < n) = true := decide_eq_true hsum
                have hsI2 : decide ((d1 : Int) + d2 < n) = true := decide_eq_true (by omega)
                clear hnx
                go_upto_region 12 with fail
                refine wp_region_below (by kernel_rfl) (by kernel_rfl) ?_
                repeat (go_big_quiet_step (first | rfl | (with_reducible refine Calls.bel (HN.out _)) | (with_reducible refine Calls.bel (HD1.out _)) | (with_reducible refine Calls.bel (HD2.out _))))
                refine wpQuiet_nil ?_
                rintro _ ⟨p, rfl⟩
                have hfin := Lib.hid (hb3H.out.trans ((hb2H.out.trans (p.hb.mono hb2H.out.size)).mono hb3H.out.size))
                clear x0 x1 k0 k1 HN HD1 HD2
                go_wp2
                go_ret
                exact ⟨rfl, hfin.out⟩
              · have hsI : decide (((d1 + d2 : Nat) : Int) < n) = false := decide_eq_false (by omega)
                have hsN : decide (d1 + d2 < n) = false := decide_eq_false hsum
                have hsI2 : decide ((d1 : Int) + d2 < n) = false := decide_eq_false (by omega)
                go_upto_region 12 with fail
                refine wp_region_below (by kernel_rfl) (by kernel_rfl) ?_
                repeat (go_big_quiet_step (first | rfl | (with_reducible refine Calls.bel (HN.out _)) | (with_reducible refine Calls.bel (HD1.out _)) | (with_reducible refine Calls.bel (HD2.out _))))
                refine wpQuiet_nil ?_
                rintro _ ⟨p, rfl⟩
                have hfin := Lib.hid (hb2H.out.trans (p.hb.mono hb2H.out.size))
                clear x0 x1 k0 k1 HN HD1 HD2
                go_wp2
                go_roundw
                case rel => exact ⟨m + 1, by omega, by go_num, rfl, hfin.out, hnx.out fun _ => by rw [e1H.out, e2H.out]; omega⟩
                case measure => simp [intOf]; omega
            · rw [ha] at HN
              have hnx2 := Lib.hid (hnx.out fun h => by rw [ha] at h; cases h)
              clear ha hnx
              go_upto_region 12 with fail
              refine wp_region_below (by kernel_rfl) (by kernel_rfl) ?_
              repeat (go_big_quiet_step (first | rfl | (with_reducible refine Calls.bel (HN.out _))))
              refine wpQuiet_nil ?_
              rintro _ ⟨p, rfl⟩
              have hfin := Lib.hid (hb2H.out.trans (p.hb.mono hb2H.out.size))
              clear x0 x1 k0 k1 HN HD1 HD2
              go_wp2
              go_roundw
              case rel => exact ⟨m + 1, by omega, by go_num, rfl, hfin.out, hnx2.out⟩
              case measure => simp [intOf]; omega
          · obtain rfl : m = k := by omega
            have hnext := Lib.hid (show ∀ a, a < m + 1 → ∀ b, b < a → adj es a b = false → n ≤ degE es a + degE es b by
              intro a ha b hb
              rcases Nat.lt_or_ge a m with h1 | h1
              · exact hPH.out a h1 b hb
              · obtain rfl : a = m := by omega
                exact hQH.out b hb)
            clear hb2
            go_wp2
            go_roundw
            case rel => exact ⟨m + 1, by omega, by go_num, rfl, hb2H.out, hnext.out⟩
            case measure => simp [intOf]; omega
      · obtain rfl : k = n := by omega
        have k0 := below_cell hb hwl k0H.out
        clear hb
        have hfin := Lib.hid (hb3H.out.trans (hbH.out.mono hb3H.out.size))
        go_wp2
        go_ret
        exact ⟨rfl, hfin.out⟩
  · clear hb2 q0 q1 HG1
    have hnoH := Lib.hid hno
    clear hno
    go_wp2
    have k0H := Lib.hid r0; have k1H := Lib.hid r1
    have hwl : w.heap.size < w2.heap.size := by omega
    clear r0 r1
    go_loopw [2, 5, 6] (fun r i _ wr => ∃ k : Nat, k ≤ n ∧ i = .int .i64 k ∧ r = .bool false ∧ Below w2.heap.size w2 wr ∧ ∀ a, a < k → ∀ b, b < a → adj es a b = false → n ≤ degE es a + degE es b) (fun _ i _ _ => n - (intOf i).toNat)
    case atStart => exact ⟨0, Nat.zero_le _, rfl, rfl, Below.refl _ _, fun a ha => by omega⟩
    case round =>
      obtain ⟨k, hk, rfl, rfl, hb, hP⟩ := hrel
      obtain ⟨wo, rfl⟩ : ∃ wo : World, wo = wr := ⟨_, rfl⟩
      have hbH := Lib.hid hb; have hPH := Lib.hid hP
      clear hP
      by_cases hlt : k < n
      · have k0 := below_cell hb hwl k0H.out
        clear hb
        go_wp2
        go_loopw [2, 6] (fun r j wr => ∃ m : Nat, m ≤ k ∧ j = .int .i64 m ∧ r = .bool false ∧ Below w2.heap.size w2 wr ∧ ∀ b, b < m → adj es k b = false → n ≤ degE es k + degE es b) (fun _ j _ => k - (intOf j).toNat)
        case atStart => exact ⟨0, Nat.zero_le _, rfl, rfl, hbH.out, fun b hb => by omega⟩
        case round =>
          clear k0
          obtain ⟨m, hm, rfl, rfl, hb2, hQ⟩ := hrel
          obtain ⟨wi, rfl⟩ : ∃ wi : World, wi = wr := ⟨_, rfl⟩
          have hb2iH := Lib.hid hb2; have hQH := Lib.hid hQ
          clear hQ
          by_cases hlm : m < k
          · have k0 := below_cell hb2 hwl k0H.out; have k1 := below_cell hb2 hwl k1H.out
            have HN := Lib.hid (fun (p : BW wi) => refNear_any n k m A len cap es p.w' (((hrH.out.later hb2H.out).later hb2iH.out).later p.hb) (by omega) hokH.out)
            have HD1 := Lib.hid (fun (p : BW wi) => degree_any n k A len cap es p.w' (((hrH.out.later hb2H.out).later hb2iH.out).later p.hb) (by omega) hokH.out)
            have HD2 := Lib.hid (fun (p : BW wi) => degree_any n m A len cap es p.w' (((hrH.out.later hb2H.out).later hb2iH.out).later p.hb) (by omega) hokH.out)
            have x0 := BW.cell (w := wi) k0; have x1 := BW.cell (w := wi) k1
            have hd1 : degE es k ≤ es.length := List.length_filter_le _ _
            have hd2 : degE es m ≤ es.length := List.length_filter_le _ _
            have hnx := Lib.hid (fun (h : adj es k m = false → n ≤ degE es k + degE es m) => show ∀ b, b < m + 1 → adj es k b = false → n ≤ degE es k + degE es b by
              intro b hb
              rcases Nat.lt_or_ge b m with h1 | h1
              · exact hQH.out b h1
              · rw [show b = m by omega]; exact h)
            clear hb2
            cases ha : adj es k m
            · rw [ha] at HN hnx
              obtain ⟨d1, hd1e⟩ : ∃ d1, degE es k = d1 := ⟨_, rfl⟩
              obtain ⟨d2, hd2e⟩ : ∃ d2, degE es m = d2 := ⟨_, rfl⟩
              rw [hd1e] at HD1 hd1
              rw [hd2e] at HD2 hd2
              have e1H := Lib.hid hd1e; have e2H := Lib.hid hd2e
              clear hd1e hd2e ha
              have hadd : IntKind.i64.wrap ((d1 : Int) + d2) = ((d1 + d2 : Nat) : Int) := by rw [IntWalk.i64_in _ (by omega)]; omega
              by_cases hsum : d1 + d2 < n
              · have hsI : decide (((d1 + d2 : Nat) : Int) < n) = true := decide_eq_true (by omega)
                have hsN : decide (d1 + d2 < n) = true := decide_eq_true hsum
                have hsI2 : decide ((d1 : Int) + d2 < n) = true := decide_eq_true (by omega)
                clear hnx
                go_upto_region 12 with fail
                refine wp_region_below (by kernel_rfl) (by kernel_rfl) ?_
                repeat (go_big_quiet_step (first | rfl | (with_reducible refine Calls.bel (HN.out _)) | (with_reducible refine Calls.bel (HD1.out _)) | (with_reducible refine Calls.bel (HD2.out _))))
                refine wpQuiet_nil ?_
                rintro _ ⟨p, rfl⟩
                have hfin := Lib.hid (hb2H.out.trans ((hb2iH.out.trans (p.hb.mono hb2iH.out.size)).mono hb2H.out.size))
                clear x0 x1 k0 k1 HN HD1 HD2
                go_wp2
                go_ret
                exact ⟨rfl, hfin.out⟩
              · have hsI : decide (((d1 + d2 : Nat) : Int) < n) = false := decide_eq_false (by omega)
                have hsN : decide (d1 + d2 < n) = false := decide_eq_false hsum
                have hsI2 : decide ((d1 : Int) + d2 < n) = false := decide_eq_false (by omega)
                go_upto_region 12 with fail
                refine wp_region_below (by kernel_rfl) (by kernel_rfl) ?_
                repeat (go_big_quiet_step (first | rfl | (with_reducible refine Calls.bel (HN.out _)) | (with_reducible refine Calls.bel (HD1.out _)) | (with_reducible refine Calls.bel (HD2.out _))))
                refine wpQuiet_nil ?_
                rintro _ ⟨p, rfl⟩
                have hfin := Lib.hid (hb2iH.out.trans (p.hb.mono hb2iH.out.size))
                clear x0 x1 k0 k1 HN HD1 HD2
                go_wp2
                go_roundw
                case rel => exact ⟨m + 1, by omega, by go_num, rfl, hfin.out, hnx.out fun _ => by rw [e1H.out, e2H.out]; omega⟩
                case measure => simp [intOf]; omega
            · rw [ha] at HN
              have hnx2 := Lib.hid (hnx.out fun h => by rw [ha] at h; cases h)
              clear ha hnx
              go_upto_region 12 with fail
              refine wp_region_below (by kernel_rfl) (by kernel_rfl) ?_
              repeat (go_big_quiet_step (first | rfl | (with_reducible refine Calls.bel (HN.out _))))
              refine wpQuiet_nil ?_
              rintro _ ⟨p, rfl⟩
              have hfin := Lib.hid (hb2iH.out.trans (p.hb.mono hb2iH.out.size))
              clear x0 x1 k0 k1 HN HD1 HD2
              go_wp2
              go_roundw
              case rel => exact ⟨m + 1, by omega, by go_num, rfl, hfin.out, hnx2.out⟩
              case measure => simp [intOf]; omega
          · obtain rfl : m = k := by omega
            have hnext := Lib.hid (show ∀ a, a < m + 1 → ∀ b, b < a → adj es a b = false → n ≤ degE es a + degE es b by
              intro a ha b hb
              rcases Nat.lt_or_ge a m with h1 | h1
              · exact hPH.out a h1 b hb
              · obtain rfl : a = m := by omega
                exact hQH.out b hb)
            clear hb2
            go_wp2
            go_roundw
            case rel => exact ⟨m + 1, by omega, by go_num, rfl, hb2iH.out, hnext.out⟩
            case measure => simp [intOf]; omega
      · obtain rfl : k = n := by omega
        have k0 := below_cell hb hwl k0H.out
        clear hb
        exact (hORE.out hnoH.out hPH.out).elim
end Go.Proofs.YtknfflhmhjfkeaaDoor
