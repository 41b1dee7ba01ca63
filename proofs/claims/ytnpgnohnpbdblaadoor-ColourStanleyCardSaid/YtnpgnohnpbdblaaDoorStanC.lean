/- colour.Turned: the walk. -/
import Derived.Test.YtnpgnohnpbdblaaDoorStanB
import Derived.Test.YtnpgnohnpbdblaaDoorBlk
import Derived.StillTailTactics
namespace Go.Proofs.YtnpgnohnpbdblaaDoor
open Go.RowKit Go.Shelf

theorem tiL6 : TI Tryd.prog 56 2 (.int .i64 0) 1 8 := TI.mk' Tryd.underlying56 (by kernel_rfl) rfl (by decide)
theorem two_i64s (n : Nat) (hn : n ≤ 10) : IntKind.i64.wrap ((2 : Int) ^ n) = ((2 ^ n : Nat) : Int) := by
  have h : 2 ^ n ≤ 2 ^ 10 := Nat.pow_le_pow_right (by omega) hn
  have h2 : ((2 ^ n : Nat) : Int) = (2 : Int) ^ n := by simp
  have h3 := Nat.two_pow_pos n
  rw [← h2]
  exact IntWalk.i64_in _ (by omega)
def updG (G : Nat → Int) (j : Nat) (v : Int) : Nat → Int := fun i => if i = j then v else G i
theorem TbI.upd {es : List E} {w : Nat} {c : Int} {G : Nat → Int} (h : TbI es w c G) (c' : Int) : TbI es w c' (updG G w c') := by
  obtain ⟨h1, h2, h3⟩ := h
  refine ⟨fun v hv => ?_, if_pos rfl, fun v hv => ?_⟩
  · unfold updG; rw [if_neg (by omega)]; exact h1 v hv
  · unfold updG; rw [if_neg (by omega)]; exact h3 v hv
theorem TbI.next {es : List E} {w : Nat} {c : Int} {G : Nat → Int} (h : TbI es w c G) (hc : c = Sf es w) : TbI es (w + 1) 0 G := by
  obtain ⟨h1, h2, h3⟩ := h
  refine ⟨fun v hv => ?_, h3 _ (by omega), fun v hv => h3 v (by omega)⟩
  by_cases e : v = w
  · subst e; rw [h2, hc]
  · exact h1 v (by omega)
theorem turned_bad (n : Int) (A : Option Addr) (len cap : Nat) (es : List E) (w : World) (hr : Rd w A len 3 (ps3 .i64 .i64 .i64 es)) (hlen : len ≤ 9223372036854775807) (hbad : gchk n es ≠ 0) :
    Calls Tryd.prog 13 #[.agg #[.int .i64 n, .slice A len cap]] w fun e w' => e = .returned (.tuple #[.int .i64 0, .int .i64 (gchk n es)]) ∧ Below w.heap.size w w' := by
  have gb := (Below.refl _ w).alloc (Nat.le_refl _) (.cells #[.int .i64 n, .slice A len cap] 24)
  have g0 : (w.alloc (.cells #[.int .i64 n, .slice A len cap] 24)).cell? ⟨w.heap.size, 0, none⟩ = some (.int .i64 n) := by go_simp
  have g1 : (w.alloc (.cells #[.int .i64 n, .slice A len cap] 24)).cell? ⟨w.heap.size, 1, none⟩ = some (.slice A len cap) := by go_simp
  have HC := Lib.hid (check_any n A len cap es _ (hr.later gb) hlen)
  have e1 : (gchk n es != 0) = true := by simpa using hbad
  have gbH := Lib.hid gb
  clear hr gb hbad
  generalize gchk n es = c at *
  go_enter Tryd.func13, Tryd.ntmps13
  go_wp2_with fail
  refine HC.out.mono ?_
  rintro _ w1 ⟨rfl, hb1⟩
  have hbF := gbH.out.trans (hb1.mono (by simp))
  go_wp2
  go_ret2
  exact ⟨rfl, hbF⟩
set_option maxHeartbeats 6400000 in
set_option maxRecDepth 100000 in
theorem turned_ok (N : Nat) (A : Option Addr) (len cap : Nat) (es : List E) (w : World) (hr : Rd w A len 3 (ps3 .i64 .i64 .i64 es)) (hok : gchk N es = 0) (htb : Tb w) (hgt : 0 < w.heap.size) :
    Calls Tryd.prog 13 #[.agg #[.int .i64 N, .slice A len cap]] w fun e w' => e = .returned (.tuple #[.int .i64 (Sf es (2 ^ N - 1)), .int .i64 0]) ∧ Below w.heap.size w w' := by
  obtain ⟨_, h10, h45, hokE, _⟩ := gchk_ok hok
  rw [Int.toNat_natCast] at hokE
  have hN : N ≤ 10 := by omega
  have hel : es.length = len := ps3_len hr
  have hl45 : len ≤ 45 := by omega
  have gb := (Below.refl _ w).alloc (Nat.le_refl _) (.cells #[.int .i64 N, .slice A len cap] 24)
  have hK := Blk.new w 24 #[.int .i64 (N : Int), .slice A len cap]
  have g0 := hK.cell (j := 0) rfl
  have g1 := hK.cell (j := 1) rfl
  have HC := Lib.hid (check_any N A len cap es _ (hr.later gb) (by omega))
  rw [hok] at HC
  have hns := Lib.hid (fun i (hi : i < N) => show (nearW N es).getD i 0 < 4294967296 by have := getD_lt1024 (nearW_lt hN hokE) i; omega)
  have hrH := Lib.hid hr; have hokH := Lib.hid hokE; have htbH := Lib.hid htb; have gbH := Lib.hid gb; have hKH := Lib.hid hK
  have hall := Lib.hid (fun w (hw : w < 2 ^ N) h0 => psum_all hok hw h0)
  have hS0 := Lib.hid (show Sf es 0 = 1 from Fw_zero)
  have hpb := Lib.hid (fun w s => psum_bd (ns := nearW N es) h45 w s)
  have hSb := Lib.hid (fun w => Sf_bd h45 w)
  have hP10 : 2 ^ N ≤ 2 ^ 10 := Nat.pow_le_pow_right (by omega) hN
  have hP0 := Nat.two_pow_pos N
  have hw2 := two_i64s N hN
  have hw3 := two_pow_u32 N (by omega)
  obtain ⟨P, hP⟩ : ∃ P, P = 2 ^ N := ⟨_, rfl⟩
  rw [← hP] at hw2 hw3 hP10 hP0 hall ⊢
  have hPH := Lib.hid hP
  clear hP
  have hP2 : (2 : Int) ^ N = (P : Int) := by rw [hPH.out]; simp
  rw [hP2] at hw2 hw3
  clear hr hok hokE htb gb hK hel h10 h45
  generalize hns0 : nearW N es = ns at *
  have hns0H := Lib.hid hns0
  clear hns0
  go_enter Tryd.func13, Tryd.ntmps13
  go_wp2_with fail
  refine HC.out.mono ?_
  rintro _ w1 ⟨rfl, hb1⟩
  have hbw := gbH.out.trans (hb1.mono (by simp))
  have hK1 := hKH.out.below hb1 hKH.out.lt
  have q0 := hK1.cell (j := 0) rfl
  have q1 := hK1.cell (j := 1) rfl
  have HN := Lib.hid (near_any N A len cap es w1 (hrH.out.later hbw) hN hl45 hokH.out)
  have hK1H := Lib.hid hK1; have hbwH := Lib.hid hbw
  clear hb1 hbw hK1 g0 g1 HC
  go_wp2_with fail
  refine HN.out.mono ?_
  rintro _ w2 ⟨gN, rfl, hownN, hb2⟩
  rw [hns0H.out] at hownN
  have hK2 := hK1H.out.below hb2 hK1H.out.lt
  have q0 := hK2.cell (j := 0) rfl
  have q1 := hK2.cell (j := 1) rfl
  have hbw2 := Lib.hid (hbwH.out.trans (hb2.mono hbwH.out.size))
  have hK2H := Lib.hid hK2; have hownNH := Lib.hid hownN
  have hNlt := (hownN.lt gN rfl).2
  clear hb2 hK2 hownN HN
  go_wp2_with (at_make; refine wpList_mk1 _ tiL6 w2.heap.size P (by omega) (by omega) (Nat.le_refl _) rfl rfl rfl rfl rfl (by first | rfl | exact hP2) (by first | rfl | exact hP2) ?_)
  intro w3 hown3 hg3
  rw [row_replicate] at hown3
  have hb3 := below_grown hg3
  have hK3 := hK2H.out.below hb3 hK2H.out.lt
  have q0 := hK3.cell (j := 0) rfl
  have q1 := hK3.cell (j := 1) rfl
  have c3 := (hown3.cellAt 0 (by omega)).trans (row_get hP0)
  have f3 := hown3.frozenAt 0
  have hP0' : (0 : Int) < P := by omega
  have hst3 := (hown3.stored 0 (.int .i64 1)).1
  rw [row_set] at hst3
  have hlt3 := (hown3.lt _ rfl).2
  have hb3s := hb3.setCell (p := ⟨w2.heap.size, 0, none⟩) (Nat.le_refl _) (.int .i64 1)
  have hst3H := Lib.hid hst3; have hb3sH := Lib.hid hb3s
  have hK3H := Lib.hid (hK3.other (a := ⟨w2.heap.size, 0, none⟩) (by simp; have := hK2H.out.lt; omega) (.int .i64 1))
  have hbg : w.heap.size < w2.heap.size := hK2H.out.lt
  clear hown3 hg3 hb3 hK3 hst3 hb3s
  go_wp2
  generalize w3.setCell ⟨w2.heap.size, 0, none⟩ (.int .i64 1) = w4 at *
  clear q0 q1 c3 f3
  have hT0 := Lib.hid (show TbI es 1 0 (fun i => if i = 0 then 1 else 0) from ⟨fun v hv => by rw [show v = 0 by omega, hS0.out]; rfl, rfl, fun v hv => if_neg (by omega)⟩)
  go_loopw [7] (fun x wr => ∃ (u : Nat) (G : Nat → Int), x = .int .u32 (u : Int) ∧ 1 ≤ u ∧ u ≤ P ∧ TbI es u 0 G ∧ wr.ownsRow w2.heap.size 2 1 (.slice (some ⟨w2.heap.size, 0, none⟩) P P) P (row P G) ∧ Below w2.heap.size w2 wr) (fun x _ => P - (intOf x).toNat)
  case atStart => exact ⟨1, _, rfl, Nat.le_refl _, hP0, hT0.out, hst3H.out, hb3sH.out⟩
  case round =>
    clear hst3H hb3sH hT0 hK3H
    obtain ⟨u, G, rfl, hu1, huP, hT, hown, hb⟩ := hrel
    have hKr := Lib.hid (hK2H.out.below hb hbg)
    have q0 := hKr.out.cell (j := 0) rfl
    have q1 := hKr.out.cell (j := 1) rfl
    by_cases hlt : u < P
    · have hlt' : (u : Int) < P := by omega
      have hTH := Lib.hid hT; have hownH := Lib.hid hown; have hbH := Lib.hid hb
      clear hT hown hb
      have hwu : IntKind.u32.wrap ((u : Int) + 1) = ((u + 1 : Nat) : Int) := by rw [IntKind.wrap_u32']; omega
      go_wp2
      obtain ⟨wo, hwo⟩ : ∃ wo : World, wo = wr := ⟨_, rfl⟩
      go_loopw [8] (fun x wx => ∃ (s : Nat) (G : Nat → Int), x = .int .u32 (s : Int) ∧ s &&& u = s ∧ TbI es u (psum es ns u u - psum es ns u s) G ∧ wx.ownsRow w2.heap.size 2 1 (.slice (some ⟨w2.heap.size, 0, none⟩) P P) P (row P G) ∧ Below w2.heap.size w2 wx) (fun x _ => (intOf x).toNat)
      case atStart => exact ⟨u, G, rfl, Nat.and_self u, by rw [Int.sub_self]; exact hTH.out, hownH.out, hbH.out⟩
      case round =>
        clear hTH hownH hbH q0 q1 hKr hwo
        obtain ⟨s, G, rfl, hsu, hT, hown, hb⟩ := hrel
        obtain ⟨wb, rfl⟩ : ∃ wb : World, wb = wr := ⟨_, rfl⟩
        have hsle := sub_le hsu
        have hszb := hb.size
        by_cases hs0 : s = 0
        · subst hs0
          have hfin := Lib.hid (show TbI es (u + 1) 0 G from hT.next (by
            rw [hall.out u hlt (by omega)]
            show Sf es u - psum es ns u 0 = Sf es u
            unfold psum
            show Sf es u - sq 0 _ = _
            rw [show (sq 0 fun i => trm es ns u (i + 1)) = 0 from rfl]; omega))
          have hownH := Lib.hid hown; have hbH := Lib.hid hb
          clear hT hown hb
          go_wp2
          go_roundw
          case rel => exact ⟨u + 1, G, rfl, by omega, by omega, hfin.out, hownH.out, hbH.out⟩
          case measure => simp [intOf]; omega
        · have hbwb := hbw2.out.trans (hb.mono (by omega))
          have hrn := Rd.of_own (own_below hownNH.out hb)
          have HA := Lib.hid (apart_any (some ⟨gN, 0, none⟩) N N s ns wb hrn hN (by rw [← hPH.out]; omega) hns.out (htbH.out.below hgt hbwb) (by have := hbwb.size; omega))
          have hpn := Lib.hid (psum_next (es := es) (ns := ns) (w := u) (s := s) (by omega) hsu)
          have hnx : (s - 1) &&& u < s := Nat.lt_of_le_of_lt Nat.and_le_left (by omega)
          have hnxu : ((s - 1) &&& u) &&& u = (s - 1) &&& u := by rw [Nat.and_assoc, Nat.and_self]
          have hne : ((s : Int) != 0) = true := by simp [hs0]
          have hwm : IntKind.u32.wrap ((s : Int) - 1) = ((s - 1 : Nat) : Int) := by rw [IntKind.wrap_u32']; omega
          have hand := u32_and_nat (s - 1) u (by omega) (by omega)
          obtain ⟨nx, hnxe⟩ : ∃ nx, (s - 1) &&& u = nx := ⟨_, rfl⟩
          rw [hnxe] at hpn hnx hnxu hand
          have hTH := Lib.hid hT; have hownH := Lib.hid hown; have hbH := Lib.hid hb
          have htrm := Lib.hid (show trm es ns u s = if s &&& u = s ∧ apB ns s = true then -(sgE s) * Sf es (Dn u s) else 0 from rfl)
          have hsuH := Lib.hid hsu
          clear hT hown hb hbwb hrn hnxe hsu
          generalize apB ns s = ap at *
          go_wp2_with fail
          refine HA.out.mono ?_
          rintro _ w6 ⟨rfl, hb6⟩
          have hb6H := Lib.hid (hbH.out.trans (hb6.mono hszb))
          have hown6 := Lib.hid (own_below hownH.out hb6)
          clear hb6 HA hownH hbH
          cases ap
          · have htr := Lib.hid (htrm.out.trans (if_neg (by simp)))
            clear htrm
            go_wp2
            go_roundw
            case rel => exact ⟨nx, G, rfl, hnxu, by have := hTH.out; rw [hpn.out, htr.out, Int.add_zero] at this; exact this, hown6.out, hb6H.out⟩
            case measure => simp [intOf]; omega
          · have htr := Lib.hid (htrm.out.trans (if_pos ⟨hsuH.out, rfl⟩))
            have hDlt : Dn u s < u := by
              refine Nat.lt_of_le_of_ne Nat.and_le_left fun e => ?_
              obtain ⟨i, hi⟩ := has_bit hs0
              have h1 := Dn_bit (w := u) (s := s) (by omega) (by omega) i
              rw [e, sub_iff.1 hsuH.out i hi, hi] at h1
              cases h1
            have hGD := hTH.out.1 _ hDlt
            have hGu := hTH.out.2.1
            have hand2 := u32_andNot_nat u s (by omega) (by omega)
            rw [show u &&& (4294967295 - s) = Dn u s from rfl] at hand2
            have hSD := hSb.out (Dn u s)
            have hps1 := hpb.out u u
            have hps2 := hpb.out u s
            have HO := Lib.hid (ones_any s w6 (by omega))
            have hsg := Lib.hid (show sgE s = if popc 10 s % 2 = 1 then -1 else 1 from rfl)
            have hpc := popc_le 10 s
            generalize popc 10 s = pc at *
            generalize Dn u s = dn at *
            have hdP : (dn : Int) < P := by omega
            have hd0 : (0 : Int) ≤ dn := by omega
            have hu0 : (0 : Int) ≤ u := by omega
            obtain ⟨c, hc⟩ : ∃ c, psum es ns u u - psum es ns u s = c := ⟨_, rfl⟩
            have hcb : -72057594037927936 ≤ c ∧ c ≤ 72057594037927936 := by omega
            have hcn := Lib.hid (show psum es ns u u - psum es ns u nx = c + trm es ns u s by rw [← hc, hpn.out]; omega)
            rw [hc] at hTH hGu
            obtain ⟨sd, hsd⟩ : ∃ sd, Sf es dn = sd := ⟨_, rfl⟩
            rw [hsd] at htr hGD hSD
            have cu := (hown6.out.cellAt u (by omega)).trans (row_get hlt)
            have cd := (hown6.out.cellAt dn (by omega)).trans (row_get (show dn < P by omega))
            rw [hGu] at cu
            rw [hGD] at cd
            have fu := hown6.out.frozenAt u
            have hst := Lib.hid (fun nq v => by have h := ((show (w6.drewN nq).ownsRow w2.heap.size 2 1 (.slice (some ⟨w2.heap.size, 0, none⟩) P P) P (row P G) from hown6.out).stored u (.int .i64 v)).1; rw [row_set] at h; exact h)
            have hbst := Lib.hid (fun nq v => (below_drewN hb6H.out nq).setCell (p := ⟨w2.heap.size, u, none⟩) (Nat.le_refl _) (.int .i64 v))
            clear hps1 hps2 hc hsd hGu hGD
            by_cases ho : pc % 2 = 1
            · have hq1 : ((pc : Int) % 2 == 1) = true := by
                rw [show (pc : Int) % 2 = 1 by omega]; rfl
              have htr2 := Lib.hid (show trm es ns u s = sd by rw [htr.out, hsg.out, if_pos ho]; omega)
              have hwc : IntKind.i64.wrap (c + sd) = c + sd := IntWalk.i64_in _ (by omega)
              clear htr hsg
              go_wp2_with fail
              refine HO.out.mono ?_
              rintro _ _ ⟨rfl, nq, rfl⟩
              go_wp2
              go_region
              all_goals
                go_wp2
                go_roundw
                case rel => exact ⟨nx, updG G u (c + sd), rfl, hnxu, by rw [hcn.out, htr2.out]; exact hTH.out.upd _, hst.out _ _, hbst.out _ _⟩
                case measure => simp [intOf]; omega
            · have hq1 : ((pc : Int) % 2 == 1) = false := by
                rw [show (pc : Int) % 2 = 0 by omega]; rfl
              have htr2 := Lib.hid (show trm es ns u s = -sd by rw [htr.out, hsg.out, if_neg ho]; omega)
              have hwc : IntKind.i64.wrap (c - sd) = c - sd := IntWalk.i64_in _ (by omega)
              clear htr hsg
              go_wp2_with fail
              refine HO.out.mono ?_
              rintro _ _ ⟨rfl, nq, rfl⟩
              go_wp2
              go_region
              all_goals
                go_wp2
                go_roundw
                case rel => exact ⟨nx, updG G u (c - sd), rfl, hnxu, by rw [hcn.out, htr2.out]; exact hTH.out.upd _, hst.out _ _, hbst.out _ _⟩
                case measure => simp [intOf]; omega
    · obtain rfl : u = P := by omega
      have hres := hT.1 (u - 1) (by omega)
      have cR := (hown.cellAt (u - 1) (by omega)).trans (row_get (show u - 1 < u by omega))
      rw [hres] at cR
      have hw4 : IntKind.i64.wrap ((u : Int) - 1) = ((u - 1 : Nat) : Int) := (IntWalk.i64_in _ (by omega)).trans (by omega)
      have hu1' : ((u - 1 : Nat) : Int) < u := by omega
      have hu00 : (0 : Int) ≤ ((u - 1 : Nat) : Int) := by omega
      have hbF := Lib.hid (hbw2.out.trans (hb.mono (by omega)))
      clear hT hown hb hres
      obtain ⟨d, hdd⟩ : ∃ d, u - 1 = d := ⟨_, rfl⟩
      rw [hdd] at cR hw4 hu1' hu00
      obtain ⟨res, hre⟩ : ∃ res, Sf es d = res := ⟨_, rfl⟩
      rw [hre] at cR
      have hddH := Lib.hid hdd; have hreH := Lib.hid hre
      clear hdd hre
      go_wp2
      go_ret2
      exact ⟨by rw [hddH.out, hreH.out]; rfl, hbF.out⟩
end Go.Proofs.YtnpgnohnpbdblaaDoor
