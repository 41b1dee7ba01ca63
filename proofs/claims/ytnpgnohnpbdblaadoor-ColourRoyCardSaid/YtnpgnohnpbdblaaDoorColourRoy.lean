/- ColourRoy: GALLAI, ROY, VITAVER: the longest row along edges in an order has no fewer nodes than it needs colours; and in some order it has as many. -/
import Derived.Test.YtnpgnohnpbdblaaDoorColourOrder
import Derived.Test.YtnpgnohnpbdblaaDoorLongest
namespace Go.Proofs.YtnpgnohnpbdblaaDoor
open Go.RowKit Go.Shelf

set_option maxHeartbeats 3200000 in
set_option maxRecDepth 100000 in
theorem roy_walk (N : Int) (A : Option Addr) (len cap : Nat) (es : List E) (w : World) (hr : Rd w A len 3 (ps3 .i64 .i64 .i64 es)) (hlen : len ≤ 9223372036854775807) (hcap : len ≤ cap) (A2 : Option Addr) (len2 cap2 : Nat) (zs : List Int) (hr2 : Rd w A2 len2 1 (ints .i64 zs)) (hl2 : len2 ≤ 9223372036854775807) (hcap2 : len2 ≤ cap2) (htb : Tb w) (hg : 0 < w.heap.size) :
    Calls Tryd.prog 7 #[.agg #[.int .i64 N, .slice A len cap], .slice A2 len2 cap2] w fun e w' => e = .returned (.bool true) ∧ Below w.heap.size w w' := by
  have gb := (Below.refl _ w).alloc (Nat.le_refl _) (.cells #[.int .i64 N, .slice A len cap] 24)
  have g0 : (w.alloc (.cells #[.int .i64 N, .slice A len cap] 24)).cell? ⟨w.heap.size, 0, none⟩ = some (.int .i64 N) := by go_simp
  have g1 : (w.alloc (.cells #[.int .i64 N, .slice A len cap] 24)).cell? ⟨w.heap.size, 1, none⟩ = some (.slice A len cap) := by go_simp
  have gs : (w.alloc (.cells #[.int .i64 N, .slice A len cap] 24)).heap.size = w.heap.size + 1 := by simp
  have hel2 : zs.length = len2 := by simpa [ints] using hr2.1
  have HG := Lib.hid (fun W (h : Below w.heap.size w W) => good_any N A len cap es W (hr.later h) hlen hcap)
  cases hq : gchk N es == 0
  · have HL := Lib.hid (least_bad N A len cap es _ (hr.later gb) hlen hq)
    rw [hq] at HG
    clear hr hr2 hq htb
    go_enter Tryd.func7, Tryd.ntmps7
    go_wp2_with fail
    generalize w.alloc (.cells #[.int .i64 N, .slice A len cap] 24) = wg at *
    refine HL.out.mono ?_
    rintro _ w1 ⟨z, rfl, hz, hb1⟩
    have q0 := below_cell hb1 (by omega) g0
    have q1 := below_cell hb1 (by omega) g1
    have hbw := gb.trans (hb1.mono (by omega))
    have HG1 := Lib.hid (HG.out w1 hbw)
    clear hb1
    go_wp2_with fail
    refine HG1.out.mono ?_
    rintro _ w2 ⟨rfl, hb2⟩
    go_wp2
    go_ret
    exact ⟨rfl, hbw.trans (hb2.mono hbw.size)⟩
  · have hok : gchk N es = 0 := by simpa using hq
    obtain ⟨h0, h10, h45, hokE, _⟩ := gchk_ok hok
    obtain ⟨n, rfl⟩ := Int.eq_ofNat_of_zero_le h0
    rw [Int.toNat_natCast] at hokE
    rw [ps3_len hr] at h45
    have hN : n ≤ 10 := by omega
    have g := nearGr hok
    rw [hq] at HG
    have HL := Lib.hid (least_ok n A len cap es _ (hr.later gb) h45 hok (htb.below hg gb) (by omega))
    have HLo := Lib.hid (fun W (h : Below w.heap.size w W) A' c y (hR : Rd W A' n 1 (ints .i64 (natI y))) hc hp => longest_any n A len cap es A' c y W (hr.later h) h45 hok hR hc hp)
    have HE := Lib.hid (fun W (h : Below w.heap.size w W) => eachL_any (n : Int) A2 len2 cap2 zs W (hr2.later h) hl2 hcap2)
    have hr2H := Lib.hid hr2; have hel2H := Lib.hid hel2
    have gH := Lib.hid g
    clear hr hr2 hq htb hok hokE g hel2
    go_enter Tryd.func7, Tryd.ntmps7
    go_wp2_with fail
    generalize w.alloc (.cells #[.int .i64 (n : Int), .slice A len cap] 24) = wg at *
    refine HL.out.mono ?_
    rintro _ w1 ⟨k, gl, L, rfl, hown, hcol, hchi, hkN, hb1⟩
    have q0 := below_cell hb1 (by omega) g0
    have q1 := below_cell hb1 (by omega) g1
    have hs1 := hb1.size
    have hbw := gb.trans (hb1.mono (by omega))
    have HG1 := Lib.hid (HG.out w1 hbw)
    have hownH := Lib.hid hown; have hcolH := Lib.hid hcol; have hchiH := Lib.hid hchi
    clear hb1 g0 g1 hown hcol hchi gb
    go_wp2_with fail
    refine HG1.out.mono ?_
    rintro _ w2 ⟨rfl, hb2⟩
    have q0 := below_cell hb2 (by omega) q0
    have q1 := below_cell hb2 (by omega) q1
    have hs2 := hb2.size
    have hbw2 := hbw.trans (hb2.mono hbw.size)
    have hRl := Lib.hid ((Rd.of_own hownH.out).later hb2)
    have hS2 : w.heap.size < w2.heap.size := by omega
    have hbw2H := Lib.hid hbw2
    have q0H := Lib.hid q0; have q1H := Lib.hid q1
    clear hb2 hbw hownH hbw2
    go_wp2
    go_loopw [8, 9, 10] (fun v c _ wr => ∃ c' : Nat, c' ≤ k ∧ c = .int .i64 c' ∧ wr.ownsRow w2.heap.size 3 1 v (ordI n L c' 0).length (ints .i64 (natI (ordI n L c' 0))) ∧ Below w2.heap.size w2 wr) (fun _ c _ _ => k - (intOf c).toNat)
    case atStart => exact ⟨0, Nat.zero_le _, rfl, World.ownsRow_nil _ _ _ _, Below.refl _ _⟩
    case round =>
      clear q0 q1
      obtain ⟨c, hc, rfl, hown, hb⟩ := hrel
      have hownH := Lib.hid hown; clear hown
      have q0 := below_cell hb hS2 q0H.out
      by_cases hck : c < k
      · go_wp2
        go_loopw [8, 10] (fun v i wx => ∃ i' : Nat, i' ≤ n ∧ i = .int .i64 i' ∧ wx.ownsRow w2.heap.size 3 1 v (ordI n L c i').length (ints .i64 (natI (ordI n L c i'))) ∧ Below w2.heap.size w2 wx) (fun _ i _ => n - (intOf i).toNat)
        case atStart => exact ⟨0, Nat.zero_le _, rfl, hownH.out, hb⟩
        case round =>
          clear q0 hb hownH
          obtain ⟨i, hi, rfl, hown, hb⟩ := hrel
          have q0 := below_cell hb hS2 q0H.out
          by_cases hin : i < n
          · obtain ⟨_, _, hA, hgl, hcl⟩ := (hRl.out.later hb).row hin
            cases hA
            rw [Nat.zero_add] at hcl
            have hoh := Lib.hid hown
            have hbH := Lib.hid hb
            have hlen2 := ordI_len (n := n) (L := L) (c := c) (i := i) (by omega)
            have hii : (i : Int) < n := by omega
            by_cases he : L i = c
            · have htk := Lib.hid (ordI_take n L c i he)
              rw [he] at hcl
              generalize ordI n L c i = y at *
              clear hown hb he
              go_wp2_with (at_builtin; refine wpList_app (s := .tmp 48) (x := .tmp 50) _ tiI (hoh.out.alloc _) (rd_new1 _ (.int .i64 i) 3) (ints_one (l := [(i : Int)])) (by omega) (by omega) (hbH.out.alloc hbH.out.size _).size rfl rfl rfl rfl ?_)
              intro v' w5 hown5 hg5 hat5
              have hb5 : Below w2.heap.size w2 w5 := (hbH.out.alloc hbH.out.size _).grown hg5 (hbH.out.alloc hbH.out.size _).size (fun g hg' => (hoh.out.lt g hg').1)
              clear hg5 hat5
              go_wp2
              go_roundw
              case rel => exact ⟨i + 1, by omega, by go_num, by rw [htk.out, natI_snoc, List.length_append]; simpa [ints] using hown5, hb5⟩
              case measure => simp [intOf]; omega
            · have hsk := Lib.hid (ordI_skip n L c i he)
              have hne : (L i == (c : Int)) = false := by simpa using he
              generalize L i = li at *
              clear hown hb he
              go_wp2
              go_roundw
              case rel => exact ⟨i + 1, by omega, by go_num, by rw [hsk.out]; exact hoh.out, hbH.out⟩
              case measure => simp [intOf]; omega
          · obtain rfl : i = n := by omega
            have hoh := Lib.hid hown
            have hbH := Lib.hid hb
            have htn := Lib.hid (ordI_turn i L c)
            clear hown hb
            go_wp2
            go_roundw
            case rel => exact ⟨c + 1, by omega, by go_num, by rw [htn.out]; exact hoh.out, hbH.out⟩
            case measure => simp [intOf]; omega
      · obtain rfl : c = k := by omega
        have hp := ordI_perm hcolH.out
        have hyl : (ordI n L c 0).length = n := by simpa using hp.length_eq
        have hpw := pw_getD hyl (ordI_pw n L 0 c)
        have hbT := hbw2H.out.trans (hb.mono (by omega))
        obtain ⟨A', c', hv⟩ := own_slice hownH.out
        subst hv
        have hcc := own_capO hownH.out
        rw [hyl] at hcc
        have hown2 := hownH.out
        rw [hyl] at hown2
        have HL1 := Lib.hid (HLo.out wr hbT A' c' _ (Rd.of_own hown2) hcc hp)
        have q1 := below_cell hb hS2 q1H.out
        have hS3 : w.heap.size < wr.heap.size := by have := hb.size; omega
        have hbTH := Lib.hid hbT; have hpH := Lib.hid hp; have hpwH := Lib.hid hpw
        clear hb hbT hp hpw hcc hown2 hownH
        generalize hyy : ordI n L c 0 = y at *
        rw [hyl]
        clear hyy
        go_wp2_with fail
        refine HL1.out.mono ?_
        rintro _ w6 ⟨B, most, rfl, hm0, hm1, hI, hb6⟩
        have q0 := below_cell hb6 hS3 q0
        have q1 := below_cell hb6 hS3 q1
        have hup := hI.under hpH.out hcolH.out hpwH.out
        have hlo := isChi_le hchiH.out (hI.col gH.out hpH.out)
        obtain rfl : most = (c : Int) := by omega
        have hb7 := hbTH.out.trans (hb6.mono hbTH.out.size)
        have HE1 := Lib.hid (HE.out w6 hb7)
        have hS6 : w.heap.size < w6.heap.size := by have := hb6.size; omega
        have hb7H := Lib.hid hb7
        clear hI hup hlo hb6 hb7 HL1
        cases he : eachB n zs
        · rw [he] at HE1
          go_wp2_with fail
          refine HE1.out.mono ?_
          rintro _ w7 ⟨rfl, rfl⟩
          go_wp2
          go_ret
          exact ⟨rfl, hb7H.out⟩
        · rw [he] at HE1
          obtain ⟨y2, hp2, rfl⟩ := (eachB_iff n zs).1 he
          have hl2n : len2 = n := by have := hp2.length_eq; rw [← hel2H.out]; simpa [natI] using this
          subst hl2n
          have HL2 := Lib.hid (HLo.out w6 hb7H.out A2 cap2 y2 (hr2H.out.later hb7H.out) hcap2 hp2)
          have hp2H := Lib.hid hp2
          clear he hp2
          go_wp2_with fail
          refine HE1.out.mono ?_
          rintro _ w7 ⟨rfl, rfl⟩
          go_wp2_with fail
          refine HL2.out.mono ?_
          rintro _ w8 ⟨B2, most2, rfl, hn0, hn1, hI2, hb8⟩
          have hlo2 := isChi_le hchiH.out (hI2.col gH.out hp2H.out)
          have hge : (c : Int) ≤ most2 := by omega
          clear hI2 hlo2
          go_wp2
          go_ret
          exact ⟨rfl, hb7H.out.trans (hb8.mono hb7H.out.size)⟩
theorem colourRoy_any (N : Int) (A : Option Addr) (len cap : Nat) (es : List E) (A2 : Option Addr) (len2 cap2 : Nat) (zs : List Int) (w : World) (_ : (Lit.int .i64 N).wf = true) (hr : Rd w A len 3 (ps3 .i64 .i64 .i64 es)) (hlen : len ≤ maxLen) (hcap : len ≤ cap) (_ : ∀ a ∈ es, (Lit.int .i64 a.1).wf = true ∧ (Lit.int .i64 a.2.1).wf = true ∧ (Lit.int .i64 a.2.2).wf = true)
    (hr2 : Rd w A2 len2 1 (ints .i64 zs)) (hl2 : len2 ≤ maxLen) (hcap2 : len2 ≤ cap2) (_ : ∀ z ∈ zs, (Lit.int .i64 z).wf = true) (htb : Tb w) (hg : 0 < w.heap.size) :
    Calls Tryd.prog 7 #[.agg #[.int .i64 N, .slice A len cap], .slice A2 len2 cap2] w fun e w' => e = .returned (.bool true) ∧ Below w.heap.size w w' := by
  unfold maxLen at hlen hl2
  exact roy_walk N A len cap es w hr (by omega) hcap A2 len2 cap2 zs hr2 (by omega) hcap2 htb hg
end Go.Proofs.YtnpgnohnpbdblaaDoor
