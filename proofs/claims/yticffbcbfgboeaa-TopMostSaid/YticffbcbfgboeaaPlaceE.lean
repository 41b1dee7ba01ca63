/- place.Most. -/
import Derived.Test.YticffbcbfgboeaaPlaceD
namespace Go.Proofs.Yticffbcbfgboeaa
open Go.RowKit Go.Shelf

theorem tiP : TI Try.prog 29 3 (.int .i64 0) 1 8 := TI.mk' Try.underlying29 (by kernel_rfl) rfl (by decide)
theorem pmost_bad (A B : Option Addr) (nw nt cA cB : Nat) (ws : List (Int × Int)) (w : World) (hw : Rd w A nw 2 (ps2 .i64 .u32 ws)) (hnw : nw ≤ 9223372036854775807) (hnt : nt ≤ 9223372036854775807) (hbad : pchk ws nt ≠ 0) :
    Calls Try.prog 29 #[.slice A nw cA, .slice B nt cB] w fun e w' => e = .returned (.tuple #[.slice none 0 0, .int .i64 (pchk ws nt)]) ∧ Below w.heap.size w w' := by
  have HW := Lib.hid (pcheck_any A B nw nt cA cB ws w hw hnw hnt)
  have hb : (pchk ws nt != 0) = true := bne_iff_ne.2 hbad
  clear hw hbad
  generalize pchk ws nt = c at *
  go_enter Try.func29, Try.ntmps29
  go_wp2_with fail
  refine HW.out.mono ?_
  rintro e w1 ⟨rfl, hb1⟩
  go_wp2
  go_ret2
  exact ⟨rfl, hb1⟩
theorem Rd.cut1 {w : World} {b o n : Nat} {xs : List Value} (h : Rd w (some ⟨b, o, none⟩) n 1 xs) (k : Nat) : Rd w (some ⟨b, o + k, none⟩) (n - k) 1 (xs.drop k) := by
  have hl := h.1
  refine ⟨by rw [List.length_drop]; omega, fun hn => ?_⟩
  obtain ⟨b', o', e, hlt, hc⟩ := h.2 (by omega)
  cases e
  refine ⟨b, o + k, rfl, hlt, fun j hj => ?_⟩
  rw [List.getElem?_drop, Nat.add_assoc]
  exact hc (k + j) (by omega)
theorem Rd.none1 {w : World} {A : Option Addr} {n : Nat} {xs : List Value} (hn : n = 0) (hx : xs.length = 0) : Rd w A n 1 xs := ⟨by omega, fun h => by omega⟩
theorem wds_drop (ts : List Nat) (k : Nat) : wds (ts.drop k) = (wds ts).drop k := by unfold wds; rw [List.map_drop]
theorem ints_setL (l : List Int) (a b : Int) : (ints .i64 (l ++ [a])).set l.length (.int .i64 b) = ints .i64 (l ++ [b]) := by simp [ints]
set_option maxHeartbeats 3200000 in
set_option maxRecDepth 100000 in
theorem pmost_ok (A B : Option Addr) (nw nt cA cB : Nat) (ws : List (Int × Int)) (ts : List Nat) (w : World) (hw : Rd w A nw 2 (ps2 .i64 .u32 ws)) (ht : Rd w B nt 1 (wds ts)) (hcB : nt ≤ cB) (hok : pchk ws nt = 0) :
    Calls Try.prog 29 #[.slice A nw cA, .slice B nt cB] w fun e w' => (∃ v room t l, e = .returned (.tuple #[v, .int .i64 0]) ∧ w'.ownsRow w.heap.size 3 1 v nt (ints .i64 l) ∧ Gr (PDm ws ts (rms ws)) nt room t l) ∧ Below w.heap.size w w' := by
  have hwl : ws.length = nw := by have := hw.1; rw [ps2_length] at this; omega
  have htl : ts.length = nt := by have := ht.1; rw [wds_length] at this; omega
  obtain ⟨hnw, hnt, hrm⟩ := pchk_ok hok
  rw [hwl] at hnw hrm
  have HW := Lib.hid (pcheck_any A B nw nt cA cB ws w hw (by omega) (by omega))
  rw [hok] at HW
  obtain ⟨d, hd⟩ : ∃ d, d = PDm ws ts (rms ws) := ⟨_, rfl⟩
  have d1 : d.nw = nw := by rw [hd]; exact hwl
  have d2 : d.nt = nt := by rw [hd]; exact htl
  have d3 : d.room = rms ws := by rw [hd]; rfl
  have d4 : ∀ i j, d.may i j = mayI (wat ws j).2 (ts.getD i 0 : Nat) := by rw [hd]; exact fun _ _ => rfl
  have hwH := Lib.hid hw; have htH := Lib.hid ht; have hrmH := Lib.hid hrm
  have d1H := Lib.hid d1; have d2H := Lib.hid d2; have d3H := Lib.hid d3; have d4H := Lib.hid d4; have hwlH := Lib.hid hwl; have htlH := Lib.hid htl; have hdH := Lib.hid hd
  clear hw ht hok hrm d1 d2 d3 d4 hwl htl hd
  go_enter Try.func29, Try.ntmps29
  go_wp2_with fail
  refine HW.out.mono ?_
  rintro e w1 ⟨rfl, hb1⟩
  have hb1H := Lib.hid hb1
  clear hb1 HW
  go_wp2
  go_loopw [7, 10, 24] (fun v7 _ i wr => ∃ k : Nat, k ≤ nw ∧ i = .int .i64 k ∧ wr.ownsRow w.heap.size 3 1 v7 k (row k (rms ws)) ∧ Below w.heap.size w wr) (fun _ _ i _ => nw - (intOf i).toNat)
  case atStart => exact ⟨0, Nat.zero_le _, rfl, World.ownsRow_nil _ _ _ _, hb1H.out⟩
  case round =>
    clear hb1H
    obtain ⟨k, hk, rfl, hown, hb⟩ := hrel
    obtain ⟨Aq, cq, rfl⟩ := own_slice hown
    by_cases hlt : k < nw
    · obtain ⟨ba, oa, rfl, hba, a0, a1⟩ := (hwH.out.later hb).pair hlt
      have hrk := Lib.hid (show rms ws k = (ws.getD k (0, 0)).1 from rfl)
      generalize ws.getD k (0, 0) = c at *
      obtain ⟨cr, ch⟩ := c
      dsimp only at a0 a1 hrk
      have hownH := Lib.hid hown; have hbH := Lib.hid (hb.alloc hb.size (.cells #[.int .i64 cr, .int .u32 ch] 39))
      clear hown hb
      have hrd := Lib.hid (rd_new1 (wr.alloc (.cells #[.int .i64 cr, .int .u32 ch] 39)) (.int .i64 cr) 3)
      rw [World.size_alloc] at hrd
      go_wp2_with (at_builtin; refine wpList_app (s := .tmp 28) (x := .tmp 31) _ tiP ((hownH.out.alloc _).alloc _) hrd.out (ints_one (l := [cr])) (by omega) (by omega) (hbH.out.alloc hbH.out.size _).size rfl rfl rfl rfl ?_)
      intro v' w5 hown5 hg5 _
      have hb5 : Below w.heap.size w w5 := (hbH.out.alloc hbH.out.size _).grown hg5 (hbH.out.alloc hbH.out.size _).size (fun g hg' => (hownH.out.lt g hg').1)
      rw [show ([Value.int .i64 cr]) = [Value.int .i64 (rms ws k)] by rw [hrk.out], ← row_snoc] at hown5
      have hfin := Lib.hid (And.intro hown5 hb5)
      clear hg5 hown5 hb5
      go_wp2
      go_roundw
      case rel => exact ⟨k + 1, by omega, by go_num, hfin.out⟩
      case measure => simp [intOf]; omega
    · obtain rfl : k = nw := by omega
      have hC := Lib.hid (Rd.of_own hown)
      have hM := Lib.hid (many_any A B Aq k nt cA cB cq ws ts (rms ws) wr (hwH.out.later hb) (htH.out.later hb) hC.out hnw hnt (fun j hj => by have := hrmH.out j hj; unfold rms; omega))
      have hownH := Lib.hid hown; have hbH := Lib.hid hb
      clear hown hb hC
      go_wp2_with fail
      refine hM.out.mono ?_
      rintro e w2 ⟨⟨K, rfl, hK0, hK1, hK⟩, hb2⟩
      rw [← hdH.out] at hK
      have hMS : MS w.heap.size w2.heap.size k (.slice Aq k cq) (.slice none 0 0) (rms ws) [] w2 := ⟨own_later hownH.out hb2, World.ownsRow_nil _ _ _ _, fun g hg => Nat.lt_of_lt_of_le (hownH.out.lt g hg).2 hb2.size, Nat.le_trans hbH.out.size hb2.size, Nat.le_refl _⟩
      have hGr : Gr d 0 (rms ws) K [] := by rw [← d3H.out]; exact .start hK
      have hpos : ∀ j, j < d.nw → 0 ≤ d.room j := by
        rw [d1H.out, d3H.out]
        exact fun j hj => (hrmH.out j hj).1
      have hpgi := Lib.hid (fun (i : Nat) (room : Nat → Int) (t : Int) (l : List Int) (h : Gr d i room t l) (hi : i ≤ nt) => h.pgi hK hpos (by rw [d2H.out]; exact hi))
      have hMSH := Lib.hid hMS; have hGrH := Lib.hid hGr; have hb2H := Lib.hid (hbH.out.trans (hb2.mono hbH.out.size))
      have hKH := Lib.hid hK
      clear hMS hGr hb2 hK hpos hownH hbH hM
      go_wp2
      go_loopw [8, 11, 12, 13, 14, 15, 40] (fun v8 t _ _ _ _ i wr => ∃ (m : Nat) (room : Nat → Int) (T : Int) (l : List Int), m ≤ nt ∧ i = .int .i64 m ∧ t = .int .i64 T ∧ Gr d m room T l ∧ MS w.heap.size w2.heap.size k (.slice Aq k cq) v8 room l wr ∧ Below w.heap.size w wr) (fun _ _ _ _ _ _ i _ => nt - (intOf i).toNat)
      case atStart => exact ⟨0, rms ws, K, [], Nat.zero_le _, rfl, rfl, hGrH.out, hMSH.out, hb2H.out⟩
      case round =>
        clear hMSH hGrH hb2H
        obtain ⟨m, room, T, l, hm, rfl, rfl, hG, hS, hb⟩ := hrel
        obtain ⟨g8, c8, hv8⟩ := own_slice hS.lo
        subst hv8
        by_cases hlt2 : m < nt
        · obtain ⟨bt, ot, rfl, hbt, t0⟩ := (htH.out.later hb).wd hlt2
          have hP := hpgi.out _ _ _ _ hG hm
          have hll := hP.ll
          subst hll
          have htb := hP.t_bd
          have hsz := hS.hC.2
          have hmy := Lib.hid (fun j => d4H.out l.length j)
          have hPH := Lib.hid hP
          generalize ((ts.getD l.length 0 : Nat) : Int) = tk at *
          have hSH := Lib.hid hS; have hGH := Lib.hid hG; have hbH := Lib.hid hb
          clear hP hG hS hb
          go_wp2_with (at_builtin; refine wpList_app (s := .tmp 45) (x := .tmp 46) _ tiP (hSH.out.lo.alloc _) (rd_new1 _ (.int .i64 (-1)) 3) (ints_one (l := [(-1 : Int)])) (by omega) (by omega) (by simp; omega) rfl rfl rfl rfl ?_)
          intro v' w5 hown5 hg5 _
          have hS5 := (hSH.out.alloc (.cells #[.int .i64 (-1)] 3)).app hown5 hg5
          have hb5 : Below w.heap.size w w5 := (hbH.out.alloc hbH.out.size _).grown hg5 (hbH.out.alloc hbH.out.size _).size (fun g hg' => Nat.le_trans hSH.out.hC.1 (hSH.out.lo.lt g hg').1)
          obtain ⟨g5, c5, rfl, hgc5, hgs5⟩ := hown5.form (by omega)
          have hS5H := Lib.hid hS5; have hb5H := Lib.hid hb5
          clear hown5 hg5 hS5 hb5 hSH hbH hgs5 t0 hbt
          have hG5H := hGH; clear hGH
          go_wp2
          go_loopw [11, 14, 15, 50] (fun tv _ _ i wr => ∃ j : Nat, j ≤ k ∧ i = .int .i64 j ∧ tv = .int .i64 T ∧ (∀ j', j' < j → Bad d l.length room T j') ∧ MS w.heap.size w2.heap.size k (.slice Aq k cq) (.slice (some ⟨g5, 0, none⟩) (l.length + 1) c5) room (l ++ [-1]) wr ∧ Below w.heap.size w wr) (fun _ _ _ i _ => k - (intOf i).toNat)
          case atStart => exact ⟨0, Nat.zero_le _, rfl, rfl, fun j' hj' => absurd hj' (by omega), hS5H.out, hb5H.out⟩
          case round =>
            clear hS5H hb5H
            obtain ⟨j, hj, rfl, rfl, hno, hS, hb⟩ := hrel
            by_cases hlt3 : j < k
            · obtain ⟨g7, c7, hv7, _, hg7⟩ := hS.ro.form (by omega)
              simp only [Value.slice.injEq, true_and] at hv7
              obtain ⟨rfl, rfl⟩ := hv7
              obtain ⟨ba, oa, rfl, hba, a0, a1⟩ := (hwH.out.later hb).pair hlt3
              have hrb := hPH.out.room_bd (j := j) (by rw [d1H.out]; exact hlt3)
              have hrb2 := hrmH.out j hlt3
              rw [d3H.out] at hrb
              unfold rms at hrb
              have hmj := Lib.hid (hmy.out j)
              unfold wat at hrb hrb2 hmj
              generalize ws.getD j (0, 0) = c at *
              obtain ⟨cr, ch⟩ := c
              dsimp only at a0 a1 hrb hrb2 hmj
              have hnoH := Lib.hid hno; have hb1 := hb.alloc hb.size (.cells #[.int .i64 cr, .int .u32 ch] 39)
              have hS1 := hS.alloc (.cells #[.int .i64 cr, .int .u32 ch] 39)
              have hq := Blk.new wr 39 #[.int .i64 cr, .int .u32 ch]
              have q0 := hq.cell (j := 0) rfl
              have q1 := hq.cell (j := 1) rfl
              have HM := Lib.hid (may_any cr ch tk (wr.alloc (.cells #[.int .i64 cr, .int .u32 ch] 39)))
              have hS1H := Lib.hid hS1; have hb1H := Lib.hid hb1
              clear hno hS hb hq hS1 hb1
              go_wp2_with fail
              refine HM.out.mono ?_
              rintro e w3 ⟨rfl, hb3⟩
              have hS3 := hS1H.out.later hb3
              have rc := hS3.rcell hlt3
              have fz := hS3.ro.frozenAt j
              have lg := (hS3.ro.lt g7 rfl).2
              have hS3H := Lib.hid hS3; have hb3H := Lib.hid (hb1H.out.trans (hb3.mono hb1H.out.size))
              clear hS3 hb3 hS1H hb1H HM q0 q1 a0 a1
              generalize hrj : room j = rj at *
              cases hmay : mayI ch tk
              · have hbad := Lib.hid (show Bad d l.length room T j from fun hm => by rw [hmj.out, hmay] at hm; cases hm)
                go_wp2
                go_roundw
                case rel => exact ⟨j + 1, by omega, by go_num, rfl, fun j' hj' => by
                  rcases Nat.lt_or_ge j' j with h | h
                  · exact hnoH.out j' h
                  · obtain rfl : j' = j := by omega
                    exact hbad.out, hS3H.out, hb3H.out⟩
                case measure => simp [intOf]; omega
              · by_cases h0 : rj = 0
                · have hbad := Lib.hid (show Bad d l.length room T j from fun _ hr => absurd (hrj.trans h0) hr)
                  clear hrj
                  subst h0
                  go_wp2
                  go_roundw
                  case rel => exact ⟨j + 1, by omega, by go_num, rfl, fun j' hj' => by
                    rcases Nat.lt_or_ge j' j with h | h
                    · exact hnoH.out j' h
                    · obtain rfl : j' = j := by omega
                      exact hbad.out, hS3H.out, hb3H.out⟩
                  case measure => simp [intOf]; omega
                · have h0b : (rj == 0) = false := beq_false_of_ne h0
                  have h0d : decide (rj = 0) = false := decide_eq_false h0
                  have hr1 : IntKind.i64.wrap (rj - 1) = rj - 1 := IntWalk.i64_in _ (by omega)
                  have hS4 := hS3H.out.setR j (rj - 1)
                  rw [← hrj, subR_at, hrj] at hS4
                  have hb4 : Below w.heap.size w (w3.setCell ⟨g7, j, none⟩ (.int .i64 (rj - 1))) := hb3H.out.setCell (hS4.ro.lt g7 rfl).1 _
                  have hbd : ∀ q, q < k → 0 ≤ subR room j q ∧ subR room j q ≤ 1048576 := fun q hq => by
                    have h1 := hPH.out.room_bd (j := q) (by rw [d1H.out]; exact hq)
                    have h2 := hrmH.out q hq
                    rw [d3H.out] at h1
                    unfold rms at h1
                    unfold subR
                    split
                    · rename_i e; subst e; rw [hrj]; omega
                    · omega
                  have HB := Lib.hid (fun (B' : Option Addr) (c' n' : Nat) (hn' : n' = nt - (l.length + 1)) (hB' : B' = some ⟨bt, ot + (l.length + 1), none⟩ ∨ nt - (l.length + 1) = 0) => many_any (some ⟨ba, oa, none⟩) B' (some ⟨g7, 0, none⟩) k n' cA c' cq ws (ts.drop (l.length + 1)) (subR room j) _ (hwH.out.later hb4) (by
                    subst hn'
                    rw [wds_drop]
                    rcases hB' with rfl | h0
                    · exact (htH.out.later hb4).cut1 _
                    · exact Rd.none1 h0 (by rw [List.length_drop, wds_length, htlH.out]; exact h0)) (Rd.of_own hS4.ro) hnw (by omega) hbd)
                  have hS4H := Lib.hid hS4; have hb4H := Lib.hid hb4
                  have hrjH := Lib.hid hrj
                  clear hS4 hb4 hbd hS3H hb3H hrj
                  rcases Nat.lt_or_ge (l.length + 1) cB with hce | hce
                  case' inl =>
                    have hce1 : ¬ cB = l.length + 1 := by omega
                    have hce2 : ¬ l.length + 1 = cB := by omega
                    go_wp2_with fail
                  case' inr =>
                    obtain rfl : cB = l.length + 1 := by omega
                    go_wp2_with fail
                  all_goals refine (HB.out _ _ _ (by omega) (by first | exact .inl rfl | exact .inr (by omega))).mono ?_
                  all_goals rintro e w6 ⟨⟨b, rfl, hb0, hb1, hbM⟩, hb6⟩
                  all_goals rw [pdm_from ws ts (rms ws), ← hdH.out] at hbM
                  all_goals have hS6 := hS4H.out.later hb6
                  all_goals have hb6' := hb4H.out.trans (hb6.mono hb4H.out.size)
                  all_goals have rc6 := hS6.rcell hlt3
                  all_goals have fz6 := hS6.ro.frozenAt j
                  all_goals have lg6 := (hS6.ro.lt g7 rfl).2
                  all_goals have lg7 := (hS6.ro.lt g7 rfl).1
                  all_goals have lo6 := hS6.lo
                  all_goals rw [List.length_append, List.length_singleton] at lo6
                  all_goals have fl6 := lo6.frozenAt l.length
                  all_goals have ll6 := (lo6.lt g5 rfl).2
                  all_goals have ll7 := (lo6.lt g5 rfl).1
                  all_goals have cl6 := (lo6.cellAt l.length (by omega)).trans (show (ints .i64 (l ++ [-1]))[l.length]? = some (.int .i64 (-1)) by simp [ints])
                  all_goals have hC1 := hS6.hC.1
                  all_goals have hS6H := Lib.hid hS6
                  all_goals have hb6H := Lib.hid hb6'
                  all_goals have hbMH := Lib.hid hbM
                  all_goals clear hb6 hb6' hS6 hbM HB hS4H hb4H lo6
                  all_goals (have hsj : subR room j j = rj - 1 := by unfold subR; rw [if_pos rfl, hrjH.out])
                  all_goals rw [hsj] at rc6
                  all_goals clear hsj
                  all_goals (
                    by_cases hT : 1 + b = T
                    · (have hGn := Lib.hid (Gr.take hG5H.out hnoH.out (by rw [d1H.out]; exact hlt3) (by rw [hmj.out]; exact hmay) (by rw [hrjH.out]; exact h0) hbMH.out hT)
                       have hfin := Lib.hid (And.intro (hS6H.out.setL (j : Int)) (hb6H.out.setCell (show w.heap.size ≤ (⟨g5, l.length, none⟩ : Addr).block by show w.heap.size ≤ g5; omega) (.int .i64 j)))
                       clear hS6H hb6H hG5H hnoH
                       subst hT
                       go_wp2
                       go_roundw
                       case rel => exact ⟨l.length + 1, subR room j, b, l ++ [(j : Int)], by omega, by go_num, by go_num, hGn.out, hfin.out⟩
                       case measure => simp [intOf]; omega)
                    · (have hbad := Lib.hid (show Bad d l.length room T j from fun _ _ => ⟨b, hbMH.out, hT⟩)
                       have hTb : (1 + b == T) = false := beq_false_of_ne hT
                       have hTd : decide (1 + b = T) = false := decide_eq_false hT
                       have hr2 : IntKind.i64.wrap (rj - 1 + 1) = rj := by rw [IntWalk.i64_in _ (by omega)]; omega
                       have hfin0 := And.intro (hS6H.out.setR j rj) (hb6H.out.setCell (show w.heap.size ≤ (⟨g7, j, none⟩ : Addr).block from lg7) (.int .i64 rj))
                       have e7 := subR_back room j
                       rw [hrjH.out] at e7
                       rw [e7] at hfin0
                       have hfin := Lib.hid hfin0
                       clear hfin0 e7 hS6H hb6H
                       go_wp2
                       go_roundw
                       case rel => exact ⟨j + 1, by omega, by go_num, rfl, fun j' hj' => by
                         rcases Nat.lt_or_ge j' j with h | h
                         · exact hnoH.out j' h
                         · obtain rfl : j' = j := by omega
                           exact hbad.out, hfin.out⟩
                       case measure => simp [intOf]; omega))
            · have hGn := Lib.hid (Gr.left hG5H.out (fun j' hj' => hno j' (by rw [d1H.out] at hj'; omega)))
              have hfin := Lib.hid (And.intro hS hb)
              clear hS hb hno hG5H
              go_wp2
              go_roundw
              case rel => exact ⟨l.length + 1, room, T, l ++ [-1], by omega, by go_num, rfl, hGn.out, hfin.out⟩
              case measure => simp [intOf]; omega
        · have hll := (hpgi.out _ _ _ _ hG hm).ll
          subst hll
          obtain rfl : l.length = nt := by omega
          have hlo := own_base hS.hC.1 hS.lo
          have hfin := Lib.hid (And.intro hlo (And.intro hG hb))
          clear hlo hG hb hS
          go_wp2
          go_ret2
          exact ⟨⟨_, room, T, l, rfl, hfin.out.1, by rw [← hdH.out]; exact hfin.out.2.1⟩, hfin.out.2.2⟩
end Go.Proofs.Yticffbcbfgboeaa
