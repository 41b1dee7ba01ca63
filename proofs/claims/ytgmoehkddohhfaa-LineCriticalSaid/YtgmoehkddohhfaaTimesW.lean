/- line.Times: the walk. -/
import Derived.Test.YtgmoehkddohhfaaTimes
import Derived.Test.YtgmoehkddohhfaaLast
namespace Go.Proofs.Ytgmoehkddohhfaa
open Go.RowKit Go.Shelf
attribute [local go_sem] Oper.semAt_some

theorem tiL : TI Try.prog 35 2 (.int .i64 0) 1 8 := TI.mk' Try.underlying35 (by kernel_rfl) rfl (by decide)
def TimPost (l : List Jb) (w : World) (e : Ending) (w' : World) : Prop :=
  Below w.heap.size w w' ∧ ((∃ c : Int, c ≠ 0 ∧ e = .returned (.tuple #[.slice none 0 0, .slice none 0 0, .int .i64 0, .int .i64 c])) ∨
    ∃ g1 g2 E L en, jchk l = 0 ∧ e = .returned (.tuple #[.slice (some ⟨g1, 0, none⟩) l.length l.length, .slice (some ⟨g2, 0, none⟩) l.length l.length, .int .i64 en, .int .i64 0]) ∧
      Rd w' (some ⟨g1, 0, none⟩) l.length 1 (row l.length E) ∧ Rd w' (some ⟨g2, 0, none⟩) l.length 1 (row l.length L) ∧ Told (aftJ l) (tmJ l) l.length E L en ∧ en ≤ 11534336)
theorem times_err (c : Int) (hc : c ≠ 0) (A : Option Addr) (len cap : Nat) (l : List Jb) (w : World) (HO : Calls Try.prog 5 #[.slice A len cap] (w.alloc (.cells #[.slice A len cap] 22)) (ErrPost c (w.alloc (.cells #[.slice A len cap] 22)))) :
    Calls Try.prog 10 #[.slice A len cap] w (TimPost l w) := by
  have HOH := Lib.hid HO
  have hcb : (c != 0) = true := by simpa using hc
  have hcH := Lib.hid hc
  clear HO hc
  go_enter Try.func10, Try.ntmps10
  go_wp2_with fail
  refine HOH.out.mono ?_
  rintro e w1 ⟨rfl, hb1⟩
  have hbx := Lib.hid (((Below.refl _ w).alloc (Nat.le_refl _) (.cells #[.slice A len cap] 22)).trans (hb1.mono (by simp)))
  clear HOH hb1
  go_wp2
  refine bodyPost_ret (v := .tuple #[.slice none 0 0, .slice none 0 0, .int .i64 0, .int .i64 c]) (by simp [results, Try.results10, go_sem]) rfl ⟨hbx.out, .inl ⟨c, hcH.out, rfl⟩⟩
set_option maxHeartbeats 1600000 in
set_option maxRecDepth 100000 in
theorem times_main (q : List Int) (A : Option Addr) (len cap : Nat) (l : List Jb) (w : World) (hr : RdJ w A len l) (hc : jchk l = 0) (hk : kahn l l.length [] = some q)
    (HO : Calls Try.prog 5 #[.slice A len cap] (w.alloc (.cells #[.slice A len cap] 22)) (OrdPost l (w.alloc (.cells #[.slice A len cap] 22)))) :
    Calls Try.prog 10 #[.slice A len cap] w (TimPost l w) := by
  have HOH := Lib.hid HO
  have hel := hr.1
  have hlen := jchk_len hc
  rw [hel] at hlen
  obtain ⟨hgood, hql⟩ := kahn_good l l.length [] q (Good.nil l) hk
  have hql : q.length = l.length := by simpa using hql
  have hoH := Lib.hid (good_ord hgood hql)
  have hq0 : ∀ m, m < len → q.getD m 0 = (PJ q m : Int) := fun m hm => by
    obtain ⟨_, k, _, h2, _⟩ := hgood m (by omega)
    unfold PJ; rw [h2]; simp
  have hq0H := Lib.hid hq0
  have helH := Lib.hid hel; have hcH := Lib.hid hc; have hrH := Lib.hid hr; have hkH := Lib.hid hk; have hqlH := Lib.hid (show q.length = len by rw [hql, hel])
  have hjok := Lib.hid (jchk_all hc)
  have htmH := Lib.hid (tmJ_bd hc)
  clear HO hr hc hk hgood hql hq0 hel
  refine calls_of_wp_calm 4 Try.func10 rfl ?_
  simp only [Try.ntmps10, List.size_toArray, List.length_cons, List.length_nil, Nat.reduceAdd, Nat.reduceSub, Array.replicate_succ, Array.replicate_zero, List.push_toArray, List.append_toArray, List.nil_append, List.cons_append]
  go_wp2_with fail
  refine HOH.out.mono ?_
  rintro e w1 ⟨hb1, hcase⟩
  rw [hkH.out] at hcase
  rcases hcase with ⟨h, _⟩ | ⟨q', v, h, rfl, hown⟩
  · cases h
  injection h with h
  subst h
  obtain ⟨Aq, cq, rfl, hcap⟩ := own_slice_cap hown
  have hqr := Lib.hid (Rd.of_own hown)
  have hql := hqlH.out
  rw [hql] at hqr
  rw [hql]
  have hbw := ((Below.refl _ w).alloc (Nat.le_refl _) (.cells #[.slice A len cap] 22)).trans (hb1.mono (by simp))
  have hbox1 := cell_of_alloc hb1
  have hsz1 := hb1.size
  have hsz : w.heap.size < w1.heap.size := by simp at hsz1; omega
  have hbwH := Lib.hid hbw
  have hrw := Lib.hid (hrH.out.later hbw)
  clear hcap hown hb1 HOH hbw hsz1 hql
  go_wp2_with (at_make; refine wpList_mk1 _ tiL w1.heap.size len (by omega) (by omega) (Nat.le_refl _) rfl rfl rfl rfl rfl rfl rfl ?_)
  intro w2 hown2 hg2
  rw [row_replicate] at hown2
  have hb2 := below_grown hg2
  clear hg2
  go_wp2
  generalize hge : w1.heap.size = ge at *
  go_loopw [9, 11, 34, 13, 42, 43, 44] (fun en _ i _ _ _ _ wr => ∃ (k : Nat) (E : Nat → Int) (e : Int), k ≤ len ∧ i = .int .i64 k ∧ en = .int .i64 e ∧ Fw (aftJ l) (tmJ l) (PJ q) 1048576 k E e ∧ wr.ownsRow ge 2 1 (.slice (some ⟨ge, 0, none⟩) len len) len (row len E) ∧ Below ge w1 wr) (fun _ _ i _ _ _ _ _ => len - (intOf i).toNat)
  case atStart => exact ⟨0, _, _, Nat.zero_le _, rfl, rfl, Fw.start (by omega), hown2, hb2⟩
  case round =>
    clear hown2 hb2
    obtain ⟨k, E, en, hk, rfl, rfl, hfw, hown, hb⟩ := hrel
    have hbox := below_cell hb hsz hbox1
    have hfwH := Lib.hid hfw
    have hbH := Lib.hid hb
    by_cases hlt : k < len
    · obtain ⟨bq, oq, rfl, hab, hcq⟩ := (hqr.out.below (by omega) hb).int hlt
      rw [hq0H.out k hlt] at hcq
      have hi := hoH.out.lt k (by rw [helH.out]; exact hlt)
      rw [helH.out] at hi
      have hkl := Lib.hid hlt
      obtain ⟨bb, o, rfl, hab2, hc0, hc1, _, _, hfit⟩ := hrw.out.at hi
      have hc0 := below_cell hb (by omega) hc0
      have hc1 := below_cell hb (by omega) hc1
      have hfitH := Lib.hid hfit.1
      have hsmall := Lib.hid (fun l' hl' => hfw.small hoH.out htmH.out (k := k) (by rw [helH.out]; exact hlt) l' hl')
      have hjk := Lib.hid (hjok.out _ (jat_mem (k := PJ q k) (by rw [helH.out]; exact hi)))
      have hl'10 := hjk.out.len
      have hownH := Lib.hid hown
      have hnext := Lib.hid (hfw.next hoH.out htmH.out (by rw [helH.out]; exact hlt))
      have hkb : (k : Int) ≤ 10 := by omega
      have haf : (jat l (PJ q k)).after.length = (jat l (PJ q k)).len := by have := hfit.1.1; simpa [ints] using this
      have hafH := Lib.hid haf
      clear hfw hown hb hfit haf
      unfold aftJ at hsmall hnext
      generalize PJ q k = i at *
      have hjz := Lib.hid hjk.out.z
      have hti := tmJ_bd hcH.out i
      have htiH := Lib.hid (show (jat l i).time = tmJ l i from rfl)
      rw [htiH.out] at hc0
      clear hjk
      generalize (jat l i).A = A' at *
      generalize (jat l i).len = l' at *
      generalize (jat l i).cap = c' at *
      generalize (jat l i).after = af at *
      generalize htt : tmJ l i = ti at *
      go_wp2
      go_loopw [13, 44] (fun _ jj wr => ∃ (t : Nat), t ≤ l' ∧ jj = .int .i64 t ∧ wr.ownsRow ge 2 1 (.slice (some ⟨ge, 0, none⟩) len len) len (row len (fIn (tmJ l) i E (af.take t))) ∧ Below ge w1 wr) (fun _ jj _ => l' - (intOf jj).toNat)
      case atStart => exact ⟨0, Nat.zero_le _, rfl, hownH.out, hbH.out⟩
      case round =>
        clear hbox hc0 hc1 hab hcq
        obtain ⟨t, ht, rfl, hown, hb⟩ := hrel
        have hbox := below_cell hb hsz hbox1
        have hbH := Lib.hid hb
        by_cases htl : t < l'
        · have htlH := Lib.hid htl
          obtain ⟨b2, o2, rfl, hab3, hcz⟩ := (hfitH.out.below (by omega) hb).int htl
          have hmem : af.getD t 0 ∈ af := by simp [List.getD, show t < af.length by rw [hafH.out]; exact htl]
          have hz := hjz.out _ hmem
          rw [helH.out] at hz
          obtain ⟨zn, hzn⟩ : ∃ zn : Nat, af.getD t 0 = (zn : Int) := ⟨(af.getD t 0).toNat, by omega⟩
          rw [hzn] at hcz hz
          have hzl : zn < len := by omega
          obtain ⟨_, _, hA', _, hz0', _, _, _, _⟩ := hrw.out.at hzl
          have hz0 := below_cell hb (by omega) hz0'
          injection hA' with hA'
          injection hA' with hA' hA'' _
          subst hA' hA''
          have htk : af.take (t + 1) = af.take t ++ [(zn : Int)] := by
            have hh : t < af.length := by rw [hafH.out]; exact htl
            rw [List.take_succ_eq_append_getElem hh, ← hzn]; simp [List.getD, hh]
          have hstep := fIn_snoc (tmJ l) i E (af.take t) (zn : Int)
          rw [← htk, Int.toNat_natCast] at hstep
          have hstepH := Lib.hid hstep
          clear hstep
          have hs1 := hsmall.out (af.take t) (fun _ h => List.mem_of_mem_take h)
          have e1 := (hown.cellAt i (by omega)).trans (row_get hi)
          have e2 := (hown.cellAt zn (by omega)).trans (row_get hzl)
          have e3 := hown.frozenAt i
          have hsa := hs1 i
          have hsb := hs1 zn
          have htz := htmH.out zn
          have hownH := Lib.hid hown
          change wr.cell? ⟨bb, o + zn * 4, none⟩ = some (.int .i64 (tmJ l zn)) at hz0
          clear hz0'
          clear hown hb hs1 hmem htk hz
          generalize fIn (tmJ l) i E (af.take t) = G at *
          generalize tmJ l zn = tz at *
          generalize hGa : G i = a at *
          generalize hGb : G zn = b at *
          have hii : (i : Int) < len := by omega
          have hzi : (zn : Int) < len := by omega
          have hi00 : (0 : Int) ≤ i := by omega
          have hz00 : (0 : Int) ≤ zn := by omega
          have hbb1 : 0 ≤ b + tz := by omega
          have hbb2 : b + tz ≤ 20000000 := by omega
          have hGaH := Lib.hid hGa; have hGbH := Lib.hid hGb
          clear hGa hGb hzn hc1 hsa hsb htz
          go_wp2
          clear hcz
          go_region
          go_wp2
          go_roundw
          case rel =>
            refine ⟨t + 1, by omega, by go_num, ?_, (hbH.out.setCell (p := ⟨ge, i, none⟩) (Nat.le_refl _) _).drew⟩
            have := own_drew ((hownH.out.stored i (.int .i64 (if a < b + tz then b + tz else a))).1)
            rw [row_set] at this
            rw [hstepH.out]
            exact this
          case measure => simp [intOf]; omega
        · obtain rfl : t = l' := by omega
          have hall : af.take t = af := List.take_of_length_le (by rw [hafH.out]; exact Nat.le_refl _)
          rw [hall] at hown
          have hsi := hsmall.out af (fun _ h => h) i
          have e1 := (hown.cellAt i (by omega)).trans (row_get hi)
          obtain ⟨_, _, hA', _, hi0', _, _, _, _⟩ := hrw.out.at hi
          have hi0 := below_cell hb (by omega) hi0'
          injection hA' with hA'
          injection hA' with hA' hA'' _
          subst hA' hA''
          rw [htiH.out] at hi0
          have hownH := Lib.hid hown
          have hen0 := hfwH.out.e0
          have hen1 := hfwH.out.e1
          have hnextH := Lib.hid (hnext.out)
          clear hown hall hi0' hb
          generalize hGg : fIn (tmJ l) i E af = G at *
          generalize hGa : G i = a at *
          have hii : (i : Int) < len := by omega
          have hi00 : (0 : Int) ≤ i := by omega
          have hbb1 : 0 ≤ a + ti := by omega
          have hbb2 : a + ti ≤ 20000000 := by omega
          have hGaH := Lib.hid hGa
          clear hGa hGg hnext hsmall hfwH
          go_wp2
          go_region
          go_wp2
          go_roundw
          case rel =>
            exact ⟨k + 1, G, if en < a + ti then a + ti else en, by omega, by go_num, rfl, hnextH.out, hownH.out, hbH.out.drew⟩
          case measure => simp [intOf]; omega
    · obtain rfl : k = len := by omega
      obtain ⟨wL, rfl⟩ : ∃ wL : World, wL = wr := ⟨_, rfl⟩
      have hownH := Lib.hid hown
      have hsz2 := hb.size
      have hen0 := hfw.e0
      have hen1 := hfw.e1
      have hbx := below_cell hb hsz hbox1
      clear hfw hown hb hbox
      go_wp2_with (at_make; refine wpList_mk1 _ tiL wL.heap.size k (by omega) (by omega) (Nat.le_refl _) rfl rfl rfl rfl rfl rfl rfl ?_)
      intro w4 hown4 hg4
      rw [row_replicate] at hown4
      have hb4 := below_grown hg4
      clear hg4
      have hs4 := hb4.size
      have hbx4 := below_cell hb4 (by omega) hbx
      have hbx5 := alloc_cell (by omega) hbx4 (Obj.cells #[.slice (some ⟨wL.heap.size, 0, none⟩) k k] 35)
      have hb5 := hb4.alloc hs4 (Obj.cells #[.slice (some ⟨wL.heap.size, 0, none⟩) k k] 35)
      have hown5 := hown4.alloc (Obj.cells #[.slice (some ⟨wL.heap.size, 0, none⟩) k k] 35)
      have hcb5 : (w4.alloc (Obj.cells #[.slice (some ⟨wL.heap.size, 0, none⟩) k k] 35)).cell? ⟨w4.heap.size, 0, none⟩ = some (.slice (some ⟨wL.heap.size, 0, none⟩) k k) := by go_simp
      have hsz5 : (w4.alloc (Obj.cells #[.slice (some ⟨wL.heap.size, 0, none⟩) k k] 35)).heap.size = w4.heap.size + 1 := by simp
      have hbw5 := Lib.hid (hbH.out.trans (hb5.mono (by omega)))
      have hbw5' := Lib.hid hb5
      have hgl : wL.heap.size < w4.heap.size := by
        have := (hown4.lt _ rfl).2
        simpa using this
      clear hown4 hb4 hbx4 hb5
      go_wp2
      generalize w4.alloc (Obj.cells #[.slice (some ⟨wL.heap.size, 0, none⟩) k k] 35) = w5 at *
      generalize hgle : wL.heap.size = gl at *
      generalize hble : w4.heap.size = bl at *
      go_loopw [15, 16, 85] (fun _ _ i wx => ∃ (k2 : Nat) (F : Nat → Int), k2 ≤ k ∧ i = .int .i64 k2 ∧ (∀ j, j < k2 → F j = en - tmJ l j) ∧ wx.ownsRow gl 2 1 (.slice (some ⟨gl, 0, none⟩) k k) k (row k F) ∧ wx.cell? ⟨bl, 0, none⟩ = some (.slice (some ⟨gl, 0, none⟩) k k) ∧ bl < wx.heap.size ∧ Below gl wL wx) (fun _ _ i _ => k - (intOf i).toNat)
      case atStart => exact ⟨0, _, Nat.zero_le _, rfl, fun j hj => absurd hj (by omega), hown5, hcb5, by omega, hbw5'.out⟩
      case round =>
        clear hown5 hcb5 hbx5 hsz5
        obtain ⟨k2, F, hk2, rfl, hF, hown, hcb, hblt, hb⟩ := hrel
        have hbx6 := below_cell hb (by omega) hbx
        have hFH := Lib.hid hF
        have hbb := hbH.out.trans (hb.mono (by omega))
        by_cases hlt2 : k2 < k
        · obtain ⟨bb, o, rfl, hab2, hc0, hc1, hc2, hc3, _⟩ := hrw.out.at hlt2
          have hc0 := below_cell hbb (by omega) hc0
          have hc1 := below_cell hbb (by omega) hc1
          have hc2 := below_cell hbb (by omega) hc2
          have hc3 := below_cell hbb (by omega) hc3
          have htt := tmJ_bd hcH.out k2
          have htmE := Lib.hid (show (jat l k2).time = tmJ l k2 from rfl)
          rw [htmE.out] at hc0
          generalize tmJ l k2 = ti at *
          generalize (jat l k2).A = A' at *
          generalize (jat l k2).len = l' at *
          generalize (jat l k2).cap = c' at *
          generalize (jat l k2).due = du at *
          generalize (jat l k2).worth = wo at *
          have f1 := alloc_cell hblt hcb (Obj.cells #[.int .i64 ti, .slice A' l' c', .int .i64 du, .int .i64 wo] 32)
          have hownX := hown.alloc (Obj.cells #[.int .i64 ti, .slice A' l' c', .int .i64 du, .int .i64 wo] 32)
          have f2 := hownX.frozenAt k2
          have f4 := (hownX.cellAt k2 (by omega)).trans (row_get hlt2)
          have hownXH := Lib.hid hownX
          have hii : (k2 : Int) < k := by omega
          have hi00 : (0 : Int) ≤ k2 := by omega
          have hblg : bl ≠ gl := by omega
          have hsz6 := hb.size
          have hbH6 := Lib.hid (hb.alloc (by omega) (Obj.cells #[.int .i64 ti, .slice A' l' c', .int .i64 du, .int .i64 wo] 32))
          clear hown hF hownX hb hbb
          go_wp2
          go_roundw
          case rel =>
            refine ⟨k2 + 1, uT F k2 (en - ti), by omega, by go_num, fun j hj => ?_, ?_, cell_set_other hblg f1, by simp; omega, hbH6.out.setCell (p := ⟨gl, k2, none⟩) (Nat.le_refl _) _⟩
            · by_cases hjk : j = k2
              · subst hjk; rw [uT_same]; have := htmE.out; unfold tmJ; omega
              · rw [uT_other _ _ hjk]; exact hFH.out j (by omega)
            · have := (hownXH.out.stored k2 (.int .i64 (en - ti))).1
              rw [row_set] at this
              exact this
          case measure => simp [intOf]; omega
        · obtain rfl : k2 = k := by omega
          rw [row_congr (G := fun j => en - tmJ l j) hFH.out] at hown
          have hbbH := Lib.hid hbb
          have hsz6 := hb.size
          clear hF hFH hbb
          go_wp2_with fail
          refine (back_any Aq k2 cq wr).mono ?_
          rintro e w6 ⟨rfl, rfl⟩
          go_wp2
          refine (wpIn_wide (n := 4)).1 ?_
          have hcB : (wr.alloc (Obj.cells #[.slice Aq k2 cq] 23)).cell? ⟨wr.heap.size, 0, none⟩ = some (.slice Aq k2 cq) := by go_simp
          have hownB := hown.alloc (Obj.cells #[.slice Aq k2 cq] 23)
          have hcbB := alloc_cell hblt hcb (Obj.cells #[.slice Aq k2 cq] 23)
          have hbB := hb.alloc (by omega) (Obj.cells #[.slice Aq k2 cq] 23)
          have hszB : (wr.alloc (Obj.cells #[.slice Aq k2 cq] 23)).heap.size = wr.heap.size + 1 := by simp
          have hqL := hqr.out.below (by omega) hbH.out
          generalize hBs : wr.heap.size = Bs at *
          generalize wr.alloc (Obj.cells #[.slice Aq k2 cq] 23) = wB at *
          have hfold := fun (l0 : List Nat) => fold_bd (P := PJ q) (aft := aftJ l) (tm := tmJ l) (M := 1048576) (U := 11534336) (L := fun j => en - tmJ l j) htmH.out (fun i => by
            unfold aftJ
            by_cases hi : i < l.length
            · have h1 := (hjok.out _ (jat_mem hi)).len
              obtain ⟨_, _, _, _, _, _, _, _, hf⟩ := hrw.out.at (k := i) (by rw [← helH.out]; exact hi)
              have : (jat l i).after.length = (jat l i).len := by have := hf.1.1; simpa [ints] using this
              omega
            · rw [jat_big hi]; exact Nat.zero_le _) (fun j => by have := htmH.out j; omega) l0
          refine' wpIn_rangeFunc_ownG (F := Fence.wide) (n := 4) (α := Pl k2) (gf := 19) (lb := #[.pointer (some ⟨Bs, 0, none⟩)]) rfl (by omega) rfl trivial (enters_of Try.func19 (by kernel_rfl) rfl)
            (back_stops 3 (by omega) Bs gl Aq k2 cq q wL hqL (by omega) (by omega) wB hbB (by omega) (by omega) hcB)
            (fun h h' => KpB.trans h h') (kpB_b (by omega)) (Below.refl _ _) (fun _ => rfl)
            (fun pre W => (W.ownsRow gl 2 1 (.slice (some ⟨gl, 0, none⟩) k2 k2) k2 (row k2 ((pre.map (·.1)).foldl (bSt (aftJ l) (tmJ l) (PJ q)) (fun j => en - tmJ l j))) ∧ W.cell? ⟨bl, 0, none⟩ = some (.slice (some ⟨gl, 0, none⟩) k2 k2) ∧ bl < W.heap.size) ∧ Below gl wL W)
            (fun _ _ _ => False) ?hI (fun _ _ _ _ _ h _ _ => h) ⟨⟨hownB, hcbB, by omega⟩, hbB⟩ _ ?assign ?body ?done (fun _ _ _ _ _ _ h _ => h.elim)
          case hI =>
            refine OwnFrom.and (fun s A B row hs hg hr => ⟨hs.1.kept hg (.inr ?_), cell_kept hs.2.1 hg (fun r e => (hr r e).2), Nat.lt_of_lt_of_le hs.2.2 hg.size⟩) (ownFrom_below (by omega) (by omega))
            cases row with
            | none => simp [Value.ownBlock]
            | some r => have := (hr r rfl).1; simp [Value.ownBlock]; omega
          case assign =>
            intro l0 x W K hK
            gi_wp2
            exact hK
          case body =>
            rintro l0 pre x W ⟨⟨hown, hcb, hbl⟩, hb⟩ hprl
            have hxl := x.2
            have hxi : q[x.1]?.getD 0 = (PJ q x.1 : Int) := by rw [← List.getD_eq_getElem?_getD]; exact hq0H.out x.1 hxl
            rw [hxi]
            have hi := hoH.out.lt x.1 (by rw [helH.out]; exact hxl)
            rw [helH.out] at hi
            have hbge := hbH.out.trans (hb.mono (by omega))
            have hbox := below_cell hbge hsz hbox1
            obtain ⟨bb, o, rfl, hab2, hc0, hc1, _, _, hfit⟩ := hrw.out.at hi
            have hc1 := below_cell hbge (by omega) hc1
            have hfitH := Lib.hid hfit.1
            have hjk := Lib.hid (hjok.out _ (jat_mem (k := PJ q x.1) (by rw [helH.out]; exact hi)))
            have hl'10 := hjk.out.len
            have haf : (jat l (PJ q x.1)).after.length = (jat l (PJ q x.1)).len := by have := hfit.1.1; simpa [ints] using this
            have hafH := Lib.hid haf
            have hLb := hfold (pre.map (·.1))
            rw [List.length_map] at hLb
            have hnx : (pre ++ [x]).map (·.1) = pre.map (·.1) ++ [x.1] := by simp
            have hstepL := Lib.hid (show ((pre ++ [x]).map (·.1)).foldl (bSt (aftJ l) (tmJ l) (PJ q)) (fun j => en - tmJ l j) = bIn (tmJ l) (PJ q x.1) ((pre.map (·.1)).foldl (bSt (aftJ l) (tmJ l) (PJ q)) (fun j => en - tmJ l j)) (jat l (PJ q x.1)).after by
              rw [hnx, List.foldl_append]; rfl)
            have hLbH := Lib.hid hLb
            have hownH := Lib.hid hown
            have hbH2 := Lib.hid hb
            clear hLb haf hfit hxi hnx hown hfold
            generalize (pre.map (·.1)).foldl (bSt (aftJ l) (tmJ l) (PJ q)) (fun j => en - tmJ l j) = Lp at *
            generalize PJ q x.1 = i at *
            have hjz := Lib.hid hjk.out.z
            clear hjk
            generalize (jat l i).A = A' at *
            generalize (jat l i).len = l' at *
            generalize (jat l i).cap = c' at *
            generalize (jat l i).after = af at *
            have hpr : (pre.length : Int) ≤ 9 := by omega
            gi_wp2
            gi_loopw [20, 108] (fun _ jj wr => ∃ (t : Nat), t ≤ l' ∧ jj = .int .i64 t ∧ wr.ownsRow gl 2 1 (.slice (some ⟨gl, 0, none⟩) k2 k2) k2 (row k2 (bIn (tmJ l) i Lp (af.take t))) ∧ wr.cell? ⟨bl, 0, none⟩ = some (.slice (some ⟨gl, 0, none⟩) k2 k2) ∧ bl < wr.heap.size ∧ Below gl wL wr ∧ KpB gl Bs W wr ∧ KeepsOthers W wr) (fun _ jj _ => l' - (intOf jj).toNat)
            case atStart => exact ⟨0, Nat.zero_le _, rfl, hownH.out, hcb, hbl, hbH2.out, KpB.refl _ _ _, KeepsOthers.refl _⟩
            case round =>
              clear hcb hbl hb hbox hc0 hc1 hbge
              obtain ⟨t, ht, rfl, hown, hcb, hbl, hb, hkp, hko⟩ := hrel
              have hbge := hbH.out.trans (hb.mono (by omega))
              have hbox := below_cell hbge hsz hbox1
              have hbH3 := Lib.hid hb
              have hkpH := Lib.hid hkp; have hkoH := Lib.hid hko
              by_cases htl : t < l'
              · obtain ⟨b2, o2, rfl, hab3, hcz⟩ := (hfitH.out.below (by omega) hbge).int htl
                have hmem : af.getD t 0 ∈ af := by simp [List.getD, show t < af.length by rw [hafH.out]; exact htl]
                have hz := hjz.out _ hmem
                rw [helH.out] at hz
                obtain ⟨zn, hzn⟩ : ∃ zn : Nat, af.getD t 0 = (zn : Int) := ⟨(af.getD t 0).toNat, by omega⟩
                rw [hzn] at hcz hz
                have hzl : zn < k2 := by omega
                obtain ⟨_, _, hA', _, hz0', _, _, _, _⟩ := hrw.out.at hzl
                have hz0 := below_cell hbge (by omega) hz0'
                injection hA' with hA'
                injection hA' with hA' hA'' _
                subst hA' hA''
                have htk : af.take (t + 1) = af.take t ++ [(zn : Int)] := by
                  have hh : t < af.length := by rw [hafH.out]; exact htl
                  rw [List.take_succ_eq_append_getElem hh, ← hzn]; simp [List.getD, hh]
                have hstep := bIn_snoc (tmJ l) i Lp (af.take t) (zn : Int)
                rw [← htk, Int.toNat_natCast] at hstep
                have hstepH := Lib.hid hstep
                clear hstep
                have hbd := bIn_bd (tmJ l) i Lp 1048576 11534336 (af.take t) htmH.out _ hLbH.out i
                have hlt10 : ((af.take t).length : Int) ≤ 10 := by rw [List.length_take]; omega
                have e1 := (hown.cellAt zn (by omega)).trans (row_get hzl)
                have e2 := (hown.cellAt i (by omega)).trans (row_get hi)
                have e3 := hown.frozenAt zn
                have htz := htmH.out zn
                have hownH := Lib.hid hown
                change wr.cell? ⟨bb, o + zn * 4, none⟩ = some (.int .i64 (tmJ l zn)) at hz0
                clear hz0' hown hb hmem htk hz
                generalize bIn (tmJ l) i Lp (af.take t) = G at *
                generalize tmJ l zn = tz at *
                generalize hGa : G zn = a at *
                generalize hGb : G i = b at *
                have hii : (i : Int) < k2 := by omega
                have hzi : (zn : Int) < k2 := by omega
                have hi00 : (0 : Int) ≤ i := by omega
                have hz00 : (0 : Int) ≤ zn := by omega
                have hbb1 : -2000000000 ≤ b - tz := by omega
                have hbb2 : b - tz ≤ 2000000000 := by omega
                have hgb : bl ≠ gl := by omega
                have hBg : Bs ≠ gl := by omega
                clear hGa hGb hzn hbd hlt10 htz hpr
                gi_wp2
                clear hcz
                have hw64 : IntKind.i64.wrap (b - tz) = b - tz := IntWalk.i64_in _ (by omega)
                refine region_round_lit (by kernel_rfl) rfl (by kernel_rfl) (by kernel_rfl) ?_
                dsimp only [List.dropLast]
                repeat (gi_big_quiet_step (fail))
                refine wpQuietIn_nil ?_
                rintro _ ⟨nq, rfl⟩
                gi_wp2
                go_roundw
                case rel =>
                  have hdn : Below gl wr (wr.drewN nq) := ⟨rfl, rfl, rfl, Nat.le_refl _, fun _ _ => rfl⟩
                  have hdk : KeepsOthers wr (wr.drewN nq) := ⟨Nat.le_refl _, fun _ _ h _ => h⟩
                  refine ⟨t + 1, by omega, by go_num, ?_, cell_set_other hgb hcb, by simpa using hbl, (hbH3.out.trans hdn).setCell (p := ⟨gl, zn, none⟩) (Nat.le_refl _) _, ⟨(hkpH.out.1.trans hdn).setCell (p := ⟨gl, zn, none⟩) (Nat.le_refl _) _, fun c hc => cell_set_other hBg (hkpH.out.2 c hc)⟩, (hkoH.out.trans hdk).trans (KeepsOthers.setCell _ _ _)⟩
                  have := ((own_drewN hownH.out nq).stored zn (.int .i64 (if b - tz < a then b - tz else a))).1
                  rw [row_set] at this
                  rw [hstepH.out]
                  exact this
                case measure => simp [intOf]; omega
              · obtain rfl : t = l' := by omega
                have hall : af.take t = af := List.take_of_length_le (by rw [hafH.out]; exact Nat.le_refl _)
                rw [hall] at hown
                have hownH := Lib.hid hown
                clear hown hall
                gi_wp2
                exact ⟨hkoH.out.from _, hkpH.out, ⟨by rw [hstepL.out]; exact hownH.out, hcb, hbl⟩, hbH3.out⟩
          case done =>
            rintro D ys W hD hys ⟨⟨hown, hcb, hbl⟩, hb⟩ hK
            rw [hys] at hown
            unfold bkTo at hown
            have hbge := hbH.out.trans (hb.mono (by omega))
            have hbw' := Bw.all hoH.out (M := 1048576) (by rw [helH.out]; exact hfwH.out) (Bw.start (fun i hi => inj_surj hoH.out.lt hoH.out.ne i hi) (by rw [helH.out]; exact hfwH.out)) k2 (by rw [helH.out]; exact Nat.le_refl _)
            have htold := Lib.hid (told hoH.out (fun i hi => inj_surj hoH.out.lt hoH.out.ne i hi) (by rw [helH.out]; exact hfwH.out) (by rw [helH.out] at hbw' ⊢; exact hbw'))
            have hlateH := Lib.hid hown
            have hbgeH := Lib.hid hbge
            have hbH4 := Lib.hid hb
            have hDw : wB.heap.size ≤ D := hD
            have hen2 : en ≤ 11534336 := by omega
            clear hown hb hbge hbw' hys
            go_wp2
            go_quiet (fail)
            go_wp2
            have hK' : (W.drewN nq).heap[D]? = some (.deferred (some [])) := hK
            refine ⟨by simp, .inl ⟨_, _, rfl, run_takeDeferred hK', ?_⟩⟩
            have hbD : Below gl (W.drewN nq) ((W.drewN nq).putObj D (.deferred none)) := belowK_b (w := wB) (by omega) _ D _ _ hDw hK' rfl rfl
            have hbL := (below_drewN hbH4.out nq).trans hbD
            refine ⟨.tuple #[.slice (some ⟨ge, 0, none⟩) k2 k2, .slice (some ⟨gl, 0, none⟩) k2 k2, .int .i64 en, .int .i64 0], by simp [results, Try.results10, go_sem], hbwH.out.trans ((hbH.out.trans (hbL.mono (by omega))).mono (by omega)), .inr ⟨ge, gl, E, _, en, hcH.out, by rw [helH.out], ?_, ?_, htold.out, hen2⟩⟩
            · rw [helH.out]
              exact (Rd.of_own hownH.out).below (by omega) hbL
            · rw [helH.out]
              exact Rd.of_own ((own_drewN hlateH.out nq).kept (row := some D) (grownBy_putObj' _ D _) (.inr (by simp [Value.ownBlock]; omega)))
theorem times_any (A : Option Addr) (len cap : Nat) (l : List Jb) (w : World) (hr : RdJ w A len l) (hl : len ≤ 9223372036854775807) (hwf : ∀ j ∈ l, ∀ z ∈ j.after, (Lit.int .i64 z).wf = true) :
    Calls Try.prog 10 #[.slice A len cap] w (TimPost l w) := by
  have hr1 := hr.alloc (.cells #[.slice A len cap] 22)
  by_cases hc : jchk l = 0
  · have HO := order_ok A len cap l _ hr1 hwf hc
    cases hk : kahn l l.length [] with
    | none =>
      refine times_err 5 (by decide) A len cap l w (HO.mono ?_)
      rintro e w' ⟨hb, ⟨_, he⟩ | ⟨q, v, hq, _⟩⟩
      · exact ⟨he, hb⟩
      · rw [hk] at hq; cases hq
    | some q => exact times_main q A len cap l w hr hc hk HO
  · exact times_err (jchk l) hc A len cap l w (order_bad A len cap l _ hr1 hl hc)
end Go.Proofs.Ytgmoehkddohhfaa
