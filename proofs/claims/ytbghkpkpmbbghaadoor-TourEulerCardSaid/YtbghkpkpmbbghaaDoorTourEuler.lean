/- TourEuler: the walk. -/
import Derived.Test.YtbghkpkpmbbghaaDoorTourF
import Derived.Test.YtbghkpkpmbbghaaDoorTourY
import Derived.Test.YtbghkpkpmbbghaaDoorFewerB
import Derived.Test.YtbghkpkpmbbghaaDoorInside
import Derived.Test.YtbghkpkpmbbghaaDoorBel
import Derived.Deep.DeepCutAuto
namespace Go.Proofs.YtbghkpkpmbbghaaDoor
open Go.RowKit Go.Shelf
attribute [local go_sem] Oper.semAt_some

def ToldT (n : Nat) (es : List E) (w : World) (e : Ending) (w' : World) : Prop :=
  ∃ (v : Value) (L : List Nat) (cd : Int), e = .returned (.tuple #[v, .int .i64 cd]) ∧ w'.ownsRow w.heap.size 3 1 v L.length (ints .i64 (natI L)) ∧ ((cd = 0 ∧ TourC n (nearW n es) ∧ TourP n (nearW n es) L) ∨ (cd = 5 ∧ ¬ TourC n (nearW n es))) ∧ Below w.heap.size w w'
theorem toldT_any (n : Nat) (A : Option Addr) (len cap : Nat) (es : List E) (w : World) (hr : Rd w A len 3 (ps3 .i64 .i64 .i64 es)) (hlen : len ≤ 9223372036854775807) (htb : Tb w) (h : gchk n es = 0) (h1 : 1 ≤ n) :
    Calls Tryd.prog 4 #[.agg #[.int .i64 (n : Int), .slice A len cap]] w (ToldT n es w) := by
  by_cases hT : TourC n (nearW n es)
  · refine (tour_ok n A len cap es w hr hlen htb h h1 hT).mono ?_
    rintro e w' ⟨v, L, rfl, ho, hP, hb⟩
    exact ⟨v, L, 0, rfl, ho, .inl ⟨rfl, hT, hP⟩, hb⟩
  · refine (tour_no n A len cap es w hr hlen htb h h1 hT).mono ?_
    rintro e w' ⟨rfl, hb⟩
    exact ⟨.slice none 0 0, [], 5, rfl, World.ownsRow_nil _ _ _ _, .inr ⟨rfl, hT⟩, hb⟩
set_option maxHeartbeats 1600000 in
set_option maxRecDepth 100000 in
theorem tourEuler_bad (N : Int) (A : Option Addr) (len cap : Nat) (es : List E) (w : World) (hr : Rd w A len 3 (ps3 .i64 .i64 .i64 es)) (hcap : len ≤ cap) (hlen : len ≤ 9223372036854775807) (h : gchk N es ≠ 0) :
    Calls Tryd.prog 3 #[.agg #[.int .i64 N, .slice A len cap]] w fun e w' => e = .returned (.bool true) ∧ Below w.heap.size w w' := by
  have gb := (Below.refl _ w).alloc (Nat.le_refl _) (.cells #[.int .i64 N, .slice A len cap] 24)
  have bG := Blk.new w 24 #[.int .i64 N, .slice A len cap]
  have gs : (w.alloc (.cells #[.int .i64 N, .slice A len cap] 24)).heap.size = w.heap.size + 1 := by simp
  have g0 := bG.cell (j := 0) (v := .int .i64 N) rfl; have g1 := bG.cell (j := 1) (v := .slice A len cap) rfl
  have HT := Lib.hid (tour_bad N A len cap es _ (hr.later gb) hlen h)
  have HD := Lib.hid (fun W (hb : Below w.heap.size w W) => degrees_any N A len cap es W (hr.later hb) hlen)
  have HP := Lib.hid (fun W (hb : Below w.heap.size w W) => parts_bad N A len cap es W (hr.later hb) hlen h)
  have HG := Lib.hid (fun W (hb : Below w.heap.size w W) => good_any N A len cap es W (hr.later hb) hlen hcap)
  rw [show (gchk N es == 0) = false from beq_eq_false_iff_ne.2 h] at HG
  have hne : (gchk N es != 0) = true := bne_iff_ne.2 h
  have gbH := Lib.hid gb; have bGH := Lib.hid bG
  have hdr := Lib.hid (show ∀ B W v, DRes B W N es v → v = .slice none 0 0 from fun B W v hd => by unfold DRes at hd; rw [if_neg h] at hd; exact hd)
  generalize gchk N es = z at *
  clear hr h bG gb
  go_enter Tryd.func3, Tryd.ntmps3
  go_wp2_with fail
  refine HT.out.mono ?_
  rintro _ w1 ⟨rfl, hb1⟩
  have bG1 := bGH.out.below hb1 (by omega)
  have g0 := bG1.cell (j := 0) (v := .int .i64 N) rfl; have g1 := bG1.cell (j := 1) (v := .slice A len cap) rfl
  have hb01 := gbH.out.trans (hb1.mono gbH.out.size)
  have hD := Lib.hid (HD.out w1 hb01)
  have hb01H := Lib.hid hb01; have bG1H := Lib.hid bG1
  have hs1 := hb1.size
  clear hb1 bG1 hb01 HT
  go_wp2_with fail
  refine hD.out.mono ?_
  rintro _ w2 ⟨v, rfl, hdv, hb2⟩
  obtain rfl := hdr.out _ _ _ hdv
  have bG2 := bG1H.out.below hb2 (by omega)
  have g0 := bG2.cell (j := 0) (v := .int .i64 N) rfl; have g1 := bG2.cell (j := 1) (v := .slice A len cap) rfl
  have hb02 := hb01H.out.trans (hb2.mono hb01H.out.size)
  have hP := Lib.hid (HP.out w2 hb02)
  have hb02H := Lib.hid hb02; have bG2H := Lib.hid bG2
  have hs2 := hb2.size
  clear hb2 bG2 hb02 hD hdv
  go_wp2_with fail
  refine hP.out.mono ?_
  rintro _ w3 ⟨rfl, hb3⟩
  have bG3 := bG2H.out.below hb3 (by omega)
  have g0 := bG3.cell (j := 0) (v := .int .i64 N) rfl; have g1 := bG3.cell (j := 1) (v := .slice A len cap) rfl
  have hb03 := hb02H.out.trans (hb3.mono hb02H.out.size)
  have hG := Lib.hid (HG.out w3 hb03)
  have hb03H := Lib.hid hb03
  clear hb3 bG3 hb03 hP
  go_wp2_with fail
  refine hG.out.mono ?_
  rintro _ w4 ⟨rfl, hb4⟩
  have hfin := Lib.hid (hb03H.out.trans (hb4.mono hb03H.out.size))
  clear hb4
  go_wp2_with fail
  go_ret
  exact ⟨rfl, hfin.out⟩
set_option maxHeartbeats 1600000 in
set_option maxRecDepth 100000 in
theorem tourEuler_zero (A : Option Addr) (len cap : Nat) (es : List E) (w : World) (hr : Rd w A len 3 (ps3 .i64 .i64 .i64 es)) (hcap : len ≤ cap) (hlen : len ≤ 9223372036854775807) (htb : Tb w) (htl : 0 < w.heap.size) (h : gchk 0 es = 0) :
    Calls Tryd.prog 3 #[.agg #[.int .i64 0, .slice A len cap]] w fun e w' => e = .returned (.bool true) ∧ Below w.heap.size w w' := by
  have gb := (Below.refl _ w).alloc (Nat.le_refl _) (.cells #[.int .i64 0, .slice A len cap] 24)
  have bG := Blk.new w 24 #[.int .i64 0, .slice A len cap]
  have gs : (w.alloc (.cells #[.int .i64 0, .slice A len cap] 24)).heap.size = w.heap.size + 1 := by simp
  have g0 := bG.cell (j := 0) (v := .int .i64 0) rfl; have g1 := bG.cell (j := 1) (v := .slice A len cap) rfl
  have HT := Lib.hid (tour_zero A len cap es _ (hr.later gb) hlen h)
  have HD := Lib.hid (fun W (hb : Below w.heap.size w W) => degrees_any 0 A len cap es W (hr.later hb) hlen)
  rw [h] at HD
  have HP := Lib.hid (fun W (hb : Below w.heap.size w W) => parts_ok 0 A len cap es (nearW 0 es) rfl W (hr.later hb) h (htb.below htl hb) (Nat.lt_of_lt_of_le htl hb.size))
  have HG := Lib.hid (fun W (hb : Below w.heap.size w W) => good_any 0 A len cap es W (hr.later hb) hlen hcap)
  rw [show (gchk 0 es == 0) = true from beq_iff_eq.2 h] at HG
  have gbH := Lib.hid gb; have bGH := Lib.hid bG
  clear hr h bG gb htb
  go_enter Tryd.func3, Tryd.ntmps3
  go_wp2_with fail
  refine HT.out.mono ?_
  rintro _ w1 ⟨rfl, hb1⟩
  have bG1 := bGH.out.below hb1 (by omega)
  have g0 := bG1.cell (j := 0) (v := .int .i64 0) rfl; have g1 := bG1.cell (j := 1) (v := .slice A len cap) rfl
  have hb01 := gbH.out.trans (hb1.mono gbH.out.size)
  have hD := Lib.hid (HD.out w1 hb01)
  have hb01H := Lib.hid hb01; have bG1H := Lib.hid bG1
  have hs1 := hb1.size
  clear hb1 bG1 hb01 HT
  go_wp2_with fail
  refine hD.out.mono ?_
  rintro _ w2 ⟨v, rfl, _, hb2⟩
  have bG2 := bG1H.out.below hb2 (by omega)
  have g0 := bG2.cell (j := 0) (v := .int .i64 0) rfl; have g1 := bG2.cell (j := 1) (v := .slice A len cap) rfl
  have hb02 := hb01H.out.trans (hb2.mono hb01H.out.size)
  have hP := Lib.hid (HP.out w2 hb02)
  have hb02H := Lib.hid hb02; have bG2H := Lib.hid bG2
  have hs2 := hb2.size
  clear hb2 bG2 hb02 hD
  go_wp2_with fail
  refine hP.out.mono ?_
  rintro _ w3 ⟨vp, rfl, _, hb3⟩
  have bG3 := bG2H.out.below hb3 (by omega)
  have g0 := bG3.cell (j := 0) (v := .int .i64 0) rfl; have g1 := bG3.cell (j := 1) (v := .slice A len cap) rfl
  have hb03 := hb02H.out.trans (hb3.mono hb02H.out.size)
  have hG := Lib.hid (HG.out w3 hb03)
  have hb03H := Lib.hid hb03; have bG3H := Lib.hid bG3
  have hs3 := hb3.size
  clear hb3 bG3 hb03 hP
  go_wp2_with fail
  refine hG.out.mono ?_
  rintro _ w4 ⟨rfl, hb4⟩
  have bG4 := bG3H.out.below hb4 (by omega)
  have g0 := bG4.cell (j := 0) (v := .int .i64 0) rfl
  have hfin := Lib.hid (hb03H.out.trans (hb4.mono hb03H.out.size))
  clear hb4 bG4
  go_wp2_with fail
  go_ret
  exact ⟨rfl, hfin.out⟩
theorem degs_at {n : Nat} {es : List E} {i : Nat} (hi : i < n) : (degs n es).getD i 0 = (popc 10 ((nearW n es).getD i 0) : Int) := by
  unfold degs
  simp [List.getD, show i < (nearW n es).length by rw [nearW_length]; exact hi]
set_option maxHeartbeats 6400000 in
set_option maxRecDepth 100000 in
theorem tourEuler_main (n : Nat) (A : Option Addr) (len cap : Nat) (es : List E) (w : World) (hr : Rd w A len 3 (ps3 .i64 .i64 .i64 es)) (hcap : len ≤ cap) (hlen : len ≤ 9223372036854775807) (htb : Tb w) (htl : 0 < w.heap.size) (h : gchk n es = 0) (h1 : 1 ≤ n) :
    Calls Tryd.prog 3 #[.agg #[.int .i64 (n : Int), .slice A len cap]] w fun e w' => e = .returned (.bool true) ∧ Below w.heap.size w w' := by
  have gb := (Below.refl _ w).alloc (Nat.le_refl _) (.cells #[.int .i64 (n : Int), .slice A len cap] 24)
  have bG := Blk.new w 24 #[.int .i64 (n : Int), .slice A len cap]
  have gs : (w.alloc (.cells #[.int .i64 (n : Int), .slice A len cap] 24)).heap.size = w.heap.size + 1 := by simp
  have g0 := bG.cell (j := 0) (v := .int .i64 (n : Int)) rfl; have g1 := bG.cell (j := 1) (v := .slice A len cap) rfl
  obtain ⟨_, h10, hl45, hokE, _⟩ := gchk_ok h
  rw [Int.toNat_natCast] at hokE
  have h10 : n ≤ 10 := by omega
  have hel := ps3_len hr
  rw [hel] at hl45
  have hgr := nearGr h
  have HT := Lib.hid (toldT_any n A len cap es _ (hr.later gb) hlen (htb.below htl gb) h h1)
  have HD := Lib.hid (fun W (hb : Below w.heap.size w W) => degrees_any n A len cap es W (hr.later hb) hlen)
  rw [h] at HD
  have HP := Lib.hid (fun W (hb : Below w.heap.size w W) => parts_ok n A len cap es (nearW n es) rfl W (hr.later hb) h (htb.below htl hb) (Nat.lt_of_lt_of_le htl hb.size))
  have HG := Lib.hid (fun W (hb : Below w.heap.size w W) => good_any n A len cap es W (hr.later hb) hlen hcap)
  rw [show (gchk n es == 0) = true from beq_iff_eq.2 h] at HG
  have hdr := Lib.hid (show ∀ B W v, DRes B W n es v → W.ownsRow B 3 1 v n (ints .i64 (degs n es)) from fun B W v hd => by unfold DRes at hd; rw [if_pos h, Int.toNat_natCast] at hd; exact hd)
  have gbH := Lib.hid gb; have bGH := Lib.hid bG; have hrH := Lib.hid hr; have hgrH := Lib.hid hgr; have helH := Lib.hid hel
  have hokL := Lib.hid (gchk_iff.1 h).2
  have hnb := Lib.hid (adj_nb hokE)
  clear hr h bG gb htb hokE hgr hel
  go_enter Tryd.func3, Tryd.ntmps3
  go_wp2_with fail
  refine HT.out.mono ?_
  rintro _ w1 ⟨vL, L, cd, rfl, hoL, hTd, hb1⟩
  have bG1 := bGH.out.below hb1 (by omega)
  have g0 := bG1.cell (j := 0) (v := .int .i64 n) rfl; have g1 := bG1.cell (j := 1) (v := .slice A len cap) rfl
  have hb01 := gbH.out.trans (hb1.mono gbH.out.size)
  have hD := Lib.hid (HD.out w1 hb01)
  have hb01H := Lib.hid hb01; have bG1H := Lib.hid bG1
  have hs1 := hb1.size
  obtain ⟨AL, cL, rfl⟩ := own_slice hoL
  have hLr1 := Lib.hid (Rd.of_own hoL)
  have hTdH := Lib.hid hTd
  clear hb1 bG1 hb01 HT hoL hTd
  go_wp2_with fail
  refine hD.out.mono ?_
  rintro _ w2 ⟨vd, rfl, hdv, hb2⟩
  have hdo := hdr.out _ _ _ hdv
  obtain ⟨Ad, cd2, rfl⟩ := own_slice hdo
  have hdR := Lib.hid (Rd.of_own hdo)
  have bG2 := bG1H.out.below hb2 (by omega)
  have g0 := bG2.cell (j := 0) (v := .int .i64 n) rfl; have g1 := bG2.cell (j := 1) (v := .slice A len cap) rfl
  have hb02 := hb01H.out.trans (hb2.mono hb01H.out.size)
  have hP := Lib.hid (HP.out w2 hb02)
  have hb02H := Lib.hid hb02; have bG2H := Lib.hid bG2
  have hLr2 := Lib.hid (hLr1.out.later hb2)
  have hs2 := hb2.size
  clear hb2 bG2 hb02 hD hdv hdo
  go_wp2_with fail
  refine hP.out.mono ?_
  rintro _ w3 ⟨vp, rfl, hpo, hb3⟩
  obtain ⟨Ap, cp, rfl⟩ := own_slice hpo
  have hpR := Lib.hid (Rd.of_own hpo)
  have bG3 := bG2H.out.below hb3 (by omega)
  have g0 := bG3.cell (j := 0) (v := .int .i64 n) rfl; have g1 := bG3.cell (j := 1) (v := .slice A len cap) rfl
  have hb03 := hb02H.out.trans (hb3.mono hb02H.out.size)
  have hG := Lib.hid (HG.out w3 hb03)
  have hb03H := Lib.hid hb03; have bG3H := Lib.hid bG3
  have hs3 := hb3.size
  have hdR3 := Lib.hid (hdR.out.later hb3)
  have hLr3 := Lib.hid (hLr2.out.later hb3)
  clear hb3 bG3 hb03 hP hpo
  go_wp2_with fail
  refine hG.out.mono ?_
  rintro _ w4 ⟨rfl, hb4⟩
  have bG4 := bG3H.out.below hb4 (by omega)
  have g0 := bG4.cell (j := 0) (v := .int .i64 n) rfl
  have g1 := bG4.cell (j := 1) (v := .slice A len cap) rfl
  have hb04 := Lib.hid (hb03H.out.trans (hb4.mono hb03H.out.size))
  have hdR4 := Lib.hid (hdR3.out.later hb4); have hLr4 := Lib.hid (hLr3.out.later hb4); have hpR4 := Lib.hid (hpR.out.later hb4)
  have bG4H := Lib.hid bG4
  have hn0 : ((n : Int) == 0) = false := by rw [beq_eq_false_iff_ne]; omega
  have hnn : ((n : Int) != n) = false := by simp
  clear hb4 bG4 hG
  go_wp2_with fail
  go_loop [9, 10, 11] (fun m q i => ∃ (k : Nat) (b : Bool) (z : Int), k ≤ n ∧ m = .bool b ∧ q = .int .i64 z ∧ i = .int .i64 k ∧ LawI (nearW n es) k b z) (fun _ _ i => n - (intOf i).toNat)
  case atStart => exact ⟨0, true, -1, by omega, rfl, rfl, rfl, LawI.zero⟩
  case round =>
    obtain ⟨k, b, z, hk, rfl, rfl, rfl, hI⟩ := hrel
    by_cases hlt : k < n
    · obtain ⟨bd, od, rfl, _, cd0⟩ := hdR4.out.int hlt
      obtain ⟨bp, op, rfl, _, cp0⟩ := hpR4.out.row hlt
      rw [degs_at hlt] at cd0
      have hltI : (k : Int) < n := by omega
      have hk0 : (0 : Int) ≤ k := by omega
      have hp0 : (0 : Int) ≤ part (nearW n es) k := by omega
      have hnew := Lib.hid (hI.new hgrH.out)
      have hold := Lib.hid (hI.old hgrH.out)
      have hc10 := popc_le 10 ((nearW n es).getD k 0)
      clear hI
      generalize popc 10 ((nearW n es).getD k 0) = c at *
      generalize part (nearW n es) k = p at *
      have hrem : Int.tmod (c : Int) 2 = ((c % 2 : Nat) : Int) := by rw [Int.tmod_eq_emod_of_nonneg (by omega)]; omega
      by_cases hA : c ≠ 0 ∧ z < 0
      · obtain ⟨hc0, hz⟩ := hA
        obtain ⟨rfl, hN⟩ := hnew.out hz hc0
        have hNH := Lib.hid hN
        have hc0' : ((c : Int) == 0) = false := by rw [beq_eq_false_iff_ne]; omega
        have hcp : (0 : Int) < c := by omega
        have hpp : ((p : Int) == p) = true := by simp
        clear hnew hold hN
        by_cases he : c % 2 = 0
        · have he2 : ((c : Int) % 2 == 0) = true := by rw [beq_iff_eq]; omega
          have he3 : ((c : Int).tmod 2 == 0) = true := by rw [beq_iff_eq, hrem]; omega
          have hdd := Lib.hid (decide_eq_true he)
          clear hrem he
          go_wp2
          go_round
          case rel => exact ⟨k + 1, true, p, by omega, rfl, rfl, by go_num, by rw [← hdd.out]; exact hNH.out⟩
          case measure => simp [intOf]; omega
        · have he2 : ((c : Int) % 2 == 0) = false := by rw [beq_eq_false_iff_ne]; omega
          have he3 : ((c : Int).tmod 2 == 0) = false := by rw [beq_eq_false_iff_ne, hrem]; omega
          have hdd := Lib.hid (decide_eq_false he)
          clear hrem he
          go_wp2
          go_round
          case rel => exact ⟨k + 1, false, p, by omega, rfl, rfl, by go_num, by rw [← hdd.out]; exact hNH.out⟩
          case measure => simp [intOf]; omega
      · have ho := hold.out (by omega)
        clear hnew hold
        obtain ⟨x, hx⟩ : ∃ x, decide (c % 2 = 0) = x := ⟨_, rfl⟩
        obtain ⟨s, hs⟩ : ∃ s, decide ((p : Int) = z) = s := ⟨_, rfl⟩
        rw [hx, hs] at ho
        have hx2 : ((c : Int) % 2 == 0) = x := by rw [← hx, Bool.eq_iff_iff, beq_iff_eq, decide_eq_true_iff]; omega
        have hx3 : ((c : Int).tmod 2 == 0) = x := by rw [← hx, Bool.eq_iff_iff, beq_iff_eq, decide_eq_true_iff, hrem]; omega
        have hs2 : ((p : Int) == z) = s := by rw [← hs, Bool.eq_iff_iff, beq_iff_eq, decide_eq_true_iff]
        have hs4 : (z == (p : Int)) = s := by rw [← hs, Bool.eq_iff_iff, beq_iff_eq, decide_eq_true_iff]; exact eq_comm
        by_cases hc0 : c = 0
        · rw [decide_eq_true hc0, Bool.true_or, Bool.and_true] at ho
          have hoH := Lib.hid ho
          have hc1 : ¬ (0 : Int) < c := by omega
          have hc2 : ((c : Int) == 0) = true := by rw [beq_iff_eq]; omega
          clear ho hx hs hrem hc0 hA
          cases b <;> cases x
          all_goals
            go_wp2
            go_round
            case rel => exact ⟨k + 1, _, z, by omega, rfl, rfl, by go_num, hoH.out⟩
            case measure => simp [intOf]; omega
        · rw [decide_eq_false hc0, Bool.false_or] at ho
          have hoH := Lib.hid ho
          have hc1 : (0 : Int) < c := by omega
          have hz0 : ¬ z < 0 := by omega
          have hc2 : ((c : Int) == 0) = false := by rw [beq_eq_false_iff_ne]; omega
          clear ho hx hs hrem hc0 hA
          cases b <;> cases x <;> cases s
          all_goals
            go_wp2
            go_round
            case rel => exact ⟨k + 1, _, z, by omega, rfl, rfl, by go_num, hoH.out⟩
            case measure => simp [intOf]; omega
    · obtain rfl : k = n := by omega
      have hIe := Lib.hid (hI.end_ hgrH.out h1)
      have hnlt : ¬ (k : Int) < k := by omega
      clear hI hdR hpR hdR3 hdR4 hpR4
      rcases hTdH.out with ⟨rfl, hTc, hTp⟩ | ⟨rfl, hTc⟩
      case inr =>
        obtain rfl : b = false := by
          cases b
          · rfl
          · exact absurd (hIe.out.1 rfl) hTc
        clear hTc hIe hTdH
        go_wp2
        go_ret
        exact ⟨rfl, hb04.out⟩
      · obtain rfl : b = true := hIe.out.2 hTc
        obtain ⟨hT1, hlen1, hends, hins⟩ := TgI.start hokL.out hnb.out hTp
        have hT1H := Lib.hid hT1
        clear hTc hIe hTdH hT1 hTp
        have g0 := bG4H.out.cell (j := 0) (v := .int .i64 k) rfl
        have g1 := bG4H.out.cell (j := 1) (v := .slice A len cap) rfl
        have hLl : L.length = len + 1 := by rw [← helH.out]; exact hlen1.symm
        have hlL := Lib.hid hLl
        rw [hLl] at hends
        rw [show len + 1 - 1 = len from rfl] at hends
        have hL5 := hLr4.out
        rw [hLl] at hL5
        have hL5H := Lib.hid hL5
        obtain ⟨bL, oL, rfl, hbL, cL0⟩ := hL5H.out.int (j := 0) (by omega)
        obtain ⟨_, _, e, _, cL1⟩ := hL5H.out.int (j := len) (by omega)
        injection e with e; injection e with e1 e2
        subst e1; subst e2
        rw [natI_at (by omega)] at cL0 cL1
        rw [← hends] at cL1
        rw [Nat.add_zero] at cL0
        have hI := Lib.hid (fun (p : BW w4) => inside_any k (some ⟨bL, oL, none⟩) (len + 1) cL (natI L) p.w' (hL5H.out.later p.hb) (by omega))
        rw [hins] at hI
        have hl0 : (0 : Int) ≤ len := by omega
        have hx0 : ∃ x, L.getD 0 0 = x := ⟨_, rfl⟩
        obtain ⟨x0, hx0⟩ := hx0
        rw [hx0] at cL0 cL1
        have hxx : ((x0 : Int) != x0) = false := by simp
        have y0 := BW.cell (w := w4) g0; have y1 := BW.cell (w := w4) g1; have y2 := BW.cell (w := w4) cL0; have y3 := BW.cell (w := w4) cL1
        clear hL5 hLr4 hx0 hends hlen1
        rw [hLl]
        clear hLl hLr1 hLr2 hLr3
        clear hins
        go_upto_region 20 with fail
        refine wp_region_below (by kernel_rfl) (by kernel_rfl) ?_
        repeat (go_big_quiet_step (first | rfl | (with_reducible refine Calls.bel0 (hI.out _))))
        refine wpQuiet_nil ?_
        rintro _ ⟨p, rfl⟩
        have hb45 := p.hb
        have hs45 := p.hb.size
        generalize p.w' = w5 at *
        have g0 := (bG4H.out.below hb45 (by have := bG4H.out.lt; omega)).cell (j := 0) (v := .int .i64 k) rfl
        have g1 := (bG4H.out.below hb45 (by have := bG4H.out.lt; omega)).cell (j := 1) (v := .slice A len cap) rfl
        have hL6 := Lib.hid (hL5H.out.later hb45)
        have hes := Lib.hid ((hrH.out.later hb04.out).later hb45)
        have hbw := Lib.hid (hb04.out.trans (hb45.mono hb04.out.size))
        clear y0 y1 y2 y3 hI cL0 cL1 hb45
        go_wp2_with fail
        have hr5 := Lib.hid (show Rd (w5.alloc (.cells #[.int .i64 k, .slice A len cap] 24)) A es.length 3 (ps3 .i64 .i64 .i64 es) from by rw [helH.out]; exact hes.out.later ((Below.refl _ w5).alloc (Nat.le_refl _) _))
        have hB5 := Lib.hid (Blk.new w5 24 #[.int .i64 k, .slice A len cap])
        have hbb5 := Lib.hid ((Below.refl _ w5).alloc (Nat.le_refl _) (.cells #[.int .i64 k, .slice A len cap] 24))
        clear g0 g1
        go_loopw [13, 14, 15, 16] (fun q _ _ _ wr => ∃ (j : Nat) (fs : List E) (Af : Option Addr) (cf : Nat), j ≤ len ∧ q = .int .i64 ((j + 1 : Nat) : Int) ∧ TgI k L (j + 1) fs ∧ fs.length ≤ 45 ∧ fs.length ≤ cf ∧ Rd wr Af fs.length 3 (ps3 .i64 .i64 .i64 fs) ∧ Blk wr w5.heap.size 24 #[.int .i64 k, .slice Af fs.length cf] ∧ Below w5.heap.size w5 wr) (fun q _ _ _ _ => len + 1 - (intOf q).toNat)
        case atStart => exact ⟨0, es, A, cap, by omega, rfl, hT1H.out, by rw [helH.out]; exact hl45, by rw [helH.out]; exact hcap, hr5.out, by rw [helH.out]; exact hB5.out, hbb5.out⟩
        case round =>
          clear hr5 hB5 hbb5 hT1H hes
          rename World => wo
          obtain ⟨j, fs, Af, cf, hj, rfl, hT, hf45, hfc, hrf, hB, hb⟩ := hrel
          by_cases hjl : j < len
          · have hjI : (j : Int) < len := by omega
            have hj0 : (0 : Int) ≤ j := by omega
            have g0 := hB.cell (j := 0) (v := .int .i64 k) rfl
            have g1 := hB.cell (j := 1) (v := .slice Af fs.length cf) rfl
            have hTH := Lib.hid hT; have hrfH := Lib.hid hrf; have hBH := Lib.hid hB; have hbH := Lib.hid hb
            have hAI0 : Hid (AtI (L.getD (j + 1 - 1) 0) (L.getD (j + 1) 0) fs 0 (-1)) := Lib.hid AtI.zero
            obtain ⟨_, _, e, _, cL0⟩ := (hL6.out.later hb).int (j := j) (by omega)
            injection e with e; injection e with e1 e2
            subst e1; subst e2
            obtain ⟨_, _, e, _, cL1⟩ := (hL6.out.later hb).int (j := j + 1) (by omega)
            injection e with e; injection e with e1 e2
            subst e1; subst e2
            rw [natI_at (by rw [hlL.out]; omega)] at cL0 cL1
            rw [Nat.add_sub_cancel] at hAI0
            have hend : Hid (∀ t, AtI (L.getD j 0) (L.getD (j + 1) 0) fs fs.length t → ∃ i : Nat, t = i ∧ i < fs.length ∧ TgI k L (j + 1 + 1) (fs.eraseIdx i)) := Lib.hid fun t ht => AtI.end_ (k := j + 1) (by rw [Nat.add_sub_cancel]; exact ht) hT (by rw [hlL.out]; omega)
            have hrbb := Lib.hid (Below.refl wo.heap.size wo)
            have hwrs := hb.size
            have hBlt := hB.lt
            clear hT hrf hB hb hTH
            generalize L.getD j 0 = a at *
            generalize L.getD (j + 1) 0 = b at *
            go_wp2_with fail
            go_loopw [14, 15, 16, 149] (fun t _ _ q wi => ∃ (i : Nat) (x : Int), i ≤ fs.length ∧ q = .int .i64 i ∧ t = .int .i64 x ∧ AtI a b fs i x ∧ Below wo.heap.size wo wi) (fun _ _ _ q _ => fs.length - (intOf q).toNat)
            case atStart => exact ⟨0, -1, by omega, rfl, rfl, hAI0.out, hrbb.out⟩
            case round =>
              clear hAI0 hrbb
              obtain ⟨i, t, hi, rfl, rfl, hA, hbi⟩ := hrel
              have hbis := hbi.size
              by_cases hil : i < fs.length
              · obtain ⟨be, oe, rfl, _, c0, c1, c2⟩ := (hrfH.out.later hbi).triple hil
                have hyes := Lib.hid (fun h => AtI.yes (a := a) (b := b) (i := i) (fs := fs) h)
                have hno := Lib.hid (fun h => AtI.no (i := i) hA h)
                generalize fs.getD i (0, 0, 0) = c at *
                obtain ⟨x, y, z⟩ := c
                dsimp only at c0 c1 c2
                have hbW := (Below.refl _ wr).alloc (Nat.le_refl _) (.cells #[.int .i64 x, .int .i64 y, .int .i64 z] 32)
                have hbWH := Lib.hid (hbi.trans (hbW.mono hbis))
                have d0 := below_cell hbWH.out (World.block_lt_of_cell? wo _ cL0) cL0
                have d1 := below_cell hbWH.out (World.block_lt_of_cell? wo _ cL1) cL1
                have bE := Blk.new wr 32 #[.int .i64 x, .int .i64 y, .int .i64 z]
                have e0 := bE.cell (j := 0) (v := .int .i64 x) rfl
                have e1 := bE.cell (j := 1) (v := .int .i64 y) rfl
                have y0 := BW.cell d0; have y1 := BW.cell d1; have y2 := BW.cell e0; have y3 := BW.cell e1
                obtain ⟨p1, h1⟩ : ∃ p, (x == (a : Int)) = p := ⟨_, rfl⟩
                obtain ⟨p2, h2⟩ : ∃ p, (y == (b : Int)) = p := ⟨_, rfl⟩
                obtain ⟨p3, h3⟩ : ∃ p, (y == (a : Int)) = p := ⟨_, rfl⟩
                obtain ⟨p4, h4⟩ : ∃ p, (x == (b : Int)) = p := ⟨_, rfl⟩
                have hadj : adjE a b (x, y, z) = ((p1 && p2) || (p4 && p3)) := by unfold adjE; rw [← h1, ← h2, ← h3, ← h4]
                rw [hadj] at hyes hno
                have hwis : wo.heap.size ≤ wr.heap.size + 1 := by omega
                clear hA hbi hbW bE hadj d0 d1 e0 e1
                have h7 : (p1 = true ∧ p2 = true) ∨ (p1 = false ∧ p3 = false) ∨ (p1 = false ∧ p3 = true ∧ p4 = false) ∨ (p1 = false ∧ p3 = true ∧ p4 = true) ∨ (p1 = true ∧ p2 = false ∧ p3 = false) ∨ (p1 = true ∧ p2 = false ∧ p3 = true ∧ p4 = false) ∨ (p1 = true ∧ p2 = false ∧ p3 = true ∧ p4 = true) := by cases p1 <;> cases p2 <;> cases p3 <;> cases p4 <;> simp
                rcases h7 with ⟨rfl, rfl⟩ | ⟨rfl, rfl⟩ | ⟨rfl, rfl, rfl⟩ | ⟨rfl, rfl, rfl⟩ | ⟨rfl, rfl, rfl⟩ | ⟨rfl, rfl, rfl, rfl⟩ | ⟨rfl, rfl, rfl, rfl⟩
                all_goals
                  go_upto_region 30 with fail
                  refine wp_region_below (by kernel_rfl) (by kernel_rfl) ?_
                  repeat (go_big_quiet_step (first | rfl))
                  refine wpQuiet_nil ?_
                  rintro _ ⟨p, rfl⟩
                  have hbf := Lib.hid (hbWH.out.trans (p.hb.mono hbWH.out.size))
                  clear y0 y1 y2 y3
                  go_wp2
                  go_roundw
                  case rel => exact ⟨i + 1, _, by omega, by go_num, rfl, by first | exact hyes.out (by simp) | exact hno.out (by simp), hbf.out⟩
                  case measure => simp [intOf]; omega
              · obtain rfl : i = fs.length := by omega
                obtain ⟨j0, rfl, hj0l, hTn⟩ := hend.out _ hA
                have HF := Lib.hid (fewer_any k j0 Af fs.length cf fs wr (hrfH.out.later hbi) hf45)
                have hBi := hBH.out.below hbi (by omega)
                have g0 := hBi.cell (j := 0) (v := .int .i64 k) rfl
                have g1 := hBi.cell (j := 1) (v := .slice Af fs.length cf) rfl
                have hBiH := Lib.hid hBi
                have hbiH := Lib.hid (hbH.out.trans (hbi.mono hbH.out.size))
                have hTnH := Lib.hid hTn
                have hj00 : ¬ (j0 : Int) < 0 := by omega
                clear hend hA hbi hBi hTn
                go_wp2_with fail
                refine HF.out.mono ?_
                rintro _ w7 ⟨A7, c7, rfl, ho7, hc7, hb7⟩
                have hB7 := hBiH.out.below hb7 (by have := hBiH.out.lt; omega)
                have g0 := hB7.cell (j := 0) (v := .int .i64 k) rfl
                have g1 := hB7.cell (j := 1) (v := .slice Af fs.length cf) rfl
                have f0 := hB7.frozen 0
                have f1 := hB7.frozen 1
                have hl7 := hB7.lt
                have hB7H := Lib.hid hB7; have ho7H := Lib.hid ho7; have hc7H := Lib.hid hc7
                have hb7H := Lib.hid (hbiH.out.trans (hb7.mono hbiH.out.size))
                clear hB7 ho7 hc7 hb7 HF
                go_wp2
                go_roundw
                case rel =>
                  have hlB := hBiH.out.lt
                  refine ⟨j + 1, fs.eraseIdx j0, A7, c7, by omega, by go_num, hTnH.out, Nat.le_trans (List.eraseIdx_sublist _ _).length_le hf45, hc7H.out, ?_, ?_, ?_⟩
                  · exact Rd.of_own (ownsRow_setCell_below (ownsRow_setCell_below ho7H.out hlB _) hlB _)
                  · have := (hB7H.out.set 0 (.int .i64 k)).set 1 (.slice A7 (fs.eraseIdx j0).length c7)
                    exact this
                  · exact (hb7H.out.setCell (Nat.le_refl _) _).setCell (Nat.le_refl _) _
                case measure => simp [intOf]; omega
          · obtain rfl : j = len := by omega
            have hfin := Lib.hid (hbw.out.trans (hb.mono hbw.out.size))
            clear hb hB hrf hT
            go_wp2
            go_ret
            exact ⟨rfl, hfin.out⟩
theorem tourEuler_any (N : Int) (A : Option Addr) (len cap : Nat) (es : List E) (w : World) (hr : Rd w A len 3 (ps3 .i64 .i64 .i64 es)) (hcap : len ≤ cap) (hlen : len ≤ 9223372036854775807) (htb : Tb w) (htl : 0 < w.heap.size) :
    Calls Tryd.prog 3 #[.agg #[.int .i64 N, .slice A len cap]] w fun e w' => e = .returned (.bool true) ∧ Below w.heap.size w w' := by
  by_cases h : gchk N es = 0
  · obtain ⟨h0, _⟩ := gchk_ok h
    obtain ⟨n, rfl⟩ := Int.eq_ofNat_of_zero_le h0
    by_cases h1 : 1 ≤ n
    · exact tourEuler_main n A len cap es w hr hcap hlen htb htl h h1
    · obtain rfl : n = 0 := by omega
      exact tourEuler_zero A len cap es w hr hcap hlen htb htl h
  · exact tourEuler_bad N A len cap es w hr hcap hlen h
end Go.Proofs.YtbghkpkpmbbghaaDoor
