/- teamsterref.Dist: how far it is, by detours. -/
import Derived.Test.YtnkmfnnkophccaaDoorWarsh
import Derived.Test.YtnkmfnnkophccaaDoorSq
import Derived.Test.YtnkmfnnkophccaaDoorRefNearA
import Derived.Test.YtnkmfnnkophccaaDoorBlk
import Derived.BigRegion
import Derived.BigQuiet
import Derived.StillTailTactics
namespace Go.Proofs.YtnkmfnnkophccaaDoor
open Go.RowKit
attribute [local go_sem] Oper.semAt_some

theorem nq_ne {a b : Nat} (h : a ≠ b) : some a ≠ some b := fun e => h (by simpa using e)
theorem grown_set (a : World) (g i : Nat) (v : Value) : a.grownBy (a.setCell ⟨g, i, none⟩ v) (some g) :=
  ⟨rfl, rfl, rfl, by simp, fun k _ hk => heap_setCell_other a ⟨g, i, none⟩ k v (fun e => hk (by simp [e]))⟩
structure RdI (N s : Nat) (A : Option Addr) (len cap : Nat) (w : World) (v : Value) (r c : Nat → Nat) (m : Nat) (F : Nat → Nat → Int) (W : World) : Prop where
  sq : Sq W (s + 1) N v r c m F
  bg : Blk W s 27 #[.int .i64 N, .slice A len cap]
  be : Below s w W
theorem RdI.later {N s : Nat} {A : Option Addr} {len cap : Nat} {w : World} {v : Value} {r c : Nat → Nat} {m : Nat} {F : Nat → Nat → Int} {W W' : World} (h : RdI N s A len cap w v r c m F W) (hb : Below W.heap.size W W') : RdI N s A len cap w v r c m F W' :=
  ⟨h.sq.below hb (Nat.le_refl _), h.bg.below hb h.bg.lt, h.be.trans (hb.mono (Nat.le_of_lt h.bg.lt))⟩
set_option maxHeartbeats 3200000 in
set_option maxRecDepth 100000 in
theorem refDist_any (N : Nat) (A : Option Addr) (len cap : Nat) (es : List E) (w : World) (hr : Rd w A len 3 (ps3 .i64 .i64 .i64 es)) (hN : N ≤ 10) (hl : len ≤ 45) (hok : ∀ e ∈ es, okE N e) :
    Calls Tryd.prog 19 #[.agg #[.int .i64 N, .slice A len cap]] w fun e w' => ∃ (v : Value) (r c : Nat → Nat), e = .returned v ∧ Sq w' (w.heap.size + 1) N v r c N (dW es N) ∧ Below w.heap.size w w' := by
  have hrH := Lib.hid hr; have hokH := Lib.hid hok
  clear hr hok
  obtain ⟨s, hs⟩ : ∃ s, w.heap.size = s := ⟨_, rfl⟩
  have h0 : RdI N s A len cap w (.slice none 0 0) (fun _ => 0) (fun _ => 0) 0 (D0 es) (w.alloc (.cells #[.int .i64 N, .slice A len cap] 27)) :=
    ⟨Sq.nil _ _ _ _ _ _, hs ▸ Blk.new w 27 #[.int .i64 N, .slice A len cap], hs ▸ (Below.refl _ w).alloc (Nat.le_refl _) _⟩
  have h0H := Lib.hid h0
  clear h0
  go_enter Tryd.func19, Tryd.ntmps19
  go_wp2
  generalize w.alloc (.cells #[.int .i64 N, .slice A len cap] 27) = w0 at *
  go_loopw [3, 4] (fun v iv wr => ∃ (i : Nat) (r c : Nat → Nat), i ≤ N ∧ iv = .int .i64 i ∧ RdI N s A len cap w v r c i (D0 es) wr) (fun _ iv _ => N - (intOf iv).toNat)
  case atStart => exact ⟨0, _, _, by omega, rfl, h0H.out⟩
  case round =>
    clear h0H
    obtain ⟨i, r, c, hi, rfl, hR⟩ := hrel
    obtain ⟨w1, rfl⟩ : ∃ w1 : World, w1 = wr := ⟨_, rfl⟩
    have g0 := hR.bg.cell (j := 0) (v := .int .i64 (N : Int)) rfl
    by_cases hiN : i < N
    · have hRH := Lib.hid hR
      have hiN' : (i : Int) < N := by omega
      have hsl := hR.bg.lt
      clear hR
      obtain ⟨s1, hs1⟩ : ∃ s1, w1.heap.size = s1 := ⟨_, rfl⟩
      go_wp2
      go_loopw [5, 6] (fun u jv wr => ∃ j : Nat, j ≤ N ∧ jv = .int .i64 j ∧ wr.ownsRow s1 3 1 u j (row j (D0 es i)) ∧ Below s1 w1 wr) (fun _ jv _ => N - (intOf jv).toNat)
      case atStart => exact ⟨0, by omega, rfl, World.ownsRow_nil _ _ _ _, Below.refl _ _⟩
      case round =>
        obtain ⟨j, hj, rfl, hown, hb⟩ := hrel
        obtain ⟨w2, rfl⟩ : ∃ w2 : World, w2 = wr := ⟨_, rfl⟩
        have hs2 := hb.size
        have hR2 := hRH.out.later (hs1 ▸ hb)
        have g0 := hR2.bg.cell (j := 0) (v := .int .i64 (N : Int)) rfl
        have g1 := hR2.bg.cell (j := 1) (v := .slice A len cap) rfl
        by_cases hjN : j < N
        · have hjN' : (j : Int) < N := by omega
          have HN := Lib.hid (refNear_any N i j A len cap es w2 (hrH.out.later (hs ▸ hR2.be)) hl hokH.out)
          have hownH := Lib.hid hown; have hbH := Lib.hid hb
          clear hown hb hR2
          go_wp2_with fail
          refine HN.out.mono ?_
          rintro _ w3 ⟨rfl, hb3⟩
          clear HN
          have hown3 := own_below hownH.out hb3
          have hb3' := hbH.out.trans (hb3.mono (by omega))
          have hs3 := hb3.size
          have hD : D0 es i j = if i = j then 0 else if adj es i j = true then 1 else -1 := rfl
          have hrs := Lib.hid (row_snoc j (D0 es i))
          have hown3H := Lib.hid hown3; have hb3H := Lib.hid hb3'
          clear hown3 hb3 hb3' hownH hbH g0 g1
          rw [hD] at hrs
          by_cases e1 : i = j <;> by_cases e2 : adj es i j = true
          all_goals (first | subst e1 | (have hq1 : ((i : Int) == (j : Int)) = false := by simp; omega))
          all_goals (simp only [e2, if_true, if_false, Bool.false_eq_true] at hrs)
          all_goals (try rw [if_neg e1] at hrs)
          all_goals
            go_wp2_with (at_builtin; refine wpList_app (s := .tmp 30) (x := .tmp 32) _ tiQ1 (hown3H.out.alloc _) (rd_new1 w3 _ 3) (fun u hu => by simp at hu; subst hu; rfl) (by omega) (by omega) (by simp; omega) rfl rfl rfl rfl ?_)
            intro v' w4 hown4 hg4 _
            rw [← hrs.out] at hown4
            have hb4 := (hb3H.out.alloc (by omega) _).grown hg4 (by simp; omega) (fun g hg' => (hown3H.out.lt g hg').1)
            have hown4H := Lib.hid hown4; have hb4H := Lib.hid hb4
            clear hown4 hg4 hb4 hown3H hb3H
            go_wp2
            go_roundw
            case rel => exact ⟨_, by omega, by go_num, hown4H.out, hb4H.out⟩
            case measure => simp [intOf]; omega
        · obtain rfl : j = N := by omega
          have hu : ∃ k cp, u5 = .slice (some ⟨k, 0, none⟩) j cp := by
            rcases hown.2 with ⟨_, e⟩ | ⟨g, cp, _, e, _⟩
            · omega
            · exact ⟨g, cp, e⟩
          obtain ⟨k, cp, rfl⟩ := hu
          have hkl := hown.lt k rfl
          have hR3 := hR2.later ((Below.refl _ w2).alloc (Nat.le_refl _) (.cells #[.slice (some ⟨k, 0, none⟩) j cp] 32))
          have hsl2 := hR2.bg.lt
          have hrow := (own_base (b' := s + 1) (by omega) hown).alloc (.cells #[.slice (some ⟨k, 0, none⟩) j cp] 32)
          have hrk : ∀ a, a < i → r a ≠ k := fun a ha => by have := hRH.out.sq.rlt ha; omega
          have hvl := fun g (hg : u3.ownBlock = some g) => hR3.sq.outer.lt g hg
          have hR3H := Lib.hid hR3; have hrowH := Lib.hid hrow; have hrkH := Lib.hid hrk; have hvlH := Lib.hid hvl
          clear hown hb hR2 hR3 hrow hrk hRH hvl g1
          go_wp2_with (at_builtin; refine wpList_app (s := .tmp 34) (x := .tmp 36) _ tiQ2 hR3H.out.sq.outer (rd_new1 w2 _ 32) (fun u hu => by simp at hu; subst hu; rfl) (by omega) (by omega) (by simp; omega) rfl rfl rfl rfl ?_)
          intro v' w4 hown4 hg4 _
          have hsq := (hR3H.out.sq.more hrowH.out hrkH.out hown4 hg4).congr (F' := D0 es) (fun a b ha hb => by
            by_cases e : a = i
            · rw [if_pos e, e]
            · rw [if_neg e])
          have hbg4 := hR3H.out.bg.kept hg4 (fun e => by have := hvlH.out s e.symm; omega)
          have hbe4 := hR3H.out.be.grown hg4 (by simp; omega) (fun g hg => by have := hvlH.out g hg; omega)
          have hR4 := Lib.hid (show RdI j s A len cap w v' _ _ (i + 1) (D0 es) w4 from ⟨hsq, hbg4, hbe4⟩)
          clear hsq hbg4 hbe4 hown4 hg4 hR3H hrowH
          go_wp2
          go_roundw
          case rel => exact ⟨i + 1, _, _, by omega, by go_num, hR4.out⟩
          case measure => simp [intOf]; omega
    · obtain rfl : i = N := by omega
      have hR0 := Lib.hid (show RdI i s A len cap w u3 r c i (dW es 0) w1 from hR)
      clear hR
      go_wp2
      go_loopw [8] (fun kv wr => ∃ k : Nat, k ≤ i ∧ kv = .int .i64 k ∧ RdI i s A len cap w u3 r c i (dW es k) wr) (fun kv _ => i - (intOf kv).toNat)
      case atStart => exact ⟨0, by omega, rfl, hR0.out⟩
      case round =>
        clear hR0
        obtain ⟨k, hk, rfl, hR⟩ := hrel
        obtain ⟨w2, rfl⟩ : ∃ w2 : World, w2 = wr := ⟨_, rfl⟩
        have g0 := hR.bg.cell (j := 0) (v := .int .i64 (i : Int)) rfl
        by_cases hkN : k < i
        · have hkN' : (k : Int) < i := by omega
          have hDI := dW_DI es k
          obtain ⟨M, hM⟩ : ∃ M, dW es k = M := ⟨_, rfl⟩
          have hMn := Lib.hid (show stW k M = dW es (k + 1) by rw [← hM]; rfl)
          rw [hM] at hR hDI
          clear hM
          have hp : (2 : Nat) ^ k ≤ 2 ^ 10 := Nat.pow_le_pow_right (by omega) (by omega)
          have hR1 := Lib.hid (show RdI i s A len cap w u3 r c i (MidW k 0 0 M) w2 by rw [MidW.start]; exact hR)
          have hDIH := Lib.hid hDI
          clear hR hDI
          go_wp2
          go_loopw [9] (fun iv wr => ∃ a : Nat, a ≤ i ∧ iv = .int .i64 a ∧ RdI i s A len cap w u3 r c i (MidW k a 0 M) wr) (fun iv _ => i - (intOf iv).toNat)
          case atStart => exact ⟨0, by omega, rfl, hR1.out⟩
          case round =>
            clear hR1
            obtain ⟨a, ha, rfl, hR⟩ := hrel
            obtain ⟨w3, rfl⟩ : ∃ w3 : World, w3 = wr := ⟨_, rfl⟩
            have g0 := hR.bg.cell (j := 0) (v := .int .i64 (i : Int)) rfl
            by_cases haN : a < i
            · have haN' : (a : Int) < i := by omega
              have hR1 := Lib.hid hR
              clear hR
              go_wp2
              go_loopw [10] (fun jv wr => ∃ b : Nat, b ≤ i ∧ jv = .int .i64 b ∧ RdI i s A len cap w u3 r c i (MidW k a b M) wr) (fun jv _ => i - (intOf jv).toNat)
              case atStart => exact ⟨0, by omega, rfl, hR1.out⟩
              case round =>
                clear hR1
                obtain ⟨b, hb, rfl, hR⟩ := hrel
                obtain ⟨w4, rfl⟩ : ∃ w4 : World, w4 = wr := ⟨_, rfl⟩
                have g0 := hR.bg.cell (j := 0) (v := .int .i64 (i : Int)) rfl
                by_cases hbN : b < i
                · have hbN' : (b : Int) < i := by omega
                  obtain ⟨gv, cv, rfl, _, hgl, c1⟩ := hR.sq.out haN
                  obtain ⟨gv2, cv2, e, _, _, c2⟩ := hR.sq.out hkN
                  injection e with e _ e'
                  injection e with e
                  injection e with e
                  subst e; subst e'
                  have c3 := hR.sq.cell haN hkN
                  have c4 := hR.sq.cell hkN hbN
                  have c5 := hR.sq.cell haN hbN
                  rw [MidW.col hDIH.out] at c3
                  rw [MidW.row hDIH.out] at c4
                  rw [MidW.here] at c5
                  have c6 := hR.sq.frz haN b
                  have l1 := (hR.sq.rlt haN).2
                  have b1 := hDIH.out.hi a k; have b2 := hDIH.out.hi k b; have b3 := hDIH.out.lo a k; have b4 := hDIH.out.lo k b
                  have hnx := Lib.hid (fun x y => MidW.next (k := k) (i := a) (j := b) (M := M) x y)
                  have hst : stW k M a b = if 0 ≤ M a k ∧ 0 ≤ M k b ∧ (M a b < 0 ∨ M a k + M k b < M a b) then M a k + M k b else M a b := rfl
                  have hhere := Lib.hid (MidW.here (k := k) (i := a) (j := b) (M := M))
                  obtain ⟨S, hS⟩ : ∃ S, stW k M a b = S := ⟨_, rfl⟩
                  rw [hS] at hst hnx
                  clear hS
                  have hsets := Lib.hid (fun nq x => (hR.sq.drewN nq).set haN b x)
                  have hbgs := Lib.hid (fun nq x => (show Blk (w4.drewN nq) s _ _ from hR.bg).kept (grown_set (w4.drewN nq) (r a) b x) (nq_ne (by have := hR.sq.rlt haN; omega)))
                  have hbes := Lib.hid (fun nq (x : Value) => (below_drewN hR.be nq).setCell (p := ⟨r a, b, none⟩) (by have := hR.sq.rlt haN; simp; omega) x)
                  have hRH := Lib.hid hR
                  clear hR
                  generalize M a k = x1 at *
                  generalize M k b = x2 at *
                  generalize M a b = x3 at *
                  have hwx : IntKind.i64.wrap (x1 + x2) = x1 + x2 := IntWalk.i64_in _ (by omega)
                  by_cases t1 : 0 ≤ x1
                  · by_cases t2 : 0 ≤ x2
                    · by_cases t3 : x3 < 0
                      · have hSx : S = x1 + x2 := by rw [hst, if_pos (by omega)]
                        have hRn := Lib.hid (fun nq => show RdI i s A len cap w _ r c i (MidW k a (b + 1) M) ((w4.drewN nq).setCell ⟨r a, b, none⟩ (.int .i64 (x1 + x2))) from by
                          rw [← hSx]
                          exact ⟨(hsets.out nq S).congr (fun x y _ _ => hnx.out x y), hbgs.out nq _, hbes.out nq _⟩)
                        clear hRH hsets hbgs hbes hhere hnx hst hSx
                        go_wp2
                        go_quiet (fail)
                        have hRm := Lib.hid (show RdI i s A len cap w _ r c i (MidW k a (b + 1) M) ((w4.drewN nq).drew.setCell ⟨r a, b, none⟩ (.int .i64 (x1 + x2))) from hRn.out (nq + 1))
                        have d1 : (w4.drewN nq).drew.cell? ⟨gv, a, none⟩ = _ := c1
                        have d2 : (w4.drewN nq).drew.cell? ⟨gv, k, none⟩ = _ := c2
                        have d3 : (w4.drewN nq).drew.cell? ⟨r a, k, none⟩ = _ := c3
                        have d4 : (w4.drewN nq).drew.cell? ⟨r k, b, none⟩ = _ := c4
                        have d6 : (w4.drewN nq).drew.frozen? ⟨r a, b, none⟩ = false := c6
                        have d7 : r a < (w4.drewN nq).drew.heap.size := l1
                        have d5 : (w4.drewN nq).drew.cell? ⟨r a, b, none⟩ = _ := c5
                        generalize w4.drewN nq = w5 at *
                        clear c1 c2 c3 c4 c5 c6 g0 l1 hRn
                        go_wp2
                        go_still_tail 21, (by kernel_rfl)
                        change wpList _ _ _ _ _ w5.drew
                        go_wp2
                        go_roundw
                        case rel => exact ⟨b + 1, by omega, by go_num, hRm.out⟩
                        case measure => simp [intOf]; omega
                      · by_cases t4 : x1 + x2 < x3
                        · have hSx : S = x1 + x2 := by rw [hst, if_pos (by omega)]
                          have hRn := Lib.hid (fun nq => show RdI i s A len cap w _ r c i (MidW k a (b + 1) M) ((w4.drewN nq).setCell ⟨r a, b, none⟩ (.int .i64 (x1 + x2))) from by
                            rw [← hSx]
                            exact ⟨(hsets.out nq S).congr (fun x y _ _ => hnx.out x y), hbgs.out nq _, hbes.out nq _⟩)
                          clear hRH hsets hbgs hbes hhere hnx hst hSx
                          go_wp2
                          go_quiet (fail)
                          have hRm := Lib.hid (show RdI i s A len cap w _ r c i (MidW k a (b + 1) M) ((w4.drewN nq).drew.setCell ⟨r a, b, none⟩ (.int .i64 (x1 + x2))) from hRn.out (nq + 1))
                          have d1 : (w4.drewN nq).drew.cell? ⟨gv, a, none⟩ = _ := c1
                          have d2 : (w4.drewN nq).drew.cell? ⟨gv, k, none⟩ = _ := c2
                          have d3 : (w4.drewN nq).drew.cell? ⟨r a, k, none⟩ = _ := c3
                          have d4 : (w4.drewN nq).drew.cell? ⟨r k, b, none⟩ = _ := c4
                          have d6 : (w4.drewN nq).drew.frozen? ⟨r a, b, none⟩ = false := c6
                          have d7 : r a < (w4.drewN nq).drew.heap.size := l1
                          have d5 : (w4.drewN nq).drew.cell? ⟨r a, b, none⟩ = _ := c5
                          generalize w4.drewN nq = w5 at *
                          clear c1 c2 c3 c4 c5 c6 g0 l1 hRn
                          go_wp2
                          go_still_tail 21, (by kernel_rfl)
                          change wpList _ _ _ _ _ w5.drew
                          go_wp2
                          go_roundw
                          case rel => exact ⟨b + 1, by omega, by go_num, hRm.out⟩
                          case measure => simp [intOf]; omega
                        · have hSx : S = x3 := by rw [hst, if_neg (by omega)]
                          have hRn := Lib.hid (fun nq => show RdI i s A len cap w _ r c i (MidW k a (b + 1) M) (w4.drewN nq) from ⟨(hRH.out.sq.drewN nq).congr (fun x y _ _ => by
                            rw [← hnx.out x y, hSx]
                            by_cases e : x = a ∧ y = b
                            · rw [if_pos e, e.1, e.2]; exact hhere.out
                            · rw [if_neg e]), hRH.out.bg, below_drewN hRH.out.be nq⟩)
                          clear hRH hsets hbgs hbes hhere hnx hst
                          go_wp2
                          go_quiet (fail)
                          go_wp2
                          go_roundw
                          case rel => exact ⟨b + 1, by omega, by go_num, hRn.out _⟩
                          case measure => simp [intOf]; omega
                    · have hSx : S = x3 := by rw [hst, if_neg (by omega)]
                      have hRn := Lib.hid (fun nq => show RdI i s A len cap w _ r c i (MidW k a (b + 1) M) (w4.drewN nq) from ⟨(hRH.out.sq.drewN nq).congr (fun x y _ _ => by
                        rw [← hnx.out x y, hSx]
                        by_cases e : x = a ∧ y = b
                        · rw [if_pos e, e.1, e.2]; exact hhere.out
                        · rw [if_neg e]), hRH.out.bg, below_drewN hRH.out.be nq⟩)
                      clear hRH hsets hbgs hbes hhere hnx hst
                      go_wp2
                      have t2q : decide (0 ≤ x2) = false := decide_eq_false (by omega)
                      go_quiet (fail)
                      go_wp2
                      go_roundw
                      case rel => exact ⟨b + 1, by omega, by go_num, hRn.out _⟩
                      case measure => simp [intOf]; omega
                  · have hSx : S = x3 := by rw [hst, if_neg (by omega)]
                    have hRn := Lib.hid (fun nq => show RdI i s A len cap w _ r c i (MidW k a (b + 1) M) (w4.drewN nq) from ⟨(hRH.out.sq.drewN nq).congr (fun x y _ _ => by
                      rw [← hnx.out x y, hSx]
                      by_cases e : x = a ∧ y = b
                      · rw [if_pos e, e.1, e.2]; exact hhere.out
                      · rw [if_neg e]), hRH.out.bg, below_drewN hRH.out.be nq⟩)
                    clear hRH hsets hbgs hbes hhere hnx hst
                    go_wp2
                    have t1q : decide (0 ≤ x1) = false := decide_eq_false (by omega)
                    go_quiet (fail)
                    go_wp2
                    go_roundw
                    case rel => exact ⟨b + 1, by omega, by go_num, hRn.out _⟩
                    case measure => simp [intOf]; omega
                · obtain rfl : b = i := by omega
                  have hRn := Lib.hid (show RdI b s A len cap w u3 r c b (MidW k (a + 1) 0 M) w4 from ⟨hR.sq.congr (fun x y _ hy => MidW.line hy), hR.bg, hR.be⟩)
                  clear hR
                  go_wp2
                  go_roundw
                  case rel => exact ⟨a + 1, by omega, by go_num, hRn.out⟩
                  case measure => simp [intOf]; omega
            · obtain rfl : a = i := by omega
              have hRn := Lib.hid (show RdI a s A len cap w u3 r c a (dW es (k + 1)) w3 from by
                rw [← hMn.out]
                exact ⟨hR.sq.congr (fun x y hx _ => MidW.full hx), hR.bg, hR.be⟩)
              clear hR
              go_wp2
              go_roundw
              case rel => exact ⟨k + 1, by omega, by go_num, hRn.out⟩
              case measure => simp [intOf]; omega
        · obtain rfl : k = i := by omega
          have hsq := Lib.hid hR.sq; have hbe := Lib.hid hR.be
          clear hR
          go_wp2
          go_ret
          exact ⟨_, _, _, rfl, hs ▸ hsq.out, hs ▸ hbe.out⟩
end Go.Proofs.YtnkmfnnkophccaaDoor
