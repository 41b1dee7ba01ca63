/- span.Least: the walk. -/
import Derived.Test.YtdmbbddkbfknlaaUnionF
import Derived.Test.YtdmbbddkbfknlaaStableF
import Derived.Test.YtdmbbddkbfknlaaForest
import Derived.Test.YtdmbbddkbfknlaaGood
import Derived.Test.YtdmbbddkbfknlaaCmp
import Derived.Test.YtdmbbddkbfknlaaSortInt
import Derived.Test.YtdmbbddkbfknlaaNatI
import Derived.Test.YtdmbbddkbfknlaaBlk
import Derived.BigQuiet
import Derived.StillTailTactics
namespace Go.Proofs.Ytdmbbddkbfknlaa
open Go.RowKit

theorem entL (args : Array Value) (w : World) : (callFunc 13 args).run Try.prog w = .ok (.enter 13 args) w := by go_simp
def wE (es : List E) (i : Nat) : Int := (eAt es i).2.2
theorem cmpL_any (bx : Nat) (A : Option Addr) (len cap : Nat) (es : List E) (i j : Nat) (w : World) (hb : w.cell? ⟨bx, 1, none⟩ = some (.slice A len cap)) (hr : Rd w A len 3 (ps3 .i64 .i64 .i64 es)) (hi : i < len) (hj : j < len) :
    Calls Try.prog 13 #[.int .i64 (i : Int), .int .i64 (j : Int), .pointer (some ⟨bx, 0, none⟩)] w fun e w' => e = .returned (.int .i64 (cmpI (wE es i) (wE es j))) ∧ ∃ m, w' = w.drewN m := by
  obtain ⟨b, o, rfl, hab, _, _, hci⟩ := hr.triple hi
  obtain ⟨_, _, hA, _, _, _, hcj⟩ := hr.triple hj
  cases hA
  clear hr
  unfold wE eAt
  have HC := Lib.hid (fun W => cmp64_any (es.getD i (0, 0, 0)).2.2 (es.getD j (0, 0, 0)).2.2 W)
  generalize cmpI (es.getD i (0, 0, 0)).2.2 (es.getD j (0, 0, 0)).2.2 = c at *
  generalize (es.getD i (0, 0, 0)).2.2 = x at *
  generalize (es.getD j (0, 0, 0)).2.2 = y at *
  go_enter Try.func13, Try.ntmps13
  go_wp2
  go_quiet ((go_at_call 14; first | (with_reducible exact quiet_add_left (HC.out _)) | (with_reducible exact quiet_left (HC.out _))))
  go_wp2
  go_ret
  exact ⟨rfl, _, rfl⟩
theorem tiSL : TI Try.prog 25 3 (.int .i64 0) 1 8 := TI.mk' Try.underlying25 (by kernel_rfl) rfl (by decide)
theorem fu_id (n : Nat) : Fu n fun i => i := ⟨fun _ h => h, fun _ _ _ _ h => h⟩
theorem perm_natI {z : List Int} {l : List Nat} (h : z.Perm (natI l)) : ∃ l', z = natI l' ∧ l'.Perm l := by
  refine ⟨z.map Int.toNat, ?_, ?_⟩
  · unfold natI
    rw [List.map_map]
    refine (List.map_id' z).symm.trans (List.map_congr_left fun x hx => ?_)
    obtain ⟨y, _, rfl⟩ := List.mem_map.1 (h.mem_iff.1 hx)
    simp
  · have := h.map Int.toNat
    unfold natI at this
    rw [List.map_map] at this
    refine this.trans (List.Perm.of_eq ?_)
    refine (List.map_congr_left fun x _ => ?_).trans (List.map_id' l)
    simp
/-- what is told: a forest that is taken in an order of weights -/
def SLPost (N len : Nat) (es : List E) (w : World) (e : Ending) (w' : World) : Prop :=
  ∃ (v : Value) (l : List Nat) (G : Nat → Nat), e = .returned (.tuple #[v, .int .i64 0]) ∧ w'.ownsRow (w.heap.size + 1) 3 1 v l.length (ints .i64 (natI l)) ∧ Fu len G ∧ Sr (wE es) 0 len G ∧ l.Perm (kr es G len) ∧ l.length ≤ N ∧ Below w.heap.size w w'
theorem spanLeast_bad (N : Int) (A : Option Addr) (len cap : Nat) (es : List E) (w : World) (hr : Rd w A len 3 (ps3 .i64 .i64 .i64 es)) (hlen : len ≤ 9223372036854775807) (hbad : (gchk N es == 0) = false) :
    Calls Try.prog 5 #[.agg #[.int .i64 N, .slice A len cap]] w fun e w' => ∃ z, e = .returned (.tuple #[.slice none 0 0, .int .i64 z]) ∧ (z != 0) = true ∧ Below w.heap.size w w' := by
  have gb := (Below.refl _ w).alloc (Nat.le_refl _) (.cells #[.int .i64 N, .slice A len cap] 24)
  have hK := Blk.new w 24 #[.int .i64 (N : Int), .slice A len cap]
  have g0 := hK.cell (j := 0) rfl
  have g1 := hK.cell (j := 1) rfl
  have HC := Lib.hid (check_any N A len cap es _ (hr.later gb) hlen)
  have hz : (gchk N es != 0) = true := by
    have : gchk N es ≠ 0 := by simpa using hbad
    simpa using this
  generalize gchk N es = z at *
  have gbH := Lib.hid gb
  clear hr hbad gb hK
  go_enter Try.func5, Try.ntmps5
  go_wp2_with fail
  refine HC.out.mono ?_
  rintro _ w1 ⟨rfl, hb1⟩
  have hbH := Lib.hid (gbH.out.trans (hb1.mono (by simp)))
  clear hb1 gbH g0 g1
  go_wp2
  go_ret2
  exact ⟨z, rfl, hz, hbH.out⟩
set_option maxHeartbeats 3200000 in
set_option maxRecDepth 100000 in
theorem spanLeast_ok (N : Nat) (A : Option Addr) (len cap : Nat) (es : List E) (w : World) (hr : Rd w A len 3 (ps3 .i64 .i64 .i64 es)) (hok : gchk N es = 0) :
    Calls Try.prog 5 #[.agg #[.int .i64 N, .slice A len cap]] w (SLPost N len es w) := by
  have hel : es.length = len := ps3_len hr
  obtain ⟨h0, h10, h45, hokE, _⟩ := gchk_ok hok
  rw [Int.toNat_natCast] at hokE
  have hn10 : N ≤ 10 := by omega
  have hl45 : len ≤ 45 := by omega
  have gb := (Below.refl _ w).alloc (Nat.le_refl _) (.cells #[.int .i64 N, .slice A len cap] 24)
  have hK := Blk.new w 24 #[.int .i64 (N : Int), .slice A len cap]
  have g0 := hK.cell (j := 0) rfl
  have g1 := hK.cell (j := 1) rfl
  have HC := Lib.hid (check_any N A len cap es _ (hr.later gb) (by omega))
  rw [hok] at HC
  have hrH := Lib.hid hr; have hokH := Lib.hid hokE; have helH := Lib.hid hel
  have gbH := Lib.hid gb; have hKH := Lib.hid hK
  clear hr gb hK hokE hok hel h0 h10 h45
  go_enter Try.func5, Try.ntmps5
  go_wp2_with fail
  refine HC.out.mono ?_
  rintro _ w1 ⟨rfl, hb1⟩
  have hbw := Lib.hid (gbH.out.trans (hb1.mono (by simp)))
  have hK1 := Lib.hid (hKH.out.below hb1 hKH.out.lt)
  have q0 := hK1.out.cell (j := 0) rfl
  have q1 := hK1.out.cell (j := 1) rfl
  have hS1 : w.heap.size + 1 ≤ w1.heap.size := hK1.out.lt
  clear hb1 g0 g1 HC gbH hKH
  go_wp2
  go_loopw [5, 7, 19] (fun v _ i wr => ∃ k : Nat, k ≤ len ∧ i = .int .i64 k ∧ wr.ownsRow (w.heap.size + 1) 3 1 v k (rowN k fun i => i) ∧ Below w.heap.size w wr ∧ w.heap.size + 1 ≤ wr.heap.size ∧ Blk wr w.heap.size 24 #[.int .i64 (N : Int), .slice A len cap]) (fun _ _ i _ => len - (intOf i).toNat)
  case atStart => exact ⟨0, Nat.zero_le _, rfl, ⟨rfl, .inl ⟨rfl, rfl⟩⟩, hbw.out, hS1, hK1.out⟩
  case round =>
    clear hbw hK1 q0 q1 hS1
    obtain ⟨k, hk, rfl, hown, hb, hs, hbx⟩ := hrel
    obtain ⟨A1, c1, rfl⟩ := own_slice hown
    by_cases hlt : k < len
    · have hownH := Lib.hid hown; have hbH := Lib.hid hb; have hbxH := Lib.hid hbx
      clear hown hb hbx
      go_wp2_with (at_builtin; refine wpList_app (s := .tmp 22) (x := .tmp 24) _ tiSL (hownH.out.alloc _) (rd_new1 _ (.int .i64 k) 3) (ints_one (l := [(k : Int)])) (by omega) (by omega) (by simp; omega) rfl rfl rfl rfl ?_)
      intro v' w5 hown5 hg5 _
      have hne : ∀ g, (some g : Option Nat) = (Value.slice A1 k c1).ownBlock → w.heap.size + 1 ≤ g := fun g e => (hownH.out.lt g e.symm).1
      have hb5 : Below w.heap.size w w5 := (hbH.out.alloc hbH.out.size _).grown hg5 (by simp; omega) (fun g e => by have := hne g e.symm; omega)
      have hbx5 : Blk w5 w.heap.size 24 #[.int .i64 (N : Int), .slice A len cap] := (hbxH.out.alloc _).kept hg5 (fun e => by have := hne _ e; omega)
      have hs5 := hg5.size
      simp only [World.size_alloc] at hs5
      have h1 := Lib.hid hown5; have h2 := Lib.hid hb5; have h3 := Lib.hid hbx5
      clear hown5 hb5 hbx5 hg5 hne
      go_wp2
      go_roundw
      case rel => exact ⟨k + 1, by omega, by go_num, by rw [← rowN_snoc]; exact h1.out, h2.out, by omega, h3.out⟩
      case measure => simp [intOf]; omega
    · obtain rfl : k = len := by omega
      have hcmp : CmpF Try.prog 13 #[.pointer (some ⟨w.heap.size, 0, none⟩)] (fun i j => cmpI (wE es i) (wE es j)) (wE es) k (w.heap.size + 1) wr :=
        ⟨fun x y W hx hy hB => cmpL_any w.heap.size A k cap es x y W ((hB.cell (p := ⟨w.heap.size, 1, none⟩) (Nat.lt_succ_self _)).trans (hbx.cell (j := 1) rfl)) (hrH.out.later (hb.trans (hB.mono (by omega)))) hx hy, fun x y => cmpI_neg⟩
      have HS := Lib.hid (sortStableF_any 13 #[.pointer (some ⟨w.heap.size, 0, none⟩)] _ (wE es) A1 k c1 (w.heap.size + 1) (fun i => i) wr hown (fu_id k) hl45 entL hcmp)
      have hbH := Lib.hid hb; have hbxH := Lib.hid hbx
      clear hown hb hbx hcmp hlt hk
      go_wp2_with fail
      refine HS.out.mono ?_
      rintro _ w3 ⟨rfl, G, hFG, hSr, hown, hb3⟩
      have hbw3 := Lib.hid (hbH.out.trans (hb3.mono (by omega)))
      have hbx3 := Lib.hid (hbxH.out.below hb3 (by omega))
      have q0 := hbx3.out.cell (j := 0) rfl
      have q1 := hbx3.out.cell (j := 1) rfl
      have hs3 := hb3.size
      have HA := Lib.hid (alone_any N w3 hn10)
      have hown3 := Lib.hid hown; have hFGH := Lib.hid hFG; have hSrH := Lib.hid hSr
      clear hown hFG hSr hb3 HS hbH hbxH
      go_wp2_with fail
      refine HA.out.mono ?_
      rintro _ w4 ⟨vu, rfl, hownU, hb4⟩
      obtain ⟨A2, c2, rfl⟩ := own_slice hownU
      have hbw4 := Lib.hid (hbw3.out.trans (hb4.mono hbw3.out.size))
      have hbx4 := Lib.hid (hbx3.out.below hb4 (by omega))
      have hownO := Lib.hid (own_below hown3.out hb4)
      have hs4 := hb4.size
      have hgO := Lib.hid (fun g (e : (Value.slice A1 k c1).ownBlock = some g) => (hown3.out.lt g e).2)
      have hgU := Lib.hid (fun g (e : (Value.slice A2 N c2).ownBlock = some g) => hownU.lt g e)
      have hownU4 := Lib.hid hownU
      clear hownU hb4 HA hbw3 hbx3 hown3 q0 q1
      obtain ⟨bu, hbu⟩ : ∃ bu, w3.heap.size = bu := ⟨_, rfl⟩
      obtain ⟨b2, hb2⟩ : ∃ b2, w4.heap.size = b2 := ⟨_, rfl⟩
      rw [hbu] at hgO hgU hownU4 hs3 hs4
      rw [hb2] at hgU hs4
      have hw4b := Lib.hid (show b2 ≤ w4.heap.size by omega)
      clear hbu hb2
      go_wp2
      go_loopw [6, 10, 35] (fun v _ i wx => ∃ (j : Nat) (U : Nat → Nat), j ≤ k ∧ i = .int .i64 j ∧ UF N U (lab (krE es G j)) ∧ wx.ownsRow b2 3 1 v (kr es G j).length (ints .i64 (natI (kr es G j).reverse)) ∧ wx.ownsRow bu 3 1 (.slice A2 N c2) N (rowN N U) ∧ wx.ownsRow (w.heap.size + 1) 3 1 (.slice A1 k c1) k (rowN k G) ∧ Below w.heap.size w wx ∧ b2 ≤ wx.heap.size ∧ Blk wx w.heap.size 24 #[.int .i64 (N : Int), .slice A k cap]) (fun _ _ i _ => k - (intOf i).toNat)
      case atStart => exact ⟨0, fun i => i, Nat.zero_le _, rfl, UF.start N, ⟨rfl, .inl ⟨rfl, rfl⟩⟩, hownU4.out, hownO.out, hbw4.out, hw4b.out, hbx4.out⟩
      case round =>
        clear hownU4 hownO hbw4 hw4b hbx4
        obtain ⟨j, U, hj, rfl, hU, hownL, hownU, hownO, hb, hsx, hbx⟩ := hrel
        obtain ⟨AL, cL, rfl⟩ := own_slice hownL
        have hkl : (kr es G j).length ≤ N := by
          have := kr_free (es := es) (N := N) (G := G) (n := k) (fun i hi => eAt_ok hokH.out (by rw [helH.out]; exact hi)) hFGH.out hj
          unfold Free krE at this
          rw [List.length_map] at this
          omega
        by_cases hlt : j < k
        · have hxk : G j < k := hFGH.out.1 j hlt
          have hq1 := hbx.cell (j := 1) rfl
          obtain ⟨go, rfl, _, hglO, hcO⟩ := own_atN hownO hlt
          obtain ⟨b, o, rfl, hab, hc1, hc2, _⟩ := (hrH.out.later hb).triple hxk
          obtain ⟨p, q, hp, hq, hpN, hqN, _⟩ := hokH.out (eAt es (G j)) (by unfold eAt; rw [List.getD, List.getElem?_eq_getElem (by rw [helH.out]; exact hxk)]; exact List.getElem_mem _)
          rw [show (es.getD (G j) (0, 0, 0)).1 = (p : Int) from hp] at hc1
          rw [show (es.getD (G j) (0, 0, 0)).2.1 = (q : Int) from hq] at hc2
          have hpt : (eAt es (G j)).1.toNat = p := by rw [hp]; simp
          have hqt : (eAt es (G j)).2.1.toNat = q := by rw [hq]; simp
          have hJ0 := join_any A2 N c2 bu p q U (krE es G j) wr.drew (own_drew hownU) hU hpN hqN
          have hUj := hU.join (eAt es (G j))
          have hkr : kr es G (j + 1) = if linkd (krE es G j) (eAt es (G j)) then kr es G j else G j :: kr es G j := rfl
          have hlk : linkd (krE es G j) (eAt es (G j)) ↔ lab (krE es G j) p = lab (krE es G j) q := by unfold linkd; rw [hpt, hqt]
          have hkp := fun h => hU.keep (e := eAt es (G j)) h (by rw [hpt]; have := lab_le (krE es G j) p; omega)
          rw [hpt, hqt] at hUj hkp
          have hownOd := Lib.hid (own_drew hownO)
          have hownLd := Lib.hid (own_drew hownL)
          have hbd := Lib.hid hb.drew
          have hbxd := Lib.hid (show Blk wr.drew w.heap.size 24 #[.int .i64 (N : Int), .slice (some ⟨b, o, none⟩) k cap] from hbx)
          have hgL := Lib.hid (fun g (e : (Value.slice AL (kr es G j).length cL).ownBlock = some g) => (hownL.lt g e).1)
          have hwsz : wr.drew.heap.size = wr.heap.size := rfl
          have hUH := Lib.hid hU; have hUjH := Lib.hid hUj; have hkpH := Lib.hid hkp; have hlkH := Lib.hid hlk; have hkrH := Lib.hid hkr
          clear hU hownL hownU hownO hb hbx hp hq hpt hqt hUj hkp hlk hkr hpN hqN
          obtain ⟨x, hx⟩ : ∃ x, G j = x := ⟨_, rfl⟩
          rw [hx] at hcO hc1 hc2 hxk hUjH hkpH hlkH hkrH
          have hxH := Lib.hid hx
          obtain ⟨cl, hcl⟩ : ∃ cl, (kr es G j).length = cl := ⟨_, rfl⟩
          rw [hcl] at hownLd hkl hgL ⊢
          have hclH := Lib.hid hcl
          clear hx hcl
          obtain ⟨M, hM⟩ : ∃ M, max (lab (krE es G j) p) (lab (krE es G j) q) = M := ⟨_, rfl⟩
          obtain ⟨mm, hmm⟩ : ∃ mm, min (lab (krE es G j) p) (lab (krE es G j) q) = mm := ⟨_, rfl⟩
          rw [hM, hmm] at hJ0 hUjH hkpH
          clear hM hmm
          by_cases hl : lab (krE es G j) p = lab (krE es G j) q
          · rw [show decide (lab (krE es G j) p ≠ lab (krE es G j) q) = false from decide_eq_false fun h => h hl] at hJ0
            have hJ := Lib.hid hJ0
            have hlk := hlkH.out.2 hl
            have hk1 := Lib.hid (show kr es G (j + 1) = kr es G j by rw [hkrH.out, if_pos hlk])
            have hk2 := Lib.hid (hkpH.out hlk)
            clear hJ0 hl hlk hlkH hkrH hkpH
            go_wp2
            go_still_tail 13, (by kernel_rfl)
            change wpList _ _ _ _ _ wr.drew
            go_wp2_with fail
            refine hJ.out.mono ?_
            rintro _ w6 ⟨rfl, hown6, hb6, g2, hA2, hbg2, hg2l, rfl⟩
            have hgb := hgU.out g2 (by rw [hA2]; rfl)
            have n1 := Lib.hid (own_set_other hownOd.out (a := ⟨g2, M, none⟩) (fun e => by have := hgO.out g2 e; have := hgb.1; omega) (.int .i64 (mm : Int)))
            have n2 := Lib.hid (own_set_other hownLd.out (a := ⟨g2, M, none⟩) (fun e => by have := hgL.out g2 e; have := hgb.2; omega) (.int .i64 (mm : Int)))
            have n3 := Lib.hid (hbd.out.setCell (p := ⟨g2, M, none⟩) (by have := hgb.1; show w.heap.size ≤ g2; omega) (.int .i64 (mm : Int)))
            have n4 := Lib.hid (hbxd.out.other (a := ⟨g2, M, none⟩) (by have := hgb.1; show w.heap.size ≠ g2; omega) (.int .i64 (mm : Int)))
            have n6 : b2 ≤ (wr.drew.setCell ⟨g2, M, none⟩ (.int .i64 (mm : Int))).heap.size := by simp; omega
            have n5 := Lib.hid hown6
            clear hown6 hb6 hgb hA2 hbg2 hg2l hJ hbd hbxd hownOd hownLd hcO hc1 hc2 hq1
            generalize wr.drew.setCell ⟨g2, M, none⟩ (.int .i64 (mm : Int)) = w6 at *
            go_wp2
            go_roundw
            case rel => exact ⟨j + 1, U, by omega, by go_num, by unfold krE; rw [hk1.out]; exact hUH.out, by rw [hk1.out, hclH.out]; exact n2.out, by have := n5.out; rw [hk2.out] at this; exact this, n1.out, n3.out, n6, n4.out⟩
            case measure => simp [intOf]; omega
          · rw [show decide (lab (krE es G j) p ≠ lab (krE es G j) q) = true from decide_eq_true hl] at hJ0
            have hJ := Lib.hid hJ0
            have hlk : ¬ linkd (krE es G j) (eAt es x) := fun h => hl (hlkH.out.1 h)
            have hk1 := Lib.hid (show kr es G (j + 1) = x :: kr es G j by rw [hkrH.out, if_neg hlk])
            have hk3 := Lib.hid (show krE es G (j + 1) = eAt es x :: krE es G j by unfold krE; rw [hk1.out, List.map_cons])
            clear hJ0 hl hlk hlkH hkrH hkpH
            go_wp2
            go_still_tail 13, (by kernel_rfl)
            change wpList _ _ _ _ _ wr.drew
            go_wp2_with fail
            refine hJ.out.mono ?_
            rintro _ w6 ⟨rfl, hown6, hb6, g2, hA2, hbg2, hg2l, rfl⟩
            have hgb := hgU.out g2 (by rw [hA2]; rfl)
            have hUs := Lib.hid (show (Value.slice A2 N c2).ownBlock ≠ none by rw [hA2]; simp [Value.ownBlock])
            have n1 := Lib.hid (own_set_other hownOd.out (a := ⟨g2, M, none⟩) (fun e => by have := hgO.out g2 e; have := hgb.1; omega) (.int .i64 (mm : Int)))
            have n2 := Lib.hid (own_set_other hownLd.out (a := ⟨g2, M, none⟩) (fun e => by have := hgL.out g2 e; have := hgb.2; omega) (.int .i64 (mm : Int)))
            have n3 := Lib.hid (hbd.out.setCell (p := ⟨g2, M, none⟩) (by have := hgb.1; show w.heap.size ≤ g2; omega) (.int .i64 (mm : Int)))
            have n4 := Lib.hid (hbxd.out.other (a := ⟨g2, M, none⟩) (by have := hgb.1; show w.heap.size ≠ g2; omega) (.int .i64 (mm : Int)))
            have n6 : b2 ≤ (wr.drew.setCell ⟨g2, M, none⟩ (.int .i64 (mm : Int))).heap.size := by simp; omega
            have n5 := Lib.hid hown6
            clear hown6 hb6 hgb hA2 hbg2 hg2l hJ hbd hbxd hownOd hownLd hcO hc1 hc2 hq1
            generalize wr.drew.setCell ⟨g2, M, none⟩ (.int .i64 (mm : Int)) = w6 at *
            go_wp2_with (at_builtin; refine wpList_app (s := .tmp 53) (x := .tmp 55) _ tiSL (n2.out.alloc _) (rd_new1 w6 (.int .i64 (x : Int)) 3) (ints_one (l := [(x : Int)])) (by omega) (by omega) (by simp; omega) rfl rfl rfl rfl ?_)
            intro v' w7 hown7 hg7 _
            have hne : ∀ g, (some g : Option Nat) = (Value.slice AL cl cL).ownBlock → b2 ≤ g := fun g e => hgL.out g e.symm
            have m1 := Lib.hid ((n1.out.alloc (.cells #[.int .i64 (x : Int)] 3)).kept hg7 (.inr (fun e => by
              cases hA : (Value.slice AL cl cL).ownBlock with
              | none => rw [hA] at e; simp [Value.ownBlock] at e
              | some g => rw [hA] at e; have := hgO.out g e; have := hne g hA.symm; omega)))
            have m5 := Lib.hid ((n5.out.alloc (.cells #[.int .i64 (x : Int)] 3)).kept hg7 (.inr (fun e => by
              cases hB : (Value.slice A2 N c2).ownBlock with
              | none => exact absurd hB hUs.out
              | some g => rw [hB] at e; have := (hgU.out g hB).2; have := hne g e; omega)))
            have m3 := Lib.hid ((n3.out.alloc n3.out.size (.cells #[.int .i64 (x : Int)] 3)).grown hg7 (by have := n3.out.size; simp; omega) (fun g e => by have := hne g e.symm; omega))
            have m4 := Lib.hid ((n4.out.alloc (.cells #[.int .i64 (x : Int)] 3)).kept hg7 (fun e => by have := hne _ e; omega))
            have hs7 := hg7.size
            simp only [World.size_alloc] at hs7
            have hownL7 := Lib.hid hown7
            clear hown7 hg7 hne n1 n2 n3 n4 n5
            go_wp2
            go_roundw
            case rel => exact ⟨j + 1, _, by omega, by go_num, by rw [hk3.out]; exact hUjH.out, by rw [hk1.out, List.length_cons, hclH.out, List.reverse_cons]; simpa [natI, ints] using hownL7.out, m5.out, m1.out, m3.out, by omega, m4.out⟩
            case measure => simp [intOf]; omega
        · obtain rfl : j = k := by omega
          obtain ⟨cl, hcl⟩ : ∃ cl, (kr es G j).length = cl := ⟨_, rfl⟩
          rw [hcl] at hownL hkl
          have HZ := Lib.hid (sortI_any AL cl cL b2 (natI (kr es G j).reverse) wr hownL (by omega))
          have hclH := Lib.hid hcl
          have hbH := Lib.hid hb
          have hkl2 := Lib.hid hkl
          rw [hcl]
          clear hownL hownU hownO hU hb hcl hkl hbx hlt
          go_wp2_with fail
          refine HZ.out.mono ?_
          rintro _ w8 ⟨rfl, z, hzp, _, hown8, hb8⟩
          obtain ⟨l', rfl, hl'⟩ := perm_natI hzp
          have hp := Lib.hid (hl'.trans (List.reverse_perm _))
          have hlen := Lib.hid (show l'.length = cl by rw [hl'.length_eq, List.length_reverse, hclH.out])
          have o8 := Lib.hid (own_base (b' := w.heap.size + 1) (by omega) hown8)
          have b8 := Lib.hid (hbH.out.trans (hb8.mono (by omega)))
          clear hzp hl' hown8 hb8
          go_wp2
          go_ret2
          exact ⟨_, l', G, rfl, by rw [hlen.out]; exact o8.out, hFGH.out, hSrH.out, hp.out, by rw [hlen.out]; exact hkl2.out, b8.out⟩
end Go.Proofs.Ytdmbbddkbfknlaa
