/- teamsterref.Parts: of each node its part. -/
import Derived.Test.YtnkmfnnkophccaaDoorRefDist
namespace Go.Proofs.YtnkmfnnkophccaaDoor
open Go.RowKit
attribute [local go_sem] Oper.semAt_some

set_option maxHeartbeats 3200000 in
set_option maxRecDepth 100000 in
theorem refParts_any (N : Nat) (A : Option Addr) (len cap : Nat) (es : List E) (w : World) (hr : Rd w A len 3 (ps3 .i64 .i64 .i64 es)) (hN : N ≤ 10) (hl : len ≤ 45) (hok : ∀ e ∈ es, okE N e) :
    Calls Tryd.prog 9 #[.agg #[.int .i64 N, .slice A len cap]] w fun e w' => ∃ (v : Value) (p : Nat → Nat), e = .returned v ∧ w'.ownsRow (w.heap.size + 1) 3 1 v N (row N fun i => (p i : Int)) ∧ (∀ i, i < N → IsPart es N i (p i)) ∧ Below w.heap.size w w' := by
  have gb := (Below.refl _ w).alloc (Nat.le_refl _) (.cells #[.int .i64 N, .slice A len cap] 27)
  have bG := Blk.new w 27 #[.int .i64 N, .slice A len cap]
  have HD := Lib.hid (refDist_any N A len cap es _ (hr.later gb) hN hl hok)
  have hsz : (w.alloc (.cells #[.int .i64 N, .slice A len cap] 27)).heap.size = w.heap.size + 1 := by simp
  have gbH := Lib.hid gb; have bGH := Lib.hid bG
  clear hr hok gb bG
  go_enter Tryd.func9, Tryd.ntmps9
  go_wp2_with fail
  refine HD.out.mono ?_
  rintro _ w1 ⟨v, r, c, rfl, hsq, hb⟩
  clear HD
  have bG1 := bGH.out.below hb (by omega)
  have hb1 := gbH.out.trans (hb.mono gbH.out.size)
  have hs1 := hb.size
  have hsqH := Lib.hid hsq; have bG1H := Lib.hid bG1; have hb1H := Lib.hid hb1
  clear hsq bG1 hb hb1 gbH bGH
  go_wp2
  go_loopw [4, 5] (fun u iv wr => ∃ (i : Nat) (p : Nat → Nat), i ≤ N ∧ iv = .int .i64 i ∧ wr.ownsRow w1.heap.size 3 1 u i (row i fun a => (p a : Int)) ∧ (∀ a, a < i → IsPart es N a (p a)) ∧ Below w1.heap.size w1 wr) (fun _ iv _ => N - (intOf iv).toNat)
  case atStart => exact ⟨0, fun _ => 0, by omega, rfl, World.ownsRow_nil _ _ _ _, fun a ha => absurd ha (by omega), Below.refl _ _⟩
  case round =>
    obtain ⟨i, p, hi, rfl, hown, hp, hb⟩ := hrel
    obtain ⟨w2, rfl⟩ : ∃ w2 : World, w2 = wr := ⟨_, rfl⟩
    have bG2 := bG1H.out.below hb bG1H.out.lt
    have g0 := bG2.cell (j := 0) (v := .int .i64 (N : Int)) rfl
    by_cases hiN : i < N
    · have hiN' : (i : Int) < N := by omega
      have hsq2 := hsqH.out.below hb (Nat.le_refl _)
      obtain ⟨g, cv, rfl, _, hgl, c1⟩ := hsq2.out hiN
      have hownH := Lib.hid hown; have hbH := Lib.hid hb; have hpH := Lib.hid hp; have hsq2H := Lib.hid hsq2
      have hs2 := hb.size
      have hself := Lib.hid (cn_refl es N i)
      clear hown hb hp hsq2 bG2
      go_wp2
      obtain ⟨wo, hwo⟩ : ∃ wo : World, wo = w2 := ⟨_, rfl⟩
      go_loopw [6] (fun jv wr => ∃ j : Nat, j ≤ i ∧ jv = .int .i64 j ∧ (∀ a, a < j → ¬ cn es N i a) ∧ wr = wo) (fun jv _ => i + 1 - (intOf jv).toNat)
      case atStart => exact ⟨0, by omega, rfl, fun a ha => absurd ha (by omega), hwo.symm⟩
      case round =>
        obtain ⟨j, hj, rfl, hno, rfl⟩ := hrel
        subst hwo
        have hjN : (j : Int) < N := by omega
        have c2 := hsq2H.out.cell hiN (show j < N by omega)
        obtain ⟨x, hx⟩ : ∃ x, dW es N i j = x := ⟨_, rfl⟩
        rw [hx] at c2
        by_cases hneg : x < 0
        · have hji : j ≠ i := fun e => by
            have := hself.out; unfold cn at this; rw [← e] at this; rw [← e] at hx; omega
          have hnn := Lib.hid (show ∀ a, a < j + 1 → ¬ cn es N i a from fun a ha => by
            by_cases e : a = j
            · subst e; unfold cn; omega
            · exact hno a (by omega))
          clear hno hx
          go_wp2
          go_roundw
          case rel => exact ⟨j + 1, by omega, by go_num, hnn.out, by trivial⟩
          case measure => simp [intOf]; omega
        · have hpart := Lib.hid (show IsPart es N i j from ⟨hj, by unfold cn; omega, hno⟩)
          clear hno hx
          go_wp2_with (at_builtin; refine wpList_app (s := .tmp 25) (x := .tmp 27) _ tiQ1 (hownH.out.alloc _) (rd_new1 _ (.int .i64 j) 3) (fun u hu => by simp at hu; subst hu; rfl) (by omega) (by omega) (by simp; omega) rfl rfl rfl rfl ?_)
          intro v' w4 hown4 hg4 _
          have hb4 := (hbH.out.alloc hbH.out.size _).grown hg4 (by simp; omega) (fun g hg' => (hownH.out.lt g hg').1)
          have hown5 : w4.ownsRow w1.heap.size 3 1 v' (i + 1) (row (i + 1) fun a => ((if a = i then j else p a : Nat) : Int)) := by
            rw [row_snoc, row_congr (G := fun a => (p a : Int)) (fun a ha => by rw [if_neg (by omega)])]
            simpa using hown4
          have hp5 : ∀ a, a < i + 1 → IsPart es N a (if a = i then j else p a) := fun a ha => by
            by_cases e : a = i
            · rw [if_pos e, e]; exact hpart.out
            · rw [if_neg e]; exact hpH.out a (by omega)
          have h5 := Lib.hid hown5; have h6 := Lib.hid hp5; have h7 := Lib.hid hb4
          clear hown4 hown5 hp5 hb4 hg4 hownH hbH
          go_wp2
          go_roundw
          case rel => exact ⟨i + 1, _, by omega, by go_num, h5.out, h6.out, h7.out⟩
          case measure => simp [intOf]; omega
    · obtain rfl : i = N := by omega
      have hown' := Lib.hid (own_base (b' := w.heap.size + 1) (by omega) hown)
      have hb' := Lib.hid (hb1H.out.trans (hb.mono hb1H.out.size))
      have hpH := Lib.hid hp
      clear hown hb hp bG2
      go_wp2
      go_ret
      exact ⟨_, p, rfl, hown'.out, hpH.out, hb'.out⟩
end Go.Proofs.YtnkmfnnkophccaaDoor
