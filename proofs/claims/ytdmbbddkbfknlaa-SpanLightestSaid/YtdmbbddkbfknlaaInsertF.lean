/- slices.insertionSortCmpFunc at ints, of any part of a row. -/
import Derived.Test.YtdmbbddkbfknlaaSwapR
namespace Go.Proofs.Ytdmbbddkbfknlaa
open Go.RowKit

/-- what is asked of the comparing function -/
structure CmpF (P : Program) (f : FuncId) (env : Array Value) (C : Nat → Nat → Int) (K : Nat → Int) (N B : Nat) (w : World) : Prop where
  run : ∀ (x y : Nat) (W : World), x < N → y < N → Below B w W → Calls P f (#[.int .i64 (x : Int), .int .i64 (y : Int)] ++ env) W fun e W' => e = .returned (.int .i64 (C x y)) ∧ ∃ m, W' = W.drewN m
  lt : ∀ x y, C x y < 0 ↔ K x < K y
theorem CmpF.at {P : Program} {f : FuncId} {env : Array Value} {C : Nat → Nat → Int} {K : Nat → Int} {N B : Nat} {w : World} (h : CmpF P f env C K N B w) {x y : Nat} (hx : x < N) (hy : y < N) {wr : World} (hb : Below B w wr) :
    ∃ cc : Int, (cc < 0 ↔ K x < K y) ∧ ∀ k, Calls P f (#[.int .i64 (x : Int), .int .i64 (y : Int)] ++ env) (wr.drewN k) fun e w'' => e = Ending.returned (.int .i64 cc) ∧ ∃ m, w'' = wr.drewN m :=
  ⟨C x y, h.lt x y, fun k => (h.run x y _ hx hy (below_drewN hb k)).mono fun _ _ ⟨h1, m, h2⟩ => ⟨h1, k + m, by rw [h2, World.drewN_drewN]⟩⟩
def SrM (K : Nat → Int) (a i j : Nat) (F : Nat → Nat) : Prop := ∀ p q, a ≤ p → p < q → q ≤ i → q ≠ j → K (F p) ≤ K (F q)
theorem SrM.start {K : Nat → Int} {a i : Nat} {F : Nat → Nat} (h : Sr K a i F) : SrM K a i i F := fun p q h1 h2 h3 h4 => h p q h1 h2 (by omega)
theorem SrM.done {K : Nat → Int} {a i j : Nat} {F : Nat → Nat} (h : SrM K a i j F) (hno : a < j → K (F (j - 1)) ≤ K (F j)) : Sr K a (i + 1) F := fun p q h1 h2 h3 => by
  by_cases hq : q = j
  · subst hq
    have := hno (by omega)
    by_cases hp : p = q - 1
    · subst hp; exact this
    · have := h p (q - 1) h1 (by omega) (by omega) (by omega); omega
  · exact h p q h1 h2 (by omega) hq
theorem SrM.swap {K : Nat → Int} {a i j : Nat} {F : Nat → Nat} (h : SrM K a i j F) (hj : a < j) (hlt : K (F j) < K (F (j - 1))) : SrM K a i (j - 1) fun p => F (swR (j - 1) j 1 p) := fun p q ha hpq hq hne => by
  have v1 : swR (j - 1) j 1 (j - 1) = j := by unfold swR; rw [if_pos (by omega)]; omega
  have v2 : swR (j - 1) j 1 j = j - 1 := by unfold swR; rw [if_neg (by omega), if_pos (by omega)]; omega
  have v3 : ∀ x, x ≠ j → x ≠ j - 1 → swR (j - 1) j 1 x = x := fun x h1 h2 => by unfold swR; rw [if_neg (by omega), if_neg (by omega)]
  show K (F (swR (j - 1) j 1 p)) ≤ K (F (swR (j - 1) j 1 q))
  by_cases hqj : q = j
  · rw [hqj, v2]
    by_cases hp : p = j - 1
    · rw [hp, v1]; omega
    · rw [v3 p (by omega) hp]; exact h p (j - 1) ha (by omega) (by omega) (by omega)
  · rw [v3 q hqj hne]
    by_cases hp : p = j - 1
    · rw [hp, v1]; exact h j q (by omega) (by omega) hq hqj
    · by_cases hpj : p = j
      · rw [hpj, v2]; exact h (j - 1) q (by omega) (by omega) hq hqj
      · rw [v3 p hpj hp]; exact h p q ha hpq hq hqj
theorem sw1_set {F : Nat → Nat} {j : Nat} (h1 : 1 ≤ j) : (fun p => if p = j - 1 then F j else if p = j then F (j - 1) else F p) = fun p => F (swR (j - 1) j 1 p) := by
  funext p
  unfold swR
  by_cases e1 : p = j - 1
  · rw [if_pos e1, if_pos (by omega)]; congr 1; omega
  · rw [if_neg e1]
    by_cases e2 : p = j
    · rw [if_pos e2, if_neg (by omega), if_pos (by omega)]; congr 1; omega
    · rw [if_neg e2, if_neg (by omega), if_neg (by omega)]
set_option maxHeartbeats 1600000 in
theorem insertF_any (f : FuncId) (env : Array Value) (C : Nat → Nat → Int) (K : Nat → Int) (A : Option Addr) (n c B a b : Nat) (F : Nat → Nat) (w : World) (hown : w.ownsRow B 3 1 (.slice A n c) n (rowN n F)) (hF : Fu n F) (hab : a ≤ b) (hbn : b ≤ n) (hn : n ≤ 45)
    (hent : ∀ args w, (callFunc f args).run Try.prog w = .ok (.enter f args) w) (hcmp : CmpF Try.prog f env C K n B w) :
    Calls Try.prog 32 #[.slice A n c, .int .i64 (a : Int), .int .i64 (b : Int), .func (.func f) #[] env] w fun e w' => e = .returned (.tuple #[]) ∧ ∃ G, Sh a b F G ∧ Sr K a b G ∧ w'.ownsRow B 3 1 (.slice A n c) n (rowN n G) ∧ Below B w w' := by
  have hcmpH := Lib.hid hcmp; have hFH := Lib.hid hF
  have hw0 : IntKind.i64.wrap ((a : Int) + 1) = ((a + 1 : Nat) : Int) := by rw [IntWalk.i64_in _ (by omega)]; omega
  clear hcmp hF
  go_enter Try.func32, Try.ntmps32
  go_wp2
  go_loopw [8, 9] (fun q _ wr => ∃ (i : Nat) (G : Nat → Nat), a < i ∧ i ≤ b + 1 ∧ q = .int .i64 i ∧ Sh a b F G ∧ Sr K a i G ∧ wr.ownsRow B 3 1 (.slice A n c) n (rowN n G) ∧ Below B w wr) (fun q _ _ => b + 1 - (intOf q).toNat)
  case atStart => exact ⟨a + 1, F, by omega, by omega, by first | rfl | go_num, Sh.refl _ _ _, fun p q h1 h2 h3 => by omega, hown, Below.refl _ _⟩
  case round =>
    clear hown hw0
    obtain ⟨i, G, hai, hib, rfl, hsh, hS, hown, hb⟩ := hrel
    by_cases hlt : i < b
    · have hSH := Lib.hid (SrM.start hS); have hownH := Lib.hid hown; have hbH := Lib.hid hb; have hshH := Lib.hid hsh
      clear hS hown hb hsh
      go_wp2
      go_loopw [9] (fun q wx => ∃ (j : Nat) (G : Nat → Nat), a ≤ j ∧ j ≤ i ∧ q = .int .i64 j ∧ Sh a b F G ∧ SrM K a i j G ∧ wx.ownsRow B 3 1 (.slice A n c) n (rowN n G) ∧ Below B w wx) (fun q _ => (intOf q).toNat)
      case atStart => exact ⟨i, G, by omega, Nat.le_refl _, rfl, hshH.out, hSH.out, hownH.out, hbH.out⟩
      case round =>
        clear hSH hownH hbH hshH G
        obtain ⟨j, G, haj, hji, rfl, hsh, hJ, hown, hb⟩ := hrel
        by_cases hj0 : a = j
        · have hI := Lib.hid (hJ.done fun h => absurd h (by omega))
          have hdj : decide (a < j) = false := decide_eq_false (by omega)
          have hownH := Lib.hid hown; have hbH := Lib.hid hb; have hshH := Lib.hid hsh
          clear hJ hown hb hsh hj0 haj hji
          go_wp2
          go_quiet (fail)
          go_wp2
          go_roundw
          case rel => exact ⟨i + 1, G, by omega, by omega, by go_num, hshH.out, hI.out, own_drewN hownH.out _, below_drewN hbH.out _⟩
          case measure => simp [intOf]; omega
        · obtain ⟨g, rfl, hBg, hgl, hcj⟩ := own_atN hown (show j < n by omega)
          obtain ⟨_, hA, _, _, hcp⟩ := own_atN hown (show j - 1 < n by omega)
          cases hA
          have hFG := hsh.fu hbn hFH.out
          have hw1 : IntKind.i64.wrap ((j : Int) - 1) = ((j - 1 : Nat) : Int) := by rw [IntWalk.i64_in _ (by omega)]; omega
          obtain ⟨cc, hC, hQ⟩ := hcmpH.out.at (hFG.1 j (by omega)) (hFG.1 (j - 1) (by omega)) hb
          have hsw := Lib.hid (fun h => hJ.swap (j := j) (by omega) h)
          have hdn := Lib.hid (fun h => hJ.done (j := j) h)
          have hsh2 := Lib.hid (hsh.trans (Sh.sw (a := j - 1) (b := j) (k := 1) (lo := a) (hi := b) (by omega) (by omega) (by omega) G))
          have hQ1 := Lib.hid hQ; have hCH := Lib.hid hC
          have hsw1 := Lib.hid (sw1_set (F := G) (j := j) (by omega))
          have hownH := Lib.hid hown; have hbH := Lib.hid hb; have hshH := Lib.hid hsh
          have hdj : decide (a < j) = true := decide_eq_true (by omega)
          clear hJ hown hb hsh hQ hC hFG
          generalize hX : G j = X at *
          generalize hY : G (j - 1) = Y at *
          by_cases hlt2 : cc < 0
          · have hd : decide (cc < 0) = true := decide_eq_true hlt2
            have hs1 := Lib.hid (hsw.out (hCH.out.1 hlt2))
            clear hlt2 hsw hdn hX hY
            go_wp2
            go_quiet ((with_reducible exact (hQ1.out _)))
            have hown1 := own_drewN hownH.out nq
            have hb1 := below_drewN hbH.out nq
            have hcj1 : (wr.drewN nq).cell? ⟨g, j, none⟩ = some (.int .i64 (X : Int)) := hcj
            have hcp1 : (wr.drewN nq).cell? ⟨g, j - 1, none⟩ = some (.int .i64 (Y : Int)) := hcp
            have hgl1 : g < (wr.drewN nq).heap.size := hgl
            generalize wr.drewN nq = W1 at *
            have hf1 := hown1.frozenAt j
            have hf2 := hown1.frozenAt (j - 1)
            have hst := (hown1.stored j (.int .i64 (Y : Int))).1
            have hst2 := (hst.stored (j - 1) (.int .i64 (X : Int))).1
            have hbs := (hb1.setCell (p := ⟨g, j, none⟩) hBg (.int .i64 (Y : Int))).setCell (p := ⟨g, j - 1, none⟩) hBg (.int .i64 (X : Int))
            rw [rowN_set2, hsw1.out] at hst2
            have hst2H := Lib.hid hst2; have hbsH := Lib.hid hbs
            clear hst hst2 hbs hown1 hb1 hcj hcp hgl
            go_wp2
            go_region
            go_wp2
            go_roundw
            case rel => exact ⟨j - 1, _, by omega, by omega, by go_num, hsh2.out, hs1.out, hst2H.out, below_drewN hbsH.out 1⟩
            case measure => simp [intOf]; omega
          · have hd : decide (cc < 0) = false := decide_eq_false hlt2
            have hI := Lib.hid (hdn.out fun _ => Int.not_lt.1 fun h => hlt2 (hCH.out.2 h))
            clear hlt2 hsw hdn hX hY
            go_wp2
            go_quiet ((with_reducible exact (hQ1.out _)))
            go_wp2
            go_roundw
            case rel => exact ⟨i + 1, G, by omega, by omega, by go_num, hshH.out, hI.out, own_drewN hownH.out _, below_drewN hbH.out _⟩
            case measure => simp [intOf]; omega
    · have hS' : Sr K a b G := fun p q h1 h2 h3 => hS p q h1 h2 (by omega)
      have hSH := Lib.hid hS'; have hownH := Lib.hid hown; have hbH := Lib.hid hb; have hshH := Lib.hid hsh
      clear hS hS' hown hb hsh
      go_wp2
      go_end0
      exact ⟨rfl, G, hshH.out, hSH.out, hownH.out, hbH.out⟩
end Go.Proofs.Ytdmbbddkbfknlaa
