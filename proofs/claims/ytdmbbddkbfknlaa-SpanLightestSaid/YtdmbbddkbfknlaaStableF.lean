/- slices.SortStableFunc at ints, of forty-five at most. -/
import Derived.Test.YtdmbbddkbfknlaaSymC
namespace Go.Proofs.Ytdmbbddkbfknlaa
open Go.RowKit

theorem CmpF.later {P : Program} {f : FuncId} {env : Array Value} {C : Nat → Nat → Int} {K : Nat → Int} {N B : Nat} {w W : World} (h : CmpF P f env C K N B w) (hb : Below B w W) : CmpF P f env C K N B W :=
  ⟨fun x y W' hx hy h2 => h.run x y W' hx hy (hb.trans h2), h.lt⟩
section
variable (f : FuncId) (env : Array Value) (C : Nat → Nat → Int) (K : Nat → Int) (A : Option Addr) (n c B : Nat)
theorem symMerge_any (w : World) (hn : n ≤ 45) (hent : ∀ args w, (callFunc f args).run Try.prog w = .ok (.enter f args) w) (hcmp : CmpF Try.prog f env C K n B w) :
    ∀ (k a m b : Nat) (F : Nat → Nat) (W : World), b - a ≤ k → a < m → m < b → b ≤ n → W.ownsRow B 3 1 (.slice A n c) n (rowN n F) → Fu n F → Sr K a m F → Sr K m b F → Below B w W →
      Calls Try.prog 33 #[.slice A n c, .int .i64 (a : Int), .int .i64 (m : Int), .int .i64 (b : Int), .func (.func f) #[] env] W (SymP B A n c K a b F W)
  | 0, a, m, b, F, W, h0, h1, h2, _, _, _, _, _, _ => by omega
  | k + 1, a, m, b, F, W, h0, h1, h2, h3, hown, hF, hS1, hS2, hb => by
    have hc := hcmp.later hb
    by_cases e1 : a + 1 = m
    · subst e1
      exact symA f env C K A n c B a b F W hown hF h2 h3 hn hent hc hS2
    · by_cases e2 : m + 1 = b
      · subst e2
        exact symB f env C K A n c B a m F W hown hF (by omega) h3 hn hent hc hS1
      · exact symC f env C K A n c B a m b F W hown hF (by omega) (by omega) h3 hn hent hc hS1 hS2 fun a' m' b' F' W' q0 q1 q2 q3 q4 q5 q6 q7 q8 =>
          symMerge_any w hn hent hcmp k a' m' b' F' W' (by omega) q1 q2 q3 q4 q5 q6 q7 (hb.trans q8)
end
def Bk (K : Nat → Int) (d x : Nat) (G : Nat → Nat) : Prop := ∀ p q, p < q → q < x → p / d = q / d → K (G p) ≤ K (G q)
set_option maxHeartbeats 3200000 in
set_option maxRecDepth 100000 in
theorem stableF_any (f : FuncId) (env : Array Value) (C : Nat → Nat → Int) (K : Nat → Int) (A : Option Addr) (n c B : Nat) (F : Nat → Nat) (w : World) (hown : w.ownsRow B 3 1 (.slice A n c) n (rowN n F)) (hF : Fu n F) (hn : n ≤ 45)
    (hent : ∀ args w, (callFunc f args).run Try.prog w = .ok (.enter f args) w) (hcmp : CmpF Try.prog f env C K n B w) :
    Calls Try.prog 25 #[.slice A n c, .int .i64 (n : Int), .func (.func f) #[] env] w fun e w' => e = .returned (.tuple #[]) ∧ ∃ G, Fu n G ∧ Sr K 0 n G ∧ w'.ownsRow B 3 1 (.slice A n c) n (rowN n G) ∧ Below B w w' := by
  have HI := Lib.hid (fun (a b : Nat) (F : Nat → Nat) (W : World) (h : W.ownsRow B 3 1 (.slice A n c) n (rowN n F)) (hF : Fu n F) (hab : a ≤ b) (hbn : b ≤ n) (hb : Below B w W) => insertF_any f env C K A n c B a b F W h hF hab hbn hn hent (hcmp.later hb))
  have HM := Lib.hid (fun (a m b : Nat) (F : Nat → Nat) (W : World) => symMerge_any f env C K A n c B w hn hent hcmp (b - a) a m b F W (Nat.le_refl _))
  have hownH := Lib.hid hown; have hFH := Lib.hid hF
  clear hown hF hcmp hent
  go_enter Try.func25, Try.ntmps25
  go_wp2
  go_loopw [7, 8] (fun q r wr => ∃ (x : Nat) (G : Nat → Nat), x % 20 = 0 ∧ x ≤ n ∧ q = .int .i64 x ∧ r = .int .i64 ((x + 20 : Nat) : Int) ∧ Fu n G ∧ Bk K 20 x G ∧ wr.ownsRow B 3 1 (.slice A n c) n (rowN n G) ∧ Below B w wr) (fun q _ _ => 100 - (intOf q).toNat)
  case atStart => exact ⟨0, F, by omega, by omega, rfl, rfl, hFH.out, fun p q _ h => absurd h (by omega), hownH.out, Below.refl _ _⟩
  case round =>
    clear hownH hFH
    obtain ⟨x, G, hx, hxn, rfl, rfl, hFG, hB, hown, hb⟩ := hrel
    obtain ⟨y, hy⟩ : ∃ y, x + 20 = y := ⟨_, rfl⟩
    rw [hy]
    by_cases hyn : y ≤ n
    · have H := Lib.hid (HI.out x y G wr hown hFG (by omega) hyn hb)
      have hwy : IntKind.i64.wrap ((y : Int) + 20) = ((y + 20 : Nat) : Int) := by rw [IntWalk.i64_in _ (by omega)]; omega
      have hy2 : y % 20 = 0 ∧ x < y ∧ x ≤ 45 ∧ y ≤ 45 := by omega
      have hBH := Lib.hid (fun G2 (hs : Sh x y G G2) (hr : Sr K x y G2) => (fun p q h1 h2 h3 => by
        by_cases hq : q < x
        · rw [hs.off (p := p) (by omega), hs.off (p := q) (by omega)]; exact hB p q h1 hq h3
        · exact hr p q (by omega) h1 h2 : Bk K 20 y G2))
      have hFGH := Lib.hid (fun G2 (hs : Sh x y G G2) => hs.fu hyn hFG)
      have hbH := Lib.hid hb
      have hy2H := Lib.hid hy2
      clear hown hFG hB hb hy hy2 HM hx hxn
      go_wp2_with fail
      refine H.out.mono ?_
      rintro _ w1 ⟨rfl, G2, hsh, hsr, hown, hb⟩
      have hz1 := Lib.hid (hBH.out G2 hsh hsr); have hz2 := Lib.hid (hFGH.out G2 hsh)
      have hown2 := Lib.hid hown; have hb2 := Lib.hid (hbH.out.trans hb)
      clear hsh hsr hown hb
      go_wp2
      go_roundw
      case rel => exact ⟨y, G2, hy2H.out.1, hyn, rfl, by first | rfl | go_num, hz2.out, hz1.out, hown2.out, hb2.out⟩
      case measure => have := hy2H.out; simp [intOf]; omega
    · have H := Lib.hid (HI.out x n G wr hown hFG hxn (Nat.le_refl _) hb)
      have hyd : (n : Int) < (y : Int) := by omega
      have hBH := Lib.hid (fun G2 (hs : Sh x n G G2) (hr : Sr K x n G2) => (fun p q h1 h2 h3 => by
        by_cases hq : q < x
        · rw [hs.off (p := p) (by omega), hs.off (p := q) (by omega)]; exact hB p q h1 hq h3
        · exact hr p q (by omega) h1 h2 : Bk K 20 n G2))
      have hFGH := Lib.hid (fun G2 (hs : Sh x n G G2) => hs.fu (Nat.le_refl _) hFG)
      have hbH := Lib.hid hb
      clear hown hFG hB hb hy hx hxn
      go_wp2_with fail
      refine H.out.mono ?_
      rintro _ w1 ⟨rfl, G1, hsh, hsr, hown, hb⟩
      have hz1 := Lib.hid (hBH.out G1 hsh hsr); have hz2 := Lib.hid (hFGH.out G1 hsh)
      have hown1 := Lib.hid hown; have hb1 := Lib.hid (hbH.out.trans hb)
      clear hsh hsr hown hb hbH hBH hFGH HI H hyd hyn
      go_wp2
      go_loopw [6, 7, 8, 9] (fun s _ _ _ wx => ∃ G : Nat → Nat, ((s = .int .i64 20 ∧ Bk K 20 n G) ∨ (s = .int .i64 40 ∧ Sr K 0 (min 40 n) G ∧ Sr K 40 n G) ∨ (s = .int .i64 80 ∧ Sr K 0 n G)) ∧ Fu n G ∧ wx.ownsRow B 3 1 (.slice A n c) n (rowN n G) ∧ Below B w wx) (fun s _ _ _ _ => 100 - (intOf s).toNat)
      case atStart => exact ⟨G1, .inl ⟨rfl, hz1.out⟩, hz2.out, hown1.out, hb1.out⟩
      case round =>
        clear hz1 hz2 hown1 hb1 G1
        obtain ⟨G, hcs, hFG, hown, hb⟩ := hrel
        rcases hcs with ⟨rfl, hB⟩ | ⟨rfl, hA1, hA2⟩ | ⟨rfl, hA⟩
        · by_cases hn20 : 20 < n
          · have hI0 := Lib.hid (show Sr K 0 20 G from fun p q _ h1 h2 => hB p q h1 (by omega) (by omega))
            have hI1 := Lib.hid (show Sr K 20 (min 40 n) G from fun p q _ h1 h2 => hB p q h1 (by omega) (by omega))
            have hI2 := Lib.hid (show Sr K 40 n G from fun p q _ h1 h2 => hB p q h1 (by omega) (by omega))
            have hn20' : (20 : Int) < n := by omega
            have hFGH := Lib.hid hFG; have hownH := Lib.hid hown; have hbH := Lib.hid hb
            clear hB hFG hown hb
            go_wp2
            go_loopw [7, 8] (fun q r wx => ∃ G : Nat → Nat, ((q = .int .i64 0 ∧ r = .int .i64 40 ∧ Sr K 0 20 G ∧ Sr K 20 (min 40 n) G ∧ Sr K 40 n G) ∨ (q = .int .i64 40 ∧ r = .int .i64 80 ∧ 40 ≤ n ∧ Sr K 0 40 G ∧ Sr K 40 n G)) ∧ Fu n G ∧ wx.ownsRow B 3 1 (.slice A n c) n (rowN n G) ∧ Below B w wx) (fun q _ _ => 100 - (intOf q).toNat)
            case atStart => exact ⟨G, .inl ⟨rfl, rfl, hI0.out, hI1.out, hI2.out⟩, hFGH.out, hownH.out, hbH.out⟩
            case round =>
              clear hI0 hI1 hI2 hFGH hownH hbH G
              obtain ⟨G, hcs, hFG, hown, hb⟩ := hrel
              rcases hcs with ⟨rfl, rfl, hI0, hI1, hI2⟩ | ⟨rfl, rfl, h40, hI0, hI1⟩
              · by_cases h40 : 40 ≤ n
                · have h40' : (40 : Int) ≤ n := by omega
                  rw [Nat.min_eq_left h40] at hI1
                  have H := Lib.hid (HM.out 0 20 40 G _ (by omega) (by omega) h40 hown hFG hI0 hI1 hb)
                  have hI2H := Lib.hid hI2; have hFGH := Lib.hid hFG; have hbH := Lib.hid hb
                  clear hI0 hI1 hI2 hown hFG hb
                  go_wp2_with fail
                  refine H.out.mono ?_
                  rintro _ w2 ⟨rfl, G2, hsh, hsr, hown, hb⟩
                  have hz1 := Lib.hid (hI2H.out.sh_off hsh (.inl (Nat.le_refl _))); have hz2 := Lib.hid (hsh.fu h40 hFGH.out); have hz3 := Lib.hid hsr
                  have hown2 := Lib.hid hown; have hb2 := Lib.hid (hbH.out.trans hb)
                  clear hsh hsr hown hb
                  go_wp2
                  go_roundw
                  case rel => exact ⟨G2, .inr ⟨by first | rfl | go_num, by first | rfl | go_num, h40, hz3.out, hz1.out⟩, hz2.out, hown2.out, hb2.out⟩
                  case measure => decide
                · have h40' : ¬ (40 : Int) ≤ n := by omega
                  rw [Nat.min_eq_right (by omega)] at hI1
                  have H := Lib.hid (HM.out 0 20 n G _ (by omega) (by omega) (Nat.le_refl _) hown hFG hI0 hI1 hb)
                  have hFGH := Lib.hid hFG; have hbH := Lib.hid hb
                  clear hI0 hI1 hI2 hown hFG hb
                  go_wp2_with fail
                  refine H.out.mono ?_
                  rintro _ w2 ⟨rfl, G2, hsh, hsr, hown, hb⟩
                  have hz2 := Lib.hid (hsh.fu (Nat.le_refl _) hFGH.out); have hz3 := Lib.hid hsr
                  have hown2 := Lib.hid hown; have hb2 := Lib.hid (hbH.out.trans hb)
                  clear hsh hsr hown hb
                  go_wp2
                  go_roundw
                  case rel => exact ⟨G2, .inr (.inl ⟨by first | rfl | go_num, by rw [Nat.min_eq_right (by omega)]; exact hz3.out, fun p q h1 h2 h3 => by omega⟩), hz2.out, hown2.out, hb2.out⟩
                  case measure => decide
              · have h80 : ¬ (80 : Int) ≤ n := by omega
                have h60 : ¬ (60 : Int) < n := by omega
                have hI0H := Lib.hid hI0; have hI1H := Lib.hid hI1; have hFGH := Lib.hid hFG; have hownH := Lib.hid hown; have hbH := Lib.hid hb
                clear hI0 hI1 hown hFG hb
                go_wp2
                go_roundw
                case rel => exact ⟨G, .inr (.inl ⟨by first | rfl | go_num, by rw [Nat.min_eq_left h40]; exact hI0H.out, hI1H.out⟩), hFGH.out, hownH.out, hbH.out⟩
                case measure => decide
          · have hn20' : ¬ (20 : Int) < n := by omega
            have hS := Lib.hid (show Sr K 0 n G from fun p q _ h1 h2 => hB p q h1 h2 (by omega))
            have hFGH := Lib.hid hFG; have hownH := Lib.hid hown; have hbH := Lib.hid hb
            clear hB hFG hown hb
            go_wp2
            go_end0
            exact ⟨rfl, G, hFGH.out, hS.out, hownH.out, hbH.out⟩
        · by_cases hn40 : 40 < n
          · have hn40' : (40 : Int) < n := by omega
            have h80 : ¬ (80 : Int) ≤ n := by omega
            rw [Nat.min_eq_left (by omega)] at hA1
            have H := Lib.hid (HM.out 0 40 n G _ (by omega) hn40 (Nat.le_refl _) hown hFG hA1 hA2 hb)
            have hFGH := Lib.hid hFG; have hbH := Lib.hid hb
            clear hA1 hA2 hown hFG hb
            go_wp2
            obtain ⟨wq, hwq⟩ : ∃ wq : World, wq = wr := ⟨_, rfl⟩
            go_loopw [7, 8] (fun q r wy => q = .int .i64 0 ∧ r = .int .i64 80 ∧ wy = wq) (fun _ _ _ => 0)
            case atStart => exact ⟨rfl, rfl, hwq.symm⟩
            case round =>
              obtain ⟨rfl, rfl, rfl⟩ := hrel
              subst hwq
              go_wp2_with fail
              refine H.out.mono ?_
              rintro _ w2 ⟨rfl, G2, hsh, hsr, hown, hb⟩
              have hz2 := Lib.hid (hsh.fu (Nat.le_refl _) hFGH.out); have hz3 := Lib.hid hsr
              have hown2 := Lib.hid hown; have hb2 := Lib.hid (hbH.out.trans hb)
              clear hsh hsr hown hb
              go_wp2
              go_roundw
              case rel => exact ⟨G2, .inr (.inr ⟨by first | rfl | go_num, hz3.out⟩), hz2.out, hown2.out, hb2.out⟩
              case measure => decide
          · have hn40' : ¬ (40 : Int) < n := by omega
            rw [Nat.min_eq_right (by omega)] at hA1
            have hS := Lib.hid hA1
            have hFGH := Lib.hid hFG; have hownH := Lib.hid hown; have hbH := Lib.hid hb
            clear hA1 hA2 hFG hown hb
            go_wp2
            go_end0
            exact ⟨rfl, G, hFGH.out, hS.out, hownH.out, hbH.out⟩
        · have h80 : ¬ (80 : Int) < n := by omega
          have hS := Lib.hid hA
          have hFGH := Lib.hid hFG; have hownH := Lib.hid hown; have hbH := Lib.hid hb
          clear hA hFG hown hb
          go_wp2
          go_end0
          exact ⟨rfl, G, hFGH.out, hS.out, hownH.out, hbH.out⟩
theorem sortStableF_any (f : FuncId) (env : Array Value) (C : Nat → Nat → Int) (K : Nat → Int) (A : Option Addr) (n c B : Nat) (F : Nat → Nat) (w : World) (hown : w.ownsRow B 3 1 (.slice A n c) n (rowN n F)) (hF : Fu n F) (hn : n ≤ 45)
    (hent : ∀ args w, (callFunc f args).run Try.prog w = .ok (.enter f args) w) (hcmp : CmpF Try.prog f env C K n B w) :
    Calls Try.prog 12 #[.slice A n c, .func (.func f) #[] env] w fun e w' => e = .returned (.tuple #[]) ∧ ∃ G, Fu n G ∧ Sr K 0 n G ∧ w'.ownsRow B 3 1 (.slice A n c) n (rowN n G) ∧ Below B w w' := by
  have H := Lib.hid (stableF_any f env C K A n c B F w hown hF hn hent hcmp)
  clear hown hF hcmp hent
  go_enter Try.func12, Try.ntmps12
  go_wp2_with fail
  refine H.out.mono ?_
  rintro _ w1 ⟨rfl, G, h1, h2, h3, h4⟩
  have h1H := Lib.hid h1; have h2H := Lib.hid h2; have h3H := Lib.hid h3; have h4H := Lib.hid h4
  clear h1 h2 h3 h4
  go_wp2
  go_end0
  exact ⟨rfl, G, h1H.out, h2H.out, h3H.out, h4H.out⟩
end Go.Proofs.Ytdmbbddkbfknlaa
