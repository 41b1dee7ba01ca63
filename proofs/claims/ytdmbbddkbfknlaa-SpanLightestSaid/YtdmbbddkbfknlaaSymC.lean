/- slices.symMergeCmpFunc at ints: two runs. -/
import Derived.Test.YtdmbbddkbfknlaaSymB
namespace Go.Proofs.Ytdmbbddkbfknlaa
open Go.RowKit

theorem rot_id {s m e d : Nat} (hde : s + e = d + m) (hsm : s ≤ m) (hme : m ≤ e) (h : s = m ∨ e = m) (F : Nat → Nat) : (fun p => F (rotR s m e p)) = F := by
  funext p
  congr 1
  unfold rotR
  split
  · omega
  · split <;> omega
/-- what a call of symMerge does -/
def SymP (B : Nat) (A : Option Addr) (n c : Nat) (K : Nat → Int) (a b : Nat) (F : Nat → Nat) (w : World) (e : Ending) (w' : World) : Prop :=
  e = .returned (.tuple #[]) ∧ ∃ G, Sh a b F G ∧ Sr K a b G ∧ w'.ownsRow B 3 1 (.slice A n c) n (rowN n G) ∧ Below B w w'
/-- the ends of the search -/
structure LH (a m b d L H : Nat) : Prop where
  h1 : a ≤ L
  h2 : d + m ≤ b + L
  h3 : L = a ∨ b + L ≤ d + m
  h4 : H ≤ m
  h5 : H ≤ d
  h6 : H = m ∨ H = d
  h7 : L ≤ H
set_option maxHeartbeats 3200000 in
set_option maxRecDepth 100000 in
theorem symC (f : FuncId) (env : Array Value) (C : Nat → Nat → Int) (K : Nat → Int) (A : Option Addr) (n c B a m b : Nat) (F : Nat → Nat) (w : World) (hown : w.ownsRow B 3 1 (.slice A n c) n (rowN n F)) (hF : Fu n F) (ham : a + 1 < m) (hmb : m + 1 < b) (hbn : b ≤ n) (hn : n ≤ 45)
    (hent : ∀ args w, (callFunc f args).run Try.prog w = .ok (.enter f args) w) (hcmp : CmpF Try.prog f env C K n B w) (hS1 : Sr K a m F) (hS2 : Sr K m b F)
    (IH : ∀ (a' m' b' : Nat) (F' : Nat → Nat) (W : World), b' - a' < b - a → a' < m' → m' < b' → b' ≤ n → W.ownsRow B 3 1 (.slice A n c) n (rowN n F') → Fu n F' → Sr K a' m' F' → Sr K m' b' F' → Below B w W →
      Calls Try.prog 33 #[.slice A n c, .int .i64 (a' : Int), .int .i64 (m' : Int), .int .i64 (b' : Int), .func (.func f) #[] env] W (SymP B A n c K a' b' F' W)) :
    Calls Try.prog 33 #[.slice A n c, .int .i64 (a : Int), .int .i64 (m : Int), .int .i64 (b : Int), .func (.func f) #[] env] w (SymP B A n c K a b F w) := by
  have hcmpH := Lib.hid hcmp; have hFH := Lib.hid hF; have hS1H := Lib.hid hS1; have hS2H := Lib.hid hS2; have IHH := Lib.hid IH; have hownH := Lib.hid hown
  obtain ⟨d, hd⟩ : ∃ d, (a + b) / 2 = d := ⟨_, rfl⟩
  obtain ⟨nn, hnn⟩ : ∃ nn, d + m = nn := ⟨_, rfl⟩
  obtain ⟨q1, q2, q3⟩ := half_sum (i := a) (j := b) (by omega) (by omega)
  rw [hd] at q3
  have hd2 : ((a + b : Nat) : Int) / 2 = (d : Int) := by omega
  have hwb : IntKind.i64.wrap ((b : Int) - (m : Int)) = ((b - m : Nat) : Int) := by rw [IntWalk.i64_in _ (by omega)]; omega
  have hmbE : (((b - m : Nat) : Int) == 1) = false := by simp; omega
  have hwa : IntKind.i64.wrap ((m : Int) - (a : Int)) = ((m - a : Nat) : Int) := by rw [IntWalk.i64_in _ (by omega)]; omega
  have hma : (((m - a : Nat) : Int) == 1) = false := by simp; omega
  have hwn : IntKind.i64.wrap ((d : Int) + (m : Int)) = (nn : Int) := by rw [IntWalk.i64_in _ (by omega)]; omega
  obtain ⟨L, H, hcase, hLH⟩ : ∃ L H : Nat, ((decide (d < m) = true ∧ IntKind.i64.wrap ((nn : Int) - (b : Int)) = (L : Int) ∧ d = H) ∨ (decide (d < m) = false ∧ a = L ∧ m = H)) ∧ LH a m b d L H := by
    by_cases h : d < m
    · exact ⟨nn - b, d, .inl ⟨decide_eq_true h, by rw [IntWalk.i64_in _ (by omega)]; omega, rfl⟩, by omega, by omega, by omega, by omega, by omega, by omega, by omega⟩
    · exact ⟨a, m, .inr ⟨decide_eq_false h, rfl, rfl⟩, by omega, by omega, by omega, by omega, by omega, by omega, by omega⟩
  have hdH := Lib.hid (show a + 1 < d ∧ d + 1 < b ∧ d ≤ 45 by omega)
  have hnnH := Lib.hid hnn; have hLHH := Lib.hid hLH; have hamH := Lib.hid ham; have hmbH := Lib.hid hmb
  have hcaseH := Lib.hid hcase
  generalize hab : a + b = ab at *
  clear hcmp hF hS1 hS2 IH hown hd hnn hLH ham hmb hcase hab
  unfold SymP
  go_enter Try.func33, Try.ntmps33
  go_upto_if 140 with fail
  go_cut [20, 21] (fun q r wx => q = .int .i64 L ∧ r = .int .i64 H ∧ wx = w)
  case first =>
    rcases hcaseH.out with ⟨e1, e2, e3⟩ | ⟨e1, e2, e3⟩
    · have e4 : d < m := of_decide_eq_true e1
      have e5 : (d : Int) < (m : Int) := by omega
      have e3H := Lib.hid e3
      clear e3
      go_wp2_with fail
      go_meet
      exact ⟨rfl, by rw [e3H.out], rfl⟩
    · have e4 : ¬ d < m := of_decide_eq_false e1
      have e5 : ¬ (d : Int) < (m : Int) := by omega
      have e3H := Lib.hid e3; have e2H := Lib.hid e2
      clear e2 e3
      go_wp2_with fail
      go_meet
      exact ⟨by rw [e2H.out], by rw [e3H.out], rfl⟩
  case rest =>
    obtain ⟨rfl, rfl, hwc⟩ := hcut
    obtain rfl := hwc.symm
    clear q1 q2 q3 hd2 hwb hmbE hwa hma hcaseH
    have hwp : IntKind.i64.wrap ((nn : Int) - 1) = ((nn - 1 : Nat) : Int) := by have := hnnH.out; have := hdH.out; have := hmbH.out; rw [IntWalk.i64_in _ (by omega)]; omega
    go_wp2
    go_loopw [20, 21, 23] (fun q t _ wr => ∃ s r : Nat, L ≤ s ∧ s ≤ r ∧ r ≤ H ∧ q = .int .i64 s ∧ t = .int .i64 r ∧ (∀ x, L ≤ x → x < s → K (F x) ≤ K (F (nn - 1 - x))) ∧ (∀ x, r ≤ x → x < H → K (F (nn - 1 - x)) ≤ K (F x)) ∧ wr.ownsRow B 3 1 (.slice A n c) n (rowN n F) ∧ Below B w wr) (fun q r _ _ => (intOf r).toNat - (intOf q).toNat)
    case atStart => exact ⟨L, H, Nat.le_refl _, hLHH.out.h7, Nat.le_refl _, rfl, rfl, fun x h1 h2 => by omega, fun x h1 h2 => by omega, hownH.out, Below.refl _ _⟩
    case round =>
      clear hownH hwp
      obtain ⟨s, r, hai, hij, hjb, rfl, rfl, hlo, hhi, hown, hb⟩ := hrel
      obtain ⟨l1, l2, l3, l4, l5, l6, l7⟩ := hLHH.out
      have hnn := hnnH.out
      have hdd := hdH.out
      have hmm := hmbH.out
      by_cases hlt : s < r
      · obtain ⟨q1, q2, q3⟩ := half_sum hij (by omega)
        obtain ⟨h, hh⟩ : ∃ h, (s + r) / 2 = h := ⟨_, rfl⟩
        have hh1 : s ≤ h ∧ h < r := by omega
        obtain ⟨y, hy⟩ : ∃ y, nn - 1 - h = y := ⟨_, rfl⟩
        have hyn : y < n := by omega
        have hhn : h < n := by omega
        rw [hh] at q3
        obtain ⟨g, rfl, hBg, hgl, hch⟩ := own_atN hown hhn
        obtain ⟨_, hA, _, _, hca⟩ := own_atN hown hyn
        cases hA
        obtain ⟨cc, hC, hQ⟩ := hcmpH.out.at (hFH.out.1 y hyn) (hFH.out.1 h hhn) hb
        have hw1 : IntKind.i64.wrap ((h : Int) + 1) = ((h + 1 : Nat) : Int) := by rw [IntWalk.i64_in _ (by omega)]; omega
        have hwp : IntKind.i64.wrap ((nn : Int) - 1) = ((nn - 1 : Nat) : Int) := by rw [IntWalk.i64_in _ (by omega)]; omega
        have hwy : IntKind.i64.wrap (((nn - 1 : Nat) : Int) - (h : Int)) = (y : Int) := by rw [IntWalk.i64_in _ (by omega)]; omega
        have hh2 : ((s + r : Nat) : Int) / 2 = (h : Int) := by omega
        have hQ1 := Lib.hid hQ
        have hownH := Lib.hid hown; have hbH := Lib.hid hb
        by_cases hlt2 : cc < 0
        · have hd : decide (cc < 0) = true := decide_eq_true hlt2
          have hhi2 := Lib.hid (fun x (h1 : h ≤ x) (h2 : x < H) => show K (F (nn - 1 - x)) ≤ K (F x) from by
            have k1 := hC.1 hlt2
            by_cases e : x = h
            · rw [e, hy]; omega
            · have k2 := hS1H.out h x (by omega) (by omega) (by omega)
              have k3 := hS2H.out (nn - 1 - x) y (by omega) (by omega) (by omega)
              omega)
          have hrelH := Lib.hid (show L ≤ s ∧ s ≤ h ∧ h ≤ H ∧ h - s < r - s by omega)
          have hloH := Lib.hid hlo
          clear hown hb hQ hC hlo hhi hh1 hai hij hjb hlt2 hy hh l1 l2 l3 l4 l5 l6 l7 hnn hdd hmm
          generalize hs : s + r = sr at *
          clear hs
          generalize hX : F h = X at *
          generalize hY : F y = Y at *
          go_wp2
          go_quiet ((with_reducible exact (hQ1.out _)))
          go_wp2
          go_roundw
          case rel => exact ⟨s, h, hrelH.out.1, hrelH.out.2.1, hrelH.out.2.2.1, rfl, rfl, hloH.out, hhi2.out, own_drewN hownH.out _, below_drewN hbH.out _⟩
          case measure => have := hrelH.out; simp [intOf]; omega
        · have hd : decide (cc < 0) = false := decide_eq_false hlt2
          have hlo2 := Lib.hid (fun x (h1 : L ≤ x) (h2 : x < h + 1) => show K (F x) ≤ K (F (nn - 1 - x)) from by
            have k1 : K (F h) ≤ K (F y) := Int.not_lt.1 fun h => hlt2 (hC.2 h)
            by_cases e : x = h
            · rw [e, hy]; exact k1
            · have k2 := hS1H.out x h (by omega) (by omega) (by omega)
              have k3 := hS2H.out y (nn - 1 - x) (by omega) (by omega) (by omega)
              omega)
          have hrelH := Lib.hid (show L ≤ h + 1 ∧ h + 1 ≤ r ∧ r ≤ H ∧ r - (h + 1) < r - s by omega)
          have hhiH := Lib.hid hhi
          clear hown hb hQ hC hlo hhi hh1 hai hij hjb hlt2 hy hh l1 l2 l3 l4 l5 l6 l7 hnn hdd hmm
          generalize hs : s + r = sr at *
          clear hs
          generalize hX : F h = X at *
          generalize hY : F y = Y at *
          go_wp2
          go_quiet ((with_reducible exact (hQ1.out _)))
          go_wp2
          go_roundw
          case rel => exact ⟨h + 1, r, hrelH.out.1, hrelH.out.2.1, hrelH.out.2.2.1, by go_num, rfl, hlo2.out, hhiH.out, own_drewN hownH.out _, below_drewN hbH.out _⟩
          case measure => have := hrelH.out; simp [intOf]; omega
      · obtain rfl : s = r := by omega
        obtain ⟨e, he⟩ : ∃ e, nn - s = e := ⟨_, rfl⟩
        have hwe : IntKind.i64.wrap ((nn : Int) - (s : Int)) = (e : Int) := by rw [IntWalk.i64_in _ (by omega)]; omega
        have hHf := Lib.hid (half_of (K := K) (F := F) (a := a) (m := m) (b := b) (s := s) (d := d) (e := e) hS1H.out hS2H.out (by omega) (by omega) (by omega) (by omega) (by omega)
          (fun c h1 h2 h3 => by
            have := hlo c (by omega) h2
            rwa [show nn - 1 - c = d + m - 1 - c by omega] at this)
          (fun c h1 h2 h3 => by
            have := hhi c h1 (by omega)
            rwa [show nn - 1 - c = d + m - 1 - c by omega] at this))
        have hgeo := Lib.hid (show a ≤ s ∧ s ≤ m ∧ m ≤ e ∧ e ≤ b ∧ s + e = d + m ∧ s ≤ d ∧ d ≤ e by omega)
        have hownH := Lib.hid hown; have hbH := Lib.hid hb
        clear hown hb hlo hhi hai hij hjb hlt he l1 l2 l3 l4 l5 l6 l7 hnn hdd hmm hLHH
        obtain ⟨t, ht⟩ : ∃ t, decide (s < m ∧ m < e) = t := ⟨_, rfl⟩
        have htH := Lib.hid ht
        clear ht
        go_upto_region 39 with fail
        go_cut [24, 185] (fun v u wx => v = .int .i64 (e : Int) ∧ u = .bool t ∧ wx = wr)
        case first => as_aux_lemma =>
          by_cases h1 : s < m
          · have h1d : decide (s < m) = true := decide_eq_true h1
            by_cases h2 : m < e
            · have h2d : decide (m < e) = true := decide_eq_true h2
              have hz := Lib.hid (show true = t by rw [← htH.out]; exact (decide_eq_true ⟨h1, h2⟩).symm)
              clear h1 h2
              go_wp2_with fail
              go_meet
              exact ⟨rfl, by rw [hz.out], rfl⟩
            · have h2d : decide (m < e) = false := decide_eq_false h2
              have hz := Lib.hid (show false = t by rw [← htH.out]; exact (decide_eq_false fun h => h2 h.2).symm)
              clear h1 h2
              go_wp2_with fail
              go_meet
              exact ⟨rfl, by rw [hz.out], rfl⟩
          · have h1d : decide (s < m) = false := decide_eq_false h1
            have hz := Lib.hid (show false = t by rw [← htH.out]; exact (decide_eq_false fun h => h1 h.1).symm)
            clear h1
            go_wp2_with fail
            go_meet
            exact ⟨rfl, by rw [hz.out], rfl⟩
        case rest =>
          obtain ⟨rfl, rfl, hwc⟩ := hcut
          obtain rfl := hwc.symm
          clear hwc hwe
          go_upto_if 185 with fail
          go_cut [24] (fun v wx => v = .int .i64 (e : Int) ∧ ∃ G, G = (fun p => F (rotR s m e p)) ∧ Sh a b F G ∧ wx.ownsRow B 3 1 (.slice A n c) n (rowN n G) ∧ Below B w wx)
          case first => as_aux_lemma =>
            cases t
            · have hno := Lib.hid (of_decide_eq_false htH.out)
              go_wp2_with fail
              go_meet
              exact ⟨rfl, F, (rot_id hgeo.out.2.2.2.2.1 hgeo.out.2.1 hgeo.out.2.2.1 (by have := hno.out; have := hgeo.out; omega) F).symm, Sh.refl _ _ _, hownH.out, hbH.out⟩
            · have HR := Lib.hid (rotate_any A n c B s m e F (.func (.func f) #[] env) wr hownH.out (of_decide_eq_true htH.out).1 (of_decide_eq_true htH.out).2 (by have := hgeo.out; omega) hn)
              go_wp2_with fail
              refine HR.out.mono ?_
              rintro _ w1 ⟨rfl, G, hG, hsh, hown, hb⟩
              have hownG := Lib.hid hown; have hbG := Lib.hid hb; have hshG := Lib.hid hsh; have hGG := Lib.hid hG
              clear hown hb hsh hG
              go_wp2_with fail
              go_meet
              exact ⟨rfl, G, hGG.out, hshG.out.mono hgeo.out.1 hgeo.out.2.2.2.1, hownG.out, hbH.out.trans hbG.out⟩
          case rest =>
            obtain ⟨rfl, G, hG, hsh, hown, hb⟩ := hcut
            rw [← hG] at hHf
            have hFG := Lib.hid (hsh.fu hbn hFH.out)
            have hownG := Lib.hid hown; have hbG := Lib.hid hb; have hshG := Lib.hid hsh
            clear hown hb hsh hG hownH hbH htH t hFH hS1H hS2H hcmpH
            obtain ⟨wg, rfl⟩ : ∃ wg : World, wg = wc := ⟨_, rfl⟩
            obtain ⟨t, ht⟩ : ∃ t, decide (a < s ∧ s < d) = t := ⟨_, rfl⟩
            have htH := Lib.hid ht
            clear ht
            go_upto_region 41 with fail
            go_cut [24, 199] (fun v u wx => v = .int .i64 (e : Int) ∧ u = .bool t ∧ wx = wg)
            case first => as_aux_lemma =>
              by_cases h1 : a < s
              · have h1d : decide (a < s) = true := decide_eq_true h1
                by_cases h2 : s < d
                · have h2d : decide (s < d) = true := decide_eq_true h2
                  have hz := Lib.hid (show true = t by rw [← htH.out]; exact (decide_eq_true ⟨h1, h2⟩).symm)
                  clear h1 h2
                  go_wp2_with fail
                  go_meet
                  exact ⟨rfl, by rw [hz.out], rfl⟩
                · have h2d : decide (s < d) = false := decide_eq_false h2
                  have hz := Lib.hid (show false = t by rw [← htH.out]; exact (decide_eq_false fun h => h2 h.2).symm)
                  clear h1 h2
                  go_wp2_with fail
                  go_meet
                  exact ⟨rfl, by rw [hz.out], rfl⟩
              · have h1d : decide (a < s) = false := decide_eq_false h1
                have hz := Lib.hid (show false = t by rw [← htH.out]; exact (decide_eq_false fun h => h1 h.1).symm)
                clear h1
                go_wp2_with fail
                go_meet
                exact ⟨rfl, by rw [hz.out], rfl⟩
            case rest =>
              obtain ⟨rfl, rfl, hwc⟩ := hcut
              obtain rfl := hwc.symm
              clear hwc
              go_upto_if 199 with fail
              go_cut [24] (fun v wx => v = .int .i64 (e : Int) ∧ ∃ G2, Sh a d G G2 ∧ Sr K a d G2 ∧ wx.ownsRow B 3 1 (.slice A n c) n (rowN n G2) ∧ Below B w wx)
              case first => as_aux_lemma =>
                cases t
                · have hno := Lib.hid (of_decide_eq_false htH.out)
                  go_wp2_with fail
                  go_meet
                  exact ⟨rfl, G, Sh.refl _ _ _, by
                    by_cases h : a < s
                    · have e1 : s = d := by have := hno.out; have := hgeo.out; omega
                      have := hHf.out.l1; rwa [e1] at this
                    · have e1 : s = a := by have := hgeo.out; omega
                      have := hHf.out.l2; rwa [e1] at this, hownG.out, hbG.out⟩
                · have HR := Lib.hid (IHH.out a s d G wg (by have := hgeo.out; have := hdH.out; omega) (of_decide_eq_true htH.out).1 (of_decide_eq_true htH.out).2 (by have := hgeo.out; have := hdH.out; omega) hownG.out hFG.out hHf.out.l1 hHf.out.l2 hbG.out)
                  go_wp2_with fail
                  refine HR.out.mono ?_
                  rintro _ w1 ⟨rfl, G2, hsh, hsr, hown, hb⟩
                  have hown2 := Lib.hid hown; have hb2 := Lib.hid hb; have hsh2 := Lib.hid hsh; have hsr2 := Lib.hid hsr
                  clear hown hb hsh hsr
                  go_wp2_with fail
                  go_meet
                  exact ⟨rfl, G2, hsh2.out, hsr2.out, hown2.out, hbG.out.trans hb2.out⟩
              case rest =>
                obtain ⟨rfl, G2, hsh, hsr, hown, hb⟩ := hcut
                have hFG2 := Lib.hid (hsh.fu (by have := hgeo.out; have := hdH.out; omega) hFG.out)
                have hown2 := Lib.hid hown; have hb2 := Lib.hid hb; have hsh2 := Lib.hid hsh; have hsr2 := Lib.hid hsr
                clear hown hb hsh hsr htH t hFG hownG hbG
                obtain ⟨wh, rfl⟩ : ∃ wh : World, wh = wc := ⟨_, rfl⟩
                have hq1 := Lib.hid (hHf.out.r1.sh_off hsh2.out (.inl (Nat.le_refl _)))
                have hq2 := Lib.hid (hHf.out.r2.sh_off hsh2.out (.inl (by have := hgeo.out; omega)))
                have hfin := Lib.hid (fun J (k2 : Sh d b G2 J) (k3 : Sr K d b J) => (⟨(hshG.out.trans (hsh2.out.mono (Nat.le_refl _) (by have := hgeo.out; omega))).trans (k2.mono (by have := hdH.out; omega) (Nat.le_refl _)), hHf.out.join hsh2.out hsr2.out k2 k3⟩ : Sh a b F J ∧ Sr K a b J))
                clear hHf hsh2 hsr2 hshG
                obtain ⟨t, ht⟩ : ∃ t, decide (d < e ∧ e < b) = t := ⟨_, rfl⟩
                have htH := Lib.hid ht
                clear ht
                go_upto_region 43 with fail
                go_cut [24, 213] (fun v u wx => v = .int .i64 (e : Int) ∧ u = .bool t ∧ wx = wh)
                case first => as_aux_lemma =>
                  by_cases h1 : d < e
                  · have h1d : decide (d < e) = true := decide_eq_true h1
                    by_cases h2 : e < b
                    · have h2d : decide (e < b) = true := decide_eq_true h2
                      have hz := Lib.hid (show true = t by rw [← htH.out]; exact (decide_eq_true ⟨h1, h2⟩).symm)
                      clear h1 h2
                      go_wp2_with fail
                      go_meet
                      exact ⟨rfl, by rw [hz.out], rfl⟩
                    · have h2d : decide (e < b) = false := decide_eq_false h2
                      have hz := Lib.hid (show false = t by rw [← htH.out]; exact (decide_eq_false fun h => h2 h.2).symm)
                      clear h1 h2
                      go_wp2_with fail
                      go_meet
                      exact ⟨rfl, by rw [hz.out], rfl⟩
                  · have h1d : decide (d < e) = false := decide_eq_false h1
                    have hz := Lib.hid (show false = t by rw [← htH.out]; exact (decide_eq_false fun h => h1 h.1).symm)
                    clear h1
                    go_wp2_with fail
                    go_meet
                    exact ⟨rfl, by rw [hz.out], rfl⟩
                case rest =>
                  obtain ⟨rfl, rfl, hwc⟩ := hcut
                  obtain rfl := hwc.symm
                  clear hwc
                  cases t
                  · have hno := Lib.hid (of_decide_eq_false htH.out)
                    have hJ := Lib.hid (hfin.out G2 (Sh.refl _ _ _) (by
                      by_cases h : d < e
                      · have e1 : e = b := by have := hno.out; have := hgeo.out; omega
                        have := hq1.out; rwa [e1] at this
                      · have e1 : e = d := by have := hgeo.out; omega
                        have := hq2.out; rwa [e1] at this))
                    go_wp2_with fail
                    go_end0
                    exact ⟨rfl, G2, hJ.out.1, hJ.out.2, hown2.out, hb2.out⟩
                  · have HR := Lib.hid (IHH.out d e b G2 wh (by have := hgeo.out; have := hdH.out; omega) (of_decide_eq_true htH.out).1 (of_decide_eq_true htH.out).2 hbn hown2.out hFG2.out hq1.out hq2.out hb2.out)
                    go_wp2_with fail
                    refine HR.out.mono ?_
                    rintro _ w1 ⟨rfl, G3, hsh, hsr, hown, hb⟩
                    have hJ := Lib.hid (hfin.out G3 hsh hsr)
                    have hown3 := Lib.hid hown; have hb3 := Lib.hid hb
                    clear hown hb hsh hsr
                    go_wp2_with fail
                    go_end0
                    exact ⟨rfl, G3, hJ.out.1, hJ.out.2, hown3.out, hb2.out.trans hb3.out⟩
end Go.Proofs.Ytdmbbddkbfknlaa
