/- flow.Cut: by all sets of nodes; ref: CutSize. -/
import Derived.Test.YtmoengnlimonkaaFlowE
import Derived.Test.YtmoengnlimonkaaBitR
import Derived.Laws.BitsAllLaws
namespace Go.Proofs.Ytmoengnlimonkaa
open Go.RowKit Go.Shelf

theorem shr_bit' (x i : Nat) (hx : x < 4294967296) : bits .and .u32 ((x : Int) / (2 : Int) ^ i) 1 = ((if x.testBit i then 1 else 0 : Nat) : Int) := by
  rw [show ((x : Int) / (2 : Int) ^ i) = ((x / 2 ^ i : Nat) : Int) by simp, show (1 : Int) = ((1 : Nat) : Int) from rfl, u32_and_nat _ _ (Nat.lt_of_le_of_lt (Nat.div_le_self _ _) hx) (by omega)]
  congr 1
  rw [Nat.and_one_is_mod, Nat.testBit_eq_decide_div_mod_eq]
  have := Nat.mod_two_eq_zero_or_one (x / 2 ^ i)
  rcases this with h | h <;> simp [h]
def capP (l : List Arc) (S : Nat → Bool) (k : Nat) : Int := sm k fun j => if S (fr l j) && !S (tn l j) then mo l j else 0
theorem capP_bd {N : Nat} {l : List Arc} (hn : NOk N l) (S : Nat → Bool) : ∀ k, k ≤ l.length → 0 ≤ capP l S k ∧ capP l S k ≤ k * 1048576
  | 0, _ => by simp [capP, sm]
  | k + 1, h => by
    have ih := capP_bd hn S k (by omega)
    have ha := hn.at (show k < l.length by omega)
    unfold capP at *
    rw [sm]
    split <;> omega
def adm (s t u : Nat) : Bool := u.testBit s && !u.testBit t
/-- the best by now -/
def CutI (l : List Arc) (s t v b : Nat) (f : Int) : Prop := (f = -1 ∧ ∀ u, u < v → adm s t u = false) ∨ (0 ≤ f ∧ adm s t b = true ∧ f = capS l b.testBit ∧ ∀ u, u < v → adm s t u = true → f ≤ capS l u.testBit)
section
variable (n : Int) (A : Option Addr) (len cap : Nat) (l : List Arc) (s t : Int) (w : World)
theorem cutF_bad (hr : Rd w A len 4 (arcs l)) (hlen : len ≤ 9223372036854775807) (hbad : echk n l s t ≠ 0) :
    Calls Try.prog 7 #[.agg #[.int .i64 n, .slice A len cap], .int .i64 s, .int .i64 t] w fun e w' => e = .returned (.tuple #[.int .u32 0, .int .i64 0, .int .i64 (echk n l s t)]) ∧ Below w.heap.size w w' := by
  have hb0 := (Below.refl _ w).alloc (Nat.le_refl _) (.cells #[.int .i64 n, .slice A len cap] 24)
  have HC := Lib.hid (ends_any n A len cap l s t _ (hr.later hb0) hlen)
  have hK := Blk.new w 24 #[.int .i64 n, .slice A len cap]
  have k0 := hK.cell (j := 0) rfl
  have k1 := hK.cell (j := 1) rfl
  have e1 : (echk n l s t != 0) = true := by simpa using hbad
  have hb0H := Lib.hid hb0
  clear hr hK hb0 hbad
  generalize echk n l s t = c at *
  go_enter Try.func7, Try.ntmps7
  go_wp2_with fail
  refine HC.out.mono ?_
  rintro e w1 ⟨rfl, hb1⟩
  have hbb := hb0H.out.trans (hb1.mono hb0H.out.size)
  go_wp2
  go_ret3
  exact ⟨rfl, hbb⟩
end
set_option maxHeartbeats 3200000 in
set_option maxRecDepth 100000 in
theorem cutF_ok (N : Nat) (A : Option Addr) (len cap : Nat) (l : List Arc) (s t : Nat) (w : World) (hr : Rd w A len 4 (arcs l)) (hok : echk N l s t = 0) :
    Calls Try.prog 7 #[.agg #[.int .i64 N, .slice A len cap], .int .i64 s, .int .i64 t] w fun e w' => ∃ (b : Nat) (f : Int), e = .returned (.tuple #[.int .u32 b, .int .i64 f, .int .i64 0]) ∧ b < 2 ^ N ∧ CutI l s t (2 ^ N) b f ∧ Below w.heap.size w w' := by
  obtain ⟨h1, h2, h3, h4, h5, h6⟩ := echk_ok hok
  obtain ⟨g1, g2, g3, g4⟩ := nchk_ok h1
  have hel := arcs_len hr
  have hb0 := (Below.refl _ w).alloc (Nat.le_refl _) (.cells #[.int .i64 N, .slice A len cap] 24)
  have HC := Lib.hid (ends_any N A len cap l s t _ (hr.later hb0) (by omega))
  rw [hok] at HC
  have hK := Blk.new w 24 #[.int .i64 N, .slice A len cap]
  have k0 := hK.cell (j := 0) rfl
  have k1 := hK.cell (j := 1) rfl
  obtain ⟨S, hS⟩ : ∃ S, 2 ^ N = S := ⟨_, rfl⟩
  have hS1 : 1 ≤ S := by rw [← hS]; exact Nat.one_le_two_pow
  have hS8 : S ≤ 1024 := by rw [← hS]; exact (Nat.pow_le_pow_right (by omega) (by omega) : 2 ^ N ≤ 2 ^ 10)
  have hone : (2 : Int) ^ N % 4294967296 = (S : Int) := by rw [two_pow_u32 N (by omega), hS]
  rw [hS]
  have hb0H := Lib.hid hb0; have hrH := Lib.hid hr; have hKH := Lib.hid hK; have hnH := Lib.hid (⟨g4⟩ : NOk N l); have helH := Lib.hid hel
  clear hr hK hb0 hok g4 h1 hS hel
  go_enter Try.func7, Try.ntmps7
  go_wp2_with fail
  refine HC.out.mono ?_
  rintro e w1 ⟨rfl, hb1⟩
  have hbb := hb0H.out.trans (hb1.mono hb0H.out.size)
  have hK1 : Blk w1 w.heap.size 24 #[.int .i64 N, .slice A len cap] := (hb1.block _ hKH.out.lt).trans hKH.out
  have q0 := hK1.cell (j := 0) rfl
  have q1 := hK1.cell (j := 1) rfl
  have hbH := Lib.hid hbb; have hK1H := Lib.hid hK1; have hr1H := Lib.hid (hrH.out.later hbb)
  have hs1 : w.heap.size < w1.heap.size := hK1.lt
  clear hb1 hbb hK1 k0 k1 HC
  go_wp2
  (try rw [hone])
  clear hone
  go_loopw [10, 11, 12, 13, 26] (fun b m _ _ i wr => ∃ (v bw : Nat) (f : Int), v ≤ S ∧ i = .int .u32 v ∧ b = .int .u32 bw ∧ m = .int .i64 f ∧ bw < S ∧ CutI l s t v bw f ∧ Below w1.heap.size w1 wr) (fun _ _ _ _ i _ => S - (intOf i).toNat)
  case atStart => exact ⟨0, 0, -1, by omega, rfl, rfl, rfl, by omega, .inl ⟨rfl, fun u hu => absurd hu (by omega)⟩, Below.refl _ _⟩
  case round =>
    clear q0 q1
    obtain ⟨v, bw, f, hv, rfl, rfl, rfl, hbS, hI, hb⟩ := hrel
    obtain ⟨wo, rfl⟩ : ∃ wo : World, wo = wr := ⟨_, rfl⟩
    have hszr := hb.size
    have hKr : Blk wo w.heap.size 24 #[.int .i64 N, .slice A len cap] := (hb.block _ hs1).trans hK1H.out
    have q0 := hKr.cell (j := 0) rfl
    have q1 := hKr.cell (j := 1) rfl
    have lk := hKr.lt
    by_cases hlt : v < S
    · have hs := shr_bit' v s (by omega)
      have ht := shr_bit' v t (by omega)
      have hw2 : IntKind.u32.wrap ((v : Int) + 1) = ((v + 1 : Nat) : Int) := by rw [IntWalk.u32_in _ (by omega)]; omega
      have hltZ : (v : Int) < S := by omega
      have skip := Lib.hid (fun (h : adm s t v = false) => show CutI l s t (v + 1) bw f from by
        have aux : ∀ u, u < v + 1 → adm s t u = true → u < v := fun u hu ha => by
          rcases Nat.lt_or_ge u v with h1 | h1
          · exact h1
          · obtain rfl : u = v := by omega
            rw [h] at ha; cases ha
        rcases hI with ⟨e, h2⟩ | ⟨h0, h1, h2, h3⟩
        · refine .inl ⟨e, fun u hu => ?_⟩
          cases ha : adm s t u
          · rfl
          · rw [h2 u (aux u hu ha)] at ha; cases ha
        · exact .inr ⟨h0, h1, h2, fun u hu ha => h3 u (aux u hu ha) ha⟩)
      have hbH2 := Lib.hid hb; have hKrH := Lib.hid hKr
      cases hvs : v.testBit s
      · have hfin := Lib.hid (skip.out (by unfold adm; rw [hvs]; rfl))
        rw [hvs] at hs
        simp only [Bool.false_eq_true, if_false] at hs
        clear hI hb hKr skip ht hvs
        go_wp2
        go_roundw
        case rel => exact ⟨v + 1, bw, f, by omega, by go_num, rfl, rfl, hbS, hfin.out, hbH2.out⟩
        case measure => simp [intOf]; omega
      · rw [hvs] at hs
        simp only [if_true] at hs
        cases hvt : v.testBit t
        · rw [hvt] at ht
          simp only [Bool.false_eq_true, if_false] at ht
          have hadm : adm s t v = true := by unfold adm; rw [hvs, hvt]; rfl
          have hIH := Lib.hid hI; have hadmH := Lib.hid hadm
          clear hI hb hKr skip hvs hvt hadm
          go_wp2
          clear hs ht
          go_loopw [13, 44] (fun z i wr => ∃ k : Nat, k ≤ len ∧ i = .int .i64 k ∧ z = .int .i64 (capP l v.testBit k) ∧ Below wo.heap.size wo wr) (fun _ i _ => len - (intOf i).toNat)
          case atStart => exact ⟨0, Nat.zero_le _, rfl, rfl, Below.refl _ _⟩
          case round =>
            obtain ⟨k, hk, rfl, rfl, hbx⟩ := hrel
            have hszx := hbx.size
            have hbxx := hbH2.out.trans (hbx.mono hszr)
            obtain ⟨hc0, hc1⟩ := capP_bd hnH.out v.testBit k (by rw [helH.out]; exact hk)
            have hKx : Blk wr w.heap.size 24 #[.int .i64 N, .slice A len cap] := (hbx.block _ lk).trans hKrH.out
            have q0 := hKx.cell (j := 0) rfl
            have q1 := hKx.cell (j := 1) rfl
            by_cases hltk : k < len
            · have hkl : k < l.length := by rw [helH.out]; exact hltk
              obtain ⟨bb, oo, rfl, hab, a0, a1, a2, a3⟩ := (hr1H.out.later hbxx).arc hltk
              obtain ⟨hf, ht, _, hm0, hm1, e0, e1⟩ := hnH.out.at hkl
              rw [e0] at a0; rw [e1] at a1
              have emo : (aat l k).2.2.1 = mo l k := rfl
              rw [emo] at a2
              generalize (aat l k).2.2.2 = fee at *
              have hst := Lib.hid (show capP l v.testBit (k + 1) = capP l v.testBit k + if v.testBit (fr l k) && !v.testBit (tn l k) then mo l k else 0 from rfl)
              have hbf := shr_bit' v (fr l k) (by omega)
              have hbt := shr_bit' v (tn l k) (by omega)
              have hfin := Lib.hid (hbx.alloc hszx (.cells #[.int .i64 (fr l k : Nat), .int .i64 (tn l k : Nat), .int .i64 (mo l k), .int .i64 fee] 32))
              have hKn := Blk.new wr 32 #[.int .i64 (fr l k : Nat), .int .i64 (tn l k : Nat), .int .i64 (mo l k), .int .i64 fee]
              have z0 := hKn.cell (j := 0) rfl
              have z1 := hKn.cell (j := 1) rfl
              have z2 := hKn.cell (j := 2) rfl
              generalize capP l v.testBit k = cp at *
              generalize mo l k = mk at *
              generalize fr l k = fk at *
              generalize tn l k = tk at *
              have hw : IntKind.i64.wrap (cp + mk) = cp + mk := IntWalk.i64_in _ (by omega)
              have hkI : (k : Int) < len := by omega
              have hk0 : (0 : Int) ≤ k := by omega
              clear hbx hbxx hKx hKn
              cases hvf : v.testBit fk
              · have hst2 := Lib.hid (show capP l v.testBit (k + 1) = cp by rw [hst.out, hvf]; simp)
                rw [hvf] at hbf
                simp only [Bool.false_eq_true, if_false] at hbf
                clear hst hvf hbt
                go_wp2
                go_roundw
                case rel => exact ⟨k + 1, by omega, by go_num, by rw [hst2.out], hfin.out⟩
                case measure => simp [intOf]; omega
              · rw [hvf] at hbf
                simp only [if_true] at hbf
                cases hvt : v.testBit tk
                · have hst2 := Lib.hid (show capP l v.testBit (k + 1) = cp + mk by rw [hst.out, hvf, hvt]; simp)
                  rw [hvt] at hbt
                  simp only [Bool.false_eq_true, if_false] at hbt
                  clear hst hvf hvt
                  go_wp2
                  go_roundw
                  case rel => exact ⟨k + 1, by omega, by go_num, by rw [hst2.out], hfin.out⟩
                  case measure => simp [intOf]; omega
                · have hst2 := Lib.hid (show capP l v.testBit (k + 1) = cp by rw [hst.out, hvf, hvt]; simp)
                  rw [hvt] at hbt
                  simp only [if_true] at hbt
                  clear hst hvf hvt
                  go_wp2
                  go_roundw
                  case rel => exact ⟨k + 1, by omega, by go_num, by rw [hst2.out], hfin.out⟩
                  case measure => simp [intOf]; omega
            · obtain rfl : k = len := by omega
              have hcap : capP l v.testBit k = capS l v.testBit := by unfold capP capS; rw [helH.out]
              rw [hcap] at hc0 hc1 ⊢
              have hbF := Lib.hid hbxx
              have yes := Lib.hid (fun (h : f = -1 ∨ capS l v.testBit ≤ f) => show CutI l s t (v + 1) v (capS l v.testBit) from by
                refine .inr ⟨hc0, hadmH.out, rfl, fun u hu ha => ?_⟩
                by_cases e : u = v
                · subst e; exact Int.le_refl _
                · rcases hIH.out with ⟨_, h2⟩ | ⟨h0, _, _, h3⟩
                  · rw [h2 u (by omega)] at ha; cases ha
                  · rcases h with h | h
                    · omega
                    · exact Int.le_trans h (h3 u (by omega) ha))
              have no := Lib.hid (fun (h : 0 ≤ f) (h2 : f ≤ capS l v.testBit) => show CutI l s t (v + 1) bw f from by
                rcases hIH.out with ⟨e, _⟩ | ⟨h0, h1, h2', h3⟩
                · omega
                · refine .inr ⟨h0, h1, h2', fun u hu ha => ?_⟩
                  by_cases e : u = v
                  · subst e; exact h2
                  · exact h3 u (by omega) ha)
              have hIf : f = -1 ∨ 0 ≤ f := by
                rcases hIH.out with ⟨e, _⟩ | ⟨h0, _⟩
                · exact .inl e
                · exact .inr h0
              clear hbx hbxx hKx hcap
              generalize capS l v.testBit = cs at *
              rcases hIf with hf1 | hf1
              · have hyes := Lib.hid (yes.out (.inl hf1))
                subst hf1
                clear yes no
                go_wp2
                go_roundw
                case rel => exact ⟨v + 1, v, cs, by omega, by go_num, rfl, rfl, hlt, hyes.out, hbF.out⟩
                case measure => simp [intOf]; omega
              · have hfd : decide (f < 0) = false := decide_eq_false (by omega)
                have hf1' : ¬ f < 0 := by omega
                by_cases hlt2 : cs < f
                · have hyes := Lib.hid (yes.out (.inr (by omega)))
                  clear yes no
                  go_wp2
                  go_roundw
                  case rel => exact ⟨v + 1, v, cs, by omega, by go_num, rfl, rfl, hlt, hyes.out, hbF.out⟩
                  case measure => simp [intOf]; omega
                · have hno := Lib.hid (no.out hf1 (by omega))
                  have hd2 : decide (cs < f) = false := decide_eq_false hlt2
                  clear yes no
                  go_wp2
                  go_roundw
                  case rel => exact ⟨v + 1, bw, f, by omega, by go_num, rfl, rfl, hbS, hno.out, hbF.out⟩
                  case measure => simp [intOf]; omega
        · have hfin := Lib.hid (skip.out (by unfold adm; rw [hvs, hvt]; rfl))
          rw [hvt] at ht
          simp only [if_true] at ht
          clear hI hb hKr skip hvs hvt
          go_wp2
          go_roundw
          case rel => exact ⟨v + 1, bw, f, by omega, by go_num, rfl, rfl, hbS, hfin.out, hbH2.out⟩
          case measure => simp [intOf]; omega
    · obtain rfl : v = S := by omega
      have hIH := Lib.hid hI; have hb2 := Lib.hid (hbH.out.trans (hb.mono hbH.out.size))
      clear hI hb hKr
      go_wp2
      go_ret3
      exact ⟨bw, f, rfl, hbS, hIH.out, hb2.out⟩
end Go.Proofs.Ytmoengnlimonkaa
