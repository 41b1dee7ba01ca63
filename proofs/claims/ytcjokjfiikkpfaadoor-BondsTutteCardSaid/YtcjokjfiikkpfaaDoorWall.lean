/- bonds.odd, bonds.Wall. -/
import Derived.Test.YtcjokjfiikkpfaaDoorTutteLaw
import Derived.Test.YtcjokjfiikkpfaaDoorSpread
import Derived.Test.YtcjokjfiikkpfaaDoorOnes
import Derived.Test.YtcjokjfiikkpfaaDoorGood
namespace Go.Proofs.YtcjokjfiikkpfaaDoor
open Go.RowKit Go.Shelf
attribute [local go_sem] Oper.semAt_some

theorem low_ex {x : Nat} (h0 : x ≠ 0) (h : x < 1024) : ∃ i, i < 10 ∧ x &&& (4294967296 - x) = 2 ^ i ∧ x.testBit i = true ∧ ∀ j, j < i → x.testBit j = false := by
  obtain ⟨h1, h2, _⟩ := low_bits x h0 (by omega)
  refine ⟨_, Nat.lt_of_not_le fun hle => ?_, low_word ⟨x, h⟩ h0, h1, h2⟩
  rw [Nat.testBit_lt_two_pow (Nat.lt_of_lt_of_le h (Nat.pow_le_pow_right (n := 2) (by omega) hle))] at h1; cases h1
set_option maxHeartbeats 3200000 in
set_option maxRecDepth 100000 in
theorem bondsOdd_any (N w0 l0 : Nat) (A : Option Addr) (cap : Nat) (es : List E) (w : World) (hr : Rd w A N 1 (wds (nearW N es))) (hN : N ≤ 10) (hok : ∀ e ∈ es, okE N e) (htb : Tb w) (hg : 0 < w.heap.size) (h0 : OdI N w0 es l0 0) :
    Calls Tryd.prog 21 #[.slice A N cap, .int .u32 (l0 : Int)] w fun e w' => e = .returned (.int .i64 (oddN N w0 (pf (wo w0 es) N) N : Nat)) ∧ Below w.heap.size w w' := by
  have hrH := Lib.hid hr; have htbH := Lib.hid htb; have hokH := Lib.hid hok; have h0H := Lib.hid h0
  clear hr htb hok h0
  have hp10 : 2 ^ N ≤ 2 ^ 10 := Nat.pow_le_pow_right (by omega) hN
  go_enter Tryd.func21, Tryd.ntmps21
  go_wp2
  go_loopw [1, 5] (fun lv mv wr => ∃ left m : Nat, lv = .int .u32 left ∧ mv = .int .i64 m ∧ OdI N w0 es left m ∧ Below w.heap.size w wr) (fun lv _ _ => (intOf lv).toNat)
  case atStart => exact ⟨l0, 0, rfl, rfl, h0H.out, Below.refl _ _⟩
  case round =>
    clear h0H
    obtain ⟨left, m, rfl, rfl, hI, hb⟩ := hrel
    obtain ⟨w1, rfl⟩ : ∃ w1 : World, w1 = wr := ⟨_, rfl⟩
    have hll := hI.lt
    have hml := hI.cnt
    have hol := oddN_le N w0 (pf (wo w0 es) N) N
    by_cases hz : left = 0
    · subst hz
      have hd := hI.done
      have hbH := Lib.hid hb; have hdH := Lib.hid hd
      clear hI hb hd hml hol
      go_wp2
      go_ret
      exact ⟨by rw [hdH.out]; rfl, hbH.out⟩
    · have hzb : ((left : Int) != 0) = true := by simp; omega
      obtain ⟨i, hi10, hlw, hib, hlow⟩ := low_ex hz (by omega)
      have hiN : i < N := lt_bit hll hib
      have hng : IntKind.u32.wrap (-(left : Int)) = ((4294967296 - left : Nat) : Int) := by
        rw [IntKind.wrap_u32']; omega
      have hng2 : (-(left : Int)) % 4294967296 = ((4294967296 - left : Nat) : Int) := by omega
      have hand : bits .and .u32 (left : Int) ((4294967296 - left : Nat) : Int) = ((2 ^ i : Nat) : Int) := by
        rw [u32_and_nat _ _ (by omega) (by omega), hlw]
      have hsz := hb.size
      have HS := Lib.hid (spread_any A N cap (nearW N es) (2 ^ i) left w1 (hrH.out.later hb) hN (nearGrE hN hokH.out).lt (Nat.pow_lt_pow_right (by omega) hiN) (by omega) (htbH.out.below (by omega) hb) (by omega))
      have hIH := Lib.hid hI; have hbH := Lib.hid hb; have hibH := Lib.hid hib; have hlowH := Lib.hid hlow
      clear hI hb hlw hib hlow
      obtain ⟨pi, hpi⟩ : ∃ pi, 2 ^ i = pi := ⟨_, rfl⟩
      rw [hpi] at hand HS
      have hpiH := Lib.hid hpi
      clear hpi
      go_wp2_with fail
      refine HS.out.mono ?_
      rintro _ w2 ⟨⟨R, rfl, hRl, hsp⟩, hb2⟩
      clear HS
      have hb2' := hbH.out.trans (hb2.mono hsz)
      have HO := Lib.hid (ones_any R w2 (by omega))
      have hml2 : m ≤ 10 := by omega
      have hpl := popc_le 10 R
      have hl' := Lib.hid (fun j => show (left &&& (4294967295 - R)).testBit j = (left.testBit j && !R.testBit j) by
        rw [Nat.testBit_and, show 4294967295 - R = 2 ^ 32 - (R + 1) by omega, Nat.testBit_two_pow_sub_succ (by omega)]
        by_cases hm : j < 32
        · simp [hm]
        · have : left.testBit j = false := Nat.testBit_lt_two_pow (Nat.lt_of_lt_of_le (show left < 2 ^ 32 by omega) (Nat.pow_le_pow_right (by omega) (by omega)))
          simp [this])
      have hnx := Lib.hid (hIH.out.next hN hokH.out hibH.out hlowH.out hRl (hpiH.out ▸ hsp) hl'.out)
      have handn : bits .andNot .u32 (left : Int) (R : Int) = ((left &&& (4294967295 - R) : Nat) : Int) := u32_andNot_nat left R (by omega) (by omega)
      have hlt' : left &&& (4294967295 - R) < left := by
        refine Nat.lt_of_le_of_ne Nat.and_le_left fun e => ?_
        have := hl'.out i
        rw [e, hibH.out, hsp.sub i (by rw [← hpiH.out, Nat.testBit_two_pow]; simp)] at this
        simp at this
      obtain ⟨l2, hl2⟩ : ∃ l2, left &&& (4294967295 - R) = l2 := ⟨_, rfl⟩
      rw [hl2] at handn hlt' hnx
      obtain ⟨P, hP⟩ : ∃ P, popc 10 R = P := ⟨_, rfl⟩
      rw [hP] at HO hpl hnx
      have hb2H := Lib.hid hb2'
      clear hl' hl2 hP hsp hb2 hb2' hIH hbH hand hng hng2
      have hmod : Int.tmod (P : Int) 2 = ((P % 2 : Nat) : Int) := by rw [Int.tmod_eq_emod_of_nonneg (by omega)]; omega
      go_wp2_with fail
      refine HO.out.mono ?_
      rintro _ w3 ⟨rfl, nq, rfl⟩
      clear HO
      go_wp2
      go_roundw
      case rel => exact ⟨l2, m + P % 2, rfl, by simp, hnx.out, below_drewN hb2H.out nq⟩
      case measure => simp [intOf]; omega
/-- what a wall is worth -/
def vW (N : Nat) (es : List E) (x : Nat) : Int := (oddN N x (pf (wo x es) N) N : Int) - (popc 10 x : Int)
theorem vW_rng (N : Nat) (es : List E) (x : Nat) : -10 ≤ vW N es x ∧ vW N es x ≤ N := by
  unfold vW
  have := oddN_le N x (pf (wo x es) N) N
  have := popc_le 10 x
  omega
theorem vW_zero (N : Nat) (es : List E) : 0 ≤ vW N es 0 := by
  unfold vW
  have : popc 10 0 = 0 := by decide
  omega
/-- the best wall, by now -/
structure WlI (N : Nat) (es : List E) (k best : Nat) (most : Int) : Prop where
  lt : best < 2 ^ N
  kl : k ≤ 2 ^ N
  all : ∀ x, x < k → vW N es x ≤ most
  at0 : (k = 0 ∧ most = -1) ∨ most = vW N es best
theorem WlI.yes {N : Nat} {es : List E} {k best : Nat} {most : Int} (h : WlI N es k best most) (hk : k < 2 ^ N) (hv : most < vW N es k) : WlI N es (k + 1) k (vW N es k) :=
  ⟨hk, hk, fun x hx => by
    by_cases e : x = k
    · rw [e]; exact Int.le_refl _
    · have := h.all x (by omega); omega, .inr rfl⟩
theorem WlI.no {N : Nat} {es : List E} {k best : Nat} {most : Int} (h : WlI N es k best most) (hk : k < 2 ^ N) (hv : vW N es k ≤ most) : WlI N es (k + 1) best most :=
  ⟨h.lt, hk, fun x hx => by
    by_cases e : x = k
    · rw [e]; exact hv
    · exact h.all x (by omega), by
    rcases h.at0 with ⟨rfl, e⟩ | e
    · have := vW_zero N es; omega
    · exact .inr e⟩
def WallPost (N : Nat) (es : List E) (w : World) (e : Ending) (w' : World) : Prop :=
  ∃ b : Nat, e = .returned (.tuple #[.int .u32 (b : Int), .int .i64 0]) ∧ b < 2 ^ N ∧ (∀ x, x < 2 ^ N → vW N es x ≤ vW N es b) ∧ Below w.heap.size w w'
theorem wall_bad (N : Int) (A : Option Addr) (len cap : Nat) (es : List E) (w : World) (hr : Rd w A len 3 (ps3 .i64 .i64 .i64 es)) (hlen : len ≤ 9223372036854775807) (h : gchk N es ≠ 0) :
    Calls Tryd.prog 10 #[.agg #[.int .i64 N, .slice A len cap]] w fun e w' => e = .returned (.tuple #[.int .u32 0, .int .i64 (gchk N es)]) ∧ Below w.heap.size w w' := by
  have gb := (Below.refl _ w).alloc (Nat.le_refl _) (.cells #[.int .i64 N, .slice A len cap] 24)
  have bG := Blk.new w 24 #[.int .i64 N, .slice A len cap]
  have g0 := bG.cell (j := 0) rfl; have g1 := bG.cell (j := 1) rfl
  have HC := Lib.hid (check_any N A len cap es _ (hr.later gb) hlen)
  have hne : (gchk N es != 0) = true := bne_iff_ne.2 h
  have gbH := Lib.hid gb
  generalize gchk N es = z at *
  clear hr h bG gb
  go_enter Tryd.func10, Tryd.ntmps10
  go_wp2_with fail
  refine HC.out.mono ?_
  rintro _ w1 ⟨rfl, hb⟩
  go_wp2
  go_ret2
  exact ⟨rfl, gbH.out.trans (hb.mono gbH.out.size)⟩
set_option maxHeartbeats 3200000 in
set_option maxRecDepth 100000 in
theorem wall_ok (N : Nat) (A : Option Addr) (len cap : Nat) (es : List E) (w : World) (hr : Rd w A len 3 (ps3 .i64 .i64 .i64 es)) (hlen : len ≤ 9223372036854775807) (htb : Tb w) (h : gchk N es = 0) :
    Calls Tryd.prog 10 #[.agg #[.int .i64 N, .slice A len cap]] w (WallPost N es w) := by
  have gb := (Below.refl _ w).alloc (Nat.le_refl _) (.cells #[.int .i64 N, .slice A len cap] 24)
  have bG := Blk.new w 24 #[.int .i64 N, .slice A len cap]
  have HC := Lib.hid (check_any N A len cap es _ (hr.later gb) hlen)
  rw [h] at HC
  obtain ⟨_, h10, hl45, hokE, _⟩ := gchk_ok h
  rw [Int.toNat_natCast] at hokE
  have h10 : N ≤ 10 := by omega
  have hel := ps3_len hr
  rw [hel] at hl45
  have hsz : (w.alloc (.cells #[.int .i64 N, .slice A len cap] 24)).heap.size = w.heap.size + 1 := by simp
  have htl : 0 < w.heap.size := World.block_lt_of_cell? w _ (htb 0 (by decide))
  have gbH := Lib.hid gb; have bGH := Lib.hid bG; have hrH := Lib.hid hr; have hokH := Lib.hid hokE; have htbH := Lib.hid htb
  clear hr h gb hokE hel htb
  have g0 := bG.cell (j := 0) rfl; have g1 := bG.cell (j := 1) rfl
  clear bG
  go_enter Tryd.func10, Tryd.ntmps10
  go_wp2_with fail
  refine HC.out.mono ?_
  rintro _ w1 ⟨rfl, hb⟩
  clear HC
  have bG1 := bGH.out.below hb (by omega)
  have hb1 := gbH.out.trans (hb.mono gbH.out.size)
  have hs1 := hb.size
  have HN := Lib.hid (near_any N A len cap es w1 (hrH.out.later hb1) h10 hl45 hokH.out)
  have c0 := bG1.cell (j := 0) rfl; have c1 := bG1.cell (j := 1) rfl
  have bG1H := Lib.hid bG1; have hb1H := Lib.hid hb1
  clear bG1 hb hb1 gbH bGH g0 g1
  go_wp2_with fail
  refine HN.out.mono ?_
  rintro _ w2 ⟨g, rfl, hown, hb2⟩
  clear HN
  have bG2 := bG1H.out.below hb2 bG1H.out.lt
  have hb2' := hb1H.out.trans (hb2.mono hb1H.out.size)
  have hs2 := hb2.size
  have g0 := bG2.cell (j := 0) (v := .int .i64 (N : Int)) rfl
  have hrd := Rd.of_own hown
  have hN0 : (0 : Int) ≤ N := by omega
  have hN32 : (N : Int) < 32 := by omega
  have hp10 : 2 ^ N ≤ 2 ^ 10 := Nat.pow_le_pow_right (by omega) h10
  have hpp := Nat.two_pow_pos N
  have hpw : (2 : Int) ^ N % 4294967296 - 1 = ((2 ^ N - 1 : Nat) : Int) := by
    rw [two_pow_u32 N (by omega)]
    omega
  have hpw2 : ((2 ^ N - 1 : Nat) : Int) + 1 = ((2 ^ N : Nat) : Int) := by omega
  have hbits := Lib.hid (fun x (hx : x < 2 ^ N) j => show ((2 ^ N - 1) &&& (4294967295 - x)).testBit j = (decide (j < N) && !x.testBit j) by
    rw [Nat.testBit_and, Nat.testBit_two_pow_sub_one, show 4294967295 - x = 2 ^ 32 - (x + 1) by omega, Nat.testBit_two_pow_sub_succ (by omega)]
    by_cases hm : j < N
    · simp [hm, show j < 32 by omega]
    · simp [hm])
  obtain ⟨all, hall⟩ : ∃ all, 2 ^ N - 1 = all := ⟨_, rfl⟩
  rw [hall] at hpw hpw2 hbits
  obtain ⟨tot, htot⟩ : ∃ tot, 2 ^ N = tot := ⟨_, rfl⟩
  have h0I : WlI N es 0 0 (-1) := ⟨hpp, Nat.zero_le _, fun x hx => absurd hx (by omega), .inl ⟨rfl, rfl⟩⟩
  have htotH := Lib.hid htot
  rw [htot] at hpw2 hp10 hpp hbits
  have hal : all < 1024 := by omega
  have hrdH := Lib.hid hrd; have hb2H := Lib.hid hb2'; have h0H := Lib.hid h0I
  clear hrd hown hb2 hb2' bG2 bG1H hb1H h0I hall htot c0 c1
  go_wp2
  go_loopw [7, 8, 24] (fun bv mv kv wr => ∃ (k best : Nat) (most : Int), k ≤ tot ∧ bv = .int .u32 best ∧ mv = .int .i64 most ∧ kv = .int .u32 k ∧ WlI N es k best most ∧ Below w2.heap.size w2 wr) (fun _ _ kv _ => tot - (intOf kv).toNat)
  case atStart => exact ⟨0, 0, -1, by omega, rfl, rfl, rfl, h0H.out, Below.refl _ _⟩
  case round =>
    clear h0H g0
    obtain ⟨k, best, most, hk, rfl, rfl, rfl, hI, hb⟩ := hrel
    by_cases hkt : k < tot
    · have hkt' : (k : Int) < tot := by omega
      have hk2 : k < 2 ^ N := by rw [htotH.out]; exact hkt
      have hmr : -10 ≤ most ∧ most ≤ N := by
        rcases hI.at0 with ⟨_, e⟩ | e
        · omega
        · rw [e]; exact vW_rng N es best
      have hbl : best < 1024 := by have := hI.lt; rw [htotH.out] at this; omega
      have hvr := vW_rng N es k
      have hsz3 := hb.size
      have HO := Lib.hid (bondsOdd_any N k (all &&& (4294967295 - k)) (some ⟨g, 0, none⟩) N es wr (hrdH.out.below (Nat.le_refl _) hb) h10 hokH.out (htbH.out.below htl (hb2H.out.trans (hb.mono hb2H.out.size))) (by omega) (OdI.start hokH.out (hbits.out k hkt)))
      have handn : bits .andNot .u32 (all : Int) (k : Int) = ((all &&& (4294967295 - k) : Nat) : Int) := u32_andNot_nat all k (by omega) (by omega)
      have hyes := Lib.hid (hI.yes hk2); have hno := Lib.hid (hI.no hk2)
      have hvv : vW N es k = (oddN N k (pf (wo k es) N) N : Int) - (popc 10 k : Int) := rfl
      obtain ⟨O, hO⟩ : ∃ O, oddN N k (pf (wo k es) N) N = O := ⟨_, rfl⟩
      rw [hO] at HO hvv
      have hOl : O ≤ 10 := by rw [← hO]; exact Nat.le_trans (oddN_le _ _ _ _) h10
      have hpl := popc_le 10 k
      obtain ⟨v, hv⟩ : ∃ v, vW N es k = v := ⟨_, rfl⟩
      rw [hv] at hvv hvr hyes hno
      obtain ⟨S, hS⟩ : ∃ S, popc 10 k = S := ⟨_, rfl⟩
      have HS0 := fun W => ones_any k W (by omega)
      rw [hS] at hvv hpl
      simp only [hS] at HS0
      have HS := Lib.hid HS0
      obtain ⟨lf, hlf⟩ : ∃ lf, all &&& (4294967295 - k) = lf := ⟨_, rfl⟩
      rw [hlf] at HO handn
      have hsub : IntKind.i64.wrap ((O : Int) - S) = v := by rw [hvv]; exact IntWalk.i64_in _ (by omega)
      have hbH := Lib.hid hb
      have hvvH := Lib.hid hvv
      clear hI hb hO hv hS hlf HS0 hvv
      go_wp2_with fail
      refine HO.out.mono ?_
      rintro _ w3 ⟨rfl, hb3⟩
      clear HO
      have hb3' := Lib.hid (hbH.out.trans (hb3.mono hsz3))
      go_wp2_with fail
      refine (HS.out w3).mono ?_
      rintro _ w4 ⟨rfl, nq, rfl⟩
      clear HS hb3
      have hb4 := Lib.hid (below_drewN hb3'.out nq)
      by_cases hmv : most < v
      · have hI2 := Lib.hid (hyes.out hmv)
        clear hyes hno
        go_wp2
        go_roundw
        case rel => exact ⟨k + 1, k, v, by omega, rfl, rfl, by go_num, hI2.out, hb4.out⟩
        case measure => simp [intOf]; omega
      · have hI2 := Lib.hid (hno.out (by omega))
        clear hyes hno
        go_wp2
        go_roundw
        case rel => exact ⟨k + 1, best, most, by omega, rfl, rfl, by go_num, hI2.out, hb4.out⟩
        case measure => simp [intOf]; omega
    · obtain rfl : k = tot := by omega
      have hfin : best < 2 ^ N ∧ ∀ x, x < 2 ^ N → vW N es x ≤ vW N es best := by
        refine ⟨hI.lt, fun x hx => ?_⟩
        have h1 := hI.all x (by rw [← htotH.out]; exact hx)
        rcases hI.at0 with ⟨e, _⟩ | e
        · omega
        · rw [← e]; exact h1
      have hfH := Lib.hid hfin
      have hbH := Lib.hid (hb2H.out.trans (hb.mono hb2H.out.size))
      clear hI hb hfin
      go_wp2
      go_ret2
      exact ⟨best, rfl, hfH.out.1, hfH.out.2, hbH.out⟩
end Go.Proofs.YtcjokjfiikkpfaaDoor
