/- graph.Parts. -/
import Derived.Test.YtonalhedjjobeaaDoorSpread
import Derived.Test.YtonalhedjjobeaaDoorRow
import Derived.Test.YtonalhedjjobeaaDoorGood
import Derived.Test.YtonalhedjjobeaaDoorNearGr
namespace Go.Proofs.YtonalhedjjobeaaDoor
open Go.RowKit Go.Shelf
theorem tiI : TI Tryd.prog 31 3 (.int .i64 0) 1 8 := TI.mk' Tryd.underlying31 (by kernel_rfl) rfl (by decide)

theorem parts_bad (N : Int) (A : Option Addr) (len cap : Nat) (es : List E) (w : World) (hr : Rd w A len 3 (ps3 .i64 .i64 .i64 es)) (hl : len ≤ 9223372036854775807) (hc : gchk N es ≠ 0) :
    Calls Tryd.prog 14 #[.agg #[.int .i64 N, .slice A len cap]] w fun e w' => e = .returned (.tuple #[.slice none 0 0, .int .i64 (gchk N es)]) ∧ Below w.heap.size w w' := by
  have HC := Lib.hid (check_any N A len cap es _ (hr.alloc (.cells #[.int .i64 N, .slice A len cap] 24)) hl)
  have hcb : (gchk N es != 0) = true := by simpa using hc
  clear hr hc
  go_enter Tryd.func14, Tryd.ntmps14
  go_wp2_with fail
  refine HC.out.mono ?_
  rintro e w1 ⟨rfl, hb⟩
  have hbb := ((Below.refl _ w).alloc (Nat.le_refl _) (.cells #[.int .i64 N, .slice A len cap] 24)).trans (hb.mono (by simp))
  clear HC hb
  go_wp2
  go_ret2
  exact ⟨rfl, hbb⟩
set_option maxHeartbeats 3200000 in
set_option maxRecDepth 100000 in
theorem parts_ok (N : Nat) (A : Option Addr) (len cap : Nat) (es : List E) (ns : List Nat) (hns : ns = nearW N es) (w : World) (hr : Rd w A len 3 (ps3 .i64 .i64 .i64 es)) (hc : gchk N es = 0) (htb : Tb w) (hg : 0 < w.heap.size) :
    Calls Tryd.prog 14 #[.agg #[.int .i64 N, .slice A len cap]] w fun e w' => ∃ (v : Value), e = .returned (.tuple #[v, .int .i64 0]) ∧ w'.ownsRow w.heap.size 3 1 v N (row N (fun i => ((part ns i : Nat) : Int))) ∧ Below w.heap.size w w' := by
  obtain ⟨_, h10, h45, hok, _⟩ := gchk_ok hc
  have h10 : N ≤ 10 := by omega
  rw [Int.toNat_natCast] at hok
  have hel := ps3_len hr
  have HC := Lib.hid (check_any N A len cap es _ (hr.alloc (.cells #[.int .i64 N, .slice A len cap] 24)) (by omega))
  rw [hc] at HC
  have hgr := nearGr hc
  rw [← hns] at hgr
  have hgrH := Lib.hid hgr
  have hrH := Lib.hid hr; have htbH := Lib.hid htb; have hokH := Lib.hid hok; have hnsH := Lib.hid hns
  clear hr hc htb hok hns hgr
  have g0 : (w.alloc (.cells #[.int .i64 N, .slice A len cap] 24)).cell? ⟨w.heap.size, 0, none⟩ = some (.int .i64 (N : Int)) := by go_simp
  have g1 : (w.alloc (.cells #[.int .i64 N, .slice A len cap] 24)).cell? ⟨w.heap.size, 1, none⟩ = some (.slice A len cap) := by go_simp
  have gs : (w.alloc (.cells #[.int .i64 N, .slice A len cap] 24)).heap.size = w.heap.size + 1 := by simp
  have gb := (Below.refl _ w).alloc (Nat.le_refl _) (.cells #[.int .i64 N, .slice A len cap] 24)
  go_enter Tryd.func14, Tryd.ntmps14
  go_wp2_with fail
  generalize w.alloc (.cells #[.int .i64 N, .slice A len cap] 24) = wg at *
  refine HC.out.mono ?_
  rintro e w1 ⟨rfl, hb1⟩
  have hs1 := hb1.size
  have c0 := below_cell hb1 (by omega) g0
  have c1 := below_cell hb1 (by omega) g1
  have hb1' := gb.trans (hb1.mono (by omega))
  have HN := Lib.hid (near_any N A len cap es w1 (hrH.out.later hb1') h10 (by omega) hokH.out)
  clear HC
  go_wp2_with fail
  refine HN.out.mono ?_
  rintro e w2 ⟨gn, rfl, hn, hb2⟩
  rw [← hnsH.out] at hn
  have hs2 := hb2.size
  have c0 := below_cell hb2 (by omega) c0
  have hb2' := hb1'.trans (hb2.mono (by omega))
  have hnrH := Lib.hid (Rd.of_own hn)
  have htb2 := Lib.hid (htbH.out.below hg hb2')
  have hw2 : w.heap.size < w2.heap.size := by omega
  clear g0 g1 c1 hn hb1 hb2 hb1' HN gb
  go_wp2
  go_loopw [6, 17] (fun v i wr => ∃ k : Nat, k ≤ N ∧ i = .int .i64 k ∧ wr.ownsRow w2.heap.size 3 1 v k (row k (fun i => ((part ns i : Nat) : Int))) ∧ Below w2.heap.size w2 wr) (fun _ i _ => N - (intOf i).toNat)
  case atStart => exact ⟨0, Nat.zero_le _, rfl, World.ownsRow_nil _ _ _ _, Below.refl _ _⟩
  case round =>
    obtain ⟨k, hk, rfl, hown, hb⟩ := hrel
    have hownH := Lib.hid hown
    have hbs := hb.size
    have e0 := below_cell hb hw2 c0
    obtain ⟨Ao, co, rfl⟩ := own_slice hown
    clear hown
    by_cases hlt : k < N
    · have hp10 : 2 ^ N ≤ 2 ^ 10 := Nat.pow_le_pow_right (by omega) h10
      have hpos := Nat.two_pow_pos N
      have hkN : 2 ^ k < 2 ^ N := Nat.pow_lt_pow_right (by omega) hlt
      have hpk : IntKind.u32.wrap ((2 : Int) ^ k) = ((2 ^ k : Nat) : Int) := by rw [IntKind.wrap_u32']; exact two_pow_u32 k (by omega)
      have hpN : IntKind.u32.wrap ((2 : Int) ^ N) = ((2 ^ N : Nat) : Int) := by rw [IntKind.wrap_u32']; exact two_pow_u32 N (by omega)
      have HS := Lib.hid (fun W (hb : Below w2.heap.size w2 W) => spread_any (some ⟨gn, 0, none⟩) N N ns (2 ^ k) (2 ^ N - 1) W (hnrH.out.later hb) h10 hgrH.out.lt hkN (by omega) (htb2.out.below (by omega) hb) (by have := hb.size; omega))
      have hball := Lib.hid (ball_spread hgrH.out hlt)
      have hpart := Lib.hid (show part ns k = Lib.ctz 32 (ball ns k 10) from rfl)
      have hbl := ball_lt hgrH.out hlt 10
      have hb0 : ball ns k 10 ≠ 0 := fun h => by
        have : (ball ns k 10).testBit k = true := Rch.ten (k := 0) hgrH.out hlt (Rch.zero.2 rfl)
        rw [h] at this
        simp at this
      have hctz : Lib.ctz 32 (ball ns k 10) < N := part_lt hgrH.out hlt
      have hPm : ((2 ^ N : Nat) : Int) - 1 = ((2 ^ N - 1 : Nat) : Int) := by omega
      have hPw : IntKind.u32.wrap (((2 ^ N : Nat) : Int) - 1) = ((2 ^ N - 1 : Nat) : Int) := by rw [hPm, IntKind.wrap_u32']; omega
      have HT := Lib.hid (fun W (hb : Below w2.heap.size w2 W) => tz_any (ball ns k 10) (by omega) hb0 W (htb2.out.below (by omega) hb))
      generalize hBA : ball ns k 10 = ba at *
      generalize hPK : 2 ^ k = pk at *
      generalize hPN : 2 ^ N = pn at *
      clear hBA hPK hPN hb0 hPm
      go_wp2_with fail
      go_region_held3 (fun w' => w'.cell? ⟨w.heap.size, 0, none⟩ = some (.int .i64 (N : Int))) (first | go_keep | exact below_cell bC hw2 c0 | exact below_cell bB hw2 c0 | exact below_cell bA hw2 c0) ((first
        | (go_at_call 32
           (with_reducible refine (HS.out wr.drew (Below.drew hb)).mono ?_)
           rintro e wA ⟨⟨R, rfl, hRl, hRs⟩, bA0⟩
           obtain rfl := hRs.same hball.out
           have ownA := own_below (own_drew hownH.out) bA0
           have bA := (Below.drew hb).trans (bA0.mono hbs))
        | (go_at_call 31
           (with_reducible refine (HT.out wA bA).mono ?_)
           rintro e wB ⟨rfl, rfl⟩)
        | (refine step_app (s := .tmp 20) (x := .tmp 30) _ tiI (ownA.alloc _) (rd_new1 wA (.int .i64 (Lib.ctz 32 R : Nat)) 3) (ints_one (l := [(Lib.ctz 32 R : Nat)])) (by omega) (by omega) (bA.alloc bA.size _).size rfl rfl rfl rfl ?_
           intro v' wC ownC gC atC
           have bC := (bA.alloc bA.size _).grown gC (bA.alloc bA.size _).size (fun g hg => (ownA.lt g hg).1)
           clear gC atC)
        | fail))
      all_goals
        go_wp2_with fail
        go_roundw
        case rel =>
          refine ⟨k + 1, by omega, by go_num, ?_, bC⟩
          rw [row_snoc, hpart.out]
          exact ownC
        case measure => simp [intOf]; omega
    · obtain rfl : N = k := by omega
      go_wp2
      go_ret2
      exact ⟨_, rfl, own_base (by omega) hownH.out, hb2'.trans (hb.mono (by omega))⟩
end Go.Proofs.YtonalhedjjobeaaDoor
