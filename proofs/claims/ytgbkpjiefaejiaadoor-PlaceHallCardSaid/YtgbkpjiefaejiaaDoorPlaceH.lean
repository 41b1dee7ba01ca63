/- teamsterref.Lack: how much room a set of tasks lacks. -/
import Derived.Test.YtgbkpjiefaejiaaDoorPlaceG
namespace Go.Proofs.YtgbkpjiefaejiaaDoor
open Go.RowKit Go.Shelf

/-- may any of the first m tasks that are in s be with j? -/
def anyT (ws : List (Int × Int)) (ts : List Nat) (s j : Nat) : Nat → Bool
  | 0 => false
  | m + 1 => anyT ws ts s j m || (s.testBit m && mayI (wat ws j).2 (ts.getD m 0 : Nat))
/-- the set's size without the room of the first k who may do any of it -/
def lackI (ws : List (Int × Int)) (ts : List Nat) (s : Nat) : Nat → Int
  | 0 => (popc 32 s : Nat)
  | k + 1 => if anyT ws ts s k ts.length then lackI ws ts s k - rms ws k else lackI ws ts s k
theorem lackI_bd {ws : List (Int × Int)} {ts : List Nat} {s : Nat} (h : ∀ j, j < ws.length → 0 ≤ rms ws j ∧ rms ws j ≤ 12) : ∀ k, k ≤ ws.length → -(12 * k) ≤ lackI ws ts s k ∧ lackI ws ts s k ≤ 32
  | 0, _ => by
    have := popc_le 32 s
    unfold lackI
    omega
  | k + 1, hk => by
    have h1 := lackI_bd (ts := ts) (s := s) h k (by omega)
    have h2 := h k (by omega)
    rw [lackI]
    split <;> omega
set_option maxHeartbeats 3200000 in
set_option maxRecDepth 100000 in
theorem lack_any (A B : Option Addr) (nw nt cA cB : Nat) (ws : List (Int × Int)) (ts : List Nat) (s : Nat) (w : World) (hw : Rd w A nw 2 (ps2 .i64 .u32 ws)) (ht : Rd w B nt 1 (wds ts)) (hok : pchk ws nt = 0) (hs : s < 4294967296)
    (hws : ∀ c ∈ ws, 0 ≤ c.2 ∧ c.2 < 4294967296) (hts : ∀ i, ts.getD i 0 < 4294967296) :
    Calls Tryd.prog 9 #[.slice A nw cA, .slice B nt cB, .int .u32 (s : Int)] w fun e w' => e = .returned (.int .i64 (lackI ws ts s nw)) ∧ Below w.heap.size w w' := by
  have hwl : ws.length = nw := by have := hw.1; rw [ps2_length] at this; omega
  have htl : ts.length = nt := by have := ht.1; rw [wds_length] at this; omega
  obtain ⟨hnw, hnt, hrm⟩ := pchk_ok hok
  have hbd := Lib.hid (lackI_bd (ws := ws) (ts := ts) (s := s) hrm)
  rw [hwl] at hnw
  have HS := Lib.hid (sizeP_any s w hs)
  have hwH := Lib.hid hw; have htH := Lib.hid ht; have hwsH := Lib.hid hws; have htsH := Lib.hid hts; have hrmH := Lib.hid hrm
  have hwlH := Lib.hid hwl; have htlH := Lib.hid htl
  clear hw ht hok hrm hws hts hwl htl
  go_enter Tryd.func9, Tryd.ntmps9
  go_wp2_with fail
  refine HS.out.mono ?_
  rintro e w1 ⟨rfl, rfl⟩
  clear HS
  go_wp2
  go_loopw [7, 9, 10, 11, 12, 17] (fun n _ _ _ _ i wr => ∃ k : Nat, k ≤ nw ∧ i = .int .i64 k ∧ n = .int .i64 (lackI ws ts s k) ∧ Below w.heap.size w wr) (fun _ _ _ _ _ i _ => nw - (intOf i).toNat)
  case atStart => exact ⟨0, Nat.zero_le _, rfl, rfl, Below.refl _ _⟩
  case round =>
    obtain ⟨wo, rfl⟩ : ∃ wo : World, wo = wr := ⟨_, rfl⟩
    obtain ⟨k, hk, rfl, rfl, hb⟩ := hrel
    by_cases hlt : k < nw
    · obtain ⟨ba, oa, rfl, hba, a0, a1⟩ := (hwH.out.later hb).pair hlt
      have hcm := hwsH.out (wat ws k) (wat_mem (by rw [hwlH.out]; exact hlt))
      have hrk := hrmH.out k (by rw [hwlH.out]; exact hlt)
      have hst := Lib.hid (show lackI ws ts s (k + 1) = if anyT ws ts s k ts.length then lackI ws ts s k - (wat ws k).1 else lackI ws ts s k from rfl)
      have hbk := hbd.out k (by rw [hwlH.out]; exact hk)
      have hat := Lib.hid (fun m => (show anyT ws ts s k (m + 1) = (anyT ws ts s k m || (s.testBit m && mayI (wat ws k).2 (ts.getD m 0 : Nat))) from rfl))
      unfold wat at hcm hrk hst hat
      generalize ws.getD k (0, 0) = c at *
      obtain ⟨cr, ch⟩ := c
      dsimp only at a0 a1 hcm hrk hst hat
      generalize lackI ws ts s k = n at *
      rw [htlH.out] at hst
      have hq := Blk.new wo 37 #[.int .i64 cr, .int .u32 ch]
      have hb2 := hb.alloc hb.size (.cells #[.int .i64 cr, .int .u32 ch] 37)
      have hqH := Lib.hid hq; have hb2H := Lib.hid hb2
      clear hb hq hb2
      go_wp2
      go_loopw [10, 11, 12, 23] (fun x _ _ i wr => ∃ m : Nat, m ≤ nt ∧ i = .int .i64 m ∧ x = .bool (anyT ws ts s k m) ∧ Below w.heap.size w wr ∧ Blk wr wo.heap.size 37 #[.int .i64 cr, .int .u32 ch]) (fun _ _ _ i _ => nt - (intOf i).toNat)
      case atStart => exact ⟨0, Nat.zero_le _, rfl, rfl, hb2H.out, hqH.out⟩
      case round =>
        clear hqH hb2H
        obtain ⟨m, hm, rfl, rfl, hb, hq⟩ := hrel
        have q0 := hq.cell (j := 0) rfl
        have q1 := hq.cell (j := 1) rfl
        have lq := hq.lt
        by_cases hlt2 : m < nt
        · obtain ⟨bt, ot, rfl, hbt, t0⟩ := (htH.out.later hb).wd hlt2
          have hx := htsH.out m
          have hatm := Lib.hid (hat.out m)
          generalize ts.getD m 0 = x at *
          have HB := Lib.hid (bitP_any s m wr hs (by omega))
          obtain ⟨xh, hxh⟩ := Int.eq_ofNat_of_zero_le hcm.1
          have HM := Lib.hid (fun W => refMay_any cr xh x W (by omega) hx)
          rw [← hxh] at HM
          have hbH := Lib.hid hb; have hqH := Lib.hid hq
          clear hb hq hxh
          generalize anyT ws ts s k m = y at *
          generalize s.testBit m = z at *
          cases y
          · cases z
            · have hy := Lib.hid (show anyT ws ts s k (m + 1) = false by rw [hatm.out]; rfl)
              go_wp2_with fail
              refine HB.out.mono ?_
              rintro e w3 ⟨rfl, rfl⟩
              go_wp2
              go_roundw
              case rel => exact ⟨m + 1, by omega, by go_num, by rw [hy.out], hbH.out, hqH.out⟩
              case measure => simp [intOf]; omega
            · have hy := Lib.hid (show anyT ws ts s k (m + 1) = mayI ch (x : Int) by rw [hatm.out]; simp)
              go_wp2_with fail
              refine HB.out.mono ?_
              rintro e w3 ⟨rfl, rfl⟩
              go_wp2_with fail
              refine (HM.out _).mono ?_
              rintro e w4 ⟨rfl, hb4⟩
              have hfin := Lib.hid (And.intro (hbH.out.trans (hb4.mono hbH.out.size)) (hqH.out.below hb4 lq))
              clear hb4
              go_wp2
              go_roundw
              case rel => exact ⟨m + 1, by omega, by go_num, by rw [hy.out], hfin.out⟩
              case measure => simp [intOf]; omega
          · have hy := Lib.hid (show anyT ws ts s k (m + 1) = true by rw [hatm.out]; rfl)
            go_wp2
            go_roundw
            case rel => exact ⟨m + 1, by omega, by go_num, by rw [hy.out], hbH.out, hqH.out⟩
            case measure => simp [intOf]; omega
        · obtain rfl : m = nt := by omega
          have hbH := Lib.hid hb
          clear hb hq
          generalize anyT ws ts s k m = y at *
          cases y
          · have hy := Lib.hid (show lackI ws ts s (k + 1) = n by rw [hst.out]; rfl)
            go_wp2
            go_roundw
            case rel => exact ⟨k + 1, by omega, by go_num, by rw [hy.out], hbH.out⟩
            case measure => simp [intOf]; omega
          · have hy := Lib.hid (show lackI ws ts s (k + 1) = n - cr by rw [hst.out]; rfl)
            go_wp2
            go_roundw
            case rel => exact ⟨k + 1, by omega, by go_num, by rw [hy.out], hbH.out⟩
            case measure => simp [intOf]; omega
    · obtain rfl : k = nw := by omega
      have hbH := Lib.hid hb
      clear hb
      go_wp2
      go_ret
      exact ⟨rfl, hbH.out⟩
end Go.Proofs.YtgbkpjiefaejiaaDoor
