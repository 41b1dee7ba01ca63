/- beats.Kings. -/
import Derived.Test.YtnlgmjigadgneaaDoorTourW
import Derived.Test.YtnlgmjigadgneaaDoorMarks
import Derived.Test.YtnlgmjigadgneaaDoorEachBits
import Derived.Test.YtnlgmjigadgneaaDoorCalm
import Derived.Test.YtnlgmjigadgneaaDoorLast
namespace Go.Proofs.YtnlgmjigadgneaaDoor
open Go.RowKit Go.Shelf
attribute [local go_sem] Oper.semAt_some

def orW (ts : List Nat) (l : List Nat) (a : Nat) : Nat := l.foldl (fun a j => a ||| ts.getD j 0) a
def allW (ts : List Nat) (i : Nat) : Nat := orW ts (bitsL (ts.getD i 0)) (ts.getD i 0 ||| 2 ^ i)
def isK (ts : List Nat) (i : Nat) : Bool := allW ts i == 2 ^ ts.length - 1
def kingsW (ts : List Nat) : Nat → Nat
  | 0 => 0
  | k + 1 => kingsW ts k ||| if isK ts k then 2 ^ k else 0
theorem orW_snoc (ts l : List Nat) (a j : Nat) : orW ts (l ++ [j]) a = orW ts l a ||| ts.getD j 0 := by simp [orW]
theorem orW_lt {ts : List Nat} {n : Nat} (h : ∀ i, i < ts.length → ts.getD i 0 < 2 ^ n) : ∀ (l : List Nat) (a : Nat), a < 2 ^ n → orW ts l a < 2 ^ n
  | [], a, ha => ha
  | j :: l, a, ha => by
    refine orW_lt h l _ (Nat.or_lt_two_pow ha ?_)
    by_cases hj : j < ts.length
    · exact h j hj
    · rw [show ts.getD j 0 = 0 by simp [List.getD, show ts[j]? = none by simp; omega]]; exact Nat.two_pow_pos n
theorem kingsW_lt (ts : List Nat) : ∀ k, kingsW ts k < 2 ^ k
  | 0 => by simp [kingsW]
  | k + 1 => by
    rw [kingsW]
    refine Nat.or_lt_two_pow (Nat.lt_of_lt_of_le (kingsW_lt ts k) (Nat.pow_le_pow_right (by omega) (by omega))) ?_
    split
    · exact Nat.pow_lt_pow_right (by omega) (by omega)
    · exact Nat.two_pow_pos _
theorem kings_bad (A : Option Addr) (len cap : Nat) (ts : List Nat) (w : World) (hr : Rd w A len 1 (wds ts)) (hl : len ≤ 9223372036854775807) (hwf : ∀ x ∈ ts, x < 4294967296) (hn : ¬ Tour ts) :
    Calls Tryd.prog 6 #[.slice A len cap] w fun e w' => (∃ c : Int, c ≠ 0 ∧ e = .returned (.tuple #[.int .u32 0, .int .i64 c])) ∧ Below w.heap.size w w' := by
  have HC := Lib.hid (check_any A len cap ts _ (hr.alloc (.cells #[.slice A len cap] 22)) hl hwf)
  have hnH := Lib.hid hn
  clear hr hwf hn
  go_enter Tryd.func6, Tryd.ntmps6
  go_wp2_with fail
  refine HC.out.mono ?_
  rintro e w1 ⟨⟨c, rfl, hc⟩, hb⟩
  have hc0 : c ≠ 0 := fun h => hnH.out (hc.1 h)
  have hcb : (c != 0) = true := by simpa using hc0
  have hbb := ((Below.refl _ w).alloc (Nat.le_refl _) (.cells #[.slice A len cap] 22)).trans (hb.mono (by simp))
  have hcH := Lib.hid hc0
  clear HC hc hc0 hb
  go_wp2
  go_ret2
  exact ⟨⟨c, hcH.out, rfl⟩, hbb⟩
set_option maxHeartbeats 3200000 in
set_option maxRecDepth 100000 in
theorem kings_ok (A : Option Addr) (len cap : Nat) (ts : List Nat) (w : World) (hr : Rd w A len 1 (wds ts)) (hwf : ∀ x ∈ ts, x < 4294967296) (hT : Tour ts) (htb : Tb w) (hg : 0 < w.heap.size) :
    Calls Tryd.prog 6 #[.slice A len cap] w fun e w' => e = .returned (.tuple #[.int .u32 ((kingsW ts len : Nat) : Int), .int .i64 0]) ∧ Below w.heap.size w w' := by
  have hel : ts.length = len := by simpa [wds] using hr.1
  have hlen : len ≤ 8 := by rw [← hel]; exact hT.len
  have HC := Lib.hid (check_any A len cap ts _ (hr.alloc (.cells #[.slice A len cap] 22)) (by omega) hwf)
  have hrH := Lib.hid hr; have htbH := Lib.hid htb; have helH := Lib.hid hel; have hTH := Lib.hid hT
  have hltH := Lib.hid (fun i (hi : i < len) => show ts.getD i 0 < 2 ^ len by have := hT.lt i (by rw [hel]; exact hi); rwa [hel] at this)
  have hpH := Lib.hid (show 2 ^ len ≤ 2 ^ 8 from Nat.pow_le_pow_right (by omega) hlen)
  clear hr hwf hT htb hel
  refine calls_of_wp_calm 4 Tryd.func6 rfl ?_
  simp only [Tryd.ntmps6, List.size_toArray, List.length_cons, List.length_nil, Nat.reduceAdd, Nat.reduceSub, Array.replicate_succ, Array.replicate_zero, List.push_toArray, List.append_toArray, List.nil_append, List.cons_append]
  go_wp2_with fail
  refine HC.out.mono ?_
  rintro e w1 ⟨⟨c, rfl, hc⟩, hb⟩
  obtain rfl : c = 0 := hc.2 hTH.out
  have hbx : Boxed w1 w.heap.size 22 (.slice A len cap) := (hb.block w.heap.size (by simp)).trans (Boxed.new w _ _)
  have hbb := ((Below.refl _ w).alloc (Nat.le_refl _) (.cells #[.slice A len cap] 22)).trans (hb.mono (by simp))
  have hcx := hbx.cell
  clear HC hc hb
  go_wp2
  refine wp_loop (fun a' wr => ∃ (x0 x2 x3 x4 x5 x6 x7 x8 x9 x10 x11 x12 x13 x14 x17 x18 x19 x20 x21 x22 x23 x24 x25 x26 x27 x28 x29 x30 x31 x32 x33 x34 x35 x36 x37 x38 x39 x40 x41 x42 x43 x44 x45 x46 : Value) (ds : List Deferred), a' = { tmps := #[x0, (.pointer (some ⟨w.heap.size, 0, none⟩)), x2, x3, x4, x5, x6, x7, x8, x9, x10, x11, x12, x13, x14, (.slice A len cap), (.int .i64 (len : Int)), x17, x18, x19, x20, x21, x22, x23, x24, x25, x26, x27, x28, x29, x30, x31, x32, x33, x34, x35, x36, x37, x38, x39, x40, x41, x42, x43, x44, x45, x46], defers := ds } ∧ (∃ k : Nat, k ≤ len ∧ x17 = .int .i64 (k : Int) ∧ x5 = .int .u32 ((kingsW ts k : Nat) : Int) ∧ Boxed wr w.heap.size 22 (.slice A len cap) ∧ Marks w.heap.size wr.heap.size ds wr ∧ Below w.heap.size w wr)) (fun a' _ => len - (intOf (a'.tmps.getD 17 undef)).toNat) ?atStart ?round
  case atStart =>
    refine ⟨_, _, _, _, _, _, _, _, _, _, _, _, _, _, _, _, _, _, _, _, _, _, _, _, _, _, _, _, _, _, _, _, _, _, _, _, _, _, _, _, _, _, _, _, _, rfl, ?_⟩
    exact ⟨0, Nat.zero_le _, rfl, rfl, hbx, trivial, hbb⟩
  case round =>
    clear hbx hbb hcx
    rintro a' wr ⟨x0, x2, x3, x4, x5, x6, x7, x8, x9, x10, x11, x12, x13, x14, x17, x18, x19, x20, x21, x22, x23, x24, x25, x26, x27, x28, x29, x30, x31, x32, x33, x34, x35, x36, x37, x38, x39, x40, x41, x42, x43, x44, x45, x46, ds, rfl, k, hk, rfl, rfl, hbx, hmk, hb⟩
    have hcx := hbx.cell
    obtain ⟨wo, rfl⟩ : ∃ wo : World, wo = wr := ⟨_, rfl⟩
    by_cases hlt : k < len
    · obtain ⟨b, o, rfl, hab, hc⟩ := (hrH.out.later hb).wd hlt
      have hxl := hltH.out k hlt
      have h28 := hpH.out
      have hk28 : 2 ^ k < 2 ^ len := Nat.pow_lt_pow_right (by omega) hlt
      have hall := Lib.hid (show allW ts k = orW ts (bitsL (ts.getD k 0)) (ts.getD k 0 ||| 2 ^ k) from rfl)
      have horl : ts.getD k 0 ||| 2 ^ k < 2 ^ len := Nat.or_lt_two_pow hxl hk28
      have hor := u32_or_nat (ts.getD k 0) (2 ^ k) (by omega) (by omega)
      have hpk : (2 : Int) ^ k % 4294967296 = ((2 ^ k : Nat) : Int) := two_pow_u32 k (by omega)
      have hkl := kingsW_lt ts k
      have hok := u32_or_nat (kingsW ts k) (2 ^ k) (by omega) (by omega)
      have hkn := Lib.hid (show kingsW ts (k + 1) = kingsW ts k ||| if isK ts k then 2 ^ k else 0 from rfl)
      have hisK := Lib.hid (show isK ts k = (allW ts k == 2 ^ len - 1) by unfold isK; rw [helH.out])
      have hP : (2 : Int) ^ len % 4294967296 = ((2 ^ len : Nat) : Int) := two_pow_u32 len (by omega)
      have hP1 : 1 ≤ 2 ^ len := Nat.one_le_two_pow
      have hltN := Lib.hid (fun i (hi : i < ts.length) => show ts.getD i 0 < 2 ^ len from hltH.out i (by rw [← helH.out]; exact hi))
      have h28H := Lib.hid h28
      generalize ts.getD k 0 = x at *
      generalize hpk' : 2 ^ k = pk at *
      generalize hPP : 2 ^ len = P at *
      generalize hKW : kingsW ts k = kw at *
      have hx32 : x < 4294967296 := by omega
      have hszo := hb.size
      generalize ha0 : x ||| pk = a0 at *
      have hks : kw ||| pk < 4294967296 := by
        have h1 : kw < 2 ^ 32 := by omega
        have h2 : pk < 2 ^ 32 := by omega
        exact Nat.or_lt_two_pow h1 h2
      generalize hkw2 : kw ||| pk = kw2 at *
      have e1H := Lib.hid hPP; have e2H := Lib.hid hkw2; have e3H := Lib.hid hKW; have e4H := Lib.hid ha0; have e5H := Lib.hid hpk'
      clear hPP hkw2 hKW ha0 hpk'
      go_wp2_with fail
      refine (each_any x _).mono ?_
      rintro e w6 ⟨rfl, rfl⟩
      have bA := Boxed.new wo 23 (.int .u32 (a0 : Int))
      have bB := Boxed.new (wo.alloc (.cells #[.int .u32 (a0 : Int)] 23)) 23 (.int .u32 (x : Int))
      rw [World.size_alloc] at bB
      have bA := bA.alloc (.cells #[.int .u32 (x : Int)] 23)
      have bX := (hbx.alloc (.cells #[.int .u32 (a0 : Int)] 23)).alloc (.cells #[.int .u32 (x : Int)] 23)
      have hbB := (hb.alloc hszo (.cells #[.int .u32 (a0 : Int)] 23)).alloc (by simp; omega) (.cells #[.int .u32 (x : Int)] 23)
      have hszB : ((wo.alloc (.cells #[.int .u32 (a0 : Int)] 23)).alloc (.cells #[.int .u32 (x : Int)] 23)).heap.size = wo.heap.size + 2 := by simp
      have hmB : Marks w.heap.size wo.heap.size ds ((wo.alloc (.cells #[.int .u32 (a0 : Int)] 23)).alloc (.cells #[.int .u32 (x : Int)] 23)) := (hmk.keeps (KeepsOthers.alloc _ _)).keeps (KeepsOthers.alloc _ _)
      have htB := htbH.out.below hg hbB
      have hszx : w.heap.size < wo.heap.size := hbx.lt
      go_wp2
      refine (wpIn_wide (n := 4)).1 ?_
      generalize (wo.alloc (.cells #[.int .u32 (a0 : Int)] 23)).alloc (.cells #[.int .u32 (x : Int)] 23) = wB at *
      generalize hbo : wo.heap.size = ba at *
      refine' rangeFunc_box (n := 4) (α := Bt x) (gf := 19) (lb := #[.pointer (some ⟨ba + 1, 0, none⟩)]) (by omega) rfl (enters_of Tryd.func19 (by kernel_rfl) rfl)
        (each_stops 3 (by omega) (ba + 1) w.heap.size x hx32 wB htB hg (by omega) bB (by omega)) (by omega) (fun h h' => KpE.trans h h') (kpE_b (by omega) (by omega)) (Below.refl _ _) (fun _ => rfl)
        (fun pre W => (Boxed W ba 23 (.int .u32 ((orW ts (pre.map (·.1)) a0 : Nat) : Int)) ∧ Boxed W w.heap.size 22 (.slice (some ⟨b, o, none⟩) len cap)) ∧ Marks w.heap.size ba ds W ∧ Below w.heap.size w W)
        (fun _ _ _ => False) ?hI ?hIb (fun _ _ _ _ _ h _ _ => h) (fun _ _ _ _ _ h _ _ => h) ⟨⟨bA, bX⟩, hmB, hbB⟩ _ ?assign ?body ?done (fun _ _ _ _ _ _ h _ => h.elim)
      case hI => exact OwnFrom.and (OwnFrom.and (Own.from (boxed_own _ _ _) _) (Own.from (boxed_own _ _ _) _)) (OwnFrom.and (marks_own (by omega)) (ownFrom_below (Nat.le_refl _) (by omega)))
      case hIb => exact Boxy.and (Boxy.and (boxed_boxy _ (by omega)) (boxed_boxy _ (by omega))) (Boxy.and (marks_boxy (by omega)) (below_boxy (Nat.le_refl _) (by omega)))
      case assign =>
        intro l0 y W K hK
        gi_wp2
        exact hK
      case body =>
        rintro l0 pre y W ⟨⟨hba, hbx⟩, hmk, hb⟩ _
        have hjn : y.1 < len := by
          refine Nat.lt_of_not_le fun hle => ?_
          have := Nat.testBit_lt_two_pow (Nat.lt_of_lt_of_le hxl (by rw [← e1H.out]; exact Nat.pow_le_pow_right (by omega) hle) : x < 2 ^ y.1)
          rw [y.2.2] at this
          cases this
        obtain ⟨_, _, hA, _, hcy⟩ := (hrH.out.later hb).wd hjn
        injection hA with hA
        injection hA with q1 q2 _
        subst q1 q2
        have hzl := hltN.out y.1 (by rw [helH.out]; exact hjn)
        have hcl := orW_lt (n := len) (fun i hi => by rw [e1H.out]; exact hltN.out i hi) (pre.map (·.1)) a0 (by rw [e1H.out]; exact horl)
        have hP256 := h28H.out
        have hsn := Lib.hid (show orW ts ((pre ++ [y]).map (·.1)) a0 = orW ts (pre.map (·.1)) a0 ||| ts.getD y.1 0 by rw [List.map_append]; exact orW_snoc ts _ a0 y.1)
        have hcA := hba.cell
        have hfA := hba.frozen
        have hcX := hbx.cell
        rw [e1H.out] at hcl
        generalize orW ts (pre.map (·.1)) a0 = cur at *
        generalize ts.getD y.1 0 = z at *
        have ho2 := u32_or_nat cur z (by omega) (by omega)
        have hyi : (y.1 : Int) < len := by omega
        have hy0 : (0 : Int) ≤ (y.1 : Int) := by omega
        have hmkH := Lib.hid hmk; have hbH2 := Lib.hid hb; have hbaH := Lib.hid hba; have hbxH := Lib.hid hbx
        clear hmk hb hba hbx
        gi_wp2
        refine region_round_lit (by kernel_rfl) rfl (by kernel_rfl) (by kernel_rfl) ?_
        dsimp only [List.dropLast]
        repeat (gi_big_quiet_step (fail))
        refine wpQuietIn_nil ?_
        rintro _ ⟨nq, rfl⟩
        gi_wp2
        have hdk : KeepsOthers W (W.drewN nq) := ⟨Nat.le_refl _, fun _ _ h _ => h⟩
        refine ⟨(hdk.trans (KeepsOthers.setCell _ _ _)).from _, ((KpE.refl _ _ W).drewN nq).set (g := ba) (by omega) (by omega) _, ⟨?_, ?_⟩, (hmkH.out.keeps hdk).keeps (KeepsOthers.setCell _ _ _), (below_drewN hbH2.out nq).setCell (p := ⟨ba, 0, none⟩) (by omega) _⟩
        · rw [hsn.out]
          exact Boxed.set (W := W.drewN nq) _ hbaH.out
        · exact Boxed.kept (W := W.drewN nq) hbxH.out (grownBy_setCell' _ ba _) (by simp; omega)
      case done =>
        rintro D ys W hD hys ⟨⟨hba, hbx⟩, hmk, hb⟩ hK
        have hys' : ys.map (·.1) = bitsL x := hys
        rw [hys', ← hall.out] at hba
        have hcl := orW_lt (n := len) (fun i hi => by rw [e1H.out]; exact hltN.out i hi) (bitsL x) a0 (by rw [e1H.out]; exact horl)
        rw [← hall.out, e1H.out] at hcl
        have hcA := hba.cell
        have hcX := hbx.cell
        have hmkH := Lib.hid hmk; have hbH2 := Lib.hid hb; have hbxH := Lib.hid hbx; have hKH := Lib.hid hK
        clear hmk hb hba hbx hK hys hys'
        generalize allW ts k = al at *
        have hDl : D < W.heap.size := (Array.getElem?_eq_some_iff.1 hKH.out).1
        have fin : ∀ (nq : Nat) (kw' : Nat), kw' = kingsW ts (k + 1) → (∃ q : Nat, q ≤ len ∧ Value.int .i64 ((k : Int) + 1) = .int .i64 (q : Int) ∧ Value.int .u32 (kw' : Int) = .int .u32 ((kingsW ts q : Nat) : Int) ∧ Boxed (W.drewN nq) w.heap.size 22 (.slice (some ⟨b, o, none⟩) len cap) ∧ Marks w.heap.size (W.drewN nq).heap.size ({ target := .collected D, args := #[] } :: ds) (W.drewN nq) ∧ Below w.heap.size w (W.drewN nq)) := fun nq kw' h =>
          ⟨k + 1, by omega, by go_num, by rw [h], hbxH.out, (Marks.push (T := ba) (Marks.keep (w := W) (w' := W.drewN nq) (fun _ _ _ h _ => h) hmkH.out) (by omega) (by omega) hKH.out).mono hDl, below_drewN hbH2.out nq⟩
        have finH := Lib.hid fin
        have hPm : (P : Int) - 1 = ((P - 1 : Nat) : Int) := by omega
        clear fin
        by_cases hal : al = P - 1
        · have hk2 := Lib.hid (show kw2 = kingsW ts (k + 1) by rw [hkn.out, hisK.out, e2H.out.symm, hal]; simp)
          have hq : ((al : Int) == (P : Int) - 1) = true := by rw [hPm, hal]; simp
          clear hal
          go_wp2
          go_quiet (fail)
          go_wp2
          refine ⟨⟨_, _, _, _, _, _, _, _, _, _, _, _, _, _, _, _, _, _, _, _, _, _, _, _, _, _, _, _, _, _, _, _, _, _, _, _, _, _, _, _, _, _, _, _, _, rfl, ?rel⟩, ?measure⟩
          case rel => exact finH.out nq _ hk2.out
          case measure => simp [intOf]; omega
        · have hk2 := Lib.hid (show kw = kingsW ts (k + 1) by rw [hkn.out, hisK.out, show (al == P - 1) = false by simpa using hal]; simp)
          have hq : ((al : Int) == (P : Int) - 1) = false := by rw [hPm]; simp; omega
          clear hal
          go_wp2
          go_quiet (fail)
          go_wp2
          refine ⟨⟨_, _, _, _, _, _, _, _, _, _, _, _, _, _, _, _, _, _, _, _, _, _, _, _, _, _, _, _, _, _, _, _, _, _, _, _, _, _, _, _, _, _, _, _, _, rfl, ?rel⟩, ?measure⟩
          case rel => exact finH.out nq _ hk2.out
          case measure => simp [intOf]; omega
    · obtain rfl : k = len := by omega
      go_wp2
      refine leaves_marks hmk fun w' hb' => ⟨.tuple #[.int .u32 ((kingsW ts k : Nat) : Int), .int .i64 0], by simp [results, Tryd.results6, go_sem], rfl, hb.trans hb'⟩
end Go.Proofs.YtnlgmjigadgneaaDoor
