/- place.Short: by all sets. -/
import Derived.Test.YtgbkpjiefaejiaaDoorPlaceHallLaw
import Derived.Test.YtgbkpjiefaejiaaDoorOnes12
import Derived.Test.YtgbkpjiefaejiaaDoorMarks
import Derived.Test.YtgbkpjiefaejiaaDoorEachBits
import Derived.Test.YtgbkpjiefaejiaaDoorCalm
import Derived.Test.YtgbkpjiefaejiaaDoorLast
namespace Go.Proofs.YtgbkpjiefaejiaaDoor
open Go.RowKit Go.Shelf
attribute [local go_sem] Oper.semAt_some

theorem short_bad (A B : Option Addr) (nw nt cA cB : Nat) (ws : List (Int × Int)) (w : World) (hw : Rd w A nw 2 (ps2 .i64 .u32 ws)) (hnw : nw ≤ 9223372036854775807) (hnt : nt ≤ 9223372036854775807) (hbad : pchk ws nt ≠ 0) :
    Calls Tryd.prog 5 #[.slice A nw cA, .slice B nt cB] w fun e w' => e = .returned (.tuple #[.int .u32 0, .int .i64 (pchk ws nt)]) ∧ Below w.heap.size w w' := by
  have hb0 := (Below.refl _ w).alloc (Nat.le_refl _) (.cells #[.slice B nt cB] 23)
  have HW := Lib.hid (pcheck_any A B nw nt cA cB ws _ (hw.later hb0) hnw hnt)
  have hb : (pchk ws nt != 0) = true := bne_iff_ne.2 hbad
  have hb0H := Lib.hid hb0
  clear hw hbad hb0
  generalize pchk ws nt = c at *
  go_enter Tryd.func5, Tryd.ntmps5
  go_wp2_with fail
  refine HW.out.mono ?_
  rintro e w1 ⟨rfl, hb1⟩
  have hb2 := hb0H.out.trans (hb1.mono hb0H.out.size)
  go_wp2
  go_ret2
  exact ⟨rfl, hb2⟩
/-- what is the best of the first s sets -/
structure ShI (ws : List (Int × Int)) (ts : List Nat) (s b : Nat) (m : Int) : Prop where
  eq : lackI ws ts b ws.length = m
  up : ∀ s', s' < s → lackI ws ts s' ws.length ≤ m
  lt : b < 2 ^ ts.length
  ge : 0 ≤ m
theorem anyT_zero (ws : List (Int × Int)) (ts : List Nat) (j : Nat) : ∀ m, anyT ws ts 0 j m = false
  | 0 => rfl
  | m + 1 => by rw [anyT, anyT_zero ws ts j m]; simp
theorem lackI_zero (ws : List (Int × Int)) (ts : List Nat) : ∀ k, lackI ws ts 0 k = 0
  | 0 => by simp [lackI, popc_zero]
  | k + 1 => by rw [lackI, anyT_zero, lackI_zero ws ts k]; rfl
theorem ShI.start (ws : List (Int × Int)) (ts : List Nat) : ShI ws ts 0 0 0 := ⟨lackI_zero ws ts _, fun s h => by omega, Nat.two_pow_pos _, Int.le_refl _⟩
theorem ShI.more {ws : List (Int × Int)} {ts : List Nat} {s b : Nat} {m : Int} (h : ShI ws ts s b m) (hs : s < 2 ^ ts.length) (hm : m < lackI ws ts s ws.length) : ShI ws ts (s + 1) s (lackI ws ts s ws.length) :=
  ⟨rfl, fun s' h' => by
    by_cases e : s' = s
    · subst e; exact Int.le_refl _
    · have := h.up s' (by omega); omega, hs, by have := h.ge; omega⟩
theorem ShI.keep {ws : List (Int × Int)} {ts : List Nat} {s b : Nat} {m : Int} (h : ShI ws ts s b m) (hm : lackI ws ts s ws.length ≤ m) : ShI ws ts (s + 1) b m :=
  ⟨h.eq, fun s' h' => by
    by_cases e : s' = s
    · subst e; exact hm
    · exact h.up s' (by omega), h.lt, h.ge⟩
theorem anyT_bits {ws : List (Int × Int)} {ts : List Nat} {s j : Nat} (ht : ts.length ≤ 12) (h : ∀ i ∈ bitsL s, mayI (wat ws j).2 (ts.getD i 0 : Nat) = false) : anyT ws ts s j ts.length = false := by
  refine Bool.eq_false_iff.2 fun ha => ?_
  obtain ⟨i, hi, h1, h2⟩ := anyT_ex ha
  rw [h i (mem_bitsL.2 ⟨by omega, h1⟩)] at h2
  cases h2
set_option maxHeartbeats 3200000 in
set_option maxRecDepth 100000 in
set_option linter.unusedSimpArgs false in
theorem short_ok (A B : Option Addr) (nw nt cA cB : Nat) (ws : List (Int × Int)) (ts : List Nat) (w : World) (hw : Rd w A nw 2 (ps2 .i64 .u32 ws)) (ht : Rd w B nt 1 (wds ts)) (hok : pchk ws nt = 0)
    (hts : ∀ i, ts.getD i 0 < 4294967296) (htb : Tb w) (hg : 0 < w.heap.size) :
    Calls Tryd.prog 5 #[.slice A nw cA, .slice B nt cB] w fun e w' => ∃ (s : Nat) (m : Int), e = .returned (.tuple #[.int .u32 (s : Int), .int .i64 0]) ∧ ShI ws ts (2 ^ nt) s m ∧ Below w.heap.size w w' := by
  have hwl : ws.length = nw := by have := hw.1; rw [ps2_length] at this; omega
  have htl : ts.length = nt := by have := ht.1; rw [wds_length] at this; omega
  obtain ⟨hnw, hnt, hrm⟩ := pchk_ok hok
  have hbd := Lib.hid (fun s => lackI_bd (ws := ws) (ts := ts) (s := s) hrm)
  rw [hwl] at hnw
  have hb0 := (Below.refl _ w).alloc (Nat.le_refl _) (.cells #[.slice B nt cB] 23)
  have HW := Lib.hid (pcheck_any A B nw nt cA cB ws _ (hw.later hb0) (by omega) (by omega))
  rw [hok] at HW
  have hwH := Lib.hid hw; have htH := Lib.hid ht; have htbH := Lib.hid htb; have hrmH := Lib.hid hrm; have htsH := Lib.hid hts; have hwlH := Lib.hid hwl; have htlH := Lib.hid htl; have hb0H := Lib.hid hb0
  have hpow : 2 ^ nt ≤ 2 ^ 12 := Nat.pow_le_pow_right (by omega) hnt
  have hpw : IntKind.u32.wrap ((2 : Int) ^ nt) = ((2 ^ nt : Nat) : Int) := by rw [IntKind.wrap_u32']; exact two_pow_u32 nt (by omega)
  obtain ⟨pn, hpn⟩ : ∃ pn, 2 ^ nt = pn := ⟨_, rfl⟩
  rw [hpn] at hpow hpw ⊢
  have hpnH := Lib.hid hpn
  clear hw ht htb hrm hts hwl htl hok hb0 hpn
  refine calls_of_wp_calm 4 Tryd.func5 rfl ?_
  simp only [Tryd.ntmps5, List.size_toArray, List.length_cons, List.length_nil, Nat.reduceAdd, Nat.reduceSub, Array.replicate_succ, Array.replicate_zero, List.push_toArray, List.append_toArray, List.nil_append, List.cons_append]
  go_wp2_with fail
  refine HW.out.mono ?_
  rintro e w1 ⟨rfl, hb1⟩
  have hbn1 : Boxed w1 w.heap.size 23 (.slice B nt cB) := (hb1.block w.heap.size (by simp)).trans (Boxed.new w _ _)
  have hbb1 := hb0H.out.trans (hb1.mono hb0H.out.size)
  have hs1 : w.heap.size < w1.heap.size := hbn1.lt
  have cn1 := hbn1.cell
  clear HW hb1
  go_wp2
  refine wp_loop (fun a' wr => ∃ (ds : List Deferred), a' = { tmps := #[(.slice A nw cA), (.slice B nt cB), (a'.tmps.getD 2 undef), (.pointer (some ⟨w.heap.size, 0, none⟩)), (.int .u32 0), (.int .i64 0), (a'.tmps.getD 6 undef), (a'.tmps.getD 7 undef), (a'.tmps.getD 8 undef), (a'.tmps.getD 9 undef), (a'.tmps.getD 10 undef), (a'.tmps.getD 11 undef), (a'.tmps.getD 12 undef), (a'.tmps.getD 13 undef), (a'.tmps.getD 14 undef), (a'.tmps.getD 15 undef), (a'.tmps.getD 16 undef), (a'.tmps.getD 17 undef), (a'.tmps.getD 18 undef), (a'.tmps.getD 19 undef), (a'.tmps.getD 20 undef), (a'.tmps.getD 21 undef), (.int .u32 (pn : Int)), (a'.tmps.getD 23 undef), (a'.tmps.getD 24 undef), (a'.tmps.getD 25 undef), (a'.tmps.getD 26 undef), (a'.tmps.getD 27 undef), (a'.tmps.getD 28 undef), (a'.tmps.getD 29 undef), (a'.tmps.getD 30 undef), (a'.tmps.getD 31 undef), (a'.tmps.getD 32 undef), (a'.tmps.getD 33 undef), (a'.tmps.getD 34 undef), (a'.tmps.getD 35 undef), (a'.tmps.getD 36 undef), (a'.tmps.getD 37 undef), (a'.tmps.getD 38 undef), (a'.tmps.getD 39 undef), (a'.tmps.getD 40 undef), (a'.tmps.getD 41 undef), (a'.tmps.getD 42 undef), (a'.tmps.getD 43 undef), (a'.tmps.getD 44 undef), (a'.tmps.getD 45 undef), (a'.tmps.getD 46 undef), (a'.tmps.getD 47 undef), (a'.tmps.getD 48 undef), (a'.tmps.getD 49 undef), (a'.tmps.getD 50 undef), (a'.tmps.getD 51 undef), (a'.tmps.getD 52 undef), (a'.tmps.getD 53 undef), (a'.tmps.getD 54 undef)], defers := ds } ∧ (∃ (s b : Nat) (m : Int), s ≤ pn ∧ (a'.tmps.getD 23 undef) = .int .u32 (s : Int) ∧ (a'.tmps.getD 7 undef) = .int .u32 (b : Int) ∧ (a'.tmps.getD 8 undef) = .int .i64 m ∧ ShI ws ts s b m ∧ Boxed wr w.heap.size 23 (.slice B nt cB) ∧ Marks w.heap.size wr.heap.size ds wr ∧ Below w.heap.size w wr)) (fun a' _ => pn - (intOf (a'.tmps.getD 23 undef)).toNat) ?atStart ?round
  case atStart =>
    refine ⟨_, rfl, ?_⟩
    exact ⟨0, 0, 0, Nat.zero_le _, rfl, rfl, rfl, ShI.start ws ts, hbn1, trivial, hbb1⟩
  case round =>
    clear hbn1 hbb1 hs1 cn1
    rintro a' wr ⟨ds, ha, hrel⟩
    generalize a'.tmps.getD 2 undef = x2 at ha hrel
    generalize a'.tmps.getD 6 undef = x6 at ha hrel
    generalize a'.tmps.getD 7 undef = x7 at ha hrel
    generalize a'.tmps.getD 8 undef = x8 at ha hrel
    generalize a'.tmps.getD 9 undef = x9 at ha hrel
    generalize a'.tmps.getD 10 undef = x10 at ha hrel
    generalize a'.tmps.getD 11 undef = x11 at ha hrel
    generalize a'.tmps.getD 12 undef = x12 at ha hrel
    generalize a'.tmps.getD 13 undef = x13 at ha hrel
    generalize a'.tmps.getD 14 undef = x14 at ha hrel
    generalize a'.tmps.getD 15 undef = x15 at ha hrel
    generalize a'.tmps.getD 16 undef = x16 at ha hrel
    generalize a'.tmps.getD 17 undef = x17 at ha hrel
    generalize a'.tmps.getD 18 undef = x18 at ha hrel
    generalize a'.tmps.getD 19 undef = x19 at ha hrel
    generalize a'.tmps.getD 20 undef = x20 at ha hrel
    generalize a'.tmps.getD 21 undef = x21 at ha hrel
    generalize a'.tmps.getD 23 undef = x23 at ha hrel
    generalize a'.tmps.getD 24 undef = x24 at ha hrel
    generalize a'.tmps.getD 25 undef = x25 at ha hrel
    generalize a'.tmps.getD 26 undef = x26 at ha hrel
    generalize a'.tmps.getD 27 undef = x27 at ha hrel
    generalize a'.tmps.getD 28 undef = x28 at ha hrel
    generalize a'.tmps.getD 29 undef = x29 at ha hrel
    generalize a'.tmps.getD 30 undef = x30 at ha hrel
    generalize a'.tmps.getD 31 undef = x31 at ha hrel
    generalize a'.tmps.getD 32 undef = x32 at ha hrel
    generalize a'.tmps.getD 33 undef = x33 at ha hrel
    generalize a'.tmps.getD 34 undef = x34 at ha hrel
    generalize a'.tmps.getD 35 undef = x35 at ha hrel
    generalize a'.tmps.getD 36 undef = x36 at ha hrel
    generalize a'.tmps.getD 37 undef = x37 at ha hrel
    generalize a'.tmps.getD 38 undef = x38 at ha hrel
    generalize a'.tmps.getD 39 undef = x39 at ha hrel
    generalize a'.tmps.getD 40 undef = x40 at ha hrel
    generalize a'.tmps.getD 41 undef = x41 at ha hrel
    generalize a'.tmps.getD 42 undef = x42 at ha hrel
    generalize a'.tmps.getD 43 undef = x43 at ha hrel
    generalize a'.tmps.getD 44 undef = x44 at ha hrel
    generalize a'.tmps.getD 45 undef = x45 at ha hrel
    generalize a'.tmps.getD 46 undef = x46 at ha hrel
    generalize a'.tmps.getD 47 undef = x47 at ha hrel
    generalize a'.tmps.getD 48 undef = x48 at ha hrel
    generalize a'.tmps.getD 49 undef = x49 at ha hrel
    generalize a'.tmps.getD 50 undef = x50 at ha hrel
    generalize a'.tmps.getD 51 undef = x51 at ha hrel
    generalize a'.tmps.getD 52 undef = x52 at ha hrel
    generalize a'.tmps.getD 53 undef = x53 at ha hrel
    generalize a'.tmps.getD 54 undef = x54 at ha hrel
    subst ha
    obtain ⟨s, b, m, hs, rfl, rfl, rfl, hsh, hbn, hmk, hb⟩ := hrel
    obtain ⟨wo, rfl⟩ : ∃ wo : World, wo = wr := ⟨_, rfl⟩
    have hszo := hb.size
    have hlo := hbn.lt
    by_cases hlt : s < pn
    · have hq1 : ((s : Int) < (pn : Int)) = True := eq_true (by omega)
      have HO := Lib.hid (ones_any s wo (by omega))
      have hshH := Lib.hid hsh; have hbnH := Lib.hid hbn; have hmkH := Lib.hid hmk; have hbH := Lib.hid hb
      have hl0 := Lib.hid (show lackI ws ts s 0 = (popc 32 s : Nat) from rfl)
      have hp12 : popc 32 s = popc 12 s := by rw [show (32 : Nat) = 12 + 20 by rfl]; exact popc_up (by omega) 20
      rw [hp12] at hl0
      have hple := popc_le 12 s
      clear hsh hbn hmk hb hp12
      generalize popc 12 s = pc at *
      go_wp2_with fail
      refine HO.out.mono ?_
      rintro e w2 ⟨rfl, nq, rfl⟩
      have hbnq : Boxed (wo.drewN nq) w.heap.size 23 (.slice B nt cB) := hbnH.out
      have hmq := hmkH.out.keeps (⟨Nat.le_refl _, fun _ _ h _ => h⟩ : KeepsOthers wo (wo.drewN nq))
      have hbq := below_drewN hbH.out nq
      have hsq : (wo.drewN nq).heap.size = wo.heap.size := rfl
      rw [← hsq] at hmq
      generalize wo.drewN nq = wq at *
      clear hbnH hmkH hbH HO
      have hbn2 := hbnq.alloc (.cells #[.int .i64 (pc : Int)] 3)
      have hbq2 := Boxed.new wq 3 (.int .i64 (pc : Int))
      rw [hsq] at hbq2
      have hm2 := (hmq.keeps (KeepsOthers.alloc wq (.cells #[.int .i64 (pc : Int)] 3))).mono (show wq.heap.size ≤ (wq.alloc (.cells #[.int .i64 (pc : Int)] 3)).heap.size by simp)
      have hb2 := hbq.alloc (by omega) (.cells #[.int .i64 (pc : Int)] 3)
      have hsz2 : (wq.alloc (.cells #[.int .i64 (pc : Int)] 3)).heap.size = wq.heap.size + 1 := by simp
      have hbn2H := Lib.hid hbn2; have hbq2H := Lib.hid hbq2; have hm2H := Lib.hid hm2; have hb2H := Lib.hid hb2
      clear hbnq hmq hbq hbn2 hbq2 hm2 hb2
      go_wp2
      generalize wq.alloc (.cells #[.int .i64 (pc : Int)] 3) = w3 at *
      have hlo2 : w.heap.size < wo.heap.size := by omega
      generalize hbqe : wo.heap.size = bq at *
      refine wp_loop (fun a' wr => ∃ (ds : List Deferred), a' = { tmps := #[(.slice A nw cA), (.slice B nt cB), (a'.tmps.getD 2 undef), (.pointer (some ⟨w.heap.size, 0, none⟩)), (.int .u32 0), (.int .i64 0), (a'.tmps.getD 6 undef), (.int .u32 (b : Int)), (.int .i64 m), (.int .u32 (s : Int)), (.pointer (some ⟨bq, 0, none⟩)), (a'.tmps.getD 11 undef), (a'.tmps.getD 12 undef), (a'.tmps.getD 13 undef), (a'.tmps.getD 14 undef), (a'.tmps.getD 15 undef), (a'.tmps.getD 16 undef), (a'.tmps.getD 17 undef), (a'.tmps.getD 18 undef), (a'.tmps.getD 19 undef), (a'.tmps.getD 20 undef), (a'.tmps.getD 21 undef), (.int .u32 (pn : Int)), (.int .u32 (s : Int)), (a'.tmps.getD 24 undef), (a'.tmps.getD 25 undef), (a'.tmps.getD 26 undef), (a'.tmps.getD 27 undef), (.slice A nw cA), (.int .i64 (nw : Int)), (a'.tmps.getD 30 undef), (a'.tmps.getD 31 undef), (a'.tmps.getD 32 undef), (a'.tmps.getD 33 undef), (a'.tmps.getD 34 undef), (a'.tmps.getD 35 undef), (a'.tmps.getD 36 undef), (a'.tmps.getD 37 undef), (a'.tmps.getD 38 undef), (a'.tmps.getD 39 undef), (a'.tmps.getD 40 undef), (a'.tmps.getD 41 undef), (a'.tmps.getD 42 undef), (a'.tmps.getD 43 undef), (a'.tmps.getD 44 undef), (a'.tmps.getD 45 undef), (a'.tmps.getD 46 undef), (a'.tmps.getD 47 undef), (a'.tmps.getD 48 undef), (a'.tmps.getD 49 undef), (a'.tmps.getD 50 undef), (a'.tmps.getD 51 undef), (a'.tmps.getD 52 undef), (a'.tmps.getD 53 undef), (a'.tmps.getD 54 undef)], defers := ds } ∧ (∃ k : Nat, k ≤ nw ∧ (a'.tmps.getD 30 undef) = .int .i64 (k : Int) ∧ Boxed wr w.heap.size 23 (.slice B nt cB) ∧ Boxed wr bq 3 (.int .i64 (lackI ws ts s k)) ∧ Marks w.heap.size wr.heap.size ds wr ∧ Below w.heap.size w wr)) (fun a' _ => nw - (intOf (a'.tmps.getD 30 undef)).toNat) ?atStart ?round
      case atStart =>
        refine ⟨_, rfl, ?_⟩
        exact ⟨0, Nat.zero_le _, rfl, hbn2H.out, by rw [hl0.out]; exact hbq2H.out, hm2H.out, hb2H.out⟩
      case round =>
        clear hbn2H hbq2H hm2H hb2H hsz2 hsq hl0
        rintro a' wr ⟨ds2, ha, hrel⟩
        generalize a'.tmps.getD 2 undef = x2 at ha hrel
        generalize a'.tmps.getD 6 undef = x6 at ha hrel
        generalize a'.tmps.getD 11 undef = x11 at ha hrel
        generalize a'.tmps.getD 12 undef = x12 at ha hrel
        generalize a'.tmps.getD 13 undef = x13 at ha hrel
        generalize a'.tmps.getD 14 undef = x14 at ha hrel
        generalize a'.tmps.getD 15 undef = x15 at ha hrel
        generalize a'.tmps.getD 16 undef = x16 at ha hrel
        generalize a'.tmps.getD 17 undef = x17 at ha hrel
        generalize a'.tmps.getD 18 undef = x18 at ha hrel
        generalize a'.tmps.getD 19 undef = x19 at ha hrel
        generalize a'.tmps.getD 20 undef = x20 at ha hrel
        generalize a'.tmps.getD 21 undef = x21 at ha hrel
        generalize a'.tmps.getD 24 undef = x24 at ha hrel
        generalize a'.tmps.getD 25 undef = x25 at ha hrel
        generalize a'.tmps.getD 26 undef = x26 at ha hrel
        generalize a'.tmps.getD 27 undef = x27 at ha hrel
        generalize a'.tmps.getD 30 undef = x30 at ha hrel
        generalize a'.tmps.getD 31 undef = x31 at ha hrel
        generalize a'.tmps.getD 32 undef = x32 at ha hrel
        generalize a'.tmps.getD 33 undef = x33 at ha hrel
        generalize a'.tmps.getD 34 undef = x34 at ha hrel
        generalize a'.tmps.getD 35 undef = x35 at ha hrel
        generalize a'.tmps.getD 36 undef = x36 at ha hrel
        generalize a'.tmps.getD 37 undef = x37 at ha hrel
        generalize a'.tmps.getD 38 undef = x38 at ha hrel
        generalize a'.tmps.getD 39 undef = x39 at ha hrel
        generalize a'.tmps.getD 40 undef = x40 at ha hrel
        generalize a'.tmps.getD 41 undef = x41 at ha hrel
        generalize a'.tmps.getD 42 undef = x42 at ha hrel
        generalize a'.tmps.getD 43 undef = x43 at ha hrel
        generalize a'.tmps.getD 44 undef = x44 at ha hrel
        generalize a'.tmps.getD 45 undef = x45 at ha hrel
        generalize a'.tmps.getD 46 undef = x46 at ha hrel
        generalize a'.tmps.getD 47 undef = x47 at ha hrel
        generalize a'.tmps.getD 48 undef = x48 at ha hrel
        generalize a'.tmps.getD 49 undef = x49 at ha hrel
        generalize a'.tmps.getD 50 undef = x50 at ha hrel
        generalize a'.tmps.getD 51 undef = x51 at ha hrel
        generalize a'.tmps.getD 52 undef = x52 at ha hrel
        generalize a'.tmps.getD 53 undef = x53 at ha hrel
        generalize a'.tmps.getD 54 undef = x54 at ha hrel
        subst ha
        obtain ⟨k, hk, rfl, hbn, hbq, hmk, hb⟩ := hrel
        obtain ⟨wp, rfl⟩ : ∃ wp : World, wp = wr := ⟨_, rfl⟩
        have hszp := hb.size
        have hlp := hbn.lt; have hlq := hbq.lt
        by_cases hlt2 : k < nw
        · obtain ⟨ba, oa, rfl, hba, a0, a1⟩ := (hwH.out.later hb).pair hlt2
          have hrk := hrmH.out k (by rw [hwlH.out]; exact hlt2)
          have hst := Lib.hid (show lackI ws ts s (k + 1) = if anyT ws ts s k ts.length then lackI ws ts s k - (wat ws k).1 else lackI ws ts s k from rfl)
          have hbk := hbd.out s k (by rw [hwlH.out]; exact hk)
          have hat := Lib.hid (fun i (h1 : s.testBit i = true) (hi : i < ts.length) (h2 : mayI (wat ws k).2 (ts.getD i 0 : Nat) = true) => anyT_of (ws := ws) (j := k) h1 h2 ts.length hi)
          have han := Lib.hid (anyT_bits (ws := ws) (ts := ts) (s := s) (j := k) (by rw [htlH.out]; exact hnt))
          unfold wat at hrk hst hat han
          obtain ⟨q, hq⟩ : ∃ q, anyT ws ts s k ts.length = q := ⟨_, rfl⟩
          rw [hq] at hst hat han
          clear hq
          generalize ws.getD k (0, 0) = c at *
          obtain ⟨cr, ch⟩ := c
          dsimp only at a0 a1 hrk hst hat han
          generalize lackI ws ts s k = n at *
          have hba2 := hb.alloc hszp (.cells #[.int .i64 cr, .int .u32 ch] 37)
          have hbn2 := hbn.alloc (.cells #[.int .i64 cr, .int .u32 ch] 37)
          have hbq2 := hbq.alloc (.cells #[.int .i64 cr, .int .u32 ch] 37)
          have hm2 := hmk.keeps (KeepsOthers.alloc wp (.cells #[.int .i64 cr, .int .u32 ch] 37))
          have hrd2 := rd_new2 wp (.int .i64 cr) (.int .u32 ch) 37
          have hsz2 : (wp.alloc (.cells #[.int .i64 cr, .int .u32 ch] 37)).heap.size = wp.heap.size + 1 := by simp
          have hbaH := Lib.hid hba2; have hbnH := Lib.hid hbn2; have hbqH := Lib.hid hbq2; have hm2H := Lib.hid hm2; have hrdH := Lib.hid hrd2
          clear hba2 hbn2 hbq2 hm2 hrd2 hbn hbq hmk hb
          go_wp2_with fail
          generalize wp.alloc (.cells #[.int .i64 cr, .int .u32 ch] 37) = w7 at *
          refine (each_any s _).mono ?_
          rintro e w8 ⟨rfl, rfl⟩
          have bE := Boxed.new w7 28 (.int .u32 (s : Int))
          have hb8 := hbaH.out.alloc hbaH.out.size (.cells #[.int .u32 (s : Int)] 28)
          have ht8 := htbH.out.below hg hb8
          have hsz8 : (w7.alloc (.cells #[.int .u32 (s : Int)] 28)).heap.size = w7.heap.size + 1 := by simp
          have h0I : Boxed (w7.alloc (.cells #[.int .u32 (s : Int)] 28)) w.heap.size 23 (.slice B nt cB) ∧ Boxed (w7.alloc (.cells #[.int .u32 (s : Int)] 28)) bq 3 (.int .i64 n) ∧ Rd (w7.alloc (.cells #[.int .u32 (s : Int)] 28)) (some ⟨wp.heap.size, 0, none⟩) 1 2 [.int .i64 cr, .int .u32 ch] ∧ Marks w.heap.size wp.heap.size ds2 (w7.alloc (.cells #[.int .u32 (s : Int)] 28)) ∧ Below w.heap.size w (w7.alloc (.cells #[.int .u32 (s : Int)] 28)) ∧ w7.heap.size < (w7.alloc (.cells #[.int .u32 (s : Int)] 28)).heap.size ∧ ∀ i ∈ (([] : List (Bt s)).map (·.1)), mayI ch (ts.getD i 0 : Nat) = false :=
            ⟨hbnH.out.alloc _, hbqH.out.alloc _, hrdH.out.alloc _, hm2H.out.keeps (KeepsOthers.alloc _ _), hb8, by omega, fun i hi => by cases hi⟩
          have h0IH := Lib.hid h0I
          clear hbaH hbnH hbqH hm2H hrdH hb8 h0I
          go_wp2
          refine (wpIn_wide (n := 4)).1 ?_
          generalize w7.alloc (.cells #[.int .u32 (s : Int)] 28) = w8 at *
          have hlo3 : bq < wp.heap.size := hlq
          clear hlq hlp
          generalize hbEe : w7.heap.size = bEx at *
          generalize hbIe : wp.heap.size = bW at *
          obtain rfl : bEx = bW + 1 := by omega
          clear hsz2
          refine' rangeFunc_box (n := 4) (α := Bt s) (gf := 24) (lb := #[.pointer (some ⟨bW + 1, 0, none⟩)]) (by omega) rfl (enters_of Tryd.func24 (by kernel_rfl) rfl)
            (each_stops 3 (by omega) (bW + 1) w.heap.size s (by omega) w8 ht8 hg (by omega) bE (by omega)) (by omega) (fun h h' => KpE.trans h h') (kpE_b (by omega) (by omega)) (Below.refl _ _) (fun _ => rfl)
            (fun pre W => Boxed W w.heap.size 23 (.slice B nt cB) ∧ Boxed W bq 3 (.int .i64 n) ∧ Rd W (some ⟨bW, 0, none⟩) 1 2 [.int .i64 cr, .int .u32 ch] ∧ Marks w.heap.size bW ds2 W ∧ Below w.heap.size w W ∧ bW + 1 < W.heap.size ∧ ∀ i ∈ pre.map (·.1), mayI ch (ts.getD i 0 : Nat) = false)
            (fun c pre W => c = .exit 4 ∧ q = true ∧ Boxed W w.heap.size 23 (.slice B nt cB) ∧ Boxed W bq 3 (.int .i64 (n - cr)) ∧ Marks w.heap.size bW ds2 W ∧ Below w.heap.size w W) ?hI ?hIb ?hX ?hXb h0IH.out _ ?assign ?body ?done ?stop
          case hI =>
            rintro pre W1 W2 row ⟨h1, h2, h3, h4, h6, h7, h5⟩ hg' hr
            have hr' : ∀ r, row = some r → w8.heap.size ≤ r := fun r e => (hr r e).1
            exact ⟨h1.kept hg' (fun e => by have := hr' _ e.symm; omega), h2.kept hg' (fun e => by have := hr' _ e.symm; omega), h3.grown hg' (fun b o e e' => by cases e; have := hr' _ e'; omega), h4.grown hg' (fun r e => by have := hr' r e; omega), h6.grown hg' h6.size (fun r e => by have := hr' r e; omega), Nat.lt_of_lt_of_le h7 hg'.size, h5⟩
          case hIb =>
            rintro pre W1 W2 row ⟨h1, h2, h3, h4, h6, h7, h5⟩ hg' hr
            have hr' : ∀ r, row = some r → r = bW + 1 := hr
            exact ⟨h1.kept hg' (fun e => by have := hr' _ e.symm; omega), h2.kept hg' (fun e => by have := hr' _ e.symm; omega), h3.grown hg' (fun b o e e' => by cases e; have := hr' _ e'; omega), h4.grown hg' (fun r e => by have := hr' r e; omega), h6.grown hg' h6.size (fun r e => by have := hr' r e; omega), Nat.lt_of_lt_of_le h7 hg'.size, h5⟩
          case hX =>
            rintro c pre W1 W2 row ⟨h0, hq, h1, h2, h4, h6⟩ hg' hr
            have hr' : ∀ r, row = some r → w8.heap.size ≤ r := fun r e => (hr r e).1
            exact ⟨h0, hq, h1.kept hg' (fun e => by have := hr' _ e.symm; omega), h2.kept hg' (fun e => by have := hr' _ e.symm; omega), h4.grown hg' (fun r e => by have := hr' r e; omega), h6.grown hg' h6.size (fun r e => by have := hr' r e; omega)⟩
          case hXb =>
            rintro c pre W1 W2 row ⟨h0, hq, h1, h2, h4, h6⟩ hg' hr
            have hr' : ∀ r, row = some r → r = bW + 1 := hr
            exact ⟨h0, hq, h1.kept hg' (fun e => by have := hr' _ e.symm; omega), h2.kept hg' (fun e => by have := hr' _ e.symm; omega), h4.grown hg' (fun r e => by have := hr' r e; omega), h6.grown hg' h6.size (fun r e => by have := hr' r e; omega)⟩
          case assign =>
            intro l0 y W K hK
            gi_wp2
            exact hK
          case body =>
            rintro l0 pre yy W ⟨h1, h2, h3, h4, h6, h7, h5⟩ hpl
            have hbit := yy.2.2
            have hi32 := yy.2.1
            have hsn : (pre ++ [yy]).map (·.1) = pre.map (·.1) ++ [yy.1] := by simp
            obtain ⟨i, hie⟩ : ∃ i, yy.1 = i := ⟨_, rfl⟩
            rw [hie] at hbit hi32 hsn
            simp only [hie]
            clear hie
            have hsnH := Lib.hid hsn
            clear hsn
            have hin : i < nt := Nat.lt_of_not_le fun hle => by
              have := Nat.testBit_lt_two_pow (Nat.lt_of_lt_of_le (show s < 2 ^ nt by rw [hpnH.out]; exact hlt) (Nat.pow_le_pow_right (n := 2) (by omega) hle))
              rw [hbit] at this; cases this
            obtain ⟨bt, ot, rfl, hbt, tc⟩ := (htH.out.later h6).wd hin
            have hti := htsH.out i
            have hatI := Lib.hid (hat.out i hbit (by rw [htlH.out]; exact hin))
            obtain ⟨t, hte⟩ : ∃ t, ts.getD i 0 = t := ⟨_, rfl⟩
            rw [hte] at tc hti hatI
            have hteH := Lib.hid hte
            clear hte
            obtain ⟨b', o', e', hlW, hcW⟩ := h3.2 (by omega)
            cases e'
            have c0 : W.cell? ⟨bW, 0, none⟩ = some (.int .i64 cr) := by simpa using hcW 0 (by omega)
            have c1 : W.cell? ⟨bW, 1, none⟩ = some (.int .u32 ch) := by simpa using hcW 1 (by omega)
            have cT := h1.cell; have lT := h1.lt
            have hi0 : (0 : Int) ≤ (i : Int) := by omega
            have hi1 : (i : Int) < nt := by omega
            have HM := Lib.hid fun nq => may_any cr ch (t : Int) (W.drewN nq)
            have h1H := Lib.hid h1; have h2H := Lib.hid h2; have h3H := Lib.hid h3; have h4H := Lib.hid h4; have h5H := Lib.hid h5; have h6H := Lib.hid h6
            have hwn : IntKind.i64.wrap (n - cr) = n - cr := IntWalk.i64_in _ (by omega)
            clear h1 h2 h3 h4 h5 h6 hcW
            gi_wp2
            refine region_round_lit (by kernel_rfl) rfl (by kernel_rfl) (by kernel_rfl) ?_
            dsimp only [List.dropLast]
            repeat (gi_big_quiet_step (fail))
            refine wpQuietIn_nil ?_
            rintro _ ⟨nq, rfl⟩
            gi_wp2
            refine ⟨trivial, (callsIn_wide.2 (HM.out nq)).mono ?_⟩
            rintro _ W2 ⟨rfl, hbW⟩
            have hbW2 : Below W.heap.size W W2 := (below_drewN (Below.refl _ W) nq).trans hbW
            have h1D := (hbW2.block _ h1H.out.lt).trans h1H.out
            have h2D := (hbW2.block _ h2H.out.lt).trans h2H.out
            have h3D := h3H.out.later hbW2
            have h4D := h4H.out.later hbW2
            have h6D := h6H.out.trans (hbW2.mono h6H.out.size)
            have hKFD : KeepsFrom w8.heap.size W W2 := KeepsFrom.of_grownBy ⟨hbW2.os, hbW2.tape, hbW2.output, hbW2.size, fun k hk _ => hbW2.block k hk⟩ (row := none) (fun j e => by cases e)
            have hKpD : KpE w.heap.size (bW + 1) W W2 := ⟨hbW2.mono (by have := h6H.out.size; omega), hbW2.block (bW + 1) h7⟩
            have hszD := hbW2.size
            clear hbW
            by_cases hm : mayI ch (t : Int) = true
            · have hm' := hm
              have hqt := hatI.out hm
              have cq := Boxed.cell h2D; have fq := Boxed.frozen h2D; have lq := Boxed.lt h2D
              have d0 : W2.cell? ⟨bW, 0, none⟩ = some (.int .i64 cr) := (hbW2.cell hlW).trans c0
              have hgs := grownBy_setCell' W2 bq (.int .i64 (n - cr))
              have e1 := Boxed.kept h1D hgs (by simp; omega)
              have e2 := (show Boxed W2 bq 3 (.int .i64 n) from h2D).set (.int .i64 (n - cr))
              have e4 := h4D.keeps (KeepsOthers.setCell W2 ⟨bq, 0, none⟩ (.int .i64 (n - cr)))
              have e6 := h6D.setCell (p := ⟨bq, 0, none⟩) (by show w.heap.size ≤ bq; omega) (.int .i64 (n - cr))
              have eK := hKFD.trans ((KeepsOthers.setCell W2 ⟨bq, 0, none⟩ (.int .i64 (n - cr))).from w8.heap.size)
              have e1H := Lib.hid e1; have e2H := Lib.hid e2; have e4H := Lib.hid e4; have e6H := Lib.hid e6; have eKH := Lib.hid eK
              clear h1D h2D h3D h4D h6D hKFD hKpD e1 e2 e4 e6 eK hgs h1H h2H h3H h4H h5H h6H HM hatI hbW2 cT c0 c1 tc
              gi_wp2
              exact ⟨eKH.out, rfl, hqt, e1H.out, e2H.out, e4H.out, e6H.out⟩
            · have hm' : mayI ch (t : Int) = false := Bool.eq_false_iff.2 hm
              have h5D : ∀ i ∈ (pre ++ [yy]).map (·.1), mayI ch (ts.getD i 0 : Nat) = false := by
                rw [hsnH.out]
                intro i' hi'
                rcases List.mem_append.1 hi' with h | h
                · exact h5H.out i' h
                · rw [List.mem_singleton] at h
                  rw [h, hteH.out]; exact hm'
              have hfin := Lib.hid (And.intro hKFD (And.intro hKpD (And.intro h1D (And.intro h2D (And.intro h3D (And.intro h4D (And.intro h6D (And.intro (Nat.lt_of_lt_of_le h7 hszD) h5D))))))))
              clear h1D h2D h3D h4D h6D hKFD hKpD h1H h2H h3H h4H h5H h6H HM hatI hbW2 cT c0 c1 tc h5D
              gi_wp2
              exact hfin.out
          case done =>
            rintro D ys W hD hys ⟨h1, h2, h3, h4, h6, h7, h5⟩ hK
            have hys' : ys.map (·.1) = bitsL s := hys
            rw [hys'] at h5
            have hqf : q = false := han.out h5
            subst hqf
            have hmp : Marks w.heap.size (D + 1) ({ target := .collected D, args := #[] } :: ds2) W := Marks.push (T := bW) h4 (by omega) (by omega) hK
            have hmp2 := hmp.mono (Array.getElem?_eq_some_iff.1 hK).1
            have h1H := Lib.hid h1; have h2H := Lib.hid h2; have h6H := Lib.hid h6; have hmH := Lib.hid hmp2
            have hki : IntKind.i64.wrap ((k : Int) + 1) = ((k + 1 : Nat) : Int) := by rw [IntWalk.i64_in _ (by omega)]; omega
            clear h1 h2 h3 h4 h5 h6 h7 hmp hmp2 hK hys hys'
            go_wp2
            refine ⟨⟨k + 1, by omega, by go_num, h1H.out, by rw [hst.out]; exact h2H.out, hmH.out, h6H.out⟩, ?_⟩
            simp [intOf]; omega
          case stop =>
            rintro D c pre W hD _ ⟨rfl, rfl, h1, h2, h4, h6⟩ hK
            have hmp : Marks w.heap.size (D + 1) ({ target := .collected D, args := #[] } :: ds2) W := Marks.push (T := bW) h4 (by omega) (by omega) hK
            have hmp2 := hmp.mono (Array.getElem?_eq_some_iff.1 hK).1
            have h1H := Lib.hid h1; have h2H := Lib.hid h2; have h6H := Lib.hid h6; have hmH := Lib.hid hmp2
            have hki : IntKind.i64.wrap ((k : Int) + 1) = ((k + 1 : Nat) : Int) := by rw [IntWalk.i64_in _ (by omega)]; omega
            clear h1 h2 h4 h6 hmp hmp2 hK
            gi_wp2
            go_wp2
            refine ⟨⟨_, rfl, k + 1, by omega, by go_num, h1H.out, by rw [hst.out]; exact h2H.out, hmH.out, h6H.out⟩, ?_⟩
            simp [intOf]; omega
        · obtain rfl : k = nw := by omega
          have cq := hbq.cell
          have hbk := hbd.out s k (by rw [hwlH.out]; exact Nat.le_refl _)
          have hwl := hwlH.out
          have hup := Lib.hid (show m < lackI ws ts s k → ShI ws ts (s + 1) s (lackI ws ts s k) from fun h => by
            have := hshH.out.more (by rw [htlH.out, hpnH.out]; exact hlt) (by rw [hwl]; exact h)
            rw [hwl] at this; exact this)
          have hkp := Lib.hid (show lackI ws ts s k ≤ m → ShI ws ts (s + 1) b m from fun h => hshH.out.keep (by rw [hwl]; exact h))
          have hbnH := Lib.hid hbn; have hmkH := Lib.hid hmk; have hbH := Lib.hid hb
          have hs1 : IntKind.u32.wrap ((s : Int) + 1) = ((s + 1 : Nat) : Int) := by rw [IntKind.wrap_u32']; omega
          clear hbn hbq hmk hb hwl hshH
          generalize lackI ws ts s k = n at *
          by_cases hgt : m < n
          · have hq2 : (m < n) = True := eq_true hgt
            go_wp2
            go_quiet (fail)
            rename_i nq
            have hbn2 : Boxed (wp.drewN nq) w.heap.size 23 (.slice B nt cB) := hbnH.out
            have hm2 := hmkH.out.keeps (⟨Nat.le_refl _, fun _ _ h _ => h⟩ : KeepsOthers wp (wp.drewN nq))
            have hb2 := below_drewN hbH.out nq
            have hn2 := hup.out hgt
            have hfin := Lib.hid (And.intro hn2 (And.intro hbn2 (And.intro hm2 hb2)))
            clear hbn2 hm2 hb2 hn2 hup hkp hbnH hmkH hbH
            go_wp2
            refine ⟨⟨_, rfl, s + 1, s, n, by omega, by go_num, rfl, rfl, hfin.out.1, hfin.out.2.1, hfin.out.2.2.1, hfin.out.2.2.2⟩, ?_⟩
            simp [intOf]; omega
          · have hq2 : (m < n) = False := eq_false hgt
            go_wp2
            refine ⟨⟨s + 1, by omega, by go_num, b, rfl, hkp.out (by omega), hbnH.out, hmkH.out, hbH.out⟩, ?_⟩
            simp [intOf]; omega
    · obtain rfl : s = pn := by omega
      have hfH := Lib.hid hsh; have hbH := Lib.hid hb; have hmH := Lib.hid hmk
      clear hsh hbn hmk hb
      go_wp2
      refine leaves_marksJ (B := w.heap.size) (J := fun W' => Below w.heap.size w W' ∧ w.heap.size ≤ W'.heap.size) hmH.out ⟨hbH.out, by omega⟩
        (fun V r o' hV hd hr => ⟨hV.1.grown (grownBy_putObj' V r o') hV.2 (fun r' e => by cases e; omega), by have := (grownBy_putObj' V r o').size; omega⟩)
        fun w' hw' => ⟨.tuple #[.int .u32 (b : Int), .int .i64 0], by simp [results, Tryd.results5, go_sem], b, m, rfl, hfH.out, hw'.1⟩
end Go.Proofs.YtgbkpjiefaejiaaDoor
