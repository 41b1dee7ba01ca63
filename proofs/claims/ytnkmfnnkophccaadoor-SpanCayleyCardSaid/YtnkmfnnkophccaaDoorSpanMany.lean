/- span.Many, where all edges are there. -/
import Derived.Test.YtnkmfnnkophccaaDoorTrees
import Derived.Test.YtnkmfnnkophccaaDoorSpread
import Derived.Test.YtnkmfnnkophccaaDoorCollectB
import Derived.Test.YtnkmfnnkophccaaDoorGood
import Derived.Test.YtnkmfnnkophccaaDoorBlk
namespace Go.Proofs.YtnkmfnnkophccaaDoor
open Go.RowKit

theorem cntE_next {es : List E} {k : Nat} (hk : k < es.length) {x y : Nat} (hx : (es.getD k (0, 0, 0)).1 = (x : Int)) (hy : (es.getD k (0, 0, 0)).2.1 = (y : Int)) (a b : Nat) :
    cntE (es.take (k + 1)) a b = cntE (es.take k) a b + if (a = x ∧ b = y) ∨ (a = y ∧ b = x) then 1 else 0 := by
  unfold cntE
  rw [take_succ_getD' es (0, 0, 0) k hk, List.countP_append, List.countP_cons, List.countP_nil, hx, hy, Nat.zero_add]
  congr 1
  have : (((x : Int) == (a : Int) && (y : Int) == (b : Int)) || ((x : Int) == (b : Int) && (y : Int) == (a : Int))) = decide ((a = x ∧ b = y) ∨ (a = y ∧ b = x)) := by
    rw [Bool.eq_iff_iff]
    simp only [Bool.or_eq_true, Bool.and_eq_true, beq_iff_eq, decide_eq_true_eq]
    omega
  rw [this]
  by_cases h : (a = x ∧ b = y) ∨ (a = y ∧ b = x)
  · rw [if_pos h, decide_eq_true h]; rfl
  · rw [if_neg h, decide_eq_false h]; rfl
theorem cntE_le (es : List E) (a b : Nat) : cntE es a b ≤ es.length := List.countP_le_length
theorem bits_all : (List.range 11).all (fun n => bitsL (2 ^ n - 1) == List.range n) = true := by decide +kernel
theorem bits_full {n : Nat} (h : n ≤ 10) : bitsL (2 ^ n - 1) = List.range n := by
  have := List.all_eq_true.1 bits_all n (List.mem_range.2 (by omega))
  simpa using this
theorem low_all : (List.range 11).all (fun n => decide (n < 2) || (bits .and .u32 (((2 ^ n - 1 : Nat) : Int)) (-((2 ^ n - 1 : Nat) : Int) % 4294967296) == 1 && bits .andNot .u32 (((2 ^ n - 1 : Nat) : Int)) (((2 ^ n - 1 : Nat) : Int)) == 0)) = true := by decide +kernel
theorem low_full {n S : Nat} (h2 : 2 ≤ n) (h10 : n ≤ 10) (hS : 2 ^ n = S) : bits .and .u32 ((S - 1 : Nat) : Int) (-((S - 1 : Nat) : Int) % 4294967296) = 1 ∧ bits .andNot .u32 ((S - 1 : Nat) : Int) ((S - 1 : Nat) : Int) = 0 := by
  have := List.all_eq_true.1 low_all n (List.mem_range.2 (by omega))
  rw [decide_eq_false (by omega), hS] at this
  simp only [Bool.false_or, Bool.and_eq_true, beq_iff_eq] at this
  exact this
set_option maxHeartbeats 3200000 in
set_option maxRecDepth 100000 in
theorem many_full (n : Nat) (h2 : 2 ≤ n) (h10 : n ≤ 10) (A : Option Addr) (len cap : Nat) (w : World) (hr : Rd w A len 3 (ps3 .i64 .i64 .i64 (fullE n))) (htb : Tb w) (hg : 0 < w.heap.size) :
    Calls Tryd.prog 5 #[.agg #[.int .i64 (n : Int), .slice A len cap]] w fun e w' => e = .returned (.tuple #[.int .i64 ((n : Int) ^ (n - 2)), .int .i64 0]) ∧ Below w.heap.size w w' := by
  have hchk := full_chk h2 h10
  obtain ⟨_, _, hlen, hok, _⟩ := gchk_ok hchk
  rw [Int.toNat_natCast] at hok
  have hel := ps3_len hr
  rw [hel] at hlen
  have hbG := (Below.refl _ w).alloc (Nat.le_refl _) (.cells #[.int .i64 (n : Int), .slice A len cap] 27)
  have bG := Blk.new w 27 #[.int .i64 (n : Int), .slice A len cap]
  have HC := Lib.hid (check_any n A len cap (fullE n) _ (hr.later hbG) (by omega))
  rw [hchk] at HC
  obtain ⟨es, hes⟩ : ∃ es, fullE n = es := ⟨_, rfl⟩
  rw [hes] at hr hok hel
  have hesH := Lib.hid hes
  have hrH := Lib.hid hr; have hokH := Lib.hid hok; have helH := Lib.hid hel; have htbH := Lib.hid htb
  have c0 := bG.cell (j := 0) (v := .int .i64 (n : Int)) rfl
  have c1 := bG.cell (j := 1) (v := .slice A len cap) rfl
  have bGH := Lib.hid bG; have hbGH := Lib.hid hbG
  clear hr hok htb hel hchk hes bG hbG
  go_enter Tryd.func5, Tryd.ntmps5
  go_wp2_with fail
  refine HC.out.mono ?_
  rintro _ w1 ⟨rfl, hb1⟩
  have bG1 := bGH.out.below hb1 (by simp)
  have d0 := bG1.cell (j := 0) (v := .int .i64 (n : Int)) rfl
  have d1 := bG1.cell (j := 1) (v := .slice A len cap) rfl
  have hb1H := Lib.hid (hbGH.out.trans (hb1.mono (by simp)))
  have hs1 : w.heap.size + 1 ≤ w1.heap.size := by have := hb1.size; simp at this; omega
  have bG1H := Lib.hid bG1
  clear bG1 hb1 c0 c1 HC bGH hbGH
  obtain ⟨s0, hs0⟩ : ∃ s0, w1.heap.size = s0 := ⟨_, rfl⟩
  have hs01 : w.heap.size + 1 ≤ s0 := by omega
  go_wp2_with (at_make; refine wpList_mk1 _ tiM2 s0 n (by omega) (by omega) (by omega) rfl rfl rfl rfl rfl rfl rfl ?_)
  intro w2 hown2 hg2
  have bG2 := bG1H.out.kept hg2 (by simp)
  have hb2 := Lib.hid (show Below s0 w1 w2 from hs0 ▸ below_grown hg2)
  have hM2 := Lib.hid (Mat.start (r := fun _ => 0) (F := fun _ _ => 0) (show w2.ownsRow s0 38 1 (.slice (some ⟨s0, 0, none⟩) n n) n (List.replicate n (.slice none 0 0)) from by first | exact hown2 | (rw [hs0] at hown2; exact hown2)))
  clear hown2 hg2 d0 d1
  have bG2H := Lib.hid bG2
  clear bG2
  go_wp2
  go_loopw [7, 25] (fun _ iv wr => ∃ (i : Nat) (r : Nat → Nat), i ≤ n ∧ iv = .int .i64 i ∧ Mat wr s0 n s0 r i (fun _ _ => 0) ∧ Below s0 w1 wr) (fun _ iv _ => n - (intOf iv).toNat)
  case atStart => exact ⟨0, _, by omega, rfl, hM2.out, hb2.out⟩
  case round =>
    clear hM2 hb2 bG2H
    obtain ⟨i, r1, hi, rfl, hM, hb⟩ := hrel
    obtain ⟨w3, rfl⟩ : ∃ w3 : World, w3 = wr := ⟨_, rfl⟩
    have hMH := Lib.hid hM; have hbH := Lib.hid hb
    have hsz3 := hb.size
    by_cases hin : i < n
    · have hnil := hM.outNil hin
      have hgl := hM.glt
      clear hM hb
      go_wp2_with (at_make; refine wpList_mk1 _ tiM1 s0 n (by omega) (by omega) (by omega) rfl rfl rfl rfl rfl rfl rfl ?_)
      intro w4 hown4 hg4
      rw [row_replicate] at hown4
      have hM4 := hMH.out.grown hg4 (by simp) (fun _ _ => by simp)
      have hnil4 := hM4.outNil hin
      have hfr4 := hM4.ofrz i
      have hM5 := Lib.hid ((hMH.out.more hin hg4 (Nat.le_refl _) hown4).congr (F' := fun _ _ => 0) (fun a b ha hb => by simp))
      have hb5 := Lib.hid (((hbH.out.grown hg4 (by omega) (fun r e => by cases e)).setCell (p := ⟨s0, i, none⟩) (Nat.le_refl _) (.slice (some ⟨w3.heap.size, 0, none⟩) n n)))
      clear hM4 hown4 hg4 hMH hbH hnil
      go_wp2
      go_roundw
      case rel => exact ⟨i + 1, _, by omega, by go_num, hM5.out, hb5.out⟩
      case measure => simp [intOf]; omega
    · obtain rfl : i = n := by omega
      have bG3 := bG1H.out.below hb (by omega)
      have d1 := bG3.cell (j := 1) (v := .slice A len cap) rfl
      have hM0 := Lib.hid (hM.congr (F' := fun a b => (cntE (es.take 0) a b : Int)) (fun a b _ _ => by simp [cntE]))
      clear hM hb bG3
      go_wp2
      go_loopw [9, 37] (fun _ kv wr => ∃ k : Nat, k ≤ len ∧ kv = .int .i64 k ∧ Mat wr s0 i s0 r1 i (fun a b => (cntE (es.take k) a b : Int)) ∧ Below s0 w1 wr) (fun _ kv _ => len - (intOf kv).toNat)
      case atStart => exact ⟨0, by omega, rfl, hM0.out, hbH.out⟩
      case round =>
        clear hM0 hbH hMH d1
        obtain ⟨k, hk, rfl, hM, hb⟩ := hrel
        obtain ⟨w5, rfl⟩ : ∃ w5 : World, w5 = wr := ⟨_, rfl⟩
        have hb0 := hb1H.out.trans (hb.mono (by omega))
        have hsz5 : s0 ≤ w5.heap.size := by have := hb.size; omega
        by_cases hlt : k < len
        · obtain ⟨bb, oo, rfl, hab, hc1, hc2, hc3⟩ := (hrH.out.later hb0).triple hlt
          have hke : k < es.length := by rw [helH.out]; exact hlt
          obtain ⟨x, y, hx, hy, hxN, hyN, hne⟩ := hokH.out (es.getD k (0, 0, 0)) (by simp [List.getD, hke])
          have hcn := Lib.hid (fun a b => cntE_next hke hx hy a b)
          have hcl := cntE_le (es.take k) x y
          have hcl2 := cntE_le (es.take k) y x
          rw [List.length_take] at hcl hcl2
          rw [hx] at hc1
          rw [hy] at hc2
          generalize (es.getD k (0, 0, 0)).2.2 = c at *
          clear hx hy hke hb0
          have hMa := hM.alloc (.cells #[.int .i64 (x : Int), .int .i64 (y : Int), .int .i64 c] 40)
          have hba := hb.alloc hsz5 (.cells #[.int .i64 (x : Int), .int .i64 (y : Int), .int .i64 c] 40)
          have bE := Blk.new w5 40 #[.int .i64 (x : Int), .int .i64 (y : Int), .int .i64 c]
          have e0 := bE.cell (j := 0) (v := .int .i64 (x : Int)) rfl
          have e1 := bE.cell (j := 1) (v := .int .i64 (y : Int)) rfl
          have m1 := hMa.out hxN
          have m2 := hMa.cell hxN hyN
          have m3 := hMa.frz hxN y
          have hrx := hM.rlt hxN
          have hry := hM.rlt hyN
          have hxi : (x : Int) < i := by omega
          have hyi : (y : Int) < i := by omega
          have hbE := Lib.hid bE
          clear hM hb bE
          obtain ⟨p1, hp1⟩ : ∃ p, cntE (es.take k) x y = p := ⟨_, rfl⟩
          obtain ⟨p2, hp2⟩ : ∃ p, cntE (es.take k) y x = p := ⟨_, rfl⟩
          rw [hp1] at m2 hcl
          rw [hp2] at hcl2
          have hp1H := Lib.hid hp1; have hp2H := Lib.hid hp2
          clear hp1 hp2
          have hw1 : IntKind.i64.wrap ((p1 : Int) + 1) = (p1 : Int) + 1 := IntWalk.i64_in _ (by omega)
          have hw2 : IntKind.i64.wrap ((p2 : Int) + 1) = (p2 : Int) + 1 := IntWalk.i64_in _ (by omega)
          have hMaH := Lib.hid hMa; have hbaH := Lib.hid hba
          clear hMa hba
          go_wp2
          generalize w5.alloc (.cells #[.int .i64 (x : Int), .int .i64 (y : Int), .int .i64 c] 40) = w6 at *
          go_region
          clear m1 m2 m3 e0 e1
          go_wp2
          have hM8 := (hMaH.out.set hxN y ((p1 : Int) + 1)).drew
          have hb8 := (hbaH.out.setCell (p := ⟨r1 x, y, none⟩) hrx.1 (.int .i64 ((p1 : Int) + 1))).drew
          have bE8 : Blk (w6.setCell ⟨r1 x, y, none⟩ (.int .i64 ((p1 : Int) + 1))).drew w5.heap.size 40 #[.int .i64 (x : Int), .int .i64 (y : Int), .int .i64 c] := hbE.out.other (a := ⟨r1 x, y, none⟩) (by simp; omega) _
          have hM9 := hM8.congr (F' := fun a b => if a = x ∧ b = y then (p1 : Int) + 1 else (cntE (es.take k) a b : Int)) (fun _ _ _ _ => rfl)
          clear hM8 hMaH hbaH hbE
          generalize (w6.setCell ⟨r1 x, y, none⟩ (.int .i64 ((p1 : Int) + 1))).drew = w7 at *
          have e0 := bE8.cell (j := 0) (v := .int .i64 (x : Int)) rfl
          have e1 := bE8.cell (j := 1) (v := .int .i64 (y : Int)) rfl
          have n1 := hM9.out hyN
          have n2 := hM9.cell hyN hxN
          have n3 := hM9.frz hyN x
          rw [if_neg (by omega), hp2H.out] at n2
          have hM10 := Lib.hid (((hM9.set hyN x ((p2 : Int) + 1)).congr (F' := fun a b => (cntE (es.take (k + 1)) a b : Int)) (fun a b _ _ => by
            rw [hcn.out]
            by_cases h1 : a = y ∧ b = x
            · rw [if_pos h1, h1.1, h1.2, if_pos (.inr ⟨rfl, rfl⟩), hp2H.out]; omega
            · rw [if_neg h1]
              by_cases h2 : a = x ∧ b = y
              · rw [if_pos h2, h2.1, h2.2, if_pos (.inl ⟨rfl, rfl⟩), hp1H.out]; omega
              · rw [if_neg h2, if_neg (by omega)]; omega)).drew)
          have hb10 := Lib.hid ((hb8.setCell (p := ⟨r1 y, x, none⟩) hry.1 (.int .i64 ((p2 : Int) + 1))).drew)
          clear hM9 hb8 bE8
          go_region
          go_wp2
          go_roundw
          case rel => exact ⟨k + 1, by omega, by go_num, hM10.out, hb10.out⟩
          case measure => simp [intOf]; omega
        · obtain rfl : k = len := by omega
          have htk : es.take k = es := List.take_of_length_le (by rw [helH.out]; exact Nat.le_refl _)
          rw [htk] at hM
          have hMK := Lib.hid (hM.congr (F' := Kn) (fun a b ha hb => by
            rw [← hesH.out, full_cnt h2 h10 ha hb]; unfold Kn; split <;> rfl))
          have bG5 := bG1H.out.below hb (by omega)
          have g0 := bG5.cell (j := 0) (v := .int .i64 (i : Int)) rfl
          have g1 := bG5.cell (j := 1) (v := .slice A k cap) rfl
          have HN := Lib.hid (near_any i A k cap es w5 (hrH.out.later hb0) h10 (by omega) hokH.out)
          have hb5H := Lib.hid hb0
          clear hM hb bG5 htk hb0
          go_wp2_with fail
          refine HN.out.mono ?_
          rintro _ w6 ⟨gn, rfl, hnear, hb6⟩
          have hM6 := Lib.hid (hMK.out.below hb6 (Nat.le_refl _))
          have hb6H := Lib.hid (hb5H.out.trans (hb6.mono hb5H.out.size))
          have hRn := Lib.hid (Rd.of_own hnear)
          have htb6 := Lib.hid (htbH.out.below hg hb6H.out)
          have hs6 := hb6.size
          clear hnear hb6 HN hMK g0 g1
          obtain ⟨S, hS⟩ : ∃ S, 2 ^ i = S := ⟨_, rfl⟩
          have hS1 : 4 ≤ S := by rw [← hS]; exact (Nat.pow_le_pow_right (by omega) h2 : 2 ^ 2 ≤ 2 ^ i)
          have hS8 : S ≤ 1024 := by rw [← hS]; exact (Nat.pow_le_pow_right (by omega) h10 : 2 ^ i ≤ 2 ^ 10)
          have hone : (2 : Int) ^ i % 4294967296 = (S : Int) := by rw [two_pow_u32 i (by omega), hS]
          have hone3 : ((S : Int) - 1) % 4294967296 = ((S - 1 : Nat) : Int) := by omega
          have hone2 : ((2 : Int) ^ i - 1) % 4294967296 = ((S - 1 : Nat) : Int) := by
            have e : (2 : Int) ^ i = ((2 ^ i : Nat) : Int) := by simp
            rw [e, hS]; omega
          have hSH := Lib.hid hS
          clear hS
          go_wp2
          go_loopw [11, 12, 13] (fun pv lv _ wr => (lv = .int .u32 ((S - 1 : Nat) : Int) ∧ pv = .int .i64 1 ∧ wr = w6) ∨ (lv = .int .u32 0 ∧ pv = .int .i64 ((i : Int) ^ (i - 2)) ∧ Below w6.heap.size w6 wr)) (fun _ lv _ _ => (intOf lv).toNat)
          case atStart => exact .inl ⟨by congr 1; omega, rfl, rfl⟩
          case round =>
            rcases hrel with ⟨rfl, rfl, rfl⟩ | ⟨rfl, rfl, hb7⟩
            · have hne : (((S - 1 : Nat) : Int) != 0) = true := bne_iff_ne.2 (by omega)
              clear hone hone2 hone3
              obtain ⟨hlow, hlow2⟩ := low_full h2 h10 hSH.out
              have HSp := Lib.hid (spread_any (some ⟨gn, 0, none⟩) i i (nearW i es) 1 (S - 1) wr hRn.out h10 (by rw [← hesH.out]; exact (nearGr (full_chk h2 h10)).lt) (by rw [hSH.out]; omega) (by omega) htb6.out (by omega))
              have hfs := Lib.hid (fun R (h : IsSpread (nearW i es) (S - 1) 1 R) => show R = S - 1 from by
                rw [← hesH.out, ← hSH.out] at h
                rw [full_spread h2 h10 h, hSH.out])
              have hbf := Lib.hid (show bitsL (S - 1) = List.range i by rw [← hSH.out]; exact bits_full h10)
              have hpw := Lib.hid (show rngB ((i : Int) ^ (i - 2)) = true from by
                have := List.all_eq_true.1 last_end i (List.mem_range.2 (by omega))
                rw [decide_eq_false (by omega)] at this
                simp only [Bool.false_or, Bool.and_eq_true, beq_iff_eq] at this
                rw [← this.1]; exact this.2)
              go_wp2_with fail
              refine HSp.out.mono ?_
              rintro _ w7 ⟨⟨R, rfl, _, hsp⟩, hb7⟩
              obtain rfl := hfs.out R hsp
              have hM7 := hM6.out.below hb7 (Nat.le_refl _)
              have htb7 := htb6.out.below (by omega) hb7
              have hs7 := hb7.size
              have hb8 : Below wr.heap.size wr (w7.alloc (.cells #[.int .u32 ((S - 1 : Nat) : Int)] 43)) := hb7.alloc hs7 _
              have hb8H := Lib.hid hb8
              have HCo := Lib.hid (collect_any w7.heap.size (S - 1) (w7.alloc (.cells #[.int .u32 ((S - 1 : Nat) : Int)] 43)) (by omega) (Boxed.new w7 43 _) (htb6.out.below (by omega) hb8) (by omega))
              rw [hbf.out] at HCo
              have hM7H := Lib.hid hM7
              have HE := Lib.hid (each_any (S - 1) w7)
              clear hb7 hM7 htb7 hb8 hsp HSp
              go_wp2_with fail
              refine HE.out.mono ?_
              rintro _ w8 ⟨rfl, rfl⟩
              go_wp2_with fail
              refine HCo.out.mono ?_
              rintro _ w9 ⟨v9, rfl, own9, hb9⟩
              obtain ⟨A9, c9, rfl⟩ := own_slice own9
              have hb79 : Below w7.heap.size w7 w9 := ((Below.refl _ w7).alloc (Nat.le_refl _) _).trans hb9
              have hM9 := hM7H.out.below hb79 (Nat.le_refl _)
              have hb9f := Lib.hid (show Below wr.heap.size wr w9 from (hb8H.out.mono (Nat.le_refl _)).trans (hb9.mono hs7))
              rw [List.length_range] at own9
              have HT := Lib.hid (trees_full i h2 h10 s0 s0 r1 A9 c9 w9 hM9 (Rd.of_own own9))
              have hs9 : wr.heap.size ≤ w9.heap.size := by have := hb9f.out.size; exact this
              clear hb79 hM9 own9 hb9 HCo HE
              go_wp2_with fail
              refine HT.out.mono ?_
              rintro _ w10 ⟨rfl, hb10⟩
              have hfin := Lib.hid (hb9f.out.trans (hb10.mono hs9))
              have hwp := wrap_of hpw.out
              obtain ⟨P, hP⟩ : ∃ P, (i : Int) ^ (i - 2) = P := ⟨_, rfl⟩
              rw [hP] at hwp ⊢
              have hPH := Lib.hid hP
              clear hb10 HT hP hpw
              go_wp2
              go_roundw
              case rel => exact .inr ⟨rfl, by rw [hPH.out], hfin.out⟩
              case measure => simp [intOf]; omega
            · have hfin := Lib.hid (hb6H.out.trans (hb7.mono hb6H.out.size))
              clear hb7
              go_wp2
              go_ret2
              exact ⟨rfl, hfin.out⟩
end Go.Proofs.YtnkmfnnkophccaaDoor
