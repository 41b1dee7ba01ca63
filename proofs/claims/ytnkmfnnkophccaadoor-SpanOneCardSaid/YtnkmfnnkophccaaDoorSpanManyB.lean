/- span.Many, of any graph. -/
import Derived.Test.YtnkmfnnkophccaaDoorPartW
import Derived.Test.YtnkmfnnkophccaaDoorSpread
import Derived.Test.YtnkmfnnkophccaaDoorCollectB
import Derived.Test.YtnkmfnnkophccaaDoorGood
import Derived.Test.YtnkmfnnkophccaaDoorBlk
namespace Go.Proofs.YtnkmfnnkophccaaDoor
open Go.RowKit

theorem cntE_next {es : List E} {k : Nat} (hk : k < es.length) {x y : Nat} (hx : (es.getD k (0, 0, 0)).1 = (x : Int)) (hy : (es.getD k (0, 0, 0)).2.1 = (y : Int)) (a b : Nat) :
    cntE (es.take (k + 1)) a b = cntE (es.take k) a b + if (a = x ∧ b = y) ∨ (a = y ∧ b = x) then 1 else 0 := by
  unfold cntE
  rw [take_succ_getD' es (0, 0, 0) k hk, List.countP_append, List.countP_cons, List.countP_nil, hx, hy, Nat.zero_add]
  congr 1
  have : (((x : Int) == (a : Int) && (y : Int) == (b : Int)) || ((x : Int) == (b : Int) && (y : Int) == (a : Int))) = decide ((a = x ∧ b = y) ∨ (a = y ∧ b = x)) := by
    rw [Bool.eq_iff_iff]
    simp only [Bool.or_eq_true, Bool.and_eq_true, beq_iff_eq, decide_eq_true_eq]
    omega
  rw [this]
  by_cases h : (a = x ∧ b = y) ∨ (a = y ∧ b = x)
  · rw [if_pos h, decide_eq_true h]; rfl
  · rw [if_neg h, decide_eq_false h]; rfl
theorem cntE_le (es : List E) (a b : Nat) : cntE es a b ≤ es.length := List.countP_le_length
set_option maxHeartbeats 3200000 in
set_option maxRecDepth 100000 in
theorem many_good (n : Nat) (A : Option Addr) (len cap : Nat) (es : List E) (w : World) (hr : Rd w A len 3 (ps3 .i64 .i64 .i64 es)) (hchk : gchk n es = 0) (htb : Tb w) (hg : 0 < w.heap.size) :
    Calls Tryd.prog 5 #[.agg #[.int .i64 (n : Int), .slice A len cap]] w fun e w' => e = .returned (.tuple #[.int .i64 (prodT n es n), .int .i64 0]) ∧ Below w.heap.size w w' := by
  obtain ⟨_, h10, hlen, hok, _⟩ := gchk_ok hchk
  rw [Int.toNat_natCast] at hok
  have h10 : n ≤ 10 := by omega
  have hel := ps3_len hr
  rw [hel] at hlen
  have hbG := (Below.refl _ w).alloc (Nat.le_refl _) (.cells #[.int .i64 (n : Int), .slice A len cap] 27)
  have bG := Blk.new w 27 #[.int .i64 (n : Int), .slice A len cap]
  have HC := Lib.hid (check_any n A len cap es _ (hr.later hbG) (by omega))
  rw [hchk] at HC
  have hchkH := Lib.hid hchk
  have hrH := Lib.hid hr; have hokH := Lib.hid hok; have helH := Lib.hid hel; have htbH := Lib.hid htb
  have c0 := bG.cell (j := 0) (v := .int .i64 (n : Int)) rfl
  have c1 := bG.cell (j := 1) (v := .slice A len cap) rfl
  have bGH := Lib.hid bG; have hbGH := Lib.hid hbG
  clear hr hok htb hel hchk bG hbG
  go_enter Tryd.func5, Tryd.ntmps5
  go_wp2_with fail
  refine HC.out.mono ?_
  rintro _ w1 ⟨rfl, hb1⟩
  have bG1 := bGH.out.below hb1 (by simp)
  have d0 := bG1.cell (j := 0) (v := .int .i64 (n : Int)) rfl
  have d1 := bG1.cell (j := 1) (v := .slice A len cap) rfl
  have hb1H := Lib.hid (hbGH.out.trans (hb1.mono (by simp)))
  have hs1 : w.heap.size + 1 ≤ w1.heap.size := by have := hb1.size; simp at this; omega
  have bG1H := Lib.hid bG1
  clear bG1 hb1 c0 c1 HC bGH hbGH
  obtain ⟨s0, hs0⟩ : ∃ s0, w1.heap.size = s0 := ⟨_, rfl⟩
  have hs01 : w.heap.size + 1 ≤ s0 := by omega
  go_wp2_with (at_make; refine wpList_mk1 _ tiM2 s0 n (by omega) (by omega) (by omega) rfl rfl rfl rfl rfl rfl rfl ?_)
  intro w2 hown2 hg2
  have bG2 := bG1H.out.kept hg2 (by simp)
  have hb2 := Lib.hid (show Below s0 w1 w2 from hs0 ▸ below_grown hg2)
  have hM2 := Lib.hid (Mat.start (r := fun _ => 0) (F := fun _ _ => 0) (show w2.ownsRow s0 38 1 (.slice (some ⟨s0, 0, none⟩) n n) n (List.replicate n (.slice none 0 0)) from by first | exact hown2 | (rw [hs0] at hown2; exact hown2)))
  clear hown2 hg2 d0 d1
  have bG2H := Lib.hid bG2
  clear bG2
  go_wp2
  go_loopw [7, 25] (fun _ iv wr => ∃ (i : Nat) (r : Nat → Nat), i ≤ n ∧ iv = .int .i64 i ∧ Mat wr s0 n s0 r i (fun _ _ => 0) ∧ Below s0 w1 wr) (fun _ iv _ => n - (intOf iv).toNat)
  case atStart => exact ⟨0, _, by omega, rfl, hM2.out, hb2.out⟩
  case round =>
    clear hM2 hb2 bG2H
    obtain ⟨i, r1, hi, rfl, hM, hb⟩ := hrel
    obtain ⟨w3, rfl⟩ : ∃ w3 : World, w3 = wr := ⟨_, rfl⟩
    have hMH := Lib.hid hM; have hbH := Lib.hid hb
    have hsz3 := hb.size
    by_cases hin : i < n
    · have hnil := hM.outNil hin
      have hgl := hM.glt
      clear hM hb
      go_wp2_with (at_make; refine wpList_mk1 _ tiM1 s0 n (by omega) (by omega) (by omega) rfl rfl rfl rfl rfl rfl rfl ?_)
      intro w4 hown4 hg4
      rw [row_replicate] at hown4
      have hM4 := hMH.out.grown hg4 (by simp) (fun _ _ => by simp)
      have hnil4 := hM4.outNil hin
      have hfr4 := hM4.ofrz i
      have hM5 := Lib.hid ((hMH.out.more hin hg4 (Nat.le_refl _) hown4).congr (F' := fun _ _ => 0) (fun a b ha hb => by simp))
      have hb5 := Lib.hid (((hbH.out.grown hg4 (by omega) (fun r e => by cases e)).setCell (p := ⟨s0, i, none⟩) (Nat.le_refl _) (.slice (some ⟨w3.heap.size, 0, none⟩) n n)))
      clear hM4 hown4 hg4 hMH hbH hnil
      go_wp2
      go_roundw
      case rel => exact ⟨i + 1, _, by omega, by go_num, hM5.out, hb5.out⟩
      case measure => simp [intOf]; omega
    · obtain rfl : i = n := by omega
      have bG3 := bG1H.out.below hb (by omega)
      have d1 := bG3.cell (j := 1) (v := .slice A len cap) rfl
      have hM0 := Lib.hid (hM.congr (F' := fun a b => (cntE (es.take 0) a b : Int)) (fun a b _ _ => by simp [cntE]))
      clear hM hb bG3
      go_wp2
      go_loopw [9, 37] (fun _ kv wr => ∃ k : Nat, k ≤ len ∧ kv = .int .i64 k ∧ Mat wr s0 i s0 r1 i (fun a b => (cntE (es.take k) a b : Int)) ∧ Below s0 w1 wr) (fun _ kv _ => len - (intOf kv).toNat)
      case atStart => exact ⟨0, by omega, rfl, hM0.out, hbH.out⟩
      case round =>
        clear hM0 hbH hMH d1
        obtain ⟨k, hk, rfl, hM, hb⟩ := hrel
        obtain ⟨w5, rfl⟩ : ∃ w5 : World, w5 = wr := ⟨_, rfl⟩
        have hb0 := hb1H.out.trans (hb.mono (by omega))
        have hsz5 : s0 ≤ w5.heap.size := by have := hb.size; omega
        by_cases hlt : k < len
        · obtain ⟨bb, oo, rfl, hab, hc1, hc2, hc3⟩ := (hrH.out.later hb0).triple hlt
          have hke : k < es.length := by rw [helH.out]; exact hlt
          obtain ⟨x, y, hx, hy, hxN, hyN, hne⟩ := hokH.out (es.getD k (0, 0, 0)) (by simp [List.getD, hke])
          have hcn := Lib.hid (fun a b => cntE_next hke hx hy a b)
          have hcl := cntE_le (es.take k) x y
          have hcl2 := cntE_le (es.take k) y x
          rw [List.length_take] at hcl hcl2
          rw [hx] at hc1
          rw [hy] at hc2
          generalize (es.getD k (0, 0, 0)).2.2 = c at *
          clear hx hy hke hb0
          have hMa := hM.alloc (.cells #[.int .i64 (x : Int), .int .i64 (y : Int), .int .i64 c] 40)
          have hba := hb.alloc hsz5 (.cells #[.int .i64 (x : Int), .int .i64 (y : Int), .int .i64 c] 40)
          have bE := Blk.new w5 40 #[.int .i64 (x : Int), .int .i64 (y : Int), .int .i64 c]
          have e0 := bE.cell (j := 0) (v := .int .i64 (x : Int)) rfl
          have e1 := bE.cell (j := 1) (v := .int .i64 (y : Int)) rfl
          have m1 := hMa.out hxN
          have m2 := hMa.cell hxN hyN
          have m3 := hMa.frz hxN y
          have hrx := hM.rlt hxN
          have hry := hM.rlt hyN
          have hxi : (x : Int) < i := by omega
          have hyi : (y : Int) < i := by omega
          have hbE := Lib.hid bE
          clear hM hb bE
          obtain ⟨p1, hp1⟩ : ∃ p, cntE (es.take k) x y = p := ⟨_, rfl⟩
          obtain ⟨p2, hp2⟩ : ∃ p, cntE (es.take k) y x = p := ⟨_, rfl⟩
          rw [hp1] at m2 hcl
          rw [hp2] at hcl2
          have hp1H := Lib.hid hp1; have hp2H := Lib.hid hp2
          clear hp1 hp2
          have hw1 : IntKind.i64.wrap ((p1 : Int) + 1) = (p1 : Int) + 1 := IntWalk.i64_in _ (by omega)
          have hw2 : IntKind.i64.wrap ((p2 : Int) + 1) = (p2 : Int) + 1 := IntWalk.i64_in _ (by omega)
          have hMaH := Lib.hid hMa; have hbaH := Lib.hid hba
          clear hMa hba
          go_wp2
          generalize w5.alloc (.cells #[.int .i64 (x : Int), .int .i64 (y : Int), .int .i64 c] 40) = w6 at *
          go_region
          clear m1 m2 m3 e0 e1
          go_wp2
          have hM8 := (hMaH.out.set hxN y ((p1 : Int) + 1)).drew
          have hb8 := (hbaH.out.setCell (p := ⟨r1 x, y, none⟩) hrx.1 (.int .i64 ((p1 : Int) + 1))).drew
          have bE8 : Blk (w6.setCell ⟨r1 x, y, none⟩ (.int .i64 ((p1 : Int) + 1))).drew w5.heap.size 40 #[.int .i64 (x : Int), .int .i64 (y : Int), .int .i64 c] := hbE.out.other (a := ⟨r1 x, y, none⟩) (by simp; omega) _
          have hM9 := hM8.congr (F' := fun a b => if a = x ∧ b = y then (p1 : Int) + 1 else (cntE (es.take k) a b : Int)) (fun _ _ _ _ => rfl)
          clear hM8 hMaH hbaH hbE
          generalize (w6.setCell ⟨r1 x, y, none⟩ (.int .i64 ((p1 : Int) + 1))).drew = w7 at *
          have e0 := bE8.cell (j := 0) (v := .int .i64 (x : Int)) rfl
          have e1 := bE8.cell (j := 1) (v := .int .i64 (y : Int)) rfl
          have n1 := hM9.out hyN
          have n2 := hM9.cell hyN hxN
          have n3 := hM9.frz hyN x
          rw [if_neg (by omega), hp2H.out] at n2
          have hM10 := Lib.hid (((hM9.set hyN x ((p2 : Int) + 1)).congr (F' := fun a b => (cntE (es.take (k + 1)) a b : Int)) (fun a b _ _ => by
            rw [hcn.out]
            by_cases h1 : a = y ∧ b = x
            · rw [if_pos h1, h1.1, h1.2, if_pos (.inr ⟨rfl, rfl⟩), hp2H.out]; omega
            · rw [if_neg h1]
              by_cases h2 : a = x ∧ b = y
              · rw [if_pos h2, h2.1, h2.2, if_pos (.inl ⟨rfl, rfl⟩), hp1H.out]; omega
              · rw [if_neg h2, if_neg (by omega)]; omega)).drew)
          have hb10 := Lib.hid ((hb8.setCell (p := ⟨r1 y, x, none⟩) hry.1 (.int .i64 ((p2 : Int) + 1))).drew)
          clear hM9 hb8 bE8
          go_region
          go_wp2
          go_roundw
          case rel => exact ⟨k + 1, by omega, by go_num, hM10.out, hb10.out⟩
          case measure => simp [intOf]; omega
        · obtain rfl : k = len := by omega
          have htk : es.take k = es := List.take_of_length_le (by rw [helH.out]; exact Nat.le_refl _)
          rw [htk] at hM
          have hMK := Lib.hid hM
          have bG5 := bG1H.out.below hb (by omega)
          have g0 := bG5.cell (j := 0) (v := .int .i64 (i : Int)) rfl
          have g1 := bG5.cell (j := 1) (v := .slice A k cap) rfl
          have HN := Lib.hid (near_any i A k cap es w5 (hrH.out.later hb0) h10 (by omega) hokH.out)
          have hb5H := Lib.hid hb0
          clear hM hb bG5 htk hb0
          go_wp2_with fail
          refine HN.out.mono ?_
          rintro _ w6 ⟨gn, rfl, hnear, hb6⟩
          have hM6 := Lib.hid (hMK.out.below hb6 (Nat.le_refl _))
          have hb6H := Lib.hid (hb5H.out.trans (hb6.mono hb5H.out.size))
          have hRn := Lib.hid (Rd.of_own hnear)
          have htb6 := Lib.hid (htbH.out.below hg hb6H.out)
          have hs6 := hb6.size
          clear hnear hb6 HN hMK g0 g1
          obtain ⟨S, hS⟩ : ∃ S, 2 ^ i = S := ⟨_, rfl⟩
          have hS1 : 1 ≤ S := by rw [← hS]; exact Nat.one_le_two_pow
          have hS8 : S ≤ 1024 := by rw [← hS]; exact (Nat.pow_le_pow_right (by omega) h10 : 2 ^ i ≤ 2 ^ 10)
          have hone : (2 : Int) ^ i % 4294967296 = (S : Int) := by rw [two_pow_u32 i (by omega), hS]
          have hone3 : ((S : Int) - 1) % 4294967296 = ((S - 1 : Nat) : Int) := by omega
          have hone2 : ((2 : Int) ^ i - 1) % 4294967296 = ((S - 1 : Nat) : Int) := by
            have e : (2 : Int) ^ i = ((2 ^ i : Nat) : Int) := by simp
            rw [e, hS]; omega
          have hSH := Lib.hid hS
          clear hS
          go_wp2
          go_loopw [11, 12, 13] (fun pv lv _ wr => ∃ q L : Nat, q ≤ i ∧ LW i es q L ∧ lv = .int .u32 (L : Int) ∧ pv = .int .i64 (prodT i es q) ∧ Below w6.heap.size w6 wr) (fun _ lv _ _ => (intOf lv).toNat)
          case atStart => exact ⟨0, S - 1, by omega, by rw [← hSH.out]; exact LW.start, by congr 1; omega, rfl, Below.refl _ _⟩
          case round =>
            obtain ⟨q, L, hq, hL, rfl, rfl, hb7⟩ := hrel
            obtain ⟨wq, rfl⟩ : ∃ wq : World, wq = wr := ⟨_, rfl⟩
            clear hone hone2 hone3
            by_cases hL0 : L = 0
            · have hne : ((L : Int) != 0) = false := by subst hL0; rfl
              have hpN := Lib.hid (show prodT i es q = prodT i es i by subst hL0; exact hL.none hq)
              have hfin := Lib.hid (hb6H.out.trans (hb7.mono hb6H.out.size))
              clear hb7 hL
              go_wp2
              go_ret2
              exact ⟨by rw [hpN.out]; rfl, hfin.out⟩
            · have hne : ((L : Int) != 0) = true := bne_iff_ne.2 (by omega)
              have hLi := hL.lt
              obtain ⟨m, hmi, hmr, hqm, hpq, hlow, hres⟩ := part_step hchkH.out hL hL0
              have hp10 : 2 ^ i ≤ 2 ^ 10 := Nat.pow_le_pow_right (by omega) h10
              have hpm : 2 ^ m < 2 ^ i := Nat.pow_lt_pow_right (by omega) hmi
              have hsq := hb7.size
              have HSp := Lib.hid (spread_any (some ⟨gn, 0, none⟩) i i (nearW i es) (2 ^ m) L wq (hRn.out.later hb7) h10 (nearGr hchkH.out).lt hpm (by omega) (htb6.out.below (by omega) hb7) (by omega))
              obtain ⟨p, hp⟩ : ∃ p, 2 ^ m = p := ⟨_, rfl⟩
              rw [hp] at hlow HSp hres
              have hresH := Lib.hid hres
              have hpqH := Lib.hid hpq
              have hb7H := Lib.hid hb7
              clear hres hL hpm hp10 hp hLi hb7 hpq
              go_wp2_with fail
              refine HSp.out.mono ?_
              rintro _ w7 ⟨⟨R, rfl, hRi, hsp⟩, hb8⟩
              obtain ⟨hbR, L', hL', hlt', hLW⟩ := hresH.out R hsp
              have hR10 : 2 ^ i ≤ 2 ^ 10 := Nat.pow_le_pow_right (by omega) h10
              have hR32 : R < 4294967296 := by omega
              have hs8 := hb8.size
              have hb7f := hb7H.out.trans (hb8.mono hsq)
              have htb7 := htb6.out.below (by omega) hb7f
              have hM7 := hM6.out.below hb7f (Nat.le_refl _)
              have hM7H := Lib.hid hM7
              have hb9 : Below w6.heap.size w6 (w7.alloc (.cells #[.int .u32 (R : Int)] 43)) := hb7f.alloc (by omega) _
              have hb9H := Lib.hid hb9
              have HCo := Lib.hid (collect_any w7.heap.size R (w7.alloc (.cells #[.int .u32 (R : Int)] 43)) hR32 (Boxed.new w7 43 _) (htb6.out.below (by omega) hb9) (by omega))
              rw [hbR] at HCo
              have HE := Lib.hid (each_any R w7)
              have hLWH := Lib.hid hLW
              clear hR10 hRi hM7 htb7 hb7f hb9 hsp HSp hbR hLW hresH
              go_wp2_with fail
              refine HE.out.mono ?_
              rintro _ w8 ⟨rfl, rfl⟩
              go_wp2_with fail
              refine HCo.out.mono ?_
              rintro _ w9 ⟨v9, rfl, own9, hb10⟩
              obtain ⟨A9, c9, rfl⟩ := own_slice own9
              have hb79 : Below w6.heap.size w6 w9 := hb9H.out.trans (hb10.mono (by omega))
              have hM9 := hM6.out.below hb79 (Nat.le_refl _)
              have hb79H := Lib.hid hb79
              have hs9 : w6.heap.size ≤ w9.heap.size := hb79.size
              have hpl := pn_len (N := i) (es := es) (t := m)
              have hpp := pn_pos hmi hmr
              have HT := trees_walk i (pn i es m).length ((pn i es m).length - 1) (by omega) (by omega) (by omega) (lM i es m) (gr_part hokH.out hmi hmr).lo (gr_part hokH.out hmi hmr).hi _ _ (eh_part hokH.out h10 hmi hmr) (fun a b ha hb => by
                have e : Vt ((pn i es m).length - 1) (lapM ((pn i es m).length - 1) (lM i es m)) 0 a b = lapM ((pn i es m).length - 1) (lM i es m) a b := Ph_zero _ _ _ hb
                rw [e]
                unfold lapM
                rw [show (pn i es m).length - 1 + 1 = (pn i es m).length by omega]
                by_cases c : a = b
                · rw [if_pos c, if_pos c.symm, ← c, (gr_part hokH.out hmi hmr).self]; omega
                · rw [if_neg c, if_neg (Ne.symm c)]; omega) s0 s0 r1 A9 c9 (pn i es m) (fun x hx => (pn_at hx).1) _ (fun a b ha hb => cnt_lM (gchk_iff.1 hchkH.out).2 ha hb) w9 hM9 (Rd.of_own own9)
              obtain ⟨T, hT⟩ : ∃ x, tau i es m = x := ⟨_, rfl⟩
              rw [show Dt ((pn i es m).length - 1) (lapM ((pn i es m).length - 1) (lM i es m)) ((pn i es m).length - 1) = T from hT] at HT
              have HTH := Lib.hid HT
              have hpr := Lib.hid (show prodT i es q * T = prodT i es (m + 1) by rw [hpqH.out, prodT, if_pos hmr, hT])
              have hp1 := prodT_pos hokH.out h10 (m + 1) (by omega)
              have hp2 := prodT_small hokH.out h10 (t := m + 1) (by omega)
              have hwp : IntKind.i64.wrap (prodT i es q * T) = prodT i es (m + 1) := by rw [hpr.out]; exact IntWalk.i64_in _ (by omega)
              obtain ⟨X1, hX1⟩ : ∃ x, prodT i es q = x := ⟨_, rfl⟩
              obtain ⟨X2, hX2⟩ : ∃ x, prodT i es (m + 1) = x := ⟨_, rfl⟩
              rw [hX1, hX2] at hwp
              rw [hX1]
              have hX2H := Lib.hid hX2
              clear hb79 hM9 own9 hb10 HCo HE HT hT hp1 hp2 hpr hX1 hX2 hpl hpp
              go_wp2_with fail
              refine HTH.out.mono ?_
              rintro _ w10 ⟨rfl, hb11⟩
              have hfin := Lib.hid (hb79H.out.trans (hb11.mono hs9))
              clear hb11 HTH
              go_wp2
              go_roundw
              case rel => exact ⟨m + 1, L', by omega, hLWH.out, rfl, by rw [hX2H.out], hfin.out⟩
              case measure => simp [intOf]; omega
end Go.Proofs.YtnkmfnnkophccaaDoor
