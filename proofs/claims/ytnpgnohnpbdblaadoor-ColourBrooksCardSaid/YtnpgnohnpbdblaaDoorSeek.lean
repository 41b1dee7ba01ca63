/- The walk of crowd.seek, largest. -/
import Derived.Test.YtnpgnohnpbdblaaDoorSeekLaw
import Derived.Test.YtnpgnohnpbdblaaDoorLen32
import Derived.StillTailTactics
namespace Go.Proofs.YtnpgnohnpbdblaaDoor
open Go.RowKit

theorem Rd.under {w w' : World} {A : Option Addr} {n s B : Nat} {xs : List Value} (h : Rd w A n s xs) (hA : ∀ b o, A = some ⟨b, o, none⟩ → b < B) (hb : Below B w w') : Rd w' A n s xs := by
  refine ⟨h.1, fun hn => ?_⟩
  obtain ⟨b, o, rfl, hlt, hc⟩ := h.2 hn
  exact ⟨b, o, rfl, Nat.lt_of_lt_of_le hlt hb.size, fun j hj => (hb.cell (p := ⟨b, o + j, none⟩) (hA b o rfl)).trans (hc j hj)⟩
theorem high_bit : ∀ (k m : Nat), m < 2 ^ k → m ≠ 0 → ∃ i, i < k ∧ 2 ^ i ≤ m ∧ m < 2 ^ (i + 1)
  | 0, m, h, h0 => by omega
  | k + 1, m, h, h0 => by
    by_cases hk : 2 ^ k ≤ m
    · exact ⟨k, by omega, hk, h⟩
    · obtain ⟨i, h1, h2, h3⟩ := high_bit k m (by omega) h0
      exact ⟨i, by omega, h2, h3⟩
theorem tb_top {m i : Nat} (h1 : 2 ^ i ≤ m) (h2 : m < 2 ^ (i + 1)) : m.testBit i = true := by
  rw [Nat.testBit_eq_decide_div_mod_eq]
  have e : 2 ^ (i + 1) = 2 * 2 ^ i := by rw [Nat.pow_succ]; omega
  have : m / 2 ^ i = 1 := by
    apply Nat.div_eq_of_lt_le <;> omega
  rw [this]; rfl
theorem getD_lt1024' {l : List Nat} (h : ∀ x ∈ l, x < 1024) (i : Nat) : l.getD i 0 < 1024 := by
  by_cases hi : i < l.length
  · rw [List.getD, List.getElem?_eq_getElem hi]; exact h _ (List.getElem_mem _)
  · rw [List.getD, List.getElem?_eq_none (by omega)]; simp
/-- the searcher at block c: who may be with whom, and the best by now -/
structure Crw (w : World) (c : Nat) (A : Option Addr) (n cap : Nat) (L : List Nat) (b : Nat) : Prop where
  c0 : w.cell? ⟨c, 0, none⟩ = some (.slice A n cap)
  c1 : w.cell? ⟨c, 1, none⟩ = some (.int .u32 b)
  z1 : w.frozen? ⟨c, 1, none⟩ = false
  sz : c < w.heap.size
  rd : Rd w A n 1 (wds L)
  un : ∀ b o, A = some ⟨b, o, none⟩ → b < c
theorem Crw.drewN {w : World} {c : Nat} {A : Option Addr} {n cap : Nat} {L : List Nat} {b : Nat} (h : Crw w c A n cap L b) (k : Nat) : Crw (w.drewN k) c A n cap L b := ⟨h.c0, h.c1, h.z1, h.sz, h.rd, h.un⟩
theorem Crw.drew {w : World} {c : Nat} {A : Option Addr} {n cap : Nat} {L : List Nat} {b : Nat} (h : Crw w c A n cap L b) : Crw w.drew c A n cap L b := ⟨h.c0, h.c1, h.z1, h.sz, h.rd, h.un⟩
theorem Crw.set {w : World} {c : Nat} {A : Option Addr} {n cap : Nat} {L : List Nat} {b : Nat} (h : Crw w c A n cap L b) (b' : Nat) : Crw (w.setCell ⟨c, 1, none⟩ (.int .u32 b')) c A n cap L b' :=
  ⟨(World.cell?_setCell_other _ _ _ _ (by intro e; injection e with _ e; omega)).trans h.c0, World.cell?_setCell_same _ _ _ h.c1, by simpa using h.z1, by simpa using h.sz,
    h.rd.under (B := c) h.un ((Below.refl _ _).setCell (p := ⟨c, 1, none⟩) (Nat.le_refl c) _), h.un⟩
def SeekPost (c : Nat) (A : Option Addr) (n cap : Nat) (L : List Nat) (now may b : Nat) (w : World) (e : Ending) (w' : World) : Prop :=
  ∃ b', b' < 1024 ∧ e = .returned (.tuple #[]) ∧ Crw w' c A n cap L b' ∧ Seek L now may b b' ∧ Below c w w'
theorem ones_q1 (x : Nat) (hx : x < 1024) (W : World) (n : Nat) : Calls Tryd.prog 35 #[.int .u32 (x : Int)] (W.drewN n) fun e w'' => e = .returned (.int .i64 (popc 10 x : Nat)) ∧ ∃ m, w'' = W.drewN m :=
  Calls.quiet_of (ones_any x _ hx)
theorem ones_q2 (x : Nat) (hx : x < 1024) (W : World) (a n : Nat) : Calls Tryd.prog 35 #[.int .u32 (x : Int)] (W.drewN (a + n)) fun e w'' => e = .returned (.int .i64 (popc 10 x : Nat)) ∧ ∃ m, w'' = W.drewN (a + m) :=
  (ones_any x _ hx).mono fun _ _ ⟨he, m, hm⟩ => ⟨he, n + m, by rw [hm, World.drewN_drewN, Nat.add_assoc]⟩
theorem or_lt {a b : Nat} (ha : a < 1024) (hb : b < 1024) : a ||| b < 1024 := Nat.or_lt_two_pow (n := 10) ha hb
set_option maxHeartbeats 1600000 in
theorem seek_prune (c : Nat) (A : Option Addr) (N cap : Nat) (L : List Nat) (now may b : Nat) (w : World) (hm1 : may < 1024) (hn : now < 1024) (hb : b < 1024) (hc : Crw w c A N cap L b) (hpr : popc 10 (now ||| may) < popc 10 b) :
    Calls Tryd.prog 56 #[.pointer (some ⟨c, 0, none⟩), .int .u32 (now : Int), .int .u32 (may : Int)] w (SeekPost c A N cap L now may b w) := by
  have hor := u32_or_nat now may (by omega) (by omega)
  have hq1 := fun W n => Lib.hid (ones_q1 (now ||| may) (or_lt hn hm1) W n)
  have hq2 := fun W n => Lib.hid (ones_q1 b hb W n)
  have hz := Lib.hid (Seek.prune (L := L) hpr)
  have hp : ((popc 10 (now ||| may) : Nat) : Int) < (popc 10 b : Nat) := by omega
  have c0 := hc.c0
  have c1 := hc.c1
  have sz := hc.sz
  have hcH := Lib.hid hc
  clear hc hpr
  generalize popc 10 (now ||| may) = P at *
  generalize popc 10 b = Q at *
  go_enter Tryd.func56, Tryd.ntmps56
  go_wp2_with fail
  go_quiet ((go_at_call 35; first | (with_reducible exact (hq1 _ _).out) | (with_reducible exact (hq2 _ _).out)))
  go_wp2_with fail
  go_end0
  exact ⟨b, hb, rfl, hcH.out.drewN _, hz.out, below_drewN (Below.refl _ _) _⟩
set_option maxHeartbeats 3200000 in
set_option maxRecDepth 100000 in
theorem seek_leaf (c : Nat) (A : Option Addr) (N cap : Nat) (L : List Nat) (now b : Nat) (w : World) (hn : now < 1024) (hb : b < 1024) (hc : Crw w c A N cap L b) (hpr : ¬ popc 10 (now ||| 0) < popc 10 b) :
    Calls Tryd.prog 56 #[.pointer (some ⟨c, 0, none⟩), .int .u32 (now : Int), .int .u32 0] w (SeekPost c A N cap L now 0 b w) := by
  have hor : bits .or .u32 (now : Int) 0 = ((now : Nat) : Int) := by have := u32_or_nat now 0 (by omega) (by omega); simpa using this
  rw [Nat.or_zero] at hpr
  have hq1 := fun W n => Lib.hid (ones_q1 now hn W n)
  have hq2 := fun W n => Lib.hid (ones_q1 b hb W n)
  have hq3 := fun W a n => Lib.hid (ones_q2 now hn W a n)
  have hq4 := fun W a n => Lib.hid (ones_q2 b hb W a n)
  have hstay := Lib.hid (@Seek.stay L now b)
  have htake := Lib.hid (@Seek.take L now b)
  have c0 := hc.c0
  have c1 := hc.c1
  have z1 := hc.z1
  have sz := hc.sz
  have hcH := Lib.hid hc
  have hp : ((popc 10 b : Nat) : Int) ≤ (popc 10 now : Nat) := by omega
  clear hc hpr
  generalize popc 10 now = P at *
  generalize popc 10 b = Q at *
  by_cases h1 : (Q : Int) < P
  · have hz := Lib.hid (htake.out (by omega))
    go_enter Tryd.func56, Tryd.ntmps56
    go_wp2_with fail
    go_quiet ((go_at_call 35; first | (with_reducible exact (hq1 _ _).out) | (with_reducible exact (hq2 _ _).out)))
    go_wp2_with fail
    go_quiet ((go_at_call 35; first | (with_reducible exact (hq3 _ _ _).out) | (with_reducible exact (hq4 _ _ _).out)))
    go_wp2_with fail
    go_end0
    exact ⟨now, hn, rfl, (hcH.out.drewN _).set now, hz.out, (below_drewN (Below.refl _ _) _).setCell (p := ⟨c, 1, none⟩) (Nat.le_refl c) _⟩
  · have hPQ : (Q : Int) = P := by omega
    have hPQb : ((P : Int) == (Q : Int)) = true := by simp; omega
    by_cases h2 : (now : Int) < b
    · have hz := Lib.hid (htake.out (by omega))
      clear hPQ
      go_enter Tryd.func56, Tryd.ntmps56
      go_wp2_with fail
      go_quiet ((go_at_call 35; first | (with_reducible exact (hq1 _ _).out) | (with_reducible exact (hq2 _ _).out)))
      go_wp2_with fail
      go_quiet ((go_at_call 35; first | (with_reducible exact (hq3 _ _ _).out) | (with_reducible exact (hq4 _ _ _).out)))
      go_wp2_with fail
      go_end0
      exact ⟨now, hn, rfl, (hcH.out.drewN _).set now, hz.out, (below_drewN (Below.refl _ _) _).setCell (p := ⟨c, 1, none⟩) (Nat.le_refl c) _⟩
    · have hz := Lib.hid (hstay.out (by omega))
      have h2' : (b : Int) ≤ now := by omega
      clear hPQ h2
      go_enter Tryd.func56, Tryd.ntmps56
      go_wp2_with fail
      go_quiet ((go_at_call 35; first | (with_reducible exact (hq1 _ _).out) | (with_reducible exact (hq2 _ _).out)))
      go_wp2_with fail
      go_quiet ((go_at_call 35; first | (with_reducible exact (hq3 _ _ _).out) | (with_reducible exact (hq4 _ _ _).out)))
      go_wp2_with fail
      go_end0
      exact ⟨b, hb, rfl, hcH.out.drewN _, hz.out, below_drewN (Below.refl _ _) _⟩
set_option maxHeartbeats 3200000 in
set_option maxRecDepth 100000 in
theorem seek_any (c : Nat) (A : Option Addr) (N cap : Nat) (L : List Nat) (hN : N ≤ 10) (hL : ∀ x ∈ L, x < 1024) : ∀ (k now may b : Nat) (w : World), k ≤ N → may < 2 ^ k → now < 1024 → b < 1024 → Crw w c A N cap L b →
    Calls Tryd.prog 56 #[.pointer (some ⟨c, 0, none⟩), .int .u32 (now : Int), .int .u32 (may : Int)] w (SeekPost c A N cap L now may b w) := by
  intro k
  induction k with
  | zero =>
    intro now may b w hk hm hn hb hc
    obtain rfl : may = 0 := by omega
    by_cases hpr : popc 10 (now ||| 0) < popc 10 b
    · exact seek_prune c A N cap L now 0 b w (by omega) hn hb hc hpr
    · exact seek_leaf c A N cap L now b w hn hb hc hpr
  | succ k ih =>
    intro now may b w hk hm hn hb hc
    have hm1 : may < 1024 := Nat.lt_of_lt_of_le hm (Nat.pow_le_pow_right (n := 2) (by omega) (show k + 1 ≤ 10 by omega))
    by_cases hpr : popc 10 (now ||| may) < popc 10 b
    · exact seek_prune c A N cap L now may b w hm1 hn hb hc hpr
    · by_cases h0 : may = 0
      · subst h0
        exact seek_leaf c A N cap L now b w hn hb hc hpr
      · obtain ⟨i, hi, hi1, hi2⟩ := high_bit _ _ hm h0
        have hor := u32_or_nat now may (by omega) (by omega)
        have hq1 := fun W n => Lib.hid (ones_q1 (now ||| may) (or_lt hn hm1) W n)
        have hq2 := fun W n => Lib.hid (ones_q1 b hb W n)
        have hp : ((popc 10 b : Nat) : Int) ≤ (popc 10 (now ||| may) : Nat) := by omega
        have hmay : ((may : Int) == 0) = false := by simpa using h0
        have htb := tb_top hi1 hi2
        have hhi : ∀ j, i < j → may.testBit j = false := fun j hj => tb_high hi2 (by omega)
        have hpi : 2 ^ i < 1024 := Nat.lt_of_lt_of_le (Nat.pow_lt_pow_right (by omega) (show i < 10 by omega)) (by omega)
        have hrest : andN may (2 ^ i) < 2 ^ i := lt_of_bits fun j hj => by
          rw [testBit_andN (a := may) (b := 2 ^ i) (by omega) (by omega), tb_pow]
          by_cases hij : i = j
          · simp [hij]
          · rw [hhi j (by omega)]; rfl
        have hrestk : andN may (2 ^ i) < 2 ^ k := Nat.lt_of_lt_of_le hrest (Nat.pow_le_pow_right (by omega) (by omega))
        have hr1 : andN may (2 ^ i) < 1024 := by omega
        have hw := two_pow_u32 i (by omega)
        have han : bits .andNot .u32 (may : Int) ((2 : Int) ^ i % 4294967296) = ((andN may (2 ^ i) : Nat) : Int) := by rw [hw]; exact u32_andNot_nat may (2 ^ i) (by omega) (by omega)
        have hno : bits .or .u32 (now : Int) ((2 : Int) ^ i % 4294967296) = ((now ||| 2 ^ i : Nat) : Int) := by rw [hw]; exact u32_or_nat now (2 ^ i) (by omega) (by omega)
        have hLi : L.getD i 0 < 1024 := getD_lt1024' hL i
        have hai : bits .and .u32 ((andN may (2 ^ i) : Nat) : Int) ((L.getD i 0 : Nat) : Int) = ((andN may (2 ^ i) &&& L.getD i 0 : Nat) : Int) := u32_and_nat _ _ (by omega) (by omega)
        have hr2 : andN may (2 ^ i) &&& L.getD i 0 < 2 ^ k := Nat.lt_of_le_of_lt Nat.and_le_left hrestk
        have hstep := Lib.hid (fun b1 b2 => @Seek.step L now may i b b1 b2 hm1 htb hhi)
        have hlen := fun W => Lib.hid (len32_any may i W hi1 hi2 hm1)
        have ih1 := fun W (h : Crw W c A N cap L b) => Lib.hid (ih now (andN may (2 ^ i)) b W (by omega) hrestk hn hb h)
        have ih2 := fun b1 W (h1 : b1 < 1024) (h : Crw W c A N cap L b1) => Lib.hid (ih (now ||| 2 ^ i) (andN may (2 ^ i) &&& L.getD i 0) b1 W (by omega) hr2 (or_lt hn hpi) h1 h)
        obtain ⟨Li, hLiE⟩ : ∃ Li, L.getD i 0 = Li := ⟨_, rfl⟩
        rw [hLiE] at hai hr2 hLi hstep
        simp only [hLiE] at ih2
        have hLiEH := Lib.hid hLiE
        clear hLiE
        have c0 := hc.c0
        have c1 := hc.c1
        have sz := hc.sz
        have hcH := Lib.hid hc
        have ihH := Lib.hid (show i < N by omega)
        have hi0 : (0 : Int) ≤ i := by omega
        have hi9 : (i : Int) < 10 := by omega
        clear hc hpr h0 ih hw htb hhi hi1 hi2 hrest hrestk hr2 hm hk hpi hi
        generalize popc 10 (now ||| may) = P at *
        generalize popc 10 b = Q at *
        go_enter Tryd.func56, Tryd.ntmps56
        go_wp2_with fail
        go_quiet ((go_at_call 35; first | (with_reducible exact (hq1 _ _).out) | (with_reducible exact (hq2 _ _).out)))
        go_wp2_with fail
        refine (hlen _).out.mono ?_
        rintro e w1 ⟨rfl, rfl⟩
        go_wp2_with fail
        refine (ih1 _ (hcH.out.drewN _)).out.mono ?_
        rintro e w2 ⟨b1, hb1, rfl, hc2, hs1, hbl1⟩
        have ihc := Lib.hid (fun W (h : Crw W c A N cap L b1) => (ih2 b1 W hb1 h).out)
        have hstep1 := Lib.hid (fun b2 h => hstep.out b1 b2 hs1 h)
        have hbl : Below c w w2 := (below_drewN (Below.refl _ _) _).trans hbl1
        obtain ⟨bb, oo, rfl, hab, kL⟩ := hc2.rd.wd ihH.out
        rw [hLiEH.out] at kL
        have c0 := hc2.c0
        have sz2 := hc2.sz
        have hc2H := Lib.hid hc2
        have iN : (i : Int) < N := by have := ihH.out; omega
        clear hc2 hs1 ih1 ih2 hstep hbl1
        go_wp2_with fail
        go_still_tail 14, (by kernel_rfl)
        change wpList _ _ _ _ _ w2.drew
        go_wp2_with fail
        simp only [hno]
        (with_reducible refine (ihc.out w2.drew hc2H.out.drew).mono ?_)
        rintro e w3 ⟨b2, hb2, rfl, hc3, hs2, hbl2⟩
        have hfin := Lib.hid (hstep1.out b2 hs2)
        go_wp2_with fail
        go_end0
        exact ⟨b2, hb2, rfl, hc3, hfin.out, hbl.trans ((Below.drew (Below.refl _ _)).trans hbl2)⟩
end Go.Proofs.YtnpgnohnpbdblaaDoor
