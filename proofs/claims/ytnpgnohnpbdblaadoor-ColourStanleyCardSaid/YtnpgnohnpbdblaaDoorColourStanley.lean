/- ColourStanley: the law, and the walk. -/
import Derived.Test.YtnpgnohnpbdblaaDoorStanD
import Derived.Test.YtnpgnohnpbdblaaDoorGood
namespace Go.Proofs.YtnpgnohnpbdblaaDoor
open Go.RowKit Go.Shelf

def manyS (es : List E) (N : Nat) : Nat → Nat
  | 0 => 0
  | u + 1 => manyS es N u + if allG N (turnsB es.length (aOf es) (bOf es) N u N) then 1 else 0
theorem manyS_le (es : List E) (N : Nat) : ∀ u, manyS es N u ≤ u
  | 0 => Nat.le_refl _
  | u + 1 => by
    have := manyS_le es N u
    unfold manyS
    split <;> omega
theorem manyS_sq {N : Nat} {es : List E} (hok : ∀ e ∈ es, okE N e) : (manyS es N (2 ^ es.length) : Int) = Sf es (2 ^ N - 1) := by
  have hAB : ∀ k, k < es.length → aOf es k < N ∧ bOf es k < N := fun k hk => by
    obtain ⟨x, y, hx, hy, hxn, hyn, _⟩ := hok (es.getD k (0, 0, 0)) (by simp [List.getD, hk])
    unfold aOf bOf
    rw [hx, hy]
    exact ⟨hxn, hyn⟩
  have key : ∀ b, b ≤ 2 ^ es.length → (manyS es N b : Int) = sq b fun u => ind (SubW es.length (aOf es) (bOf es) (2 ^ N - 1) u ∧ Ac es.length (aOf es) (bOf es) (2 ^ N - 1) u) := by
    intro b
    induction b with
    | zero => intro _; rfl
    | succ b ih =>
      intro hb
      have hS : SubW es.length (aOf es) (bOf es) (2 ^ N - 1) b := fun k hk => by
        have hkl := bit_lt (show b < 2 ^ es.length by omega) hk
        refine ⟨hkl, ?_⟩
        unfold inW
        rw [Nat.testBit_two_pow_sub_one, Nat.testBit_two_pow_sub_one]
        have := hAB k hkl
        simp [this.1, this.2]
      have hT := turns_iff (m := es.length) (A := aOf es) (B := bOf es) (u := b) (n := N) hAB
      rw [sq, ← ih (by omega), show manyS es N (b + 1) = manyS es N b + if allG N (turnsB es.length (aOf es) (bOf es) N b N) then 1 else 0 from rfl]
      by_cases h : allG N (turnsB es.length (aOf es) (bOf es) N b N) = true
      · have hA : ∀ i, i < N → turnsB es.length (aOf es) (bOf es) N b N i = true := fun i hi => by
          unfold allG at h
          exact List.all_eq_true.1 h i (List.mem_range.2 hi)
        rw [if_pos h, ind_pos ⟨hS, hT.1 hA⟩]; omega
      · rw [if_neg h, ind_neg fun h2 => h (by
          unfold allG
          rw [List.all_eq_true]
          intro i hi
          exact hT.2 h2.2 i (List.mem_range.1 hi))]; omega
  exact key _ (Nat.le_refl _)
set_option maxHeartbeats 3200000 in
set_option maxRecDepth 100000 in
theorem stanley_walk (N : Int) (A : Option Addr) (len cap : Nat) (es : List E) (w : World) (hr : Rd w A len 3 (ps3 .i64 .i64 .i64 es)) (hlen : len ≤ 9223372036854775807) (hcap : len ≤ cap) (htb : Tb w) (hgt : 0 < w.heap.size) :
    Calls Tryd.prog 3 #[.agg #[.int .i64 N, .slice A len cap]] w fun e w' => e = .returned (.bool true) ∧ Below w.heap.size w w' := by
  have hel : es.length = len := ps3_len hr
  have gb := (Below.refl _ w).alloc (Nat.le_refl _) (.cells #[.int .i64 N, .slice A len cap] 24)
  have hK := Blk.new w 24 #[.int .i64 (N : Int), .slice A len cap]
  have g0 := hK.cell (j := 0) rfl
  have g1 := hK.cell (j := 1) rfl
  by_cases hok : gchk N es = 0
  · obtain ⟨h0, h10, h45, hokE, _⟩ := gchk_ok hok
    obtain ⟨n, rfl⟩ := Int.eq_ofNat_of_zero_le h0
    rw [Int.toNat_natCast] at hokE
    have hn10 : n ≤ 10 := by omega
    have HT := Lib.hid (turned_ok n A len cap es _ (hr.later gb) hok (htb.below hgt gb) (by simp))
    have HG := Lib.hid (fun W (h : Below w.heap.size w W) => good_any n A len cap es W (hr.later h) hlen hcap)
    rw [hok] at HG
    have hms := Lib.hid (manyS_sq hokE)
    have hrH := Lib.hid hr; have gbH := Lib.hid gb; have hKH := Lib.hid hK; have helH := Lib.hid hel
    have HR := Lib.hid (fun u W (h : Below w.heap.size w W) (hl : len ≤ 9) (hu : u < 1024) => round_any n u A len cap es W (hr.later h) hn10 hl hokE hu)
    clear hr gb hK hok hokE htb h0 h10
    go_enter Tryd.func3, Tryd.ntmps3
    go_wp2_with fail
    refine HT.out.mono ?_
    rintro _ w1 ⟨rfl, hb1⟩
    have hbw := gbH.out.trans (hb1.mono (by simp))
    have hK1 := hKH.out.below hb1 hKH.out.lt
    have q0 := hK1.cell (j := 0) rfl
    have q1 := hK1.cell (j := 1) rfl
    have HG1 := Lib.hid (HG.out w1 hbw)
    have hbwH := Lib.hid hbw; have hK1H := Lib.hid hK1
    clear hb1 hbw hK1 g0 g1 HT
    generalize hsf : Sf es (2 ^ n - 1) = sf at *
    clear hsf
    go_wp2_with fail
    refine HG1.out.mono ?_
    rintro _ w2 ⟨rfl, hb2⟩
    have hbw2 := Lib.hid (hbwH.out.trans (hb2.mono hbwH.out.size))
    have hK2 := Lib.hid (hK1H.out.below hb2 hK1H.out.lt)
    have q0 := hK2.out.cell (j := 0) rfl
    have q1 := hK2.out.cell (j := 1) rfl
    clear hb2 HG1 hbwH hK1H
    by_cases hl9 : 9 < len
    · have e9 : decide (9 < (len : Int)) = true := decide_eq_true (by omega)
      have HG2 := Lib.hid (HG.out w2 hbw2.out)
      clear HG HR
      go_wp2_with fail
      refine HG2.out.mono ?_
      rintro _ w3 ⟨rfl, hb3⟩
      have hbF := hbw2.out.trans (hb3.mono hbw2.out.size)
      go_wp2
      go_ret
      exact ⟨rfl, hbF⟩
    · have e9 : decide (9 < (len : Int)) = false := decide_eq_false (by omega)
      have hl9' : len ≤ 9 := by omega
      have hP9 : 2 ^ len ≤ 2 ^ 9 := Nat.pow_le_pow_right (by omega) hl9'
      have hw3 := two_pow_u32 len (by omega)
      obtain ⟨P, hP⟩ : ∃ P, P = 2 ^ len := ⟨_, rfl⟩
      rw [← hP] at hw3 hP9
      rw [helH.out, ← hP] at hms
      have hPH := Lib.hid hP
      have hS2 : w.heap.size < w2.heap.size := hK2.out.lt
      clear hP HG hl9
      go_wp2
      go_loopw [5, 6] (fun c x wr => ∃ u : Nat, x = .int .u32 (u : Int) ∧ u ≤ P ∧ c = .int .i64 ((manyS es n u : Nat) : Int) ∧ Below w2.heap.size w2 wr) (fun _ x _ => P - (intOf x).toNat)
      case atStart => exact ⟨0, rfl, Nat.zero_le _, rfl, Below.refl _ _⟩
      case round =>
        obtain ⟨u, rfl, hu, rfl, hb⟩ := hrel
        have hKr := hK2.out.below hb hS2
        have q0 := hKr.cell (j := 0) rfl
        have q1 := hKr.cell (j := 1) rfl
        have hbH := Lib.hid hb
        have hbwr := Lib.hid (hbw2.out.trans (hb.mono (by omega)))
        have hmle := manyS_le es n u
        by_cases hlt : u < P
        · have hlt' : (u : Int) < P := by omega
          have HRu := Lib.hid (HR.out u wr hbwr.out hl9' (by omega))
          have hms1 := Lib.hid (show manyS es n (u + 1) = manyS es n u + if allG n (turnsB es.length (aOf es) (bOf es) n u n) then 1 else 0 from rfl)
          have hwu : IntKind.u32.wrap ((u : Int) + 1) = ((u + 1 : Nat) : Int) := by rw [IntKind.wrap_u32']; omega
          clear hb hKr
          generalize manyS es n u = c at *
          have hwc : IntKind.i64.wrap ((c : Int) + 1) = (c : Int) + 1 := IntWalk.i64_in _ (by omega)
          generalize allG n (turnsB es.length (aOf es) (bOf es) n u n) = al at *
          go_wp2_with fail
          refine HRu.out.mono ?_
          rintro _ w4 ⟨rfl, hb4⟩
          have hb4H := Lib.hid (hbH.out.trans (hb4.mono hbH.out.size))
          clear hb4
          cases al
          · go_wp2
            go_roundw
            case rel => exact ⟨u + 1, rfl, by omega, by rw [hms1.out]; rfl, hb4H.out⟩
            case measure => simp [intOf]; omega
          · go_wp2
            go_roundw
            case rel => exact ⟨u + 1, rfl, by omega, by rw [hms1.out]; rfl, hb4H.out⟩
            case measure => simp [intOf]; omega
        · obtain rfl : u = P := by omega
          have hms2 := hms.out
          subst hms2
          clear hb hKr
          generalize manyS es n u = c at *
          have ecc : ((c : Int) == (c : Int)) = true := by simp
          go_wp2
          go_ret
          exact ⟨rfl, hbwr.out⟩
  · have HT := Lib.hid (turned_bad N A len cap es _ (hr.later gb) hlen hok)
    have HG := Lib.hid (fun W (h : Below w.heap.size w W) => good_any N A len cap es W (hr.later h) hlen hcap)
    have e1 : (gchk N es == 0) = false := by simpa using hok
    rw [e1] at HG
    have gbH := Lib.hid gb; have hKH := Lib.hid hK
    clear hr gb hK hok htb
    generalize gchk N es = q at *
    go_enter Tryd.func3, Tryd.ntmps3
    go_wp2_with fail
    refine HT.out.mono ?_
    rintro _ w1 ⟨rfl, hb1⟩
    have hbw := gbH.out.trans (hb1.mono (by simp))
    have hK1 := hKH.out.below hb1 hKH.out.lt
    have q0 := hK1.cell (j := 0) rfl
    have q1 := hK1.cell (j := 1) rfl
    have HG1 := Lib.hid (HG.out w1 hbw)
    have hbwH := Lib.hid hbw; have hK1H := Lib.hid hK1
    clear hb1 hbw hK1 g0 g1 HT
    go_wp2_with fail
    refine HG1.out.mono ?_
    rintro _ w2 ⟨rfl, hb2⟩
    have hbw2 := Lib.hid (hbwH.out.trans (hb2.mono hbwH.out.size))
    have hK2 := Lib.hid (hK1H.out.below hb2 hK1H.out.lt)
    have q0 := hK2.out.cell (j := 0) rfl
    have q1 := hK2.out.cell (j := 1) rfl
    have HG2 := Lib.hid (HG.out w2 hbw2.out)
    clear hb2 HG1 hbwH hK1H HG
    go_wp2_with fail
    refine HG2.out.mono ?_
    rintro _ w3 ⟨rfl, hb3⟩
    have hbF := hbw2.out.trans (hb3.mono hbw2.out.size)
    go_wp2
    go_ret
    exact ⟨rfl, hbF⟩
theorem colourStanley_any (N : Int) (A : Option Addr) (len cap : Nat) (es : List E) (w : World) (_ : (Lit.int .i64 N).wf = true) (hr : Rd w A len 3 (ps3 .i64 .i64 .i64 es)) (hlen : len ≤ maxLen) (hcap : len ≤ cap) (_ : ∀ a ∈ es, (Lit.int .i64 a.1).wf = true ∧ (Lit.int .i64 a.2.1).wf = true ∧ (Lit.int .i64 a.2.2).wf = true)
    (htb : Tb w) (hg : 0 < w.heap.size) :
    Calls Tryd.prog 3 #[.agg #[.int .i64 N, .slice A len cap]] w fun e w' => e = .returned (.bool true) ∧ Below w.heap.size w w' := by
  unfold maxLen at hlen
  exact stanley_walk N A len cap es w hr (by omega) hcap htb hg
end Go.Proofs.YtnpgnohnpbdblaaDoor
