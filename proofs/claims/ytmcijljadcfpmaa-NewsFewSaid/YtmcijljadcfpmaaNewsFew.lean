/- NewsFew: the law, and the walk. -/
import Derived.Test.YtmcijljadcfpmaaNewsPlan
import Derived.Test.YtmcijljadcfpmaaLawB
import Derived.Test.YtmcijljadcfpmaaGossip
namespace Go.Proofs.Ytmcijljadcfpmaa
open Go.RowKit

def toG (c : Int × Int) : GC := (c.1.toNat, c.2.toNat)
theorem K_fl {n : Nat} : ∀ (cs : List (Int × Int)), (∀ c ∈ cs, okC n c) → ∀ i j, i < n → j < n → (K n cs i j = true ↔ Fl (cs.map toG) j i) := by
  refine list_snoc_induct (fun _ i j hi _ => ?_) fun cs c ih h i j hi hj => ?_
  · rw [K_nil hi]
    show _ ↔ j = i
    simp [eq_comm]
  · have hcs : ∀ c ∈ cs, okC n c := fun d hd => h d (by simp [hd])
    obtain ⟨x, y, rfl, hx, hy, hne⟩ := h c (by simp)
    rw [K_snoc cs x y i j hx hy, List.map_append]
    show _ ↔ Fl (cs.map toG ++ [toG ((x : Int), (y : Int))]) j i
    have e : toG ((x : Int), (y : Int)) = (x, y) := rfl
    rw [e, Fl.snoc]
    by_cases h1 : i = x
    · subst h1
      rw [oth_fst, ← ih hcs i j hi hj, ← ih hcs y j hy hj]
      simp
    · by_cases h2 : i = y
      · subst h2
        rw [oth_snd, ← ih hcs i j hi hj, ← ih hcs x j hx hj]
        simp [Or.comm]
      · rw [oth_out h1 h2, ← ih hcs i j hi hj, if_neg (by omega)]
        simp
theorem few_law {n : Nat} {cs : List (Int × Int)} (h8 : n ≤ 8) (hok : ∀ c ∈ cs, okC n c) (hall : ∀ w ∈ know n cs, w = 2 ^ n - 1) : leastC n ≤ cs.length := by
  have h := gossip n (List.range n) (cs.map toG) h8 List.nodup_range List.length_range fun u hu v hv => by
    rw [List.mem_range] at hu hv
    rw [← K_fl cs hok u v hu hv]
    unfold K
    have : (know n cs).getD u 0 = 2 ^ n - 1 := hall _ (by
      rw [List.getD, List.getElem?_eq_getElem (by rw [know_length]; exact hu)]
      exact List.getElem_mem _)
    rw [this, Nat.testBit_two_pow_sub_one]
    simpa using hv
  simpa using h
theorem plan_facts : ∀ n, n < 9 → 1 ≤ n → (planL n).length = leastC n ∧ chk n (planL n) = 0 ∧ know n (planL n) = List.replicate n (2 ^ n - 1) := by decide +kernel
theorem leastC_le : ∀ n, n < 9 → leastC n ≤ 64 := by decide
def allW (m : Nat) (l : List Nat) : Bool := l.all fun x => x == m
theorem allW_succ {m : Nat} {l : List Nat} {k : Nat} (hk : k < l.length) : allW m (l.take (k + 1)) = (allW m (l.take k) && (l.getD k 0 == m)) := by
  unfold allW
  rw [List.take_add_one, List.all_append, List.getD, List.getElem?_eq_getElem hk]
  simp
theorem newsFew_bad (n : Int) (A : Option Addr) (len cap : Nat) (cs : List (Int × Int)) (w : World) (hr : Rd w A len 2 (ps2 .i64 .i64 cs)) (hlen : len ≤ 9223372036854775807) (hbad : chk n cs ≠ 0) :
    Calls Try.prog 5 #[.int .i64 n, .slice A len cap] w fun e w' => e = .returned (.bool true) ∧ Below w.heap.size w w' := by
  have HP : ∀ W, Calls Try.prog 10 #[.int .i64 n] W fun e w' => ∃ (v : Value) (er : Int), e = .returned (.tuple #[v, .int .i64 er]) ∧ Below W.heap.size W w' := fun W => by
    by_cases h : n < 1 ∨ 8 < n
    · refine (plan_large n W h).mono ?_
      rintro _ _ ⟨rfl, rfl⟩
      exact ⟨_, _, rfl, Below.refl _ _⟩
    · obtain ⟨m, rfl⟩ := Int.eq_ofNat_of_zero_le (show 0 ≤ n by omega)
      refine (plan_ok m W (by omega) (by omega)).mono ?_
      rintro _ _ ⟨A, len, cap, rfl, _, hb⟩
      exact ⟨_, _, rfl, hb⟩
  have HPH := Lib.hid HP
  have HK := Lib.hid (know_any n A len cap cs w hr hlen)
  have HC := Lib.hid (fun W (h : Below w.heap.size w W) => callsCheck_any n A len cap cs W (hr.later h) hlen)
  have e1 : (chk n cs != 0) = true := by simpa using hbad
  clear hr hbad HP
  go_enter Try.func5, Try.ntmps5
  go_wp2_with fail
  refine HK.out.mono ?_
  rintro _ w1 ⟨v1, rfl, _, hb1⟩
  go_wp2_with fail
  refine (HPH.out _).mono ?_
  rintro _ w2 ⟨v2, er, rfl, hb2⟩
  have hbb := hb1.trans (hb2.mono hb1.size)
  have HC2 := Lib.hid (HC.out w2 hbb)
  have hbbH := Lib.hid hbb
  clear hb1 hb2 hbb HC HK HPH
  generalize chk n cs = c at *
  go_wp2_with fail
  refine HC2.out.mono ?_
  rintro _ w3 ⟨rfl, hb3⟩
  have hbF := hbbH.out.trans (hb3.mono hbbH.out.size)
  go_wp2
  go_ret
  exact ⟨rfl, hbF⟩
set_option maxHeartbeats 3200000 in
set_option maxRecDepth 100000 in
theorem newsFew_ok (n : Nat) (A : Option Addr) (len cap : Nat) (cs : List (Int × Int)) (w : World) (hr : Rd w A len 2 (ps2 .i64 .i64 cs)) (hlen : len ≤ 9223372036854775807) (hok : chk n cs = 0) :
    Calls Try.prog 5 #[.int .i64 (n : Int), .slice A len cap] w fun e w' => e = .returned (.bool true) ∧ Below w.heap.size w w' := by
  obtain ⟨h1, h8, hl64, hoc⟩ := chk_ok hok
  rw [Int.toNat_natCast] at hoc
  have hn1 : 1 ≤ n := by omega
  have hn8 : n ≤ 8 := by omega
  have hcl := ps2_len hr
  obtain ⟨p1, p2, p3⟩ := plan_facts n (by omega) hn1
  have hlaw := Lib.hid (few_law (cs := cs) hn8 hoc)
  have HK := Lib.hid (know_ok n A len cap cs w (pairs_of hr) hn1 hn8 (by omega) hok)
  have HC := Lib.hid (fun W (h : Below w.heap.size w W) => callsCheck_any n A len cap cs W (hr.later h) hlen)
  rw [hok] at HC
  have HP := Lib.hid (fun W => plan_ok n W hn1 hn8)
  have hp8 : 2 ^ n ≤ 2 ^ 8 := Nat.pow_le_pow_right (by omega) hn8
  have hpos := Nat.two_pow_pos n
  have hp0 := two_pow_u32 n (by omega)
  obtain ⟨m, hm⟩ : ∃ m, 2 ^ n - 1 = m := ⟨_, rfl⟩
  have hm1 : m ≤ 255 := by omega
  have hp : (2 : Int) ^ n % 4294967296 = (m : Int) + 1 := by rw [hp0]; omega
  have hpH := Lib.hid hp
  rw [hm] at p3 hlaw
  have hcd := Lib.hid (fun j (h : j < n) => getD_lt (know_lt hn8 cs) j)
  have p1H := Lib.hid p1; have p2H := Lib.hid p2; have p3H := Lib.hid p3; have hclH := Lib.hid hcl
  clear hr hoc p1 p2 p3 hp8 hpos hp0 hp hm hok h1 h8 hl64 hcl
  go_enter Try.func5, Try.ntmps5
  go_wp2_with fail
  refine HK.out.mono ?_
  rintro _ w1 ⟨v1, rfl, hown1, hb1⟩
  obtain ⟨A1, c1, rfl⟩ := own_slice hown1
  have hown1H := Lib.hid hown1; have hb1H := Lib.hid hb1
  clear hown1 hb1 HK
  go_wp2_with fail
  refine (HP.out _).mono ?_
  rintro _ w2 ⟨AP, lp, cp, rfl, hrp, hb2⟩
  have hrpH := Lib.hid hrp
  have hlp := ps2_len hrp
  have hown2 := Lib.hid (own_below hown1H.out hb2)
  have hbb2 := Lib.hid (hb1H.out.trans (hb2.mono hb1H.out.size))
  have HC2 := Lib.hid (HC.out w2 hbb2.out)
  clear hb2 hrp HC hown1H hb1H
  go_wp2_with fail
  refine HC2.out.mono ?_
  rintro _ w3 ⟨rfl, hb3⟩
  have hown3 := Lib.hid (own_below hown2.out hb3)
  have hrp3 := Lib.hid (hrpH.out.later hb3)
  have hbb3 := Lib.hid (hbb2.out.trans (hb3.mono hbb2.out.size))
  have HK2 := Lib.hid (know_ok n AP lp cp (planL n) w3 (pairs_of hrp3.out) hn1 hn8 (by rw [← hlp, p1H.out]; exact leastC_le n (by omega)) p2H.out)
  rw [p3H.out] at HK2
  have hlpH := Lib.hid (hlp.symm.trans p1H.out)
  clear hb3 HC2 hown2 hrpH hbb2 hlp
  go_wp2
  obtain ⟨wo, hwo⟩ : ∃ wo : World, wo = w3 := ⟨_, rfl⟩
  go_loopw [9, 47] (fun a i wr => ∃ k : Nat, k ≤ n ∧ i = .int .i64 k ∧ a = .bool (allW m ((know n cs).take k)) ∧ wr = wo) (fun _ i _ => n - (intOf i).toNat)
  case atStart => exact ⟨0, Nat.zero_le _, rfl, rfl, hwo.symm⟩
  case round =>
    obtain ⟨k, hk, rfl, rfl, rfl⟩ := hrel
    subst hwo
    by_cases hlt : k < n
    · have hs := Lib.hid (allW_succ (m := m) (l := know n cs) (k := k) (by rw [know_length]; exact hlt))
      obtain ⟨g, hA, _⟩ : ∃ g, A1 = some ⟨g, 0, none⟩ ∧ True := by
        rcases hown3.out.2 with ⟨_, h0⟩ | ⟨g, _, _, h, _⟩
        · omega
        · injection h with h; exact ⟨g, h, trivial⟩
      subst hA
      have hc := (hown3.out.cellAt k (by omega)).trans (cell_wd (x := k) (by rw [know_length]; exact hlt))
      have hlt8 := hcd.out k hlt
      have hp := hpH.out
      obtain ⟨wb, rfl⟩ : ∃ wb : World, wb = wr := ⟨_, rfl⟩
      generalize (know n cs).getD k 0 = x at *
      generalize allW m ((know n cs).take k) = aa at *
      have hx : ((x : Int) == (m : Int)) = (x == m) := by
        by_cases h : x = m
        · subst h; simp
        · have : ¬ (x : Int) = m := by omega
          rw [beq_eq_false_iff_ne.2 h, beq_eq_false_iff_ne.2 this]
      have hk0 : (0 : Int) ≤ k := by omega
      have hkn : (k : Int) < n := by omega
      generalize hxm : (x == m) = xm at *
      cases aa
      · go_wp2
        go_roundw
        case rel => exact ⟨k + 1, by omega, by go_num, by rw [hs.out]; rfl, by trivial⟩
        case measure => simp [intOf]; omega
      · go_wp2
        go_roundw
        case rel => exact ⟨k + 1, by omega, by go_num, by rw [hs.out]; rfl, by trivial⟩
        case measure => simp [intOf]; omega
    · obtain rfl : k = n := by omega
      obtain ⟨wb, rfl⟩ : ∃ wb : World, wb = wr := ⟨_, rfl⟩
      rw [List.take_of_length_le (by rw [know_length]; exact Nat.le_refl _)]
      have hall := Lib.hid (show allW m (know k cs) = true → leastC k ≤ len from fun h => by
        rw [← hclH.out]
        refine hlaw.out fun x hx => ?_
        unfold allW at h
        rw [List.all_eq_true] at h
        simpa using h x hx)
      generalize allW m (know k cs) = aa at *
      clear hlaw hown3 hcd
      go_wp2_with fail
      refine HK2.out.mono ?_
      rintro _ w4 ⟨v4, rfl, hown4, hb4⟩
      obtain ⟨A4, c4, rfl⟩ := own_slice hown4
      have hown4H := Lib.hid hown4
      have hb4H := Lib.hid (hbb3.out.trans (hb4.mono hbb3.out.size))
      clear hown4 hb4 HK2 hrp3
      go_wp2
      obtain ⟨wo, hwo⟩ : ∃ wo : World, wo = w4 := ⟨_, rfl⟩
      go_loopw [69] (fun i wr => ∃ j : Nat, j ≤ k ∧ i = .int .i64 j ∧ wr = wo) (fun i _ => k - (intOf i).toNat)
      case atStart => exact ⟨0, Nat.zero_le _, rfl, hwo.symm⟩
      case round =>
        obtain ⟨j, hj, rfl, rfl⟩ := hrel
        subst hwo
        by_cases hlt2 : j < k
        · obtain ⟨g, hA, _⟩ : ∃ g, A4 = some ⟨g, 0, none⟩ ∧ True := by
            rcases hown4H.out.2 with ⟨_, h0⟩ | ⟨g, _, _, h, _⟩
            · omega
            · injection h with h; exact ⟨g, h, trivial⟩
          subst hA
          have hc := (hown4H.out.cellAt j (by omega)).trans (show ((List.replicate k m).map wd)[j]? = some (.int .u32 (m : Int)) by simp [hlt2, wd])
          have hp := hpH.out
          have hj0 : (0 : Int) ≤ j := by omega
          have hjk : (j : Int) < k := by omega
          have hmm : ((m : Int) != (m : Int)) = false := by simp
          obtain ⟨wb, rfl⟩ : ∃ wb : World, wb = wr := ⟨_, rfl⟩
          go_wp2
          go_roundw
          case rel => exact ⟨j + 1, by omega, by go_num, by trivial⟩
          case measure => simp [intOf]; omega
        · obtain rfl : j = k := by omega
          obtain ⟨wb, rfl⟩ : ∃ wb : World, wb = wr := ⟨_, rfl⟩
          have hjj : ((j : Int) == (j : Int)) = true := by simp
          cases aa
          · go_wp2
            go_ret
            exact ⟨rfl, hb4H.out⟩
          · have hle := Lib.hid (show lp ≤ len by have := hall.out rfl; rw [hlpH.out]; omega)
            go_wp2
            go_ret
            refine ⟨?_, hb4H.out⟩
            show Ending.returned (Value.bool (decide (lp ≤ len))) = _
            rw [decide_eq_true hle.out]
theorem newsFew_any (n : Int) (A : Option Addr) (len cap : Nat) (cs : List (Int × Int)) (w : World) (hr : Rd w A len 2 (ps2 .i64 .i64 cs)) (hlen : len ≤ 9223372036854775807) :
    Calls Try.prog 5 #[.int .i64 n, .slice A len cap] w fun e w' => e = .returned (.bool true) ∧ Below w.heap.size w w' := by
  by_cases h : chk n cs = 0
  · obtain ⟨h1, _⟩ := chk_ok h
    obtain ⟨m, rfl⟩ := Int.eq_ofNat_of_zero_le (show 0 ≤ n by omega)
    exact newsFew_ok m A len cap cs w hr hlen h
  · exact newsFew_bad n A len cap cs w hr hlen h
end Go.Proofs.Ytmcijljadcfpmaa
