/- pairs: Short, Cover; ref: Covers. -/
import Derived.Test.YtepphkloghaihaaDoorBerSide
namespace Go.Proofs.YtepphkloghaihaaDoor
open Go.RowKit Go.Shelf

theorem popc10 {x : Nat} (h : x < 256) : popc 10 x = popc 8 x := popc_more (k := 8) h 2
def dfW (ns : List Nat) (n u : Nat) : Int := (popc 8 u : Int) - popc 8 (frW ns u n)
theorem frW_zero (ns : List Nat) : ∀ k, frW ns 0 k = 0
  | 0 => rfl
  | k + 1 => by rw [frW]; simp [frW_zero ns k]
theorem dfW_zero (ns : List Nat) (n : Nat) : dfW ns n 0 = 0 := by unfold dfW; rw [frW_zero]; simp
def cvW (ns : List Nat) (n u : Nat) : Int := (popc 8 u : Int) + popc 8 (frW ns (andN (2 ^ n - 1) u) n)
theorem Short_bad (A : Option Addr) (len cap : Nat) (ns : List Nat) (w : World) (hr : Rd w A len 1 (wds ns)) (hl : len ≤ 9223372036854775807) (hbad : bchk ns ≠ 0) :
    Calls Tryd.prog 10 #[.slice A len cap] w fun e w' => e = .returned (.tuple #[.int .u32 0, .int .i64 (bchk ns)]) ∧ Below w.heap.size w w' := by
  have HW := Lib.hid (bcheck_any A len cap ns w hr hl)
  have hb : (bchk ns != 0) = true := bne_iff_ne.2 hbad
  clear hr hbad
  generalize bchk ns = c at *
  go_enter Tryd.func10, Tryd.ntmps10
  go_wp2_with fail
  refine HW.out.mono ?_
  rintro e w1 ⟨rfl, hb1⟩
  go_wp2
  go_ret2
  exact ⟨rfl, hb1⟩
set_option maxHeartbeats 1600000 in
set_option maxRecDepth 100000 in
theorem Short_ok (A : Option Addr) (n cap : Nat) (ns : List Nat) (w : World) (hr : Rd w A n 1 (wds ns)) (hok : BOk ns) (htb : Tb w) (hg : 0 < w.heap.size) :
    Calls Tryd.prog 10 #[.slice A n cap] w fun e w' => ∃ b : Nat, e = .returned (.tuple #[.int .u32 b, .int .i64 0]) ∧ b < 2 ^ n ∧ (∀ u, u < 2 ^ n → dfW ns n u ≤ dfW ns n b) ∧ Below w.heap.size w w' := by
  have hel : ns.length = n := by simpa [wds] using hr.1
  have h8 := hok.1
  rw [hel] at h8
  have HW := Lib.hid (bcheck_any A n cap ns w hr (by omega))
  rw [bchk_ok.2 hok] at HW
  have hrH := Lib.hid hr; have hnsH := Lib.hid (fun i => hok.at i); have htbH := Lib.hid htb
  obtain ⟨S, hS⟩ : ∃ S, 2 ^ n = S := ⟨_, rfl⟩
  have hS1 : 1 ≤ S := by rw [← hS]; exact Nat.one_le_two_pow
  have hS8 : S ≤ 256 := by rw [← hS]; exact (Nat.pow_le_pow_right (by omega) h8 : 2 ^ n ≤ 2 ^ 8)
  have hone : (2 : Int) ^ n % 4294967296 = (S : Int) := by rw [two_pow_u32 n (by omega), hS]
  have hSH := Lib.hid hS
  rw [hS]
  clear hr hok hel htb hS
  go_enter Tryd.func10, Tryd.ntmps10
  go_wp2_with fail
  refine HW.out.mono ?_
  rintro e w1 ⟨rfl, hb1⟩
  have hb1H := Lib.hid hb1
  clear hb1 HW
  go_wp2
  rw [hone]
  clear hone
  go_loopw [5, 6, 7, 8, 17] (fun b m _ _ i wr => ∃ v bw : Nat, v ≤ S ∧ i = .int .u32 v ∧ b = .int .u32 bw ∧ m = .int .i64 (dfW ns n bw) ∧ bw < S ∧ (∀ u, u < v → dfW ns n u ≤ dfW ns n bw) ∧ 0 ≤ dfW ns n bw ∧ Below w.heap.size w wr) (fun _ _ _ _ i _ => S - (intOf i).toNat)
  case atStart => exact ⟨0, 0, by omega, rfl, rfl, by rw [dfW_zero], by omega, fun u hu => absurd hu (by omega), by rw [dfW_zero]; omega, hb1H.out⟩
  case round =>
    obtain ⟨v, bw, hv, rfl, rfl, rfl, hbS, hall, h0, hb⟩ := hrel
    by_cases hlt : v < S
    · have H1 := Lib.hid (fun W => ones_any v W (by omega))
      have H2 := Lib.hid (fun (W : World) (hb : Below w.heap.size w W) => right_any A n cap ns v W (hrH.out.later hb) h8 hnsH.out (by rw [hSH.out]; exact hlt) (htbH.out.below hg hb) (by have := hb.size; omega))
      have hfl := frW_lt hnsH.out v n
      have H3 := Lib.hid (fun W => ones_any (frW ns v n) W (by omega))
      rw [popc10 (by omega)] at H1 H3
      have hdv := Lib.hid (show dfW ns n v = (popc 8 v : Int) - popc 8 (frW ns v n) from rfl)
      have p1 := popc_le 8 v
      have p2 := popc_le 8 (frW ns v n)
      have hallH := Lib.hid hall; have hbH := Lib.hid hb
      clear hall hb
      generalize frW ns v n = y at *
      generalize popc 8 v = pv at *
      generalize popc 8 y = py at *
      have hw : IntKind.i64.wrap ((pv : Int) - py) = (pv : Int) - py := IntWalk.i64_in _ (by omega)
      have hw2 : IntKind.u32.wrap ((v : Int) + 1) = ((v + 1 : Nat) : Int) := by rw [IntWalk.u32_in _ (by omega)]; omega
      have hltZ : (v : Int) < S := by omega
      go_wp2_with fail
      refine (H1.out _).mono ?_
      rintro _ w2 ⟨rfl, k1, rfl⟩
      have hbk := below_drewN hbH.out k1
      go_wp2_with fail
      refine (H2.out _ hbk).mono ?_
      rintro _ w3 ⟨rfl, hb3⟩
      have hb3H := Lib.hid (hbk.trans (hb3.mono hbk.size))
      clear hb3 H2 hbk
      go_wp2_with fail
      refine (H3.out _).mono ?_
      rintro _ w4 ⟨rfl, k2, rfl⟩
      obtain ⟨dv, hdve⟩ : ∃ dv, (pv : Int) - py = dv := ⟨_, rfl⟩
      rw [hdve] at hdv hw
      obtain ⟨q, hqe⟩ : ∃ q, dfW ns n bw = q := ⟨_, rfl⟩
      rw [hqe] at h0 hallH
      simp only [hqe]
      have hqH := Lib.hid hqe
      have hdvB : -8 ≤ dv ∧ dv ≤ 8 := by omega
      clear hqe
      by_cases hgt : q < dv
      · have hr2 := Lib.hid (show ∀ u, u < v + 1 → dfW ns n u ≤ dfW ns n v from fun u hu => by
          rw [hdv.out]
          by_cases e : u = v
          · subst e; rw [hdv.out]; omega
          · have := hallH.out u (by omega); omega)
        go_wp2
        go_roundw
        case rel => exact ⟨v + 1, v, by omega, by go_num, rfl, by rw [hdv.out], hlt, hr2.out, by rw [hdv.out]; omega, below_drewN hb3H.out k2⟩
        case measure => simp [intOf]; omega
      · have hle : dv ≤ q := by omega
        have hr2 := Lib.hid (show ∀ u, u < v + 1 → dfW ns n u ≤ dfW ns n bw from fun u hu => by
          rw [hqH.out]
          by_cases e : u = v
          · subst e; rw [hdv.out]; omega
          · exact hallH.out u (by omega))
        clear hgt
        go_wp2
        go_roundw
        case rel => exact ⟨v + 1, bw, by omega, by go_num, rfl, by rw [hqH.out], hbS, hr2.out, by rw [hqH.out]; exact h0, below_drewN hb3H.out k2⟩
        case measure => simp [intOf]; omega
    · obtain rfl : v = S := by omega
      have hallH := Lib.hid hall; have hbH := Lib.hid hb
      clear hall hb
      go_wp2
      go_ret2
      exact ⟨bw, rfl, hbS, hallH.out, hbH.out⟩
theorem Cover_bad (A : Option Addr) (len cap : Nat) (ns : List Nat) (w : World) (hr : Rd w A len 1 (wds ns)) (hl : len ≤ 9223372036854775807) (hbad : bchk ns ≠ 0) :
    Calls Tryd.prog 13 #[.slice A len cap] w fun e w' => e = .returned (.tuple #[.int .u32 0, .int .u32 0, .int .i64 (bchk ns)]) ∧ Below w.heap.size w w' := by
  have HW := Lib.hid (bcheck_any A len cap ns w hr hl)
  have hb : (bchk ns != 0) = true := bne_iff_ne.2 hbad
  clear hr hbad
  generalize bchk ns = c at *
  go_enter Tryd.func13, Tryd.ntmps13
  go_wp2_with fail
  refine HW.out.mono ?_
  rintro e w1 ⟨rfl, hb1⟩
  go_wp2
  go_ret3
  exact ⟨rfl, hb1⟩
set_option maxHeartbeats 1600000 in
set_option maxRecDepth 100000 in
theorem Cover_ok (A : Option Addr) (n cap : Nat) (ns : List Nat) (w : World) (hr : Rd w A n 1 (wds ns)) (hok : BOk ns) (htb : Tb w) (hg : 0 < w.heap.size) :
    Calls Tryd.prog 13 #[.slice A n cap] w fun e w' => ∃ b : Nat, e = .returned (.tuple #[.int .u32 b, .int .u32 (frW ns (andN (2 ^ n - 1) b) n : Nat), .int .i64 0]) ∧ b < 2 ^ n ∧ (∀ u, u < 2 ^ n → cvW ns n b ≤ cvW ns n u) ∧ Below w.heap.size w w' := by
  have hel : ns.length = n := by simpa [wds] using hr.1
  have h8 := hok.1
  rw [hel] at h8
  have HW := Lib.hid (bcheck_any A n cap ns w hr (by omega))
  rw [bchk_ok.2 hok] at HW
  have hrH := Lib.hid hr; have hnsH := Lib.hid (fun i => hok.at i); have htbH := Lib.hid htb
  have hcv := Lib.hid (fun u => show cvW ns n u = (popc 8 u : Int) + popc 8 (frW ns (andN (2 ^ n - 1) u) n) from rfl)
  obtain ⟨S, hS⟩ : ∃ S, 2 ^ n = S := ⟨_, rfl⟩
  have hS1 : 1 ≤ S := by rw [← hS]; exact Nat.one_le_two_pow
  have hS8 : S ≤ 256 := by rw [← hS]; exact (Nat.pow_le_pow_right (by omega) h8 : 2 ^ n ≤ 2 ^ 8)
  have hone : (2 : Int) ^ n % 4294967296 = (S : Int) := by rw [two_pow_u32 n (by omega), hS]
  have hone2 : ((2 : Int) ^ n - 1) % 4294967296 = ((S - 1 : Nat) : Int) := by
    have : (2 : Int) ^ n = ((2 ^ n : Nat) : Int) := by simp
    rw [this, hS]; omega
  have hone3 : ((S : Int) - 1) % 4294967296 = ((S - 1 : Nat) : Int) := by omega
  have hone4 : (((S - 1 : Nat) : Int) + 1) % 4294967296 = (S : Int) := by omega
  have hwn : IntKind.i64.wrap ((n : Int) + 8) = (n : Int) + 8 := IntWalk.i64_in _ (by omega)
  have hwn2 : IntKind.i64.wrap ((n : Int) + 8 + 1) = (n : Int) + 9 := by rw [IntWalk.i64_in _ (by omega)]; omega
  have hSH := Lib.hid hS
  rw [hS] at hcv ⊢
  clear hr hok hel htb hS
  go_enter Tryd.func13, Tryd.ntmps13
  go_wp2_with fail
  refine HW.out.mono ?_
  rintro e w1 ⟨rfl, hb1⟩
  have hb1H := Lib.hid hb1
  clear hb1 HW
  go_wp2
  rw [hone]
  clear hone hone2 hone3 hone4 hwn hwn2
  have hlo : S - 1 < 256 := by omega
  go_loopw [7, 8, 9, 10, 26] (fun b m _ _ i wr => ∃ (v bw : Nat) (f : Int), v ≤ S ∧ i = .int .u32 v ∧ b = .int .u32 bw ∧ m = .int .i64 f ∧ bw < S ∧ (∀ u, u < v → f ≤ cvW ns n u) ∧ 0 ≤ f ∧ f ≤ n + 9 ∧ (f = cvW ns n bw ∨ f = n + 9) ∧ Below w.heap.size w wr) (fun _ _ _ _ i _ => S - (intOf i).toNat)
  case atStart => exact ⟨0, 0, _, by omega, rfl, rfl, rfl, by omega, fun u hu => absurd hu (by omega), by omega, by omega, .inr rfl, hb1H.out⟩
  case round =>
    obtain ⟨v, bw, f, hv, rfl, rfl, rfl, hbS, hall, h0, h9, hat, hb⟩ := hrel
    have hcompl : ∀ u, andN (S - 1) u < S := fun u => by have := andN_le (S - 1) u; omega
    by_cases hlt : v < S
    · have H1 := Lib.hid (fun W => ones_any v W (by omega))
      have hco : bits .andNot .u32 ((S : Int) - 1) (v : Int) = ((andN (S - 1) v : Nat) : Int) := by
        have := u32_andNot_nat (S - 1) v (by omega) (by omega)
        rw [show ((S - 1 : Nat) : Int) = (S : Int) - 1 by omega] at this
        exact this
      have hy := hcompl v
      have hdv := Lib.hid (hcv.out v)
      generalize andN (S - 1) v = y at *
      have H2 := Lib.hid (fun (W : World) (hb : Below w.heap.size w W) => right_any A n cap ns y W (hrH.out.later hb) h8 hnsH.out (by rw [hSH.out]; exact hy) (htbH.out.below hg hb) (by have := hb.size; omega))
      have hfl := frW_lt hnsH.out y n
      have H3 := Lib.hid (fun W => ones_any (frW ns y n) W (by omega))
      rw [popc10 (by omega)] at H1 H3
      have p1 := popc_le 8 v
      have p2 := popc_le 8 (frW ns y n)
      have hallH := Lib.hid hall; have hbH := Lib.hid hb; have hatH := Lib.hid hat
      clear hall hb hat
      generalize frW ns y n = z at *
      generalize popc 8 v = pv at *
      generalize popc 8 z = pz at *
      have hw : IntKind.i64.wrap ((pv : Int) + pz) = (pv : Int) + pz := IntWalk.i64_in _ (by omega)
      have hw2 : IntKind.u32.wrap ((v : Int) + 1) = ((v + 1 : Nat) : Int) := by rw [IntWalk.u32_in _ (by omega)]; omega
      have hltZ : (v : Int) < S := by omega
      go_wp2_with fail
      refine (H1.out _).mono ?_
      rintro _ w2 ⟨rfl, k1, rfl⟩
      have hbk := below_drewN hbH.out k1
      go_wp2_with fail
      refine (H2.out _ hbk).mono ?_
      rintro _ w3 ⟨rfl, hb3⟩
      have hb3H := Lib.hid (hbk.trans (hb3.mono hbk.size))
      clear hb3 H2 hbk
      go_wp2_with fail
      refine (H3.out _).mono ?_
      rintro _ w4 ⟨rfl, k2, rfl⟩
      obtain ⟨dv, hdve⟩ : ∃ dv, (pv : Int) + pz = dv := ⟨_, rfl⟩
      rw [hdve] at hdv hw
      have hdvB : 0 ≤ dv ∧ dv ≤ 16 := by omega
      by_cases hgt : dv < f
      · have hr2 := Lib.hid (show ∀ u, u < v + 1 → dv ≤ cvW ns n u from fun u hu => by
          by_cases e : u = v
          · subst e; rw [hdv.out]; omega
          · have := hallH.out u (by omega); omega)
        go_wp2
        go_roundw
        case rel => exact ⟨v + 1, v, dv, by omega, by go_num, rfl, rfl, hlt, hr2.out, by omega, by omega, .inl hdv.out.symm, below_drewN hb3H.out k2⟩
        case measure => simp [intOf]; omega
      · have hle : f ≤ dv := by omega
        have hr2 := Lib.hid (show ∀ u, u < v + 1 → f ≤ cvW ns n u from fun u hu => by
          by_cases e : u = v
          · subst e; rw [hdv.out]; omega
          · exact hallH.out u (by omega))
        clear hgt
        go_wp2
        go_roundw
        case rel => exact ⟨v + 1, bw, f, by omega, by go_num, rfl, rfl, hbS, hr2.out, h0, h9, hatH.out, below_drewN hb3H.out k2⟩
        case measure => simp [intOf]; omega
    · obtain rfl : v = S := by omega
      have hfe : f = cvW ns n bw := by
        rcases hat with h | h
        · exact h
        · have h1 := hall 0 (by omega)
          rw [hcv.out, popc_zero] at h1
          have := popc_le 8 (frW ns (andN (v - 1) 0) n)
          omega
      have hy := hcompl bw
      have hco : bits .andNot .u32 ((v : Int) - 1) (bw : Int) = ((andN (v - 1) bw : Nat) : Int) := by
        have := u32_andNot_nat (v - 1) bw (by omega) (by omega)
        rw [show ((v - 1 : Nat) : Int) = (v : Int) - 1 by omega] at this
        exact this
      have hallH := Lib.hid (show ∀ u, u < v → cvW ns n bw ≤ cvW ns n u from fun u hu => by rw [← hfe]; exact hall u hu)
      have H2 := Lib.hid (right_any A n cap ns (andN (v - 1) bw) wr (hrH.out.later hb) h8 hnsH.out (by rw [hSH.out]; exact hy) (htbH.out.below hg hb) (by have := hb.size; omega))
      have hbH := Lib.hid hb
      clear hall hb hat hfe
      obtain ⟨y, hye⟩ : ∃ y, andN (v - 1) bw = y := ⟨_, rfl⟩
      rw [hye] at hy hco H2
      have hyeH := Lib.hid hye
      clear hye
      go_wp2_with fail
      refine H2.out.mono ?_
      rintro _ w3 ⟨rfl, hb3⟩
      have hb3H := Lib.hid (hbH.out.trans (hb3.mono hbH.out.size))
      clear hb3 H2
      go_wp2
      go_ret3
      refine ⟨bw, ?_, hbS, hallH.out, hb3H.out⟩
      rw [hyeH.out]; rfl
end Go.Proofs.YtepphkloghaihaaDoor
