/- BeatsCamion: the walk. -/
import Derived.Test.YtnlgmjigadgneaaDoorComes
namespace Go.Proofs.YtnlgmjigadgneaaDoor
open Go.RowKit Go.Shelf

theorem word_full {n C : Nat} (hC : C < 2 ^ n) (h : ∀ m, m < n → C.testBit m = true) : C = 2 ^ n - 1 := by
  apply Nat.eq_of_testBit_eq
  intro m
  rw [Nat.testBit_two_pow_sub_one]
  by_cases hm : m < n
  · rw [h m hm]; simp [hm]
  · rw [Nat.testBit_lt_two_pow (Nat.lt_of_lt_of_le hC (Nat.pow_le_pow_right (by omega) (by omega)))]; simp [hm]
theorem str_full {ts : List Nat} {i : Nat} (h : CI ts i ts.length (2 ^ ts.length - 1)) : Str ts i := fun S hS h0 m hm =>
  h.snd S hS h0 m (by rw [Nat.testBit_two_pow_sub_one]; simp [hm])
theorem full_ring {ts : List Nat} (hT : Tour ts) {i C : Nat} (hi : i < ts.length) (h : CI ts i ts.length C) {R : List Nat} (hR : Whole ts true [] (2 ^ ts.length - 1) R) : C = 2 ^ ts.length - 1 := by
  obtain ⟨h1, h2, h3⟩ := whole_all (by have := hT.len; omega) hR
  refine word_full h.lt fun m hm => ?_
  obtain ⟨f, s, hf, hs, rfl⟩ := ring_way h1 h2 (h3 rfl) hi hm
  exact h.cmp f hf s hs
theorem ring_step {ts R : List Nat} (hp : R.Perm (List.range ts.length)) (hf : From ts none R) (hl : ∀ a b, R.getLast? = some a → R.head? = some b → beat ts a b = true) (k : Nat) (hk : k < ts.length) : beat ts (R.getD k 0) (R.getD ((k + 1) % ts.length) 0) = true := by
  have hlen : R.length = ts.length := by simpa using hp.length_eq
  rcases Nat.lt_or_ge (k + 1) ts.length with h | h
  · rw [Nat.mod_eq_of_lt h]; exact from_idx R none hf k (by omega)
  · have hk1 : ts.length = k + 1 := by omega
    rw [hk1, Nat.mod_self]
    obtain ⟨h1, h2⟩ := last_get (l := R) (m := k) (by omega)
    exact hl _ _ h1 h2
open Classical in
set_option maxHeartbeats 3200000 in
set_option maxRecDepth 100000 in
theorem camion_bad (A : Option Addr) (len cap : Nat) (ts : List Nat) (w : World) (hr : Rd w A len 1 (wds ts)) (hl : len ≤ 9223372036854775807) (hwf : ∀ x ∈ ts, x < 4294967296) (hn : ¬ Tour ts ∨ len < 3) :
    Calls Tryd.prog 5 #[.slice A len cap] w fun e w' => e = .returned (.bool true) ∧ Below w.heap.size w w' := by
  have HR := Lib.hid (ring_bad A len cap ts w hr hl hwf hn)
  have hrH := Lib.hid hr; have hnH := Lib.hid hn; have hwfH := Lib.hid hwf
  clear hr hwf hn
  go_enter Tryd.func5, Tryd.ntmps5
  go_wp2_with fail
  refine HR.out.mono ?_
  rintro e w1 ⟨⟨c, hc, rfl⟩, hb1⟩
  have HP := Lib.hid (players_any A len cap ts w1 (hrH.out.later hb1) hl hwfH.out)
  clear HR
  by_cases hT : Tour ts
  · have h3 : (len : Int) < 3 := by have := hnH.out.resolve_left (fun h => h hT); omega
    rw [decide_eq_true hT] at HP
    clear hT
    go_wp2_with fail
    refine HP.out.mono ?_
    rintro e w2 ⟨rfl, hb2⟩
    go_wp2
    go_ret
    exact ⟨rfl, hb1.trans (hb2.mono hb1.size)⟩
  · rw [decide_eq_false hT] at HP
    clear hT
    go_wp2_with fail
    refine HP.out.mono ?_
    rintro e w2 ⟨rfl, hb2⟩
    go_wp2
    go_ret
    exact ⟨rfl, hb1.trans (hb2.mono hb1.size)⟩
open Classical in
set_option maxHeartbeats 3200000 in
set_option maxRecDepth 100000 in
theorem camion_ok (A : Option Addr) (cap : Nat) (ts : List Nat) (w : World) (hr : Rd w A ts.length 1 (wds ts)) (hwf : ∀ x ∈ ts, x < 4294967296) (hT : Tour ts) (h3 : 3 ≤ ts.length) (htb : Tb w) (hg : 0 < w.heap.size) :
    Calls Tryd.prog 5 #[.slice A ts.length cap] w fun e w' => e = .returned (.bool true) ∧ Below w.heap.size w w' := by
  have hlen := hT.len
  have HR := Lib.hid (ring_ok A ts.length cap ts w hr hwf hT h3 htb hg)
  have hrH := Lib.hid hr; have hTH := Lib.hid hT; have hwfH := Lib.hid hwf
  have hlenH := Lib.hid hlen
  have hcam := Lib.hid (camion hT h3)
  have hp8 : 2 ^ ts.length ≤ 2 ^ 8 := Nat.pow_le_pow_right (by omega) hlen
  have hpos := Nat.two_pow_pos ts.length
  have hpi : ((2 : Int) ^ ts.length) = ((2 ^ ts.length : Nat) : Int) := by simp
  have hE : ((2 : Int) ^ ts.length - 1) % 4294967296 = ((2 ^ ts.length - 1 : Nat) : Int) := by rw [hpi]; omega
  have hEm : ((2 : Int) ^ min ts.length 32 - 1) % 4294967296 = ((2 ^ ts.length - 1 : Nat) : Int) := by rw [Nat.min_eq_left (by omega)]; exact hE
  have hstr := Lib.hid (fun i => @str_full ts i)
  have hful := Lib.hid (fun i C (hi : i < ts.length) (h : CI ts i ts.length C) R => @full_ring ts hT i C hi h R)
  have hwa := Lib.hid (fun R (h : Whole ts true [] (2 ^ ts.length - 1) R) => whole_all (by omega) h)
  have h3i : (3 : Int) ≤ ts.length := by omega
  have hy8H := Lib.hid hp8
  clear hr hwf hT htb hpi hp8 hpos
  generalize hPN : 2 ^ ts.length - 1 = pn at *
  clear hPN
  go_enter Tryd.func5, Tryd.ntmps5
  go_wp2_with fail
  refine HR.out.mono ?_
  rintro e w1 ⟨hpost, hb1⟩
  have HP := Lib.hid (players_any A ts.length cap ts w1 (hrH.out.later hb1) (by omega) hwfH.out)
  rw [decide_eq_true hTH.out] at HP
  have hb1H := Lib.hid hb1
  clear HR hb1
  rcases hpost with ⟨A', c', R, rfl, hR, hRc, hW⟩ | ⟨rfl, hno⟩
  · have hRH := Lib.hid hR; have hWH := Lib.hid hW
    clear hR hW
    go_wp2_with fail
    refine HP.out.mono ?_
    rintro e w2 ⟨rfl, hb2⟩
    have hbb := hb1H.out.trans (hb2.mono hb1H.out.size)
    have hr2 := Lib.hid (hrH.out.later hbb)
    have hR2H := Lib.hid (hRH.out.later hb2)
    clear HP hb2 hRH
    go_wp2
    go_loop [5, 6] (fun v k => ∃ (q : Nat), q ≤ ts.length ∧ k = .int .i64 q ∧ v = .bool true) (fun _ k => ts.length - (intOf k).toNat)
    case atStart => exact ⟨0, Nat.zero_le _, rfl, rfl⟩
    case round =>
      obtain ⟨q, hq, rfl, rfl⟩ := hrel
      by_cases hlt : q < ts.length
      · have HC := Lib.hid (comes_any A cap q ts w2 hr2.out hTH.out hlt)
        go_wp2_with fail
        refine HC.out.mono ?_
        rintro e w3 ⟨⟨C, rfl, hC⟩, rfl⟩
        obtain rfl := hful.out q C hlt hC R hWH.out
        clear hC HC
        go_wp2
        go_round
        case rel => exact ⟨q + 1, by omega, by go_num, rfl⟩
        case measure => simp [intOf]; omega
      · obtain ⟨hp, hf, hlast⟩ := hwa.out R hWH.out
        have HE := Lib.hid (eachL_any (ts.length : Int) A' ts.length c' (natI R) w2 hR2H.out (by omega) hRc)
        rw [show eachB (ts.length : Int) (natI R) = true from (eachB_iff _ _).2 ⟨R, hp, rfl⟩] at HE
        have hstp := Lib.hid (ring_step hp hf (hlast (by first | rfl | trivial)))
        have hlt := Lib.hid (fun k (hk : k < ts.length) => show R.getD k 0 < ts.length by
          have hRl : R.length = ts.length := by simpa using hp.length_eq
          have := hp.subset (show R.getD k 0 ∈ R by rw [List.getD, List.getElem?_eq_getElem (show k < R.length by rw [hRl]; exact hk)]; exact List.getElem_mem _)
          simpa using this)
        clear hp hf hlast
        go_wp2_with fail
        refine HE.out.mono ?_
        rintro e w3 ⟨rfl, rfl⟩
        clear HE
        go_wp2
        go_loopw [7] (fun i wr => ∃ k : Nat, k ≤ ts.length ∧ i = .int .i64 k ∧ Below w2.heap.size w2 wr) (fun i _ => ts.length - (intOf i).toNat)
        case atStart => exact ⟨0, Nat.zero_le _, rfl, Below.refl _ _⟩
        case round =>
          obtain ⟨k, hk, rfl, hbr⟩ := hrel
          have hbrH := Lib.hid hbr
          clear hbr
          by_cases hlt2 : k < ts.length
          · have hm := Nat.mod_lt (k + 1) (show 0 < ts.length by omega)
            obtain ⟨gR, oR, rfl, hgR, hcq⟩ := (hR2H.out.later hbrH.out).int hlt2
            obtain ⟨_, _, he, _, hcq1⟩ := (hR2H.out.later hbrH.out).int hm
            cases he
            rw [natI_get] at hcq hcq1
            have ha := hlt.out k hlt2
            have hb := hlt.out _ hm
            obtain ⟨gt, ot, rfl, hgt, hct⟩ := (hr2.out.later hbrH.out).wd ha
            have hbt := hstp.out k hlt2
            unfold beat at hbt
            have hy := hTH.out.lt (R.getD k 0) ha
            have hy8 := hy8H.out
            have HB := Lib.hid (fun W => bit_any (ts.getD (R.getD k 0) 0) (R.getD ((k + 1) % ts.length) 0) W (by omega) (by omega))
            simp only [hbt] at HB
            have hw1 : IntKind.i64.wrap ((k : Int) + 1) = ((k + 1 : Nat) : Int) := by rw [IntWalk.i64_in _ (by omega)]; omega
            have htm : Int.tmod (((k + 1 : Nat) : Int)) (ts.length : Int) = (((k + 1) % ts.length : Nat) : Int) := by rw [Int.tmod_eq_emod_of_nonneg (by omega)]; simp
            have hn0 : ((ts.length : Int) == 0) = false := by simp; intro h; rw [h] at h3; simp at h3
            clear hbt hy hy8
            generalize ts.getD (R.getD k 0) 0 = y at *
            generalize R.getD k 0 = a at *
            generalize R.getD ((k + 1) % ts.length) 0 = b at *
            have haI : (a : Int) < ts.length := by omega
            have hkI : (k : Int) < ts.length := by omega
            generalize (k + 1) % ts.length = m at *
            have hmI : (m : Int) < ts.length := by omega
            have hm0 : (0 : Int) ≤ m := by omega
            obtain ⟨k1, hk1⟩ : ∃ k1, k + 1 = k1 := ⟨_, rfl⟩
            rw [hk1] at hw1 htm
            have hk1H := Lib.hid hk1
            clear hk1
            go_wp2_with fail
            go_quiet ((go_at_call 9; with_reducible exact quiet_left (HB.out _)))
            clear hw1 htm hn0
            go_wp2
            go_roundw
            case rel => exact ⟨k + 1, by omega, by go_num, below_drewN hbrH.out nq⟩
            case measure => simp [intOf]; omega
          · go_wp2
            go_ret
            exact ⟨rfl, hbb.trans (hbrH.out.mono hbb.size)⟩
  · have hnoH := Lib.hid hno
    clear hno
    go_wp2_with fail
    refine HP.out.mono ?_
    rintro e w2 ⟨rfl, hb2⟩
    have hbb := hb1H.out.trans (hb2.mono hb1H.out.size)
    have hr2 := Lib.hid (hrH.out.later hbb)
    clear HP hb2
    go_wp2
    go_loop [5, 6] (fun v k => ∃ (q : Nat) (b : Bool), q ≤ ts.length ∧ k = .int .i64 q ∧ v = .bool b ∧ (b = true → ∀ i, i < q → Str ts i)) (fun _ k => ts.length - (intOf k).toNat)
    case atStart => exact ⟨0, true, Nat.zero_le _, rfl, rfl, fun _ i hi => absurd hi (by omega)⟩
    case round =>
      obtain ⟨q, b, hq, rfl, rfl, hs⟩ := hrel
      by_cases hlt : q < ts.length
      · cases b
        · clear hs
          go_wp2
          go_round
          case rel => exact ⟨q + 1, false, by omega, by go_num, rfl, fun h => by cases h⟩
          case measure => simp [intOf]; omega
        · have HC := Lib.hid (comes_any A cap q ts w2 hr2.out hTH.out hlt)
          have hsH := Lib.hid (hs rfl)
          clear hs
          go_wp2_with fail
          refine HC.out.mono ?_
          rintro e w3 ⟨⟨C, rfl, hC⟩, rfl⟩
          have hCH := Lib.hid hC
          clear hC HC
          by_cases hCe : C = pn
          · subst hCe
            have hst := Lib.hid (hstr.out q hCH.out)
            go_wp2
            go_round
            case rel => exact ⟨q + 1, true, by omega, by go_num, rfl, fun _ i hi => by
              rcases Nat.lt_or_ge i q with h | h
              · exact hsH.out i h
              · obtain rfl : i = q := by omega
                exact hst.out⟩
            case measure => simp [intOf]; omega
          · have hCb : ((C : Int) == (pn : Int)) = false := by simp; omega
            clear hCe
            go_wp2
            go_round
            case rel => exact ⟨q + 1, false, by omega, by go_num, rfl, fun h => by cases h⟩
            case measure => simp [intOf]; omega
      · obtain rfl : ts.length = q := by omega
        cases b
        · clear hs
          go_wp2
          go_ret
          exact ⟨rfl, hbb⟩
        · obtain ⟨R, hR⟩ := hcam.out (hs rfl)
          exact absurd hR (hnoH.out R)
theorem beatsCamion_any (A : Option Addr) (len cap : Nat) (ts : List Nat) (w : World) (hr : Rd w A len 1 (wds ts)) (hl : len ≤ 9223372036854775807) (hwf : ∀ x ∈ ts, x < 4294967296) (htb : Tb w) (hg : 0 < w.heap.size) :
    Calls Tryd.prog 5 #[.slice A len cap] w fun e w' => e = .returned (.bool true) ∧ Below w.heap.size w w' := by
  by_cases h : Tour ts ∧ 3 ≤ len
  · have hel : ts.length = len := by simpa [wds] using hr.1
    subst hel
    exact camion_ok A cap ts w hr hwf h.1 h.2 htb hg
  · refine camion_bad A len cap ts w hr hl hwf ?_
    by_cases hT : Tour ts
    · exact .inr (Nat.lt_of_not_le fun h3 => h ⟨hT, h3⟩)
    · exact .inl hT
end Go.Proofs.YtnlgmjigadgneaaDoor
