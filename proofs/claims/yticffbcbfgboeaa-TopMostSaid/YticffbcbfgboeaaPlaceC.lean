/- place.Check, PlaceCheck, May. -/
import Derived.Test.YticffbcbfgboeaaPlaceB
namespace Go.Proofs.Yticffbcbfgboeaa
open Go.RowKit Go.Shelf

theorem wat_mem {l : List (Int × Int)} {k : Nat} (h : k < l.length) : wat l k ∈ l := by simp [wat, List.getD, h]
theorem wany_at {p : Int × Int → Bool} {l : List (Int × Int)} {k : Nat} (hk : k < l.length) (h : p (wat l k) = true) : l.any p = true := List.any_eq_true.2 ⟨_, wat_mem hk, h⟩
theorem wany_take {p : Int × Int → Bool} {l : List (Int × Int)} {k : Nat} (hk : k < l.length) (h : (l.take k).any p = false) (h' : p (wat l k) = false) : (l.take (k + 1)).any p = false := any_take_succ' p (0, 0) l k hk h h'
def idxW (p : Int × Int → Bool) (cs : List (Int × Int)) : Int := match cs.findIdx? p with | some k => k | none => -1
theorem idxW_none {p : Int × Int → Bool} {cs : List (Int × Int)} (h : cs.any p = false) : idxW p cs = -1 := by
  unfold idxW
  rw [List.findIdx?_eq_none_iff.2]
  intro x hx
  simpa using List.any_eq_false.1 h x hx
theorem idxW_some {p : Int × Int → Bool} {cs : List (Int × Int)} {k : Nat} (hk : k < cs.length) (h : (cs.take k).any p = false) (hp : p (wat cs k) = true) : idxW p cs = k := by
  unfold idxW
  rw [List.findIdx?_eq_some_iff_getElem.2 ⟨hk, by simpa [wat, List.getD, hk] using hp, fun j hj => by
    have := List.any_eq_false.1 h cs[j] (List.mem_take_iff_getElem.2 ⟨j, by omega, rfl⟩)
    simpa using this⟩]
theorem idxW_ge (p : Int × Int → Bool) (cs : List (Int × Int)) : decide (0 ≤ idxW p cs) = cs.any p := by
  unfold idxW
  cases h : cs.findIdx? p with
  | none => simp [List.findIdx?_eq_none_iff] at h; simp; exact fun a b hab => by simp [h a b hab]
  | some k =>
    obtain ⟨hk, hp, _⟩ := List.findIdx?_eq_some_iff_getElem.1 h
    have : cs.any p = true := List.any_eq_true.2 ⟨cs[k], List.getElem_mem _, hp⟩
    simp [this]
def wagg (c : Int × Int) : Value := .agg #[.int .i64 c.1, .int .u32 c.2]
set_option maxHeartbeats 400000 in
theorem indexFuncW (A : Option Addr) (len cap : Nat) (cs : List (Int × Int)) (f : FuncId) (env : Array Value) (p : Int × Int → Bool) (w : World) (hp : Rd w A len 2 (ps2 .i64 .u32 cs)) (hl : len ≤ 9223372036854775807)
    (hent : ∀ args w, (callFunc f args).run Try.prog w = .ok (.enter f args) w)
    (hcall : ∀ a w', a ∈ cs → Below w.heap.size w w' → Calls Try.prog f (#[wagg a] ++ env) w' fun e w'' => e = .returned (.bool (p a)) ∧ Below w'.heap.size w' w'') :
    Calls Try.prog 26 #[.slice A len cap, .func (.func f) #[] env] w fun e w' => e = .returned (.int .i64 (idxW p cs)) ∧ Below w.heap.size w w' := by
  have hzl := Lib.hid (show cs.length = len by have := hp.1; rw [ps2_length] at this; omega)
  have hpH := Lib.hid hp
  have hcallH := Lib.hid hcall
  clear hp hcall
  go_enter Try.func26, Try.ntmps26
  go_wp2
  go_loopw [8] (fun i wr => ∃ k : Nat, k ≤ len ∧ i = .int .i64 k ∧ (cs.take k).any p = false ∧ Below w.heap.size w wr) (fun i _ => len - (intOf i).toNat)
  case atStart => exact ⟨0, Nat.zero_le _, rfl, rfl, Below.refl _ _⟩
  case round =>
    obtain ⟨k, hk, rfl, hn, hb⟩ := hrel
    have hnH := Lib.hid hn; clear hn
    by_cases hlt : k < len
    · obtain ⟨b, o, rfl, hab, hc0, hc1⟩ := (hpH.out.later hb).pair hlt
      have hmem := Lib.hid (wat_mem (l := cs) (k := k) (by rw [hzl.out]; exact hlt))
      have hsome := Lib.hid (idxW_some (p := p) (cs := cs) (k := k) (by rw [hzl.out]; exact hlt) hnH.out)
      have hnext := Lib.hid (wany_take (p := p) (l := cs) (k := k) (by rw [hzl.out]; exact hlt) hnH.out)
      have hcj := Lib.hid (hcallH.out (wat cs k) wr hmem.out hb)
      unfold wat at hmem hsome hnext hcj
      generalize cs.getD k (0, 0) = a at *
      obtain ⟨t, u⟩ := a
      unfold wagg at hcj
      go_wp2_with fail
      refine hcj.out.mono ?_
      rintro e w' ⟨rfl, hb'⟩
      have hb2 := hb.trans (hb'.mono hb.size)
      cases hpk : p (t, u)
      · have hpH' := Lib.hid hpk
        go_wp2
        go_roundw
        case rel => exact ⟨k + 1, by omega, by go_num, hnext.out hpH'.out, hb2⟩
        case measure => simp [intOf]; omega
      · have hpH' := Lib.hid (hsome.out hpk)
        go_wp2
        go_ret
        exact ⟨by rw [hpH'.out]; rfl, hb2⟩
    · have hnone := Lib.hid (idxW_none (p := p) (cs := cs) (by have := hnH.out; rwa [List.take_of_length_le (by rw [hzl.out]; omega)] at this))
      go_wp2
      go_ret
      exact ⟨by rw [hnone.out]; rfl, hb⟩
set_option maxHeartbeats 400000 in
theorem containsFuncW (A : Option Addr) (len cap : Nat) (cs : List (Int × Int)) (f : FuncId) (env : Array Value) (p : Int × Int → Bool) (w : World) (hp : Rd w A len 2 (ps2 .i64 .u32 cs)) (hl : len ≤ 9223372036854775807)
    (hent : ∀ args w, (callFunc f args).run Try.prog w = .ok (.enter f args) w)
    (hcall : ∀ a w', a ∈ cs → Below w.heap.size w w' → Calls Try.prog f (#[wagg a] ++ env) w' fun e w'' => e = .returned (.bool (p a)) ∧ Below w'.heap.size w' w'') :
    Calls Try.prog 20 #[.slice A len cap, .func (.func f) #[] env] w fun e w' => e = .returned (.bool (cs.any p)) ∧ Below w.heap.size w w' := by
  have H := indexFuncW A len cap cs f env p w hp hl hent hcall
  have hg := Lib.hid (idxW_ge p cs)
  have HH := Lib.hid H; clear H hp hent hcall
  go_enter Try.func20, Try.ntmps20
  go_wp2_with fail
  refine HH.out.mono ?_
  rintro e w' ⟨rfl, hb⟩
  go_wp2
  go_ret
  exact ⟨by rw [← hg.out]; simp, hb⟩
/-- is the room out of range? -/
def oddW (c : Int × Int) : Bool := decide (c.1 < 0) || decide (12 < c.1)
def pchk (ws : List (Int × Int)) (nt : Nat) : Int := if 6 < ws.length ∨ 12 < nt then 1 else if ws.any oddW = true then 4 else 0
theorem pchk_ok {ws : List (Int × Int)} {nt : Nat} (h : pchk ws nt = 0) : ws.length ≤ 6 ∧ nt ≤ 12 ∧ ∀ j, j < ws.length → 0 ≤ (wat ws j).1 ∧ (wat ws j).1 ≤ 12 := by
  unfold pchk at h
  split at h
  · cases h
  rename_i h1
  split at h
  · cases h
  rename_i h2
  refine ⟨by omega, by omega, fun j hj => ?_⟩
  have := List.any_eq_false.1 (by simpa using h2 : ws.any oddW = false) _ (wat_mem hj)
  simp [oddW] at this
  omega
set_option maxHeartbeats 800000 in
theorem odd_any (c : Int × Int) (w : World) : Calls Try.prog 21 #[wagg c] w fun e w' => e = .returned (.bool (oddW c)) ∧ Below w.heap.size w w' := by
  obtain ⟨r, h⟩ := c
  unfold wagg
  have hb := Lib.hid ((Below.refl _ w).alloc (Nat.le_refl _) (.cells #[.int .i64 r, .int .u32 h] 39))
  by_cases h1 : r < 0
  · have e1 := Lib.hid (show oddW (r, h) = true by simp [oddW, h1])
    go_enter Try.func21, Try.ntmps21
    go_wp2
    go_ret
    exact ⟨by rw [e1.out]; simp, hb.out⟩
  · have e1 := Lib.hid (show oddW (r, h) = decide (12 < r) by simp [oddW, h1])
    go_enter Try.func21, Try.ntmps21
    go_wp2
    go_ret
    exact ⟨by rw [e1.out]; rfl, hb.out⟩
set_option maxHeartbeats 1600000 in
theorem pcheck_any (A B : Option Addr) (nw nt cA cB : Nat) (ws : List (Int × Int)) (w : World) (hw : Rd w A nw 2 (ps2 .i64 .u32 ws)) (hnw : nw ≤ 9223372036854775807) (hnt : nt ≤ 9223372036854775807) :
    Calls Try.prog 15 #[.slice A nw cA, .slice B nt cB] w fun e w' => e = .returned (.int .i64 (pchk ws nt)) ∧ Below w.heap.size w w' := by
  have hwl : ws.length = nw := by have := hw.1; rw [ps2_length] at this; omega
  have HC := Lib.hid (containsFuncW A nw cA ws 21 #[] oddW w hw hnw (fun _ _ => rfl) (fun a w' _ _ => odd_any a w'))
  clear hw
  by_cases h1 : 6 < nw
  · have e1 := Lib.hid (show pchk ws nt = 1 from if_pos (.inl (by rw [hwl]; exact h1)))
    clear hwl
    go_enter Try.func15, Try.ntmps15
    go_wp2
    go_ret
    exact ⟨by rw [e1.out]; rfl, Below.refl _ _⟩
  by_cases h2 : 12 < nt
  · have e1 := Lib.hid (show pchk ws nt = 1 from if_pos (.inr h2))
    clear hwl
    go_enter Try.func15, Try.ntmps15
    go_wp2
    go_ret
    exact ⟨by rw [e1.out]; rfl, Below.refl _ _⟩
  have e1 : pchk ws nt = if ws.any oddW = true then 4 else 0 := if_neg (by rw [hwl]; omega)
  cases h3 : ws.any oddW
  · rw [h3] at HC e1
    have e1H := Lib.hid e1
    clear e1 hwl h3
    go_enter Try.func15, Try.ntmps15
    go_wp2_with fail
    refine HC.out.mono ?_
    rintro e w' ⟨rfl, hb⟩
    go_wp2
    go_ret
    exact ⟨by rw [e1H.out]; rfl, hb⟩
  · rw [h3] at HC e1
    have e1H := Lib.hid e1
    clear e1 hwl h3
    go_enter Try.func15, Try.ntmps15
    go_wp2_with fail
    refine HC.out.mono ?_
    rintro e w' ⟨rfl, hb⟩
    go_wp2
    go_ret
    exact ⟨by rw [e1H.out]; rfl, hb⟩
theorem mayI_eq (h t : Nat) (hh : h < 4294967296) (ht : t < 4294967296) : (bits .and .u32 (t : Int) (h : Int) == (t : Int)) = mayI (h : Int) (t : Int) := by
  unfold mayI
  rw [u32_and_nat t h ht hh, u32_andNot_nat t h ht hh]
  rw [Bool.eq_iff_iff, beq_iff_eq, beq_iff_eq]
  have hb : ∀ i, (4294967295 - h).testBit i = (decide (i < 32) && !h.testBit i) := fun i => by
    rw [show 4294967295 - h = 2 ^ 32 - (h + 1) by omega, Nat.testBit_two_pow_sub_succ (by omega)]
  have key : (t &&& h = t) ↔ (t &&& (4294967295 - h) = 0) := by
    constructor
    · intro e
      refine Nat.eq_of_testBit_eq fun i => ?_
      have e1 := congrArg (fun x => Nat.testBit x i) e
      simp only [Nat.testBit_and] at e1
      rw [Nat.testBit_and, hb, Nat.zero_testBit]
      revert e1
      cases t.testBit i <;> cases h.testBit i <;> simp
    · intro e
      refine Nat.eq_of_testBit_eq fun i => ?_
      have e1 := congrArg (fun x => Nat.testBit x i) e
      simp only [Nat.testBit_and, hb, Nat.zero_testBit] at e1
      rw [Nat.testBit_and]
      by_cases hi : i < 32
      · revert e1
        simp only [hi, decide_true, Bool.true_and]
        cases t.testBit i <;> cases h.testBit i <;> simp
      · rw [Nat.testBit_lt_two_pow (Nat.lt_of_lt_of_le (by omega : t < 2 ^ 32) (Nat.pow_le_pow_right (by omega) (by omega)))]
        rfl
  constructor
  · intro e
    exact_mod_cast key.1 (by exact_mod_cast e)
  · intro e
    exact_mod_cast key.2 (by exact_mod_cast e)
theorem refMay_any (r : Int) (h t : Nat) (w : World) (hh : h < 4294967296) (ht : t < 4294967296) :
    Calls Try.prog 11 #[.agg #[.int .i64 r, .int .u32 (h : Int)], .int .u32 (t : Int)] w fun e w' => e = .returned (.bool (mayI h t)) ∧ Below w.heap.size w w' := by
  have e1 := Lib.hid (mayI_eq h t hh ht)
  go_enter Try.func11, Try.ntmps11
  go_wp2
  go_ret
  exact ⟨by rw [← e1.out]; rfl, (Below.refl _ _).alloc (Nat.le_refl _) _⟩
end Go.Proofs.Yticffbcbfgboeaa
