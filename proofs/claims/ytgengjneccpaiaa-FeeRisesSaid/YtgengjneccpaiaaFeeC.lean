/- fee: cost of a step; what is wrong with a net of fees; ref: Costs. -/
import Derived.Test.YtgengjneccpaiaaFeeTie
import Derived.Test.YtgengjneccpaiaaFeeEnds
namespace Go.Proofs.Ytgengjneccpaiaa
open Go.RowKit Go.Shelf

set_option maxHeartbeats 3200000 in
set_option maxRecDepth 100000 in
theorem cost_any (B N m : Nat) (l : List Arc) (A : Option Addr) (cap c p gl : Nat) (w : World) (f : Nat → Int) (h : LSt B N m l A cap c p gl w f) (hn : NOk N l) (x : Stp) (hx : x.1 < m) :
    Calls Try.prog 22 #[.pointer (some ⟨p, 0, none⟩), stv x] w fun e w' => e = .returned (.int .i64 (cst l x)) ∧ Below w.heap.size w w' := by
  obtain ⟨k, b⟩ := x
  dsimp only at hx
  have hel := h.len
  have hb1 := (Below.refl _ w).alloc (Nat.le_refl _) (.cells #[.int .i64 k, .bool b] 47)
  have h1 := h.alloc (.cells #[.int .i64 k, .bool b] 47)
  have hK := Blk.new w 47 #[.int .i64 k, .bool b]
  have k0 := hK.cell (j := 0) rfl
  have k1 := hK.cell (j := 1) rfl
  obtain ⟨bb, oo, rfl, hab, a0, a1, a2, a3⟩ := h1.ra.arc hx
  have hcb := cst_bd hn (x := (k, b)) (show k < l.length by omega)
  have c0 := h1.c0; have c1 := h1.c1; have c2 := h1.c2
  obtain ⟨lp1, lg1⟩ := h1.lt
  have lk1 := hK.lt
  have hkm : (k : Int) < m := by omega
  have hk0 : (0 : Int) ≤ k := by omega
  have hstv : stv (k, b) = .agg #[.int .i64 k, .bool b] := rfl
  rw [hstv]
  have hfe : (aat l k).2.2.2 = feA l k := rfl
  rw [hfe] at a3
  have hce := Lib.hid (show cst l (k, b) = if b then -feA l k else feA l k from rfl)
  generalize feA l k = fee at *
  generalize (aat l k).1 = q0 at *
  generalize (aat l k).2.1 = q1 at *
  generalize (aat l k).2.2.1 = q2 at *
  have hb1H := Lib.hid hb1; have hcbH := Lib.hid hcb
  clear h h1 hK hb1 hfe hcb
  go_enter Try.func22, Try.ntmps22
  cases b
  · have hce' := Lib.hid (hce.out.trans (if_neg (by simp)))
    clear hce
    go_wp2
    go_quiet (fail)
    go_wp2
    go_ret
    exact ⟨by rw [hce'.out]; rfl, below_drewN hb1H.out _⟩
  · have hce' := Lib.hid (hce.out.trans (if_pos rfl))
    have hw : IntKind.i64.wrap (-fee) = -fee := IntWalk.i64_in _ (by have := hcbH.out; rw [hce'.out] at this; omega)
    clear hce
    go_wp2
    go_quiet (fail)
    go_wp2
    go_ret
    exact ⟨by rw [hce'.out]; rfl, below_drewN hb1H.out _⟩
def anyA (p : Arc → Bool) (cs : List Arc) : Int := match cs.findIdx? p with | some k => k | none => -1
theorem anyA_none {p : Arc → Bool} {cs : List Arc} (h : cs.any p = false) : anyA p cs = -1 := by
  unfold anyA
  rw [List.findIdx?_eq_none_iff.2]
  intro x hx
  simpa using List.any_eq_false.1 h x hx
theorem anyA_some {p : Arc → Bool} {cs : List Arc} {k : Nat} (hk : k < cs.length) (h : (cs.take k).any p = false) (hp : p (aat cs k) = true) : anyA p cs = k := by
  unfold anyA
  rw [List.findIdx?_eq_some_iff_getElem.2 ⟨hk, by simpa [aat, List.getD, hk] using hp, fun j hj => by
    have := List.any_eq_false.1 h cs[j] (List.mem_take_iff_getElem.2 ⟨j, by omega, rfl⟩)
    simpa using this⟩]
theorem anyA_ge (p : Arc → Bool) (cs : List Arc) : decide (0 ≤ anyA p cs) = cs.any p := by
  unfold anyA
  cases h : cs.findIdx? p with
  | none => simp [List.findIdx?_eq_none_iff] at h; simp; exact fun a b c d hab => by simp [h a b c d hab]
  | some k =>
    obtain ⟨hk, hp, _⟩ := List.findIdx?_eq_some_iff_getElem.1 h
    have : cs.any p = true := List.any_eq_true.2 ⟨cs[k], List.getElem_mem _, hp⟩
    simp [this]
def aagg (c : Arc) : Value := .agg #[.int .i64 c.1, .int .i64 c.2.1, .int .i64 c.2.2.1, .int .i64 c.2.2.2]
set_option maxHeartbeats 400000 in
theorem indexFuncA (A : Option Addr) (len cap : Nat) (cs : List Arc) (f : FuncId) (env : Array Value) (p : Arc → Bool) (w : World) (hp : Rd w A len 4 (arcs cs)) (hl : len ≤ 9223372036854775807)
    (hent : ∀ args w, (callFunc f args).run Try.prog w = .ok (.enter f args) w)
    (hcall : ∀ a w', a ∈ cs → Below w.heap.size w w' → Calls Try.prog f (#[aagg a] ++ env) w' fun e w'' => e = .returned (.bool (p a)) ∧ Below w'.heap.size w' w'') :
    Calls Try.prog 24 #[.slice A len cap, .func (.func f) #[] env] w fun e w' => e = .returned (.int .i64 (anyA p cs)) ∧ Below w.heap.size w w' := by
  have hzl := Lib.hid (arcs_len hp)
  have hpH := Lib.hid hp
  have hcallH := Lib.hid hcall
  clear hp hcall
  go_enter Try.func24, Try.ntmps24
  go_wp2
  go_loopw [8] (fun i wr => ∃ k : Nat, k ≤ len ∧ i = .int .i64 k ∧ (cs.take k).any p = false ∧ Below w.heap.size w wr) (fun i _ => len - (intOf i).toNat)
  case atStart => exact ⟨0, Nat.zero_le _, rfl, rfl, Below.refl _ _⟩
  case round =>
    obtain ⟨k, hk, rfl, hn, hb⟩ := hrel
    have hnH := Lib.hid hn; clear hn
    by_cases hlt : k < len
    · obtain ⟨b, o, rfl, hab, hc0, hc1, hc2, hc3⟩ := (hpH.out.later hb).arc hlt
      have hmem := Lib.hid (aat_mem (l := cs) (k := k) (by rw [hzl.out]; exact hlt))
      have hsome := Lib.hid (anyA_some (p := p) (cs := cs) (k := k) (by rw [hzl.out]; exact hlt) hnH.out)
      have hnext := Lib.hid (any_take_succ' p (0, 0, 0, 0) cs k (by rw [hzl.out]; exact hlt) hnH.out)
      have hcj := Lib.hid (hcallH.out (aat cs k) wr hmem.out hb)
      unfold aat at hmem hsome hnext hcj hc0 hc1 hc2 hc3
      generalize cs.getD k (0, 0, 0, 0) = a at *
      obtain ⟨t, u, y, z⟩ := a
      unfold aagg at hcj
      dsimp only at hc0 hc1 hc2 hc3
      go_wp2_with fail
      refine hcj.out.mono ?_
      rintro e w' ⟨rfl, hb'⟩
      have hb2 := hb.trans (hb'.mono hb.size)
      cases hpk : p (t, u, y, z)
      · have hpH' := Lib.hid hpk
        go_wp2
        go_roundw
        case rel => exact ⟨k + 1, by omega, by go_num, hnext.out hpH'.out, hb2⟩
        case measure => simp [intOf]; omega
      · have hpH' := Lib.hid (hsome.out hpk)
        go_wp2
        go_ret
        exact ⟨by rw [hpH'.out]; rfl, hb2⟩
    · have hnone := Lib.hid (anyA_none (p := p) (cs := cs) (by have := hnH.out; rwa [List.take_of_length_le (by rw [hzl.out]; omega)] at this))
      go_wp2
      go_ret
      exact ⟨by rw [hnone.out]; rfl, hb⟩
set_option maxHeartbeats 400000 in
theorem containsFuncA (A : Option Addr) (len cap : Nat) (cs : List Arc) (f : FuncId) (env : Array Value) (p : Arc → Bool) (w : World) (hp : Rd w A len 4 (arcs cs)) (hl : len ≤ 9223372036854775807)
    (hent : ∀ args w, (callFunc f args).run Try.prog w = .ok (.enter f args) w)
    (hcall : ∀ a w', a ∈ cs → Below w.heap.size w w' → Calls Try.prog f (#[aagg a] ++ env) w' fun e w'' => e = .returned (.bool (p a)) ∧ Below w'.heap.size w' w'') :
    Calls Try.prog 19 #[.slice A len cap, .func (.func f) #[] env] w fun e w' => e = .returned (.bool (cs.any p)) ∧ Below w.heap.size w w' := by
  have H := indexFuncA A len cap cs f env p w hp hl hent hcall
  have hg := Lib.hid (anyA_ge p cs)
  have HH := Lib.hid H; clear H hp hent hcall
  go_enter Try.func19, Try.ntmps19
  go_wp2_with fail
  refine HH.out.mono ?_
  rintro e w' ⟨rfl, hb⟩
  go_wp2
  go_ret
  exact ⟨by rw [← hg.out]; simp, hb⟩
def negA (c : Arc) : Bool := decide (c.2.2.2 < 0)
set_option maxHeartbeats 800000 in
theorem neg_any (c : Arc) (w : World) : Calls Try.prog 20 #[aagg c] w fun e w' => e = .returned (.bool (negA c)) ∧ Below w.heap.size w w' := by
  obtain ⟨r, h, y, z⟩ := c
  unfold aagg negA
  have hb := Lib.hid ((Below.refl _ w).alloc (Nat.le_refl _) (.cells #[.int .i64 r, .int .i64 h, .int .i64 y, .int .i64 z] 53))
  go_enter Try.func20, Try.ntmps20
  go_wp2
  go_ret
  exact ⟨rfl, hb.out⟩
/-- the code of what is wrong with a net of fees -/
def fwr (n : Int) (l : List Arc) (s t value : Int) : Int := if echk n l s t ≠ 0 then echk n l s t else if value < 0 ∨ l.any negA = true then 4 else 0
theorem fwr_ok {n : Int} {l : List Arc} {s t value : Int} (h : fwr n l s t value = 0) : echk n l s t = 0 ∧ 0 ≤ value ∧ ∀ k, k < l.length → 0 ≤ feA l k := by
  unfold fwr at h
  split at h
  · omega
  · split at h
    · omega
    · rename_i h1 h2
      refine ⟨by omega, by omega, fun k hk => ?_⟩
      have h3 : l.any negA = false := by
        cases e : l.any negA
        · rfl
        · exact absurd (Or.inr e) h2
      have := List.any_eq_false.1 h3 _ (aat_mem hk)
      unfold negA at this
      unfold feA
      simpa using this
section
variable (n : Int) (A : Option Addr) (len cap : Nat) (l : List Arc) (s t value : Int) (w : World)
set_option maxHeartbeats 1600000 in
theorem feeWrong_any (hr : Rd w A len 4 (arcs l)) (hlen : len ≤ 9223372036854775807) :
    Calls Try.prog 10 #[.agg #[.int .i64 n, .slice A len cap], .int .i64 s, .int .i64 t, .int .i64 value] w fun e w' => e = .returned (.int .i64 (fwr n l s t value)) ∧ Below w.heap.size w w' := by
  have hb0 := (Below.refl _ w).alloc (Nat.le_refl _) (.cells #[.int .i64 n, .slice A len cap] 24)
  have HC := Lib.hid (ends_any n A len cap l s t _ (hr.later hb0) hlen)
  have hK := Blk.new w 24 #[.int .i64 n, .slice A len cap]
  have k0 := hK.cell (j := 0) rfl
  have k1 := hK.cell (j := 1) rfl
  have hKH := Lib.hid hK; have hb0H := Lib.hid hb0
  have hE := Lib.hid (show fwr n l s t value = if echk n l s t ≠ 0 then echk n l s t else if value < 0 ∨ l.any negA = true then 4 else 0 from rfl)
  have hrH := Lib.hid hr
  clear hr hK hb0
  generalize echk n l s t = c at *
  go_enter Try.func10, Try.ntmps10
  go_wp2_with fail
  refine HC.out.mono ?_
  rintro e w1 ⟨rfl, hb1⟩
  have hbb := hb0H.out.trans (hb1.mono hb0H.out.size)
  have hK1 : Blk w1 w.heap.size 24 #[.int .i64 n, .slice A len cap] := (hb1.block _ hKH.out.lt).trans hKH.out
  have q0 := hK1.cell (j := 0) rfl
  have q1 := hK1.cell (j := 1) rfl
  have hbH := Lib.hid hbb
  have HN := Lib.hid (containsFuncA A len cap l 20 #[] negA w1 (hrH.out.later hbb) hlen (fun _ _ => rfl) (fun a w' _ _ => neg_any a w'))
  clear hb1 hbb hK1 k0 k1 HC
  by_cases hc : c = 0
  · subst hc
    have hE' := hE.out
    rw [if_neg (by simp)] at hE'
    have hEH := Lib.hid hE'
    clear hE hE'
    by_cases h1 : value < 0
    · have hr2 := Lib.hid (show fwr n l s t value = 4 by rw [hEH.out, if_pos (.inl h1)])
      clear HN
      go_wp2
      go_ret
      exact ⟨by rw [hr2.out]; rfl, hbH.out⟩
    · have hr2 := Lib.hid (show fwr n l s t value = if l.any negA = true then 4 else 0 by
        rw [hEH.out]
        by_cases h2 : l.any negA = true
        · rw [if_pos (.inr h2), if_pos h2]
        · rw [if_neg (by rintro (h | h) <;> contradiction), if_neg h2])
      have h1d : decide (value < 0) = false := decide_eq_false h1
      clear hEH
      generalize l.any negA = z at *
      go_wp2_with fail
      refine HN.out.mono ?_
      rintro e w2 ⟨rfl, hb2⟩
      have hbF := hbH.out.trans (hb2.mono hbH.out.size)
      cases z
      · go_wp2
        go_ret
        exact ⟨by rw [hr2.out]; rfl, hbF⟩
      · go_wp2
        go_ret
        exact ⟨by rw [hr2.out]; rfl, hbF⟩
  · have hr2 := Lib.hid (show fwr n l s t value = c by rw [hE.out, if_pos hc])
    have e1 : (c != 0) = true := by simpa using hc
    clear hc hE HN
    go_wp2
    go_ret
    exact ⟨by rw [hr2.out]; rfl, hbH.out⟩
end
def cpre (l : List Arc) (g : Nat → Int) (k : Nat) : Int := sm k fun j => g j * feA l j
theorem cpre_bd {l : List Arc} {g : Nat → Int} (hn : ∀ k, k < l.length → -1048576 ≤ feA l k ∧ feA l k ≤ 1048576) (hg : ∀ k, k < l.length → 0 ≤ g k ∧ g k ≤ 1048576) : ∀ k, k ≤ l.length → -(k * 1099511627776) ≤ cpre l g k ∧ cpre l g k ≤ k * 1099511627776
  | 0, _ => by simp [cpre, sm]
  | k + 1, hk => by
    have h1 := cpre_bd hn hg k (by omega)
    have h2 := hn k (by omega)
    have h3 := hg k (by omega)
    have a := Int.mul_le_mul_of_nonneg_left h2.2 h3.1
    have b := Int.mul_le_mul_of_nonneg_left h2.1 h3.1
    have e : cpre l g (k + 1) = cpre l g k + g k * feA l k := rfl
    rw [e]
    omega
set_option maxHeartbeats 1600000 in
theorem costs_any (N : Nat) (A B : Option Addr) (len cap cg : Nat) (l : List Arc) (gs : List Int) (w : World) (hr : Rd w A len 4 (arcs l)) (hrg : Rd w B len 1 (ints .i64 gs)) (hn : NOk N l) (hl : len ≤ 30) (hg : ∀ k, k < l.length → 0 ≤ gs.getD k 0 ∧ gs.getD k 0 ≤ 1048576) :
    Calls Try.prog 9 #[.agg #[.int .i64 N, .slice A len cap], .slice B len cg] w fun e w' => e = .returned (.int .i64 (costF l fun k => gs.getD k 0)) ∧ Below w.heap.size w w' := by
  have hel := arcs_len hr
  have hrH := Lib.hid hr; have hrgH := Lib.hid hrg; have helH := Lib.hid hel
  have hbd := Lib.hid (cpre_bd (l := l) (g := fun k => gs.getD k 0) (fun k hk => cst_bd hn (x := (k, false)) hk) hg)
  have hgH := Lib.hid hg
  have hfb := Lib.hid (fun k (hk : k < l.length) => cst_bd hn (x := (k, false)) hk)
  clear hr hrg hel hg
  go_enter Try.func9, Try.ntmps9
  go_wp2
  have hb0 := (Below.refl _ w).alloc (Nat.le_refl _) (.cells #[.int .i64 N, .slice A len cap] 24)
  have hr0 := Lib.hid (hrH.out.later hb0)
  have hg0 := Lib.hid (hrgH.out.later hb0)
  have hb0H := Lib.hid hb0
  clear hb0 hrH hrgH
  generalize w.alloc (.cells #[.int .i64 N, .slice A len cap] 24) = W0 at *
  go_loopw [5, 11] (fun x i wr => ∃ k : Nat, k ≤ len ∧ i = .int .i64 k ∧ x = .int .i64 (cpre l (fun k => gs.getD k 0) k) ∧ Below W0.heap.size W0 wr) (fun _ i _ => len - (intOf i).toNat)
  case atStart => exact ⟨0, Nat.zero_le _, rfl, rfl, Below.refl _ _⟩
  case round =>
    obtain ⟨k, hk, rfl, rfl, hb⟩ := hrel
    have hbF := Lib.hid (hb0H.out.trans (hb.mono hb0H.out.size))
    by_cases hlt : k < len
    · obtain ⟨bb, oo, rfl, hab, a0, a1, a2, a3⟩ := (hr0.out.later hb).arc hlt
      have hrk := (hg0.out.later hb).alloc (.cells #[.int .i64 (aat l k).1, .int .i64 (aat l k).2.1, .int .i64 (aat l k).2.2.1, .int .i64 (aat l k).2.2.2] 53)
      obtain ⟨b2, o2, rfl, hbl, g0⟩ := hrk.int hlt
      have hK := Blk.new wr 53 #[.int .i64 (aat l k).1, .int .i64 (aat l k).2.1, .int .i64 (aat l k).2.2.1, .int .i64 (aat l k).2.2.2]
      have j3 := hK.cell (j := 3) rfl
      have e : cpre l (fun k => gs.getD k 0) (k + 1) = cpre l (fun k => gs.getD k 0) k + gs.getD k 0 * feA l k := rfl
      have h1 := hbd.out (k + 1) (by rw [helH.out]; omega)
      rw [e] at h1
      have h2 := hfb.out k (by rw [helH.out]; omega)
      have h3 := hgH.out k (by rw [helH.out]; omega)
      have hfe : (aat l k).2.2.2 = feA l k := rfl
      rw [hfe] at a3 j3 g0 hbl hK
      have h2' : -1048576 ≤ feA l k ∧ feA l k ≤ 1048576 := h2
      have m1 := Int.mul_le_mul_of_nonneg_left h2'.2 h3.1
      have m2 := Int.mul_le_mul_of_nonneg_left h2'.1 h3.1
      have eH := Lib.hid e
      clear e hfe h2
      generalize cpre l (fun k => gs.getD k 0) k = x at *
      generalize gs.getD k 0 = gk at *
      generalize feA l k = fee at *
      generalize (aat l k).1 = q0 at *
      generalize (aat l k).2.1 = q1 at *
      generalize (aat l k).2.2.1 = q2 at *
      have hw1 : IntKind.i64.wrap (gk * fee) = gk * fee := IntWalk.i64_in _ (by omega)
      have hw2 : IntKind.i64.wrap (x + gk * fee) = x + gk * fee := IntWalk.i64_in _ (by omega)
      have hk0 : (0 : Int) ≤ k := by omega
      have hkl : (k : Int) < len := by omega
      have hbb := Lib.hid (fun nq => below_drewN (hb.alloc hb.size (.cells #[.int .i64 q0, .int .i64 q1, .int .i64 q2, .int .i64 fee] 53)) nq)
      clear hb hrk hK h1 m1 m2
      go_wp2
      go_quiet (fail)
      go_wp2
      go_roundw
      case rel => exact ⟨k + 1, by omega, by go_num, by rw [eH.out], hbb.out _⟩
      case measure => simp [intOf]; omega
    · obtain rfl : k = len := by omega
      have hc := Lib.hid (show cpre l (fun k => gs.getD k 0) k = costF l fun k => gs.getD k 0 by unfold cpre costF; rw [helH.out])
      go_wp2
      go_ret
      exact ⟨by rw [← hc.out]; rfl, hbF.out⟩
end Go.Proofs.Ytgengjneccpaiaa
