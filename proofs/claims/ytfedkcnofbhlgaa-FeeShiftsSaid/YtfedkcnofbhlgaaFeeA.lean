/- Fees: what is wrong with them (fee.grid, FeesCheck). -/
import Derived.Test.YtfedkcnofbhlgaaRows2
import Derived.Test.YtfedkcnofbhlgaaContainsInt64
namespace Go.Proofs.Ytfedkcnofbhlgaa
open Go.RowKit

def wideF (n : Nat) (r : Rw) : Bool := decide (r.len ≠ n)
def bigF (z : Int) : Bool := decide (1048576 < z) || decide (z < -1048576)
def fchk (n : Nat) (l : List Rw) : Int := if 8 < n then 1 else if l.any (wideF n) then 3 else if l.any (fun r => r.zs.any bigF) then 4 else 0

theorem anyR_take {p : Rw → Bool} {l : List Rw} {k : Nat} (hk : k < l.length) (h : (l.take k).any p = false) (h' : p (rat l k) = false) : (l.take (k + 1)).any p = false := any_take_succ' p default l k hk h h'
theorem anyR_at {p : Rw → Bool} {l : List Rw} {k : Nat} (hk : k < l.length) (h : p (rat l k) = true) : l.any p = true := List.any_eq_true.2 ⟨_, rat_mem hk, h⟩
def idxR (p : Rw → Bool) (cs : List Rw) : Int := match cs.findIdx? p with | some k => k | none => -1
theorem idxR_none {p : Rw → Bool} {cs : List Rw} (h : cs.any p = false) : idxR p cs = -1 := by
  unfold idxR
  rw [List.findIdx?_eq_none_iff.2]
  intro x hx
  simpa using List.any_eq_false.1 h x hx
theorem idxR_some {p : Rw → Bool} {cs : List Rw} {k : Nat} (hk : k < cs.length) (h : (cs.take k).any p = false) (hp : p (rat cs k) = true) : idxR p cs = k := by
  unfold idxR
  rw [List.findIdx?_eq_some_iff_getElem.2 ⟨hk, by simpa [rat, List.getD, hk] using hp, fun j hj => by
    have := List.any_eq_false.1 h cs[j] (List.mem_take_iff_getElem.2 ⟨j, by omega, rfl⟩)
    simpa using this⟩]
theorem idxR_ge (p : Rw → Bool) (cs : List Rw) : decide (0 ≤ idxR p cs) = cs.any p := by
  unfold idxR
  cases h : cs.findIdx? p with
  | none => simp [List.findIdx?_eq_none_iff] at h; simp; exact fun a hab => by simp [h a hab]
  | some k =>
    obtain ⟨hk, hp, _⟩ := List.findIdx?_eq_some_iff_getElem.1 h
    have : cs.any p = true := List.any_eq_true.2 ⟨cs[k], List.getElem_mem _, hp⟩
    simp [this]
set_option maxHeartbeats 400000 in
theorem indexFuncR (A : Option Addr) (len cap : Nat) (cs : List Rw) (f : FuncId) (env : Array Value) (p : Rw → Bool) (w : World) (hp : RdR w A len cs) (hl : len ≤ 9223372036854775807)
    (hent : ∀ args w, (callFunc f args).run Try.prog w = .ok (.enter f args) w)
    (hcall : ∀ a w', a ∈ cs → Below w.heap.size w w' → Calls Try.prog f (#[rv a] ++ env) w' fun e w'' => e = .returned (.bool (p a)) ∧ Below w'.heap.size w' w'') :
    Calls Try.prog 19 #[.slice A len cap, .func (.func f) #[] env] w fun e w' => e = .returned (.int .i64 (idxR p cs)) ∧ Below w.heap.size w w' := by
  have hzl := Lib.hid hp.1
  have hpH := Lib.hid hp
  have hcallH := Lib.hid hcall
  clear hp hcall
  go_enter Try.func19, Try.ntmps19
  go_wp2
  go_loopw [8] (fun i wr => ∃ k : Nat, k ≤ len ∧ i = .int .i64 k ∧ (cs.take k).any p = false ∧ Below w.heap.size w wr) (fun i _ => len - (intOf i).toNat)
  case atStart => exact ⟨0, Nat.zero_le _, rfl, rfl, Below.refl _ _⟩
  case round =>
    obtain ⟨k, hk, rfl, hn, hb⟩ := hrel
    have hnH := Lib.hid hn; clear hn
    by_cases hlt : k < len
    · obtain ⟨b, o, rfl, hab, hc0, _⟩ := (hpH.out.later hb).at hlt
      have hmem := Lib.hid (rat_mem (l := cs) (k := k) (by rw [hzl.out]; exact hlt))
      have hsome := Lib.hid (idxR_some (p := p) (cs := cs) (k := k) (by rw [hzl.out]; exact hlt) hnH.out)
      have hnext := Lib.hid (anyR_take (p := p) (l := cs) (k := k) (by rw [hzl.out]; exact hlt) hnH.out)
      have hcj := Lib.hid (hcallH.out (rat cs k) wr hmem.out hb)
      generalize rat cs k = a at *
      obtain ⟨A', l', c', af⟩ := a
      unfold rv at hcj
      go_wp2_with fail
      refine hcj.out.mono ?_
      rintro e w' ⟨rfl, hb'⟩
      have hb2 := hb.trans (hb'.mono hb.size)
      cases hpk : p ⟨A', l', c', af⟩
      · have hpH' := Lib.hid hpk
        go_wp2
        go_roundw
        case rel => exact ⟨k + 1, by omega, by go_num, hnext.out hpH'.out, hb2⟩
        case measure => simp [intOf]; omega
      · have hpH' := Lib.hid (hsome.out hpk)
        go_wp2
        go_ret
        exact ⟨by rw [hpH'.out]; rfl, hb2⟩
    · have hnone := Lib.hid (idxR_none (p := p) (cs := cs) (by have := hnH.out; rwa [List.take_of_length_le (by rw [hzl.out]; omega)] at this))
      go_wp2
      go_ret
      exact ⟨by rw [hnone.out]; rfl, hb⟩
set_option maxHeartbeats 400000 in
theorem containsFuncR (A : Option Addr) (len cap : Nat) (cs : List Rw) (f : FuncId) (env : Array Value) (p : Rw → Bool) (w : World) (hp : RdR w A len cs) (hl : len ≤ 9223372036854775807)
    (hent : ∀ args w, (callFunc f args).run Try.prog w = .ok (.enter f args) w)
    (hcall : ∀ a w', a ∈ cs → Below w.heap.size w w' → Calls Try.prog f (#[rv a] ++ env) w' fun e w'' => e = .returned (.bool (p a)) ∧ Below w'.heap.size w' w'') :
    Calls Try.prog 13 #[.slice A len cap, .func (.func f) #[] env] w fun e w' => e = .returned (.bool (cs.any p)) ∧ Below w.heap.size w w' := by
  have H := indexFuncR A len cap cs f env p w hp hl hent hcall
  have hg := Lib.hid (idxR_ge p cs)
  have HH := Lib.hid H; clear H hp hent hcall
  go_enter Try.func13, Try.ntmps13
  go_wp2_with fail
  refine HH.out.mono ?_
  rintro e w' ⟨rfl, hb⟩
  go_wp2
  go_ret
  exact ⟨by rw [← hg.out]; simp, hb⟩
theorem grid1_any (a : Rw) (p : Addr) (B : Option Addr) (len cap : Nat) (w : World) (hc : w.cell? p = some (.slice B len cap)) :
    Calls Try.prog 14 #[rv a, .pointer (some p)] w fun e w' => e = .returned (.bool (wideF len a)) ∧ w = w' := by
  obtain ⟨A', l', c', af⟩ := a
  unfold rv
  go_enter Try.func14, Try.ntmps14
  go_wp2
  go_ret
  refine ⟨?_, rfl⟩
  unfold wideF
  by_cases h : l' = len
  · subst h; simp
  · have : ¬ (l' : Int) = len := by omega
    simp [h, this]
theorem grid2_any (z : Int) (w : World) : Calls Try.prog 16 #[.int .i64 z] w fun e w' => e = .returned (.bool (bigF z)) ∧ w = w' := by
  by_cases h : 1048576 < z
  · go_enter Try.func16, Try.ntmps16
    go_wp2
    go_ret
    exact ⟨by simp [bigF, h], rfl⟩
  · go_enter Try.func16, Try.ntmps16
    go_wp2
    go_ret
    have h2 : decide (1048576 < z) = false := by simp; omega
    exact ⟨by simp [bigF, h2], rfl⟩
theorem entG1 (args : Array Value) (w : World) : (callFunc 14 args).run Try.prog w = .ok (.enter 14 args) w := by go_simp
theorem entG2 (args : Array Value) (w : World) : (callFunc 16 args).run Try.prog w = .ok (.enter 16 args) w := by go_simp
theorem contains_wide (A : Option Addr) (len cap : Nat) (l : List Rw) (p : Addr) (B : Option Addr) (n c : Nat) (w : World) (hr : RdR w A len l) (hl : len ≤ 9223372036854775807) (hp : p.block < w.heap.size) (hc : w.cell? p = some (.slice B n c)) :
    Calls Try.prog 13 #[.slice A len cap, .func (.func 14) #[] #[.pointer (some p)]] w fun e w' => e = .returned (.bool (l.any (wideF n))) ∧ Below w.heap.size w w' := by
  refine containsFuncR A len cap l 14 #[.pointer (some p)] (wideF n) w hr hl entG1 ?_
  intro a w' _ hb
  exact (grid1_any a p B n c w' ((hb.cell hp).trans hc)).mono fun e w'' ⟨h1, h2⟩ => ⟨h1, h2 ▸ Below.refl _ _⟩
theorem contains_big (A : Option Addr) (len cap : Nat) (zs : List Int) (w : World) (hr : Rd w A len 1 (ints .i64 zs)) (hl : len ≤ 9223372036854775807) :
    Calls Try.prog 15 #[.slice A len cap, .func (.func 16) #[] #[]] w fun e w' => e = .returned (.bool (zs.any bigF)) ∧ Below w.heap.size w w' := by
  refine containsFuncL A len cap zs 16 #[] bigF w hr hl entG2 ?_
  intro a w' _ hb
  exact (grid2_any a w').mono fun e w'' ⟨h1, h2⟩ => ⟨h1, h2 ▸ Below.refl _ _⟩
theorem cellF_alloc {w w' : World} {v : Value} {t : TypeId} (h : Below (w.alloc (.cells #[v] t)).heap.size (w.alloc (.cells #[v] t)) w') : w'.cell? ⟨w.heap.size, 0, none⟩ = some v := by
  rw [h.cell (p := ⟨w.heap.size, 0, none⟩) (by simp)]
  go_simp
set_option maxHeartbeats 800000 in
theorem grid_any (A : Option Addr) (len cap : Nat) (l : List Rw) (w : World) (hr : RdR w A len l) (hl : len ≤ 9223372036854775807) :
    Calls Try.prog 10 #[.slice A len cap] w fun e w' => e = .returned (.int .i64 (fchk len l)) ∧ Below w.heap.size w w' := by
  have hel := hr.1
  by_cases h10 : 8 < len
  · have hv := Lib.hid (show fchk len l = 1 by rw [fchk, if_pos h10])
    clear hr hel
    go_enter Try.func10, Try.ntmps10
    go_wp2
    go_ret
    exact ⟨by rw [hv.out]; rfl, (Below.refl _ _).alloc (Nat.le_refl _) _⟩
  · have hv0 : fchk len l = if l.any (wideF len) then 3 else if l.any (fun r => r.zs.any bigF) then 4 else 0 := by rw [fchk, if_neg h10]
    have HC := Lib.hid (contains_wide A len cap l ⟨w.heap.size, 0, none⟩ A len cap (w.alloc (.cells #[.slice A len cap] 22)) (hr.alloc _) hl (by simp) (by go_simp))
    have hrH := Lib.hid hr; have helH := Lib.hid hel
    have hlen : len ≤ 8 := by omega
    clear hr hel
    cases hb : l.any (wideF len)
    · rw [hb] at hv0 HC
      have hv := Lib.hid (show fchk len l = if l.any (fun r => r.zs.any bigF) then 4 else 0 by rw [hv0]; rfl)
      clear hv0 hb h10
      go_enter Try.func10, Try.ntmps10
      go_wp2_with fail
      refine HC.out.mono ?_
      rintro e w' ⟨rfl, hbw⟩
      have hb0 := ((Below.refl w.heap.size w).alloc (Nat.le_refl _) (.cells #[.slice A len cap] 22)).trans (hbw.mono (by simp))
      have hbx := cellF_alloc hbw
      have hs0 := hbw.size
      simp at hs0
      clear HC
      go_wp2
      go_loopw [13] (fun i wr => ∃ k : Nat, k ≤ len ∧ i = .int .i64 k ∧ (l.take k).any (fun r => r.zs.any bigF) = false ∧ Below w.heap.size w wr) (fun i _ => len - (intOf i).toNat)
      case atStart => exact ⟨0, Nat.zero_le _, rfl, rfl, hb0⟩
      case round =>
        obtain ⟨k, hk, rfl, hj, hbr⟩ := hrel
        have hjH := Lib.hid hj
        clear hj
        by_cases hlt : k < len
        · obtain ⟨b, o, rfl, hab, hc0, hfit⟩ := (hrH.out.later hbr).at hlt
          have hstep := Lib.hid (anyR_take (p := fun r => r.zs.any bigF) (l := l) (k := k) (by rw [helH.out]; exact hlt) hjH.out)
          have hstop := Lib.hid (anyR_at (p := fun r => r.zs.any bigF) (l := l) (k := k) (by rw [helH.out]; exact hlt))
          generalize rat l k = a at *
          obtain ⟨A', l', c', af⟩ := a
          have hfH := Lib.hid hfit.1
          have hl' := hfit.2.1
          unfold maxLen at hl'
          clear hfit
          simp only at hl'
          have HO := Lib.hid (contains_big A' l' c' af wr hfH.out (by omega))
          cases hbig : af.any bigF
          · have hs := Lib.hid (hstep.out hbig)
            rw [hbig] at HO
            clear hbig hstep hstop
            go_wp2_with fail
            refine HO.out.mono ?_
            rintro e w' ⟨rfl, hb'⟩
            have hb2 := hbr.trans (hb'.mono hbr.size)
            go_wp2
            go_roundw
            case rel => exact ⟨k + 1, by omega, by go_num, hs.out, hb2⟩
            case measure => simp [intOf]; omega
          · have hs := Lib.hid (hstop.out hbig)
            rw [hbig] at HO
            clear hbig hstep hstop
            go_wp2_with fail
            refine HO.out.mono ?_
            rintro e w' ⟨rfl, hb'⟩
            have hb2 := hbr.trans (hb'.mono hbr.size)
            go_wp2
            go_ret
            exact ⟨by rw [hv.out, hs.out]; rfl, hb2⟩
        · have hnone := Lib.hid (show l.any (fun r => r.zs.any bigF) = false by have := hjH.out; rwa [List.take_of_length_le (by rw [helH.out]; omega)] at this)
          go_wp2
          go_ret
          exact ⟨by rw [hv.out, hnone.out]; rfl, hbr⟩
    · rw [hb] at hv0 HC
      have hv := Lib.hid (show fchk len l = 3 by rw [hv0]; rfl)
      clear hv0 hb h10
      go_enter Try.func10, Try.ntmps10
      go_wp2_with fail
      refine HC.out.mono ?_
      rintro e w' ⟨rfl, hbw⟩
      have hb0 := ((Below.refl w.heap.size w).alloc (Nat.le_refl _) (.cells #[.slice A len cap] 22)).trans (hbw.mono (by simp))
      go_wp2
      go_ret
      exact ⟨by rw [hv.out]; rfl, hb0⟩
set_option maxHeartbeats 800000 in
theorem feesCheck_any (A : Option Addr) (len cap : Nat) (l : List Rw) (w : World) (hr : RdR w A len l) (hl : len ≤ 9223372036854775807) :
    Calls Try.prog 6 #[.slice A len cap] w fun e w' => e = .returned (.int .i64 (fchk len l)) ∧ w = w' := by
  have hel := hr.1
  by_cases h10 : 8 < len
  · have hv := Lib.hid (show fchk len l = 1 by rw [fchk, if_pos h10])
    clear hr hel
    go_enter Try.func6, Try.ntmps6
    go_wp2
    go_ret
    exact ⟨by rw [hv.out]; rfl, rfl⟩
  · have hv := Lib.hid (show fchk len l = if l.any (wideF len) then 3 else if l.any (fun r => r.zs.any bigF) then 4 else 0 by rw [fchk, if_neg h10])
    have hrH := Lib.hid hr; have helH := Lib.hid hel
    have hlen : len ≤ 8 := by omega
    clear hr hel h10
    go_enter Try.func6, Try.ntmps6
    go_wp2
    go_loop [14] (fun i => ∃ k : Nat, k ≤ len ∧ i = .int .i64 k ∧ (l.take k).any (wideF len) = false) (fun i => len - (intOf i).toNat)
    case atStart => exact ⟨0, Nat.zero_le _, rfl, rfl⟩
    case round =>
      obtain ⟨k, hk, rfl, hj⟩ := hrel
      have hjH := Lib.hid hj
      clear hj
      by_cases hlt : k < len
      · obtain ⟨b, o, rfl, hab, hc0, hfit⟩ := hrH.out.at hlt
        have hstep := Lib.hid (anyR_take (p := wideF len) (l := l) (k := k) (by rw [helH.out]; exact hlt) hjH.out)
        have hstop := Lib.hid (anyR_at (p := wideF len) (l := l) (k := k) (by rw [helH.out]; exact hlt))
        generalize rat l k = a at *
        obtain ⟨A', l', c', af⟩ := a
        clear hfit
        simp only [wideF] at hstep hstop
        by_cases hw : l' = len
        · have hs := Lib.hid (hstep.out (by simp [hw]))
          subst hw
          clear hstep hstop
          go_wp2
          go_round
          case rel => exact ⟨k + 1, by omega, by go_num, hs.out⟩
          case measure => simp [intOf]; omega
        · have hs := Lib.hid (hstop.out (by simp [hw]))
          have hne : ¬ (l' : Int) = len := by omega
          clear hstep hstop
          go_wp2
          go_ret
          exact ⟨by rw [hv.out]; unfold wideF at *; rw [hs.out]; rfl, rfl⟩
      · have hnone := Lib.hid (show l.any (wideF len) = false by have := hjH.out; rwa [List.take_of_length_le (by rw [helH.out]; omega)] at this)
        go_wp2
        go_loop [26] (fun i => ∃ k : Nat, k ≤ len ∧ i = .int .i64 k ∧ (l.take k).any (fun r => r.zs.any bigF) = false) (fun i => len - (intOf i).toNat)
        case atStart => exact ⟨0, Nat.zero_le _, rfl, rfl⟩
        case round =>
          clear hjH hk hlt
          obtain ⟨k, hk, rfl, hj⟩ := hrel
          have hjH := Lib.hid hj
          clear hj
          by_cases hlt : k < len
          · obtain ⟨b, o, rfl, hab, hc0, hfit⟩ := hrH.out.at hlt
            have hstep := Lib.hid (anyR_take (p := fun r => r.zs.any bigF) (l := l) (k := k) (by rw [helH.out]; exact hlt) hjH.out)
            have hstop := Lib.hid (anyR_at (p := fun r => r.zs.any bigF) (l := l) (k := k) (by rw [helH.out]; exact hlt))
            generalize rat l k = a at *
            obtain ⟨A', l', c', af⟩ := a
            have hfH := Lib.hid hfit.1
            have hzl := Lib.hid hfit.zl
            have hl' := hfit.2.1
            unfold maxLen at hl'
            clear hfit
            simp only at hl'
            go_wp2
            go_loop [32] (fun i => ∃ m : Nat, m ≤ l' ∧ i = .int .i64 m ∧ (af.take m).any bigF = false) (fun i => l' - (intOf i).toNat)
            case atStart => exact ⟨0, Nat.zero_le _, rfl, rfl⟩
            case round =>
              obtain ⟨m, hm, rfl, hj2⟩ := hrel
              have hj2H := Lib.hid hj2
              clear hj2
              by_cases hlt2 : m < l'
              · obtain ⟨b2, o2, rfl, hab2, hc2⟩ := hfH.out.int hlt2
                have hml : m < af.length := by have := hzl.out; omega
                have hstep2 := Lib.hid (any_take_succ' bigF 0 af m hml hj2H.out)
                have hstop2 : bigF (af.getD m 0) = true → af.any bigF = true := fun h => List.any_eq_true.2 ⟨_, by simp [List.getD, hml], h⟩
                have hstop2 := Lib.hid hstop2
                generalize af.getD m 0 = z at *
                by_cases h1 : z < -1048576
                · have hs := Lib.hid (hstop.out (hstop2.out (by simp [bigF, h1])))
                  clear hstep hstop hstep2 hstop2
                  go_wp2
                  go_ret
                  exact ⟨by rw [hv.out, hnone.out, hs.out]; rfl, rfl⟩
                · by_cases h2 : 1048576 < z
                  · have hs := Lib.hid (hstop.out (hstop2.out (by simp [bigF, h2])))
                    clear hstep hstop hstep2 hstop2
                    go_wp2
                    go_ret
                    exact ⟨by rw [hv.out, hnone.out, hs.out]; rfl, rfl⟩
                  · have hs := Lib.hid (hstep2.out (by simp [bigF]; omega))
                    clear hstep hstop hstep2 hstop2
                    go_wp2
                    go_round
                    case rel => exact ⟨m + 1, by omega, by go_num, hs.out⟩
                    case measure => simp [intOf]; omega
              · have hs := Lib.hid (hstep.out (by have := hj2H.out; rwa [List.take_of_length_le (by have := hzl.out; omega)] at this))
                clear hstep hstop
                go_wp2
                go_round
                case rel => exact ⟨k + 1, by omega, by go_num, hs.out⟩
                case measure => simp [intOf]; omega
          · have hnone2 := Lib.hid (show l.any (fun r => r.zs.any bigF) = false by have := hjH.out; rwa [List.take_of_length_le (by rw [helH.out]; omega)] at this)
            go_wp2
            go_ret
            exact ⟨by rw [hv.out, hnone.out, hnone2.out]; rfl, rfl⟩
end Go.Proofs.Ytfedkcnofbhlgaa
