/- slices.IndexFunc at uint32 (split off XContainsU32). -/
import Derived.Test.YtdmbbddkbfknlaaDoorRows
import Derived.Test.YtdmbbddkbfknlaaDoorBase
namespace Go.Proofs.YtdmbbddkbfknlaaDoor
open Go.RowKit

def idxU (p : Nat → Bool) (cs : List Nat) : Int := match cs.findIdx? p with | some k => k | none => -1
theorem idxU_none {p : Nat → Bool} {cs : List Nat} (h : ∀ j, j < cs.length → p (cs.getD j 0) = false) : idxU p cs = -1 := by
  unfold idxU
  rw [List.findIdx?_eq_none_iff.2]
  intro x hx
  obtain ⟨j, hj, rfl⟩ := List.mem_iff_getElem.1 hx
  simpa [List.getD, hj] using h j hj
theorem idxU_some {p : Nat → Bool} {cs : List Nat} {k : Nat} (hk : k < cs.length) (h : ∀ j, j < k → p (cs.getD j 0) = false) (hp : p (cs.getD k 0) = true) : idxU p cs = k := by
  unfold idxU
  rw [List.findIdx?_eq_some_iff_getElem.2 ⟨hk, by simpa [List.getD, hk] using hp, fun j hj => by simpa [List.getD, Nat.lt_trans hj hk] using h j hj⟩]
set_option maxHeartbeats 400000 in
theorem indexFuncU (A : Option Addr) (len cap : Nat) (cs : List Nat) (f : FuncId) (env : Array Value) (p : Nat → Bool) (w : World) (hp : Rd w A len 1 (wds cs)) (hl : len ≤ 9223372036854775807)
    (hent : ∀ args w, (callFunc f args).run Tryd.prog w = .ok (.enter f args) w)
    (hcall : ∀ a w', a ∈ cs → Below w.heap.size w w' → Calls Tryd.prog f (#[.int .u32 (a : Nat)] ++ env) w' fun e w'' => e = .returned (.bool (p a)) ∧ Below w'.heap.size w' w'') :
    Calls Tryd.prog 15 #[.slice A len cap, .func (.func f) #[] env] w fun e w' => e = .returned (.int .i64 (idxU p cs)) ∧ Below w.heap.size w w' := by
  have hzl : cs.length = len := by simpa [wds] using hp.1
  have hzl := Lib.hid hzl
  have hpH := Lib.hid hp
  have hcallH := Lib.hid hcall
  clear hp hcall
  go_enter Tryd.func15, Tryd.ntmps15
  go_wp2
  go_loopw [8] (fun i wr => ∃ k : Nat, k ≤ len ∧ i = .int .i64 k ∧ (∀ j, j < k → p (cs.getD j 0) = false) ∧ Below w.heap.size w wr) (fun i _ => len - (intOf i).toNat)
  case atStart => exact ⟨0, Nat.zero_le _, rfl, fun j hj => absurd hj (by omega), Below.refl _ _⟩
  case round =>
    obtain ⟨k, hk, rfl, hn, hb⟩ := hrel
    have hnH := Lib.hid hn; clear hn
    by_cases hlt : k < len
    · obtain ⟨b, o, rfl, hab, hc1⟩ := (hpH.out.later hb).wd hlt
      have hmem := Lib.hid (show cs.getD k 0 ∈ cs by simp [List.getD, show k < cs.length by rw [hzl.out]; exact hlt])
      have hsome := Lib.hid (idxU_some (p := p) (cs := cs) (k := k) (by rw [hzl.out]; exact hlt) hnH.out)
      have hnext : p (cs.getD k 0) = false → ∀ j, j < k + 1 → p (cs.getD j 0) = false := by
        intro h j hj
        rcases Nat.lt_or_ge j k with h' | h'
        · exact hnH.out j h'
        · obtain rfl : j = k := by omega
          exact h
      have hnextH := Lib.hid hnext; clear hnext
      generalize cs.getD k 0 = a at *
      go_wp2_with fail
      refine (hcallH.out a _ hmem.out hb).mono ?_
      rintro e w' ⟨rfl, hb'⟩
      have hb2 := hb.trans (hb'.mono hb.size)
      cases hpk : p a
      · have hpH' := Lib.hid hpk
        go_wp2
        go_roundw
        case rel => exact ⟨k + 1, by omega, by go_num, hnextH.out hpH'.out, hb2⟩
        case measure => simp [intOf]; omega
      · have hpH' := Lib.hid (hsome.out hpk)
        go_wp2
        go_ret
        exact ⟨by rw [hpH'.out]; rfl, hb2⟩
    · go_wp2
      go_ret
      exact ⟨by rw [idxU_none (by rw [hzl.out]; intro j hj; exact hnH.out j (by omega))]; rfl, hb⟩
end Go.Proofs.YtdmbbddkbfknlaaDoor
