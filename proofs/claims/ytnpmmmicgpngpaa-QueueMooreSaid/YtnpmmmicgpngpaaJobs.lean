/- A slice of jobs; slices.IndexFunc, ContainsFunc at them. -/
import Derived.Test.YtnpmmmicgpngpaaRows
import Derived.Test.YtnpmmmicgpngpaaOpen
namespace Go.Proofs.Ytnpmmmicgpngpaa
open Go.RowKit

structure Jb where
  time : Int
  A : Option Addr
  len : Nat
  cap : Nat
  due : Int
  worth : Int
  after : List Int
instance : Inhabited Jb := ⟨⟨0, none, 0, 0, 0, 0, []⟩⟩
def jv (j : Jb) : List Value := [.int .i64 j.time, .slice j.A j.len j.cap, .int .i64 j.due, .int .i64 j.worth]
def jagg (j : Jb) : Value := .agg #[.int .i64 j.time, .slice j.A j.len j.cap, .int .i64 j.due, .int .i64 j.worth]
def JFit (w : World) (j : Jb) : Prop := Rd w j.A j.len 1 (ints .i64 j.after) ∧ j.len ≤ maxLen ∧ j.len ≤ j.cap
def RdJ (w : World) (A : Option Addr) (n : Nat) (l : List Jb) : Prop := l.length = n ∧ Rd w A n 4 (l.flatMap jv) ∧ ∀ j ∈ l, JFit w j
def jat (l : List Jb) (k : Nat) : Jb := l.getD k default
section
variable {w w' : World} {A : Option Addr} {n : Nat} {l : List Jb}
theorem RdJ.below {B : Nat} (h : RdJ w A n l) (hB : w.heap.size ≤ B) (hb : Below B w w') : RdJ w' A n l :=
  ⟨h.1, h.2.1.below hB hb, fun j hj => ⟨(h.2.2 j hj).1.below hB hb, (h.2.2 j hj).2⟩⟩
theorem RdJ.later (h : RdJ w A n l) (hb : Below w.heap.size w w') : RdJ w' A n l := h.below (Nat.le_refl _) hb
theorem RdJ.alloc (h : RdJ w A n l) (o : Obj) : RdJ (w.alloc o) A n l := h.later ((Below.refl _ _).alloc (Nat.le_refl _) o)
theorem RdJ.drew (h : RdJ w A n l) : RdJ w.drew A n l := h
theorem jat_mem {k : Nat} (h : k < l.length) : jat l k ∈ l := by simp [jat, List.getD, h]
theorem RdJ.at {k : Nat} (h : RdJ w A n l) (hk : k < n) : ∃ b o, A = some ⟨b, o, none⟩ ∧ b < w.heap.size ∧ w.cell? ⟨b, o + k * 4, none⟩ = some (.int .i64 (jat l k).time) ∧ w.cell? ⟨b, o + k * 4 + 1, none⟩ = some (.slice (jat l k).A (jat l k).len (jat l k).cap) ∧
    w.cell? ⟨b, o + k * 4 + 2, none⟩ = some (.int .i64 (jat l k).due) ∧ w.cell? ⟨b, o + k * 4 + 3, none⟩ = some (.int .i64 (jat l k).worth) ∧ JFit w (jat l k) := by
  obtain ⟨hl, hr, hf⟩ := h
  have hg : ∀ j, j < 4 → (l.flatMap jv)[k * 4 + j]? = (jv (jat l k))[j]? := by
    intro j hj
    rw [flat_get (s := 4) (fun _ => rfl) l k j hj]
    simp [jat, List.getD, show k < l.length by omega]
  obtain ⟨b, o, rfl, hlt, hc⟩ := hr.2 (by omega)
  refine ⟨b, o, rfl, hlt, ?_, ?_, ?_, ?_, hf _ (jat_mem (by omega))⟩
  · rw [hc (k * 4) (by omega)]; exact hg 0 (by omega)
  · rw [Nat.add_assoc, hc (k * 4 + 1) (by omega)]; exact hg 1 (by omega)
  · rw [Nat.add_assoc, hc (k * 4 + 2) (by omega)]; exact hg 2 (by omega)
  · rw [Nat.add_assoc, hc (k * 4 + 3) (by omega)]; exact hg 3 (by omega)
end
theorem any_at {p : Jb → Bool} {l : List Jb} {k : Nat} (hk : k < l.length) (h : p (jat l k) = true) : l.any p = true := List.any_eq_true.2 ⟨_, jat_mem hk, h⟩
theorem any_take_at {p : Jb → Bool} {l : List Jb} {k : Nat} (hk : k < l.length) (h : (l.take k).any p = false) (h' : p (jat l k) = false) : (l.take (k + 1)).any p = false := any_take_succ' p default l k hk h h'

def idxJ (p : Jb → Bool) (cs : List Jb) : Int := match cs.findIdx? p with | some k => k | none => -1
theorem idxJ_none {p : Jb → Bool} {cs : List Jb} (h : cs.any p = false) : idxJ p cs = -1 := by
  unfold idxJ
  rw [List.findIdx?_eq_none_iff.2]
  intro x hx
  simpa using List.any_eq_false.1 h x hx
theorem idxJ_some {p : Jb → Bool} {cs : List Jb} {k : Nat} (hk : k < cs.length) (h : (cs.take k).any p = false) (hp : p (jat cs k) = true) : idxJ p cs = k := by
  unfold idxJ
  rw [List.findIdx?_eq_some_iff_getElem.2 ⟨hk, by simpa [jat, List.getD, hk] using hp, fun j hj => by
    have := List.any_eq_false.1 h cs[j] (List.mem_take_iff_getElem.2 ⟨j, by omega, rfl⟩)
    simpa using this⟩]
theorem idxJ_ge (p : Jb → Bool) (cs : List Jb) : decide (0 ≤ idxJ p cs) = cs.any p := by
  unfold idxJ
  cases h : cs.findIdx? p with
  | none => simp [List.findIdx?_eq_none_iff] at h; simp; exact fun a hab => by simp [h a hab]
  | some k =>
    obtain ⟨hk, hp, _⟩ := List.findIdx?_eq_some_iff_getElem.1 h
    have : cs.any p = true := List.any_eq_true.2 ⟨cs[k], List.getElem_mem _, hp⟩
    simp [this]
set_option maxHeartbeats 400000 in
theorem indexFuncJ (A : Option Addr) (len cap : Nat) (cs : List Jb) (f : FuncId) (env : Array Value) (p : Jb → Bool) (w : World) (hp : RdJ w A len cs) (hl : len ≤ 9223372036854775807)
    (hent : ∀ args w, (callFunc f args).run Try.prog w = .ok (.enter f args) w)
    (hcall : ∀ a w', a ∈ cs → Below w.heap.size w w' → Calls Try.prog f (#[jagg a] ++ env) w' fun e w'' => e = .returned (.bool (p a)) ∧ Below w'.heap.size w' w'') :
    Calls Try.prog 25 #[.slice A len cap, .func (.func f) #[] env] w fun e w' => e = .returned (.int .i64 (idxJ p cs)) ∧ Below w.heap.size w w' := by
  have hzl := Lib.hid hp.1
  have hpH := Lib.hid hp
  have hcallH := Lib.hid hcall
  clear hp hcall
  go_enter Try.func25, Try.ntmps25
  go_wp2
  go_loopw [8] (fun i wr => ∃ k : Nat, k ≤ len ∧ i = .int .i64 k ∧ (cs.take k).any p = false ∧ Below w.heap.size w wr) (fun i _ => len - (intOf i).toNat)
  case atStart => exact ⟨0, Nat.zero_le _, rfl, rfl, Below.refl _ _⟩
  case round =>
    obtain ⟨k, hk, rfl, hn, hb⟩ := hrel
    have hnH := Lib.hid hn; clear hn
    by_cases hlt : k < len
    · obtain ⟨b, o, rfl, hab, hc0, hc1, hc2, hc3, _⟩ := (hpH.out.later hb).at hlt
      have hmem := Lib.hid (jat_mem (l := cs) (k := k) (by rw [hzl.out]; exact hlt))
      have hsome := Lib.hid (idxJ_some (p := p) (cs := cs) (k := k) (by rw [hzl.out]; exact hlt) hnH.out)
      have hnext := Lib.hid (any_take_at (p := p) (l := cs) (k := k) (by rw [hzl.out]; exact hlt) hnH.out)
      have hcj := Lib.hid (hcallH.out (jat cs k) wr hmem.out hb)
      generalize jat cs k = a at *
      obtain ⟨t, A', l', c', du, wo, af⟩ := a
      unfold jagg at hcj
      go_wp2_with fail
      refine hcj.out.mono ?_
      rintro e w' ⟨rfl, hb'⟩
      have hb2 := hb.trans (hb'.mono hb.size)
      cases hpk : p ⟨t, A', l', c', du, wo, af⟩
      · have hpH' := Lib.hid hpk
        go_wp2
        go_roundw
        case rel => exact ⟨k + 1, by omega, by go_num, hnext.out hpH'.out, hb2⟩
        case measure => simp [intOf]; omega
      · have hpH' := Lib.hid (hsome.out hpk)
        go_wp2
        go_ret
        exact ⟨by rw [hpH'.out]; rfl, hb2⟩
    · have hnone := Lib.hid (idxJ_none (p := p) (cs := cs) (by have := hnH.out; rwa [List.take_of_length_le (by rw [hzl.out]; omega)] at this))
      go_wp2
      go_ret
      exact ⟨by rw [hnone.out]; rfl, hb⟩
set_option maxHeartbeats 400000 in
theorem containsFuncJ (A : Option Addr) (len cap : Nat) (cs : List Jb) (f : FuncId) (env : Array Value) (p : Jb → Bool) (w : World) (hp : RdJ w A len cs) (hl : len ≤ 9223372036854775807)
    (hent : ∀ args w, (callFunc f args).run Try.prog w = .ok (.enter f args) w)
    (hcall : ∀ a w', a ∈ cs → Below w.heap.size w w' → Calls Try.prog f (#[jagg a] ++ env) w' fun e w'' => e = .returned (.bool (p a)) ∧ Below w'.heap.size w' w'') :
    Calls Try.prog 21 #[.slice A len cap, .func (.func f) #[] env] w fun e w' => e = .returned (.bool (cs.any p)) ∧ Below w.heap.size w w' := by
  have H := indexFuncJ A len cap cs f env p w hp hl hent hcall
  have hg := Lib.hid (idxJ_ge p cs)
  have HH := Lib.hid H; clear H hp hent hcall
  go_enter Try.func21, Try.ntmps21
  go_wp2_with fail
  refine HH.out.mono ?_
  rintro e w' ⟨rfl, hb⟩
  go_wp2
  go_ret
  exact ⟨by rw [← hg.out]; simp, hb⟩
end Go.Proofs.Ytnpmmmicgpngpaa
