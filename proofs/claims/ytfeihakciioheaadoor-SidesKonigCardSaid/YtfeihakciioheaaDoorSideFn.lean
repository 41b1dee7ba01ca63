/- slices.IndexFunc, ContainsFunc at Edge; IndexFunc at rows, for sides. -/
import Derived.Test.YtfeihakciioheaaDoorDist
import Derived.Test.YtfeihakciioheaaDoorRows
namespace Go.Proofs.YtfeihakciioheaaDoor
open Go.RowKit

def eat (l : List E) (k : Nat) : E := l.getD k (0, 0, 0)
theorem eat_mem {l : List E} {k : Nat} (h : k < l.length) : eat l k ∈ l := by simp [eat, List.getD, h]
theorem eany_at {p : E → Bool} {l : List E} {k : Nat} (hk : k < l.length) (h : p (eat l k) = true) : l.any p = true := List.any_eq_true.2 ⟨_, eat_mem hk, h⟩
theorem eany_take {p : E → Bool} {l : List E} {k : Nat} (hk : k < l.length) (h : (l.take k).any p = false) (h' : p (eat l k) = false) : (l.take (k + 1)).any p = false := any_take_succ' p (0, 0, 0) l k hk h h'
def idxE (p : E → Bool) (cs : List E) : Int := match cs.findIdx? p with | some k => k | none => -1
theorem idxE_none {p : E → Bool} {cs : List E} (h : cs.any p = false) : idxE p cs = -1 := by
  unfold idxE
  rw [List.findIdx?_eq_none_iff.2]
  intro x hx
  simpa using List.any_eq_false.1 h x hx
theorem idxE_some {p : E → Bool} {cs : List E} {k : Nat} (hk : k < cs.length) (h : (cs.take k).any p = false) (hp : p (eat cs k) = true) : idxE p cs = k := by
  unfold idxE
  rw [List.findIdx?_eq_some_iff_getElem.2 ⟨hk, by simpa [eat, List.getD, hk] using hp, fun j hj => by
    have := List.any_eq_false.1 h cs[j] (List.mem_take_iff_getElem.2 ⟨j, by omega, rfl⟩)
    simpa using this⟩]
theorem idxE_ge (p : E → Bool) (cs : List E) : decide (0 ≤ idxE p cs) = cs.any p := by
  unfold idxE
  cases h : cs.findIdx? p with
  | none => simp [List.findIdx?_eq_none_iff] at h; simp; exact fun a b c hab => by simp [h a b c hab]
  | some k =>
    obtain ⟨hk, hp, _⟩ := List.findIdx?_eq_some_iff_getElem.1 h
    have : cs.any p = true := List.any_eq_true.2 ⟨cs[k], List.getElem_mem _, hp⟩
    simp [this]
def eagg (c : E) : Value := .agg #[.int .i64 c.1, .int .i64 c.2.1, .int .i64 c.2.2]
set_option maxHeartbeats 400000 in
theorem indexFuncE (A : Option Addr) (len cap : Nat) (cs : List E) (f : FuncId) (env : Array Value) (p : E → Bool) (w : World) (hp : Rd w A len 3 (ps3 .i64 .i64 .i64 cs)) (hl : len ≤ 9223372036854775807)
    (hent : ∀ args w, (callFunc f args).run Tryd.prog w = .ok (.enter f args) w)
    (hcall : ∀ a w', a ∈ cs → Below w.heap.size w w' → Calls Tryd.prog f (#[eagg a] ++ env) w' fun e w'' => e = .returned (.bool (p a)) ∧ Below w'.heap.size w' w'') :
    Calls Tryd.prog 20 #[.slice A len cap, .func (.func f) #[] env] w fun e w' => e = .returned (.int .i64 (idxE p cs)) ∧ Below w.heap.size w w' := by
  have hzl := Lib.hid (show cs.length = len by have := hp.1; rw [ps3_length] at this; omega)
  have hpH := Lib.hid hp
  have hcallH := Lib.hid hcall
  clear hp hcall
  go_enter Tryd.func20, Tryd.ntmps20
  go_wp2
  go_loopw [8] (fun i wr => ∃ k : Nat, k ≤ len ∧ i = .int .i64 k ∧ (cs.take k).any p = false ∧ Below w.heap.size w wr) (fun i _ => len - (intOf i).toNat)
  case atStart => exact ⟨0, Nat.zero_le _, rfl, rfl, Below.refl _ _⟩
  case round =>
    obtain ⟨k, hk, rfl, hn, hb⟩ := hrel
    have hnH := Lib.hid hn; clear hn
    by_cases hlt : k < len
    · obtain ⟨b, o, rfl, hab, hc0, hc1, hc2⟩ := (hpH.out.later hb).triple hlt
      have hmem := Lib.hid (eat_mem (l := cs) (k := k) (by rw [hzl.out]; exact hlt))
      have hsome := Lib.hid (idxE_some (p := p) (cs := cs) (k := k) (by rw [hzl.out]; exact hlt) hnH.out)
      have hnext := Lib.hid (eany_take (p := p) (l := cs) (k := k) (by rw [hzl.out]; exact hlt) hnH.out)
      have hcj := Lib.hid (hcallH.out (eat cs k) wr hmem.out hb)
      unfold eat at hmem hsome hnext hcj
      generalize cs.getD k (0, 0, 0) = a at *
      obtain ⟨t, u, y⟩ := a
      unfold eagg at hcj
      go_wp2_with fail
      refine hcj.out.mono ?_
      rintro e w' ⟨rfl, hb'⟩
      have hb2 := hb.trans (hb'.mono hb.size)
      cases hpk : p (t, u, y)
      · have hpH' := Lib.hid hpk
        go_wp2
        go_roundw
        case rel => exact ⟨k + 1, by omega, by go_num, hnext.out hpH'.out, hb2⟩
        case measure => simp [intOf]; omega
      · have hpH' := Lib.hid (hsome.out hpk)
        go_wp2
        go_ret
        exact ⟨by rw [hpH'.out]; rfl, hb2⟩
    · have hnone := Lib.hid (idxE_none (p := p) (cs := cs) (by have := hnH.out; rwa [List.take_of_length_le (by rw [hzl.out]; omega)] at this))
      go_wp2
      go_ret
      exact ⟨by rw [hnone.out]; rfl, hb⟩
set_option maxHeartbeats 400000 in
theorem containsFuncE (A : Option Addr) (len cap : Nat) (cs : List E) (f : FuncId) (env : Array Value) (p : E → Bool) (w : World) (hp : Rd w A len 3 (ps3 .i64 .i64 .i64 cs)) (hl : len ≤ 9223372036854775807)
    (hent : ∀ args w, (callFunc f args).run Tryd.prog w = .ok (.enter f args) w)
    (hcall : ∀ a w', a ∈ cs → Below w.heap.size w w' → Calls Tryd.prog f (#[eagg a] ++ env) w' fun e w'' => e = .returned (.bool (p a)) ∧ Below w'.heap.size w' w'') :
    Calls Tryd.prog 11 #[.slice A len cap, .func (.func f) #[] env] w fun e w' => e = .returned (.bool (cs.any p)) ∧ Below w.heap.size w w' := by
  have H := indexFuncE A len cap cs f env p w hp hl hent hcall
  have hg := Lib.hid (idxE_ge p cs)
  have HH := Lib.hid H; clear H hp hent hcall
  go_enter Tryd.func11, Tryd.ntmps11
  go_wp2_with fail
  refine HH.out.mono ?_
  rintro e w' ⟨rfl, hb⟩
  go_wp2
  go_ret
  exact ⟨by rw [← hg.out]; simp, hb⟩
/-- sides' own closure: is one come to from this row's node? -/
theorem sides1_any (N i m bi : Nat) (F : Nat → Nat → Int) (G : Nat → Nat) (B : Nat) (w : World) (hi : i < N) (hr : w.ownsRow B 3 1 (.slice (some ⟨G m, 0, none⟩) N N) N (row N (F m))) (hc : w.cell? ⟨bi, 0, none⟩ = some (.int .i64 (i : Int))) :
    Calls Tryd.prog 10 #[.slice (some ⟨G m, 0, none⟩) N N, .pointer (some ⟨bi, 0, none⟩)] w fun e w' => e = .returned (.bool (decide (0 ≤ F m i))) ∧ w = w' := by
  have c1 := (hr.cellAt i (by omega)).trans (row_get hi)
  have hi0 : (0 : Int) ≤ i := by omega
  have hi' : (i : Int) < N := by omega
  clear hr
  go_enter Tryd.func10, Tryd.ntmps10
  go_wp2
  go_ret
  exact ⟨rfl, rfl⟩
set_option maxHeartbeats 800000 in
theorem indexRow_any (N i bi pt : Nat) (F : Nat → Nat → Int) (G : Nat → Nat) (B : Nat) (v : Value) (w : World) (hi : i < N) (ho : w.ownsRow B 25 1 v N (rowsV N G N)) (hrs : ∀ m, m < N → w.ownsRow B 3 1 (.slice (some ⟨G m, 0, none⟩) N N) N (row N (F m)))
    (hc : w.cell? ⟨bi, 0, none⟩ = some (.int .i64 (i : Int))) (hN : N ≤ 10) (hpt : pt < N) (h0 : 0 ≤ F pt i) (hl : ∀ m, m < pt → F m i < 0) :
    Calls Tryd.prog 9 #[v, .func (.func 10) #[] #[.pointer (some ⟨bi, 0, none⟩)]] w fun e w' => e = .returned (.int .i64 (pt : Int)) ∧ w = w' := by
  obtain ⟨g, c, rfl⟩ : ∃ g c, v = .slice (some ⟨g, 0, none⟩) N c := by
    rcases ho.2 with ⟨_, e⟩ | ⟨g, c, _, e, _⟩
    · omega
    · exact ⟨g, c, e⟩
  have hoH := Lib.hid ho; have hrsH := Lib.hid hrs; have hcH := Lib.hid hc; have hlH := Lib.hid hl
  clear ho hrs hc hl
  go_enter Tryd.func9, Tryd.ntmps9
  go_wp2
  obtain ⟨wo, hwo⟩ : ∃ wo : World, wo = w := ⟨_, rfl⟩
  go_loopw [8] (fun i wr => ∃ k : Nat, k ≤ pt ∧ i = .int .i64 k ∧ wr = wo) (fun i _ => 20 - (intOf i).toNat)
  case atStart => exact ⟨0, Nat.zero_le _, rfl, hwo.symm⟩
  case round =>
    obtain ⟨k, hk, rfl, rfl⟩ := hrel
    subst hwo
    obtain ⟨wb, rfl⟩ : ∃ wb : World, wb = wr := ⟨_, rfl⟩
    have hkN : k < N := by omega
    have hkN' : (k : Int) < N := by omega
    have hk0 : (0 : Int) ≤ k := by omega
    have ck := hoH.out.cellAt k (by omega)
    rw [show (rowsV N G N)[k]? = some (.slice (some ⟨G k, 0, none⟩) N N) by simp [rowsV, hkN]] at ck
    have H1 := Lib.hid (sides1_any N i k bi F G B wb hi (hrsH.out k hkN) hcH.out)
    by_cases hkp : k = pt
    · subst hkp
      rw [decide_eq_true h0] at H1
      go_wp2_with fail
      refine H1.out.mono ?_
      rintro _ _ ⟨rfl, rfl⟩
      go_wp2
      go_ret
      exact ⟨rfl, rfl⟩
    · have hlt := hlH.out k (by omega)
      rw [decide_eq_false (by omega)] at H1
      go_wp2_with fail
      refine H1.out.mono ?_
      rintro _ _ ⟨rfl, rfl⟩
      go_wp2
      go_roundw
      case rel => exact ⟨k + 1, by omega, by go_num, by trivial⟩
      case measure => simp [intOf]; omega
end Go.Proofs.YtfeihakciioheaaDoor
