/- Contracts of the closures of Know. -/
import Derived.Test.YtmcijljadcfpmaaRows
import Derived.Test.YtmcijljadcfpmaaBase
import Derived.WalkKit
import Derived.WalkSpells
import Derived.WalkLawsBesides
import Derived.Lib.Hide
import Derived.Deep.QuietTactic
import Derived.BigQuiet
namespace Go.Proofs.Ytmcijljadcfpmaa
open Go.RowKit

def isB (n i : Int) : Bool := decide (0 ≤ i) && decide (i < n)
theorem bcell {W w1 : World} (hb : Below W.heap.size W w1) : (∀ b o, b < W.heap.size → w1.cell? ⟨b, o, none⟩ = W.cell? ⟨b, o, none⟩) ∧ (∀ b o, b < W.heap.size → w1.frozen? ⟨b, o, none⟩ = W.frozen? ⟨b, o, none⟩) :=
  ⟨fun b o h => hb.cell (p := ⟨b, o, none⟩) h, fun b o h => hb.frozen (p := ⟨b, o, none⟩) h⟩

set_option maxHeartbeats 400000 in
theorem is_any (n i : Int) (p : Addr) (w : World) (hc : w.cell? p = some (.int .i64 n)) :
    Calls Try.prog 11 #[.int .i64 i, .pointer (some p)] w fun e w' => e = .returned (.bool (isB n i)) ∧ w = w' := by
  by_cases h0 : 0 ≤ i
  · go_enter Try.func11, Try.ntmps11
    go_wp2
    go_ret
    exact ⟨by simp [isB, h0], rfl⟩
  · go_enter Try.func11, Try.ntmps11
    go_wp2
    go_ret
    exact ⟨by simp [isB]; omega, rfl⟩

set_option maxHeartbeats 400000 in
theorem out_any (n a b : Int) (q p : Addr) (w : World) (hq : w.cell? q = some (.func (.func 11) #[] #[.pointer (some p)])) (hqb : q.block < w.heap.size) (hpb : p.block < w.heap.size) (hc : w.cell? p = some (.int .i64 n)) :
    Calls Try.prog 13 #[.agg #[.int .i64 a, .int .i64 b], .pointer (some q)] w fun e w' => e = .returned (.bool (!isB n a || !isB n b)) ∧ Below w.heap.size w w' := by
  go_enter Try.func13, Try.ntmps13
  go_wp2_with fail
  refine (is_any n a p _ (by go_simp)).mono ?_
  rintro e w' ⟨rfl, rfl⟩
  cases ha : isB n a
  · go_wp2
    go_ret
    exact ⟨by simp [ha], (Below.refl _ _).alloc (Nat.le_refl _) _⟩
  · go_wp2_with fail
    refine (is_any n b p _ (by go_simp)).mono ?_
    rintro e w' ⟨rfl, rfl⟩
    go_wp2
    go_ret
    exact ⟨by simp [ha], (Below.refl _ _).alloc (Nat.le_refl _) _⟩

set_option maxHeartbeats 400000 in
theorem eq_any (a b : Int) (w : World) :
    Calls Try.prog 14 #[.agg #[.int .i64 a, .int .i64 b]] w fun e w' => e = .returned (.bool (a == b)) ∧ Below w.heap.size w w' := by
  go_enter Try.func14, Try.ntmps14
  go_wp2
  go_ret
  exact ⟨rfl, (Below.refl _ _).alloc (Nat.le_refl _) _⟩

/-- a slice of pairs that is read -/
def Pairs (w : World) (A : Option Addr) (len : Nat) (cs : List (Int × Int)) : Prop :=
  cs.length = len ∧ ∀ k, k < len → ∃ b o, A = some ⟨b, o, none⟩ ∧ b < w.heap.size ∧ w.cell? ⟨b, o + k * 2, none⟩ = some (.int .i64 (cs.getD k (0, 0)).1) ∧ w.cell? ⟨b, o + k * 2 + 1, none⟩ = some (.int .i64 (cs.getD k (0, 0)).2)
theorem Pairs.below {w w' : World} {A : Option Addr} {len : Nat} {cs : List (Int × Int)} (h : Pairs w A len cs) {B : Nat} (hB : w.heap.size ≤ B) (hb : Below B w w') : Pairs w' A len cs := by
  refine ⟨h.1, fun k hk => ?_⟩
  obtain ⟨b, o, rfl, hlt, h1, h2⟩ := h.2 k hk
  refine ⟨b, o, rfl, Nat.lt_of_lt_of_le hlt hb.size, ?_, ?_⟩
  · exact (hb.cell (p := ⟨b, o + k * 2, none⟩) (Nat.lt_of_lt_of_le hlt hB)).trans h1
  · exact (hb.cell (p := ⟨b, o + k * 2 + 1, none⟩) (Nat.lt_of_lt_of_le hlt hB)).trans h2

def idx (p : Int × Int → Bool) (cs : List (Int × Int)) : Int := match cs.findIdx? p with | some k => k | none => -1
theorem idx_none {p : Int × Int → Bool} {cs : List (Int × Int)} (h : ∀ j, j < cs.length → p (cs.getD j (0, 0)) = false) : idx p cs = -1 := by
  unfold idx
  rw [List.findIdx?_eq_none_iff.2]
  intro x hx
  obtain ⟨j, hj, rfl⟩ := List.mem_iff_getElem.1 hx
  simpa [List.getD, hj] using h j hj
theorem idx_some {p : Int × Int → Bool} {cs : List (Int × Int)} {k : Nat} (hk : k < cs.length) (h : ∀ j, j < k → p (cs.getD j (0, 0)) = false) (hp : p (cs.getD k (0, 0)) = true) : idx p cs = k := by
  unfold idx
  rw [List.findIdx?_eq_some_iff_getElem.2 ⟨hk, by simpa [List.getD, hk] using hp, fun j hj => by simpa [List.getD, Nat.lt_trans hj hk] using h j hj⟩]

set_option maxHeartbeats 400000 in
theorem indexFunc_any (A : Option Addr) (len cap : Nat) (cs : List (Int × Int)) (f : FuncId) (env : Array Value) (p : Int × Int → Bool) (w : World) (hp : Pairs w A len cs) (hl : len ≤ 100)
    (hent : ∀ args w, (callFunc f args).run Try.prog w = .ok (.enter f args) w)
    (hcall : ∀ a b w', Below w.heap.size w w' → Calls Try.prog f (#[.agg #[.int .i64 a, .int .i64 b]] ++ env) w' fun e w'' => e = .returned (.bool (p (a, b))) ∧ Below w'.heap.size w' w'') :
    Calls Try.prog 16 #[.slice A len cap, .func (.func f) #[] env] w fun e w' => e = .returned (.int .i64 (idx p cs)) ∧ Below w.heap.size w w' := by
  have hpH := Lib.hid hp
  have hcallH := Lib.hid hcall
  clear hp hcall
  go_enter Try.func16, Try.ntmps16
  go_wp2
  go_loopw [8] (fun i wr => ∃ k : Nat, k ≤ len ∧ i = .int .i64 k ∧ (∀ j, j < k → p (cs.getD j (0, 0)) = false) ∧ Below w.heap.size w wr) (fun i _ => len - (intOf i).toNat)
  case atStart => exact ⟨0, Nat.zero_le _, rfl, fun j hj => absurd hj (by omega), Below.refl _ _⟩
  case round =>
    obtain ⟨k, hk, rfl, hn, hb⟩ := hrel
    have hnH := Lib.hid hn; clear hn
    by_cases hlt : k < len
    · obtain ⟨b, o, rfl, hab, hc1, hc2⟩ := (hpH.out.below (Nat.le_refl _) hb).2 k hlt
      go_wp2_with fail
      refine (hcallH.out _ _ _ hb).mono ?_
      rintro e w' ⟨rfl, hb'⟩
      have hb2 := hb.trans (hb'.mono hb.size)
      cases hpk : p (cs.getD k (0, 0))
      · have hpk' : p ((cs[k]?.getD (0, 0)).1, (cs[k]?.getD (0, 0)).2) = false := by simpa using hpk
        have hpH' := Lib.hid hpk; clear hpk
        go_wp2
        go_roundw
        case rel =>
          refine ⟨k + 1, by omega, by go_num, fun j hj => ?_, hb2⟩
          rcases Nat.lt_or_ge j k with h | h
          · exact hnH.out j h
          · obtain rfl : j = k := by omega
            exact hpH'.out
        case measure => simp [intOf]; omega
      · have hpk' : p ((cs[k]?.getD (0, 0)).1, (cs[k]?.getD (0, 0)).2) = true := by simpa using hpk
        have hpH' := Lib.hid hpk; clear hpk
        go_wp2
        go_ret
        exact ⟨by rw [idx_some (by rw [hpH.out.1]; exact hlt) hnH.out hpH'.out]; rfl, hb2⟩
    · go_wp2
      go_ret
      exact ⟨by rw [idx_none (by rw [hpH.out.1]; intro j hj; exact hnH.out j (by omega))]; rfl, hb⟩

theorem idx_ge (p : Int × Int → Bool) (cs : List (Int × Int)) : decide (0 ≤ idx p cs) = cs.any p := by
  unfold idx
  cases h : cs.findIdx? p with
  | none => simp [List.findIdx?_eq_none_iff] at h; simp; exact fun a b hab => by simp [h a b hab]
  | some k =>
    obtain ⟨hk, hp, _⟩ := List.findIdx?_eq_some_iff_getElem.1 h
    have : cs.any p = true := List.any_eq_true.2 ⟨cs[k], List.getElem_mem _, hp⟩
    simp [this]

set_option maxHeartbeats 400000 in
theorem containsFunc_any (A : Option Addr) (len cap : Nat) (cs : List (Int × Int)) (f : FuncId) (env : Array Value) (p : Int × Int → Bool) (w : World) (hp : Pairs w A len cs) (hl : len ≤ 100)
    (hent : ∀ args w, (callFunc f args).run Try.prog w = .ok (.enter f args) w)
    (hcall : ∀ a b w', Below w.heap.size w w' → Calls Try.prog f (#[.agg #[.int .i64 a, .int .i64 b]] ++ env) w' fun e w'' => e = .returned (.bool (p (a, b))) ∧ Below w'.heap.size w' w'') :
    Calls Try.prog 12 #[.slice A len cap, .func (.func f) #[] env] w fun e w' => e = .returned (.bool (cs.any p)) ∧ Below w.heap.size w w' := by
  have H := indexFunc_any A len cap cs f env p w hp hl hent hcall
  have hg := Lib.hid (idx_ge p cs)
  have HH := Lib.hid H; clear H hp hent hcall
  go_enter Try.func12, Try.ntmps12
  go_wp2_with fail
  refine HH.out.mono ?_
  rintro e w' ⟨rfl, hb⟩
  go_wp2
  go_ret
  exact ⟨by rw [← hg.out]; simp, hb⟩

theorem ent13 (args : Array Value) (w : World) : (callFunc 13 args).run Try.prog w = .ok (.enter 13 args) w := by go_simp
theorem ent14 (args : Array Value) (w : World) : (callFunc 14 args).run Try.prog w = .ok (.enter 14 args) w := by go_simp
end Go.Proofs.Ytmcijljadcfpmaa
