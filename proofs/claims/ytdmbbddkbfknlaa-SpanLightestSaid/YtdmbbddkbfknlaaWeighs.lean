/- teamsterkeep.some, weighs. -/
import Derived.Test.YtdmbbddkbfknlaaSpanLeast
namespace Go.Proofs.Ytdmbbddkbfknlaa
open Go.RowKit

/-- what some edges weigh, as the program sums -/
def wgK (es : List E) (l : List Nat) (k : Nat) : Int := wgt es (l.take k)
theorem wgK_succ (es : List E) (l : List Nat) (k : Nat) (h : k < l.length) : wgK es l (k + 1) = wgK es l k + wE es (l.getD k 0) := by
  unfold wgK wgt
  rw [List.take_add_one, List.getElem?_eq_getElem h, Option.toList_some, List.map_append, List.sum_append, List.getD, List.getElem?_eq_getElem h]
  simp [wE]
theorem wgt_bound {es : List E} {B : Int} (hB : ∀ i, i < es.length → -B ≤ wE es i ∧ wE es i ≤ B) : ∀ l : List Nat, (∀ i ∈ l, i < es.length) → -(B * l.length) ≤ wgt es l ∧ wgt es l ≤ B * l.length
  | [], _ => by simp [wgt]
  | i :: l, h => by
    have ih := wgt_bound hB l fun x hx => h x (List.mem_cons_of_mem _ hx)
    have h1 := hB i (h i (by simp))
    have e : wgt es (i :: l) = wE es i + wgt es l := by unfold wgt wE; rw [List.map_cons, List.sum_cons]
    have e2 : B * ((i :: l).length : Int) = B * l.length + B := by rw [List.length_cons]; rw [show ((l.length + 1 : Nat) : Int) = (l.length : Int) + 1 by omega, Int.mul_add, Int.mul_one]
    rw [e, e2]
    omega
set_option maxHeartbeats 800000 in
theorem weighs_any (N : Int) (A L : Option Addr) (len cap ll cl : Nat) (es : List E) (l : List Nat) (w : World) (hr : Rd w A len 3 (ps3 .i64 .i64 .i64 es)) (hrl : Rd w L ll 1 (ints .i64 (natI l))) (hin : ∀ i ∈ l, i < es.length) (hll : ll ≤ 45) (hB : ∀ i, i < es.length → -1048576 ≤ wE es i ∧ wE es i ≤ 1048576) :
    Calls Try.prog 8 #[.agg #[.int .i64 N, .slice A len cap], .slice L ll cl] w fun e w' => e = .returned (.int .i64 (wgt es l)) ∧ Below w.heap.size w w' := by
  have hlen : l.length = ll := by simpa [ints, natI] using hrl.1
  have hel : es.length = len := ps3_len hr
  have hK := Blk.new w 24 #[.int .i64 (N : Int), .slice A len cap]
  have gb := (Below.refl _ w).alloc (Nat.le_refl _) (.cells #[.int .i64 N, .slice A len cap] 24)
  have hrH := Lib.hid hr; have hrlH := Lib.hid hrl; have hKH := Lib.hid hK; have gbH := Lib.hid gb
  have hbd := Lib.hid (fun k => wgt_bound hB (l.take k) fun i hi => hin i (List.mem_of_mem_take hi))
  have hsz : (w.alloc (.cells #[.int .i64 N, .slice A len cap] 24)).heap.size = w.heap.size + 1 := by simp
  clear hr hrl hK gb hB
  go_enter Try.func8, Try.ntmps8
  go_wp2
  generalize w.alloc (.cells #[.int .i64 N, .slice A len cap] 24) = wg at *
  obtain ⟨wo, hwo⟩ : ∃ wo : World, wo = wg := ⟨_, rfl⟩
  go_loopw [5, 7, 10] (fun x _ i wr => ∃ k : Nat, k ≤ ll ∧ i = .int .i64 (k : Int) ∧ x = .int .i64 (wgK es l k) ∧ wr = wo) (fun _ _ i _ => ll - (intOf i).toNat)
  case atStart => exact ⟨0, Nat.zero_le _, rfl, rfl, hwo.symm⟩
  case round =>
    obtain ⟨k, hk, rfl, rfl, rfl⟩ := hrel
    subst hwo
    have q1 := hKH.out.cell (j := 1) rfl
    by_cases hlt : k < ll
    · have hkl : k < l.length := by omega
      obtain ⟨bl, ol, rfl, hbl, hcl⟩ := (hrlH.out.later gbH.out).int hlt
      rw [natI_at hkl] at hcl
      have hyk : l.getD k 0 < len := by rw [← hel]; exact hin _ (by rw [List.getD, List.getElem?_eq_getElem hkl]; exact List.getElem_mem _)
      obtain ⟨b, o, rfl, hab, _, _, hc3⟩ := (hrH.out.later gbH.out).triple hyk
      have hs := Lib.hid (wgK_succ es l k hkl)
      have h1 := (hbd.out (k + 1))
      rw [show wgt es (l.take (k + 1)) = wgK es l (k + 1) from rfl, wgK_succ es l k hkl, List.length_take] at h1
      rw [show (es.getD (l.getD k 0) (0, 0, 0)).2.2 = wE es (l.getD k 0) from rfl] at hc3
      have h2 : -9223372036854775808 ≤ wgK es l k + wE es (l.getD k 0) ∧ wgK es l k + wE es (l.getD k 0) ≤ 9223372036854775807 := by omega
      clear h1
      generalize l.getD k 0 = y at *
      generalize wE es y = wy at *
      generalize wgK es l k = g at *
      have hw : IntKind.i64.wrap (g + wy) = g + wy := IntWalk.i64_in _ (by omega)
      go_wp2
      go_roundw
      case rel => exact ⟨k + 1, by omega, by go_num, by rw [hs.out], by trivial⟩
      case measure => simp [intOf]; omega
    · have hz := Lib.hid (show wgK es l k = wgt es l by unfold wgK; rw [List.take_of_length_le (by omega)])
      rw [hz.out]
      go_wp2
      go_ret
      exact ⟨rfl, gbH.out⟩
end Go.Proofs.Ytdmbbddkbfknlaa
