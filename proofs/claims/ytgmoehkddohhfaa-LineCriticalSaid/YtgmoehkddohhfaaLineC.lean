/- line.next. -/
import Derived.Test.YtgmoehkddohhfaaLineB
import Derived.Test.YtgmoehkddohhfaaEach
namespace Go.Proofs.Ytgmoehkddohhfaa
open Go.RowKit

abbrev DMap (w : World) (b n : Nat) (f : Int → Option Int) : Prop := IMap Try.prog 3 3 .i64 w b n f
theorem zero_int (w : World) : (zeroValue 3).run Try.prog w = .ok (.int .i64 0) w := by kernel_rfl
theorem DMap.look {w : World} {b n : Nat} {f : Int → Option Int} (h : DMap w b n f) {i : Int} (hi : (Lit.int .i64 i).wf = true) : (Instr.lookup 38 (.map (some b)) (.int .i64 i) false).run Try.prog w = .ok (.int .i64 ((f i).getD 0)) w :=
  IMap.lookup h Try.underlying3 Try.underlying38 Try.underlying3 zero_int hi
def notD (f : Int → Option Int) (k : Int) : Bool := (f k).getD 0 == 0
def okJ (f : Int → Option Int) (j : Jb) : Bool := !j.after.any (notD f)
theorem next1_any (k : Int) (p : Addr) (b n : Nat) (f : Int → Option Int) (w : World) (hk : (Lit.int .i64 k).wf = true) (hc : w.cell? p = some (.map (some b))) (hm : DMap w b n f) :
    Calls Try.prog 18 #[.int .i64 k, .pointer (some p)] w fun e w' => e = .returned (.bool (notD f k)) ∧ w = w' := by
  have hl := hm.look hk
  unfold notD
  generalize (f k).getD 0 = v at *
  go_enter Try.func18, Try.ntmps18
  go_wp2
  go_ret
  exact ⟨rfl, rfl⟩
theorem contains_not (A : Option Addr) (len cap : Nat) (zs : List Int) (p : Addr) (b n : Nat) (f : Int → Option Int) (w : World) (hr : Rd w A len 1 (ints .i64 zs)) (hl : len ≤ 9223372036854775807) (hz : ∀ z ∈ zs, (Lit.int .i64 z).wf = true) (hp : p.block < w.heap.size) (hc : w.cell? p = some (.map (some b))) (hm : DMap w b n f) :
    Calls Try.prog 16 #[.slice A len cap, .func (.func 18) #[] #[.pointer (some p)]] w fun e w' => e = .returned (.bool (zs.any (notD f))) ∧ Below w.heap.size w w' := by
  refine containsFuncI A len cap zs 18 #[.pointer (some p)] (notD f) w hr hl entN1 ?_
  intro a w' ha hb
  exact (next1_any a p b n f w' (hz a ha) ((hb.cell hp).trans hc) (hm.later hb)).mono fun e w'' ⟨h1, h2⟩ => ⟨h1, h2 ▸ Below.refl _ _⟩
/-- r is the first place from c on whose job may be done -/
def NextIs (f : Int → Option Int) (l : List Jb) (c : Nat) (r : Int) : Prop :=
  (r = -1 ∧ ∀ j, c ≤ j → j < l.length → okJ f (jat l j) = false) ∨ ∃ k : Nat, r = k ∧ c ≤ k ∧ k < l.length ∧ okJ f (jat l k) = true ∧ ∀ j, c ≤ j → j < k → okJ f (jat l j) = false
def NextPost (f : Int → Option Int) (l : List Jb) (c : Nat) (w : World) (e : Ending) (w' : World) : Prop := ∃ r : Int, e = .returned (.int .i64 r) ∧ NextIs f l c r ∧ Below w.heap.size w w'
def NoTo (f : Int → Option Int) (l : List Jb) (c k : Nat) : Prop := ∀ j, c ≤ j → j < k → okJ f (jat l j) = false
theorem NoTo.succ {f : Int → Option Int} {l : List Jb} {c k : Nat} (h : NoTo f l c k) (h' : okJ f (jat l k) = false) : NoTo f l c (k + 1) := fun j hj hk => by
  rcases Nat.lt_or_ge j k with h1 | h1
  · exact h j hj h1
  · obtain rfl : j = k := by omega
    exact h'
set_option maxHeartbeats 800000 in
theorem next_any (A : Option Addr) (len cap : Nat) (l : List Jb) (b n : Nat) (f : Int → Option Int) (c : Nat) (w : World) (hr : RdJ w A len l) (hl : len ≤ 10) (hwf : ∀ j ∈ l, ∀ z ∈ j.after, (Lit.int .i64 z).wf = true) (hm : DMap w b n f) (hc : c ≤ len) :
    Calls Try.prog 12 #[.slice A len cap, .map (some b), .int .i64 c] w (NextPost f l c w) := by
  have helH := Lib.hid hr.1
  have hrH := Lib.hid hr; have hwfH := Lib.hid hwf; have hmH := Lib.hid hm
  clear hr hwf hm
  go_enter Try.func12, Try.ntmps12
  go_wp2
  go_loopw [7] (fun i wr => ∃ k : Nat, c ≤ k ∧ k ≤ len ∧ i = .int .i64 k ∧ NoTo f l c k ∧ Below w.heap.size w wr ∧ wr.cell? ⟨w.heap.size, 0, none⟩ = some (.map (some b)) ∧ w.heap.size < wr.heap.size) (fun i _ => len - (intOf i).toNat)
  case atStart => exact ⟨c, Nat.le_refl _, hc, rfl, fun j _ _ => by omega, (Below.refl _ _).alloc (Nat.le_refl _) _, by go_simp, by simp⟩
  case round =>
    obtain ⟨k, hck, hk, rfl, hno, hbr, hcx, hsx⟩ := hrel
    have hnoH := Lib.hid hno; clear hno
    by_cases hlt : k < len
    · obtain ⟨bb, o, rfl, hab, hc0, hc1, hc2, hc3, hfit⟩ := (hrH.out.later hbr).at hlt
      have hl' := hfit.2.1
      unfold maxLen at hl'
      have HC := Lib.hid (contains_not (jat l k).A (jat l k).len (jat l k).cap (jat l k).after ⟨w.heap.size, 0, none⟩ b n f wr hfit.1 (by omega) (hwfH.out _ (jat_mem (by rw [helH.out]; exact hlt))) hsx hcx (hmH.out.later hbr))
      have hok := Lib.hid (show okJ f (jat l k) = !(jat l k).after.any (notD f) from rfl)
      have hs := Lib.hid (@NoTo.succ f l c k hnoH.out)
      have hfin := Lib.hid (show okJ f (jat l k) = true → NextIs f l c k from fun h => .inr ⟨k, rfl, hck, by rw [helH.out]; exact hlt, h, hnoH.out⟩)
      generalize jat l k = a at *
      obtain ⟨t, A', l', c', du, wo, af⟩ := a
      clear hfit
      simp only at *
      cases hq : af.any (notD f)
      · rw [hq] at HC
        have hz := Lib.hid (hfin.out (by rw [hok.out, hq]; rfl))
        clear hq
        go_wp2_with fail
        refine HC.out.mono ?_
        rintro e w2 ⟨rfl, hb2⟩
        have hbe := hbr.trans (hb2.mono (Nat.le_of_lt hsx))
        go_wp2
        go_ret
        exact ⟨k, rfl, hz.out, hbe⟩
      · rw [hq] at HC
        have hz := Lib.hid (hs.out (by rw [hok.out, hq]; rfl))
        clear hq
        go_wp2_with fail
        refine HC.out.mono ?_
        rintro e w2 ⟨rfl, hb2⟩
        have hbe := hbr.trans (hb2.mono (Nat.le_of_lt hsx))
        have hce := (hb2.cell (p := ⟨w.heap.size, 0, none⟩) hsx).trans hcx
        have hse := hb2.size
        go_wp2
        go_roundw
        case rel => exact ⟨k + 1, by omega, by omega, by go_num, hz.out, hbe, hce, by omega⟩
        case measure => simp [intOf]; omega
    · have hz := Lib.hid (show NextIs f l c (-1) from .inl ⟨rfl, fun j h1 h2 => hnoH.out j h1 (by have := helH.out; omega)⟩)
      go_wp2
      go_ret
      exact ⟨-1, rfl, hz.out, hbr⟩
end Go.Proofs.Ytgmoehkddohhfaa
