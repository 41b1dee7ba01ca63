/- beats.Make. -/
import Derived.Test.YtnlgmjigadgneaaMakeT
namespace Go.Proofs.Ytnlgmjigadgneaa
open Go.RowKit

theorem tiU : TI Try.prog 23 27 (.int .u32 0) 1 4 := TI.mk' Try.underlying23 (by kernel_rfl) rfl (by decide)
theorem wds_zero (n : Nat) : List.replicate n (Value.int .u32 0) = wds (List.replicate n 0) := by simp [wds]
theorem make_large (A : Option Addr) (n cap : Nat) (w : World) (hn : n ≤ 9223372036854775807) (h6 : 6 < n) :
    Calls Try.prog 4 #[.slice A n cap] w fun e w' => e = .returned (.tuple #[.slice none 0 0, .int .i64 1]) ∧ Below w.heap.size w w' := by
  have h6I : (6 : Int) < n := by omega
  go_enter Try.func4, Try.ntmps4
  go_wp2
  go_ret2
  exact ⟨rfl, ((Below.refl _ _).alloc (Nat.le_refl _) _).alloc (by simp) _⟩
def MkPost (n : Nat) (sc : List Int) (B : Nat) (w : World) (e : Ending) (w' : World) : Prop :=
  Below B w w' ∧ ((∃ T : List Nat, e = .returned (.tuple #[.slice (some ⟨B + 2, 0, none⟩) n n, .int .i64 0]) ∧ Rd w' (some ⟨B + 2, 0, none⟩) n 1 (wds T) ∧ T.length = n ∧ TS n sc n T) ∨ (e = .returned (.tuple #[.slice none 0 0, .int .i64 5]) ∧ ¬ ∃ T : List Nat, TS n sc n T))
set_option maxHeartbeats 1600000 in
theorem make_ok (A : Option Addr) (n cap : Nat) (sc : List Int) (w : World) (hr : Rd w A n 1 (ints .i64 sc)) (h6 : n ≤ 6) :
    Calls Try.prog 4 #[.slice A n cap] w (MkPost n sc w.heap.size w) := by
  have h6I : ¬ (6 : Int) < n := by omega
  have hrH := Lib.hid hr
  clear hr
  go_enter Try.func4, Try.ntmps4
  have b0 : Below w.heap.size w ((w.alloc (.cells #[.slice A n cap] 22)).alloc (.cells #[.int .i64 (n : Int)] 3)) := ((Below.refl _ w).alloc (Nat.le_refl _) _).alloc (by simp) _
  have c0 : ((w.alloc (.cells #[.slice A n cap] 22)).alloc (.cells #[.int .i64 (n : Int)] 3)).cell? ⟨w.heap.size, 0, none⟩ = some (.slice A n cap) := by go_simp
  have c1 : ((w.alloc (.cells #[.slice A n cap] 22)).alloc (.cells #[.int .i64 (n : Int)] 3)).cell? ⟨w.heap.size + 1, 0, none⟩ = some (.int .i64 n) := by go_simp
  have hs : ((w.alloc (.cells #[.slice A n cap] 22)).alloc (.cells #[.int .i64 (n : Int)] 3)).heap.size = w.heap.size + 2 := by simp
  go_wp2_with (at_make; refine wpList_mk1 _ tiU w.heap.size n (by omega) (by omega) (by simp; omega) rfl rfl rfl rfl rfl rfl rfl ?_)
  intro w1 hown hg
  rw [wds_zero] at hown
  have hs1 := hg.size
  rw [hs] at hs1
  have b1 := b0.trans ((below_grown hg).mono (by rw [hs]; omega))
  have d0 := grown_cell hg (by rw [hs]; omega) (by simp) c0
  have d1 := grown_cell hg (by rw [hs]; omega) (by simp) c1
  have hgl : w.heap.size + 2 < w1.heap.size := by have := (hown.lt _ rfl).2; simpa [hs] using this
  clear hg c0 c1 hs b0
  have hn0 : (List.replicate n 0).length = n := by simp
  have hS : LS w1.heap.size (w1.heap.size + 1) n cap A sc w ((w1.alloc (.cells #[.slice (some ⟨w.heap.size + 2, 0, none⟩) n n] 23)).alloc (.cells #[mkV w.heap.size w1.heap.size (w1.heap.size + 1)] 33)) (List.replicate n 0) := {
    kn := alloc_cell (by simp; omega) (alloc_cell (by omega) d1 _) _
    kt := alloc_cell (by simp) (by go_simp) _
    ks := alloc_cell (by simp; omega) (alloc_cell (by omega) d0 _) _
    ko := by rw [World.cell?_alloc_at _ _ _ _ (by simp)]; rfl
    ot := by
      have := (hown.alloc (.cells #[.slice (some ⟨w.heap.size + 2, 0, none⟩) n n] 23)).alloc (.cells #[mkV w.heap.size w1.heap.size (w1.heap.size + 1)] 33)
      simpa using this
    hb := (b1.alloc b1.size _).alloc (by simp; omega) _
    tl := by omega
    ol := by omega
    sz := by simp; omega
    so := by simp }
  have HI := Lib.hid (makeOn_any w1.heap.size (w1.heap.size + 1) n cap A sc w h6 hrH.out n 0 (List.replicate n 0) _ (by omega) hS hn0 ⟨fun a h => by omega, fun a h => by omega, fun a h => by omega, fun a b _ h => by omega⟩)
  unfold mkV at HI
  clear hS hn0 hown d0 d1 b1
  go_wp2_with fail
  refine HI.out.mono ?_
  rintro _ w2 ⟨r, T, rfl, hS, hT, _, hyes, hno⟩
  have kt := hS.kt
  have hb2 := Lib.hid hS.hb
  cases r
  · have hno' := Lib.hid (hno rfl)
    clear hS hT hyes hno HI
    go_wp2
    go_ret2
    exact ⟨hb2.out, .inr ⟨rfl, fun ⟨T, h⟩ => hno'.out T (fun a ha => by omega) h⟩⟩
  · have hfin := Lib.hid (show Rd w2 (some ⟨w.heap.size + 2, 0, none⟩) n 1 (wds T) ∧ T.length = n ∧ TS n sc n T from ⟨Rd.of_own hS.ot, hT, hyes rfl⟩)
    clear hS hT hyes hno HI
    go_wp2
    go_ret2
    exact ⟨hb2.out, .inl ⟨T, rfl, hfin.out⟩⟩
end Go.Proofs.Ytnlgmjigadgneaa
