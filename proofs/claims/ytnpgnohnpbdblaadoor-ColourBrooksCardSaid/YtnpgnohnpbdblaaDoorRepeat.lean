/- slices.Repeat of one number; math/bits.Mul of one and a small number. -/
import Derived.Test.YtnpgnohnpbdblaaDoorRow
import Derived.Test.YtnpgnohnpbdblaaDoorRows
import Derived.Laws.CopyOwn
import Derived.Test.YtnpgnohnpbdblaaDoorOpen
namespace Go.Proofs.YtnpgnohnpbdblaaDoor
open Go.RowKit

theorem ret_two {k : IntKind} {a b c d : Int} (h : a = b) (h' : c = d) : Ending.returned (.tuple #[.int k a, .int k c]) = .returned (.tuple #[.int k b, .int k d]) := by rw [h, h']
theorem mul64_one (n : Nat) (w : World) (hn : n < 65) :
    Calls Tryd.prog 61 #[.int .u64 1, .int .u64 (n : Int)] w fun e w' => e = .returned (.tuple #[.int .u64 0, .int .u64 (n : Int)]) ∧ w = w' := by
  go_enter Tryd.func61, Tryd.ntmps61
  go_wp2
  go_ret2
  refine ⟨ret_two ?_ ?_, rfl⟩
  · clear w
    revert n
    decide +kernel
  · clear w
    revert n
    decide +kernel
theorem mul_one (n : Nat) (w : World) (hn : n < 65) :
    Calls Tryd.prog 58 #[.int .u64 1, .int .u64 (n : Int)] w fun e w' => e = .returned (.tuple #[.int .u64 0, .int .u64 (n : Int)]) ∧ w = w' := by
  have H := Lib.hid (mul64_one n w hn)
  clear hn
  go_enter Tryd.func58, Tryd.ntmps58
  go_wp2_with fail
  refine H.out.mono ?_
  rintro e w' ⟨rfl, rfl⟩
  go_wp2
  go_ret2
  exact ⟨rfl, rfl⟩
theorem own_whole {w : World} {b e g n : Nat} {xs : List Value} (h : w.ownsRow b e 1 (.slice (some ⟨g, 0, none⟩) n n) n xs) : b ≤ g ∧ w.heap[g]? = some (.cells xs.toArray e (0, 0)) ∧ xs.length = n ∧ n ≤ maxLen := by
  rcases h.2 with ⟨h1, _⟩ | ⟨g', cap, cur, h1, h2, h3, h4, h5, h6, h7⟩
  · injection h1 with h1
    cases h1
  · injection h1 with h1 _ h8
    injection h1 with h1
    injection h1 with h1
    subst h1 h8
    have hx : xs = cur.toList := by
      rw [← h7, List.take_of_length_le]
      simp only [Array.length_toList]
      omega
    subst hx
    exact ⟨h2, by simpa using h3, by simpa using h6, h5⟩
theorem whole_own {w : World} {b e g n : Nat} {xs : List Value} (h1 : b ≤ g) (h2 : w.heap[g]? = some (.cells xs.toArray e (0, 0))) (h3 : xs.length = n) (h4 : n ≤ maxLen) : w.ownsRow b e 1 (.slice (some ⟨g, 0, none⟩) n n) n xs :=
  ⟨by omega, .inr ⟨g, n, xs.toArray, rfl, h1, h2, Nat.le_refl _, h4, by simpa using h3, by simp [← h3]⟩⟩
def filled (n k : Nat) (X Z : Value) : List Value := List.replicate k X ++ List.replicate (n - k) Z
theorem filled_length {n k : Nat} {X Z : Value} (h : k ≤ n) : (filled n k X Z).length = n := by simp [filled]; omega
theorem filled_splice {n k j : Nat} {X Z : Value} : splice (filled n k X Z) k (List.replicate j X) = filled n (k + j) X Z := by
  unfold splice filled
  rw [List.take_append_of_le_length (by simp), List.take_of_length_le (by simp), List.drop_append]
  simp only [List.length_replicate]
  rw [List.drop_of_length_le (by simp), List.drop_replicate, ← List.append_assoc, List.replicate_append_replicate]
  simp
  omega
theorem tiI : TI Tryd.prog 32 3 (.int .i64 0) 1 8 := TI.mk' Tryd.underlying32 (by kernel_rfl) rfl (by decide)
set_option maxHeartbeats 1600000 in
theorem repeat_one (b c1 : Nat) (x : Int) (n : Nat) (w : World) (hr : Rd w (some ⟨b, 0, none⟩) 1 1 (ints .i64 [x])) (hn : n < 65) :
    Calls Tryd.prog 54 #[.slice (some ⟨b, 0, none⟩) 1 c1, .int .i64 n] w fun e w' => e = .returned (.slice (some ⟨w.heap.size, 0, none⟩) n n) ∧ w'.ownsRow w.heap.size 3 1 (.slice (some ⟨w.heap.size, 0, none⟩) n n) n (List.replicate n (.int .i64 x)) ∧ Below w.heap.size w w' := by
  have HM := Lib.hid (mul_one n w hn)
  have hrH := Lib.hid hr
  clear hr
  have hw1 : IntKind.u64.wrap (n : Int) = n := by rw [IntKind.wrap_u64]; omega
  have hw2 : IntKind.i64.wrap (n : Int) = n := IntWalk.i64_in _ (by omega)
  have hn1 : ¬ (9223372036854775807 : Int) < n := by omega
  go_enter Tryd.func54, Tryd.ntmps54
  go_wp2_with fail
  refine HM.out.mono ?_
  rintro e w1 ⟨rfl, rfl⟩
  go_wp2_with (at_make; refine wpList_mk1 _ tiI w.heap.size n (by omega) (by omega) (Nat.le_refl _) rfl rfl rfl rfl rfl rfl rfl ?_)
  intro w2 hown hg
  obtain ⟨_, hcell, _, _⟩ := own_whole hown
  have hb2 := below_grown hg
  have hs2 : w.heap.size < w2.heap.size := (hown.lt _ rfl).2
  obtain ⟨b0, o0, hA, hbl, hc0⟩ := (hrH.out.later hb2).int (show 0 < 1 by omega)
  injection hA with hA; injection hA with q1 q2 _; subst q1 q2
  have hc0H := Lib.hid hc0
  have hfz : List.replicate n (Value.int .i64 0) = filled n 0 (.int .i64 x) (.int .i64 0) := by simp [filled]
  rw [hfz] at hcell
  have hm1 : min 1 n ≤ n := Nat.min_le_right _ _
  obtain ⟨j, hj⟩ : ∃ j, j = min 1 n := ⟨_, rfl⟩
  rw [← hj] at hm1
  have hj1 : n = 0 ∧ j = 0 ∨ 0 < n ∧ j = 1 := by omega
  clear hown hg hj
  have hsrc : ∀ i v, (List.replicate j (Value.int .i64 x))[i]? = some v → w2.cell? ((⟨b, 0, none⟩ : Addr).add i) = some v := fun i v hv => by
    rw [List.getElem?_replicate] at hv
    split at hv
    · injection hv with hv
      subst hv
      have : i = 0 := by omega
      subst this
      simpa [Addr.add] using hc0H.out
    · cases hv
  have hlen : (List.replicate j (Value.int .i64 x)).length = Nat.min 1 n := by rw [List.length_replicate]; show j = min 1 n; omega
  have hfit : 0 + (List.replicate j (Value.int .i64 x)).length ≤ (filled n 0 (.int .i64 x) (.int .i64 0)).length := by rw [List.length_replicate, filled_length (Nat.zero_le _)]; omega
  have hone : ∀ v ∈ List.replicate j (Value.int .i64 x), v.oneCell' = true := fun v hv => by rw [List.eq_of_mem_replicate hv]; rfl
  have hsrcH := Lib.hid hsrc; have hlenH := Lib.hid hlen; have hfitH := Lib.hid hfit; have honeH := Lib.hid hone
  have hcellH := Lib.hid hcell
  clear hsrc hlen hfit hone hcell
  go_wp2_with (with_reducible refine wpList_copy_splice rfl (.tmp 31) (.tmp 32) 32 32 rfl 3 Tryd.underlying32 (by kernel_rfl) (some ⟨w.heap.size, 0, none⟩) (some ⟨b, 0, none⟩) n n 1 c1 rfl rfl w.heap.size 0 (filled n 0 (.int .i64 x) (.int .i64 0)) 3 hcellH.out (List.replicate j (.int .i64 x)) hlenH.out (fun _ => ⟨rfl, ⟨b, 0, none⟩, rfl, hsrcH.out⟩) hfitH.out honeH.out w.heap.size w hb2 (Nat.le_refl _) ?_)
  intro w3 hcell3 hb3
  rw [filled_splice, Nat.zero_add] at hcell3
  go_wp2
  clear hsrcH hlenH hfitH honeH hcellH hc0H hfz
  go_loopw [8] (fun i wr => ∃ k : Nat, k ≤ n ∧ (0 < n → 0 < k) ∧ i = .int .i64 k ∧ wr.heap[w.heap.size]? = some (.cells (filled n k (.int .i64 x) (.int .i64 0)).toArray 3 (0, 0)) ∧ Below w.heap.size w wr) (fun i _ => n - (intOf i).toNat)
  case atStart => exact ⟨j, by omega, by omega, by simp, hcell3, hb3⟩
  case round =>
    obtain ⟨k, hk, hk0, rfl, hcell, hb⟩ := hrel
    have hcellH := Lib.hid hcell; have hbH := Lib.hid hb
    clear hcell hcell3
    by_cases hlt : k < n
    · obtain ⟨i, hi⟩ : ∃ i, i = min k (n - k) := ⟨_, rfl⟩
      have hi1 : 0 < i := by omega
      have hi2 : k + i ≤ n := by omega
      have hi3 : i ≤ k := by omega
      have hk00 : (0 : Int) ≤ k := by omega
      have hkn : (k : Int) ≤ n := by omega
      have hadd : IntKind.i64.wrap ((k : Int) + (i : Int)) = (k : Int) + i := IntWalk.i64_in _ (by omega)
      have hlen : (List.replicate i (Value.int .i64 x)).length = Nat.min k (n - k) := by rw [List.length_replicate]; exact hi
      have hsrc : ∀ q v, (List.replicate i (Value.int .i64 x))[q]? = some v → wr.drew.cell? ((⟨w.heap.size, 0, none⟩ : Addr).add q) = some v := fun q v hv => by
        rw [List.getElem?_replicate] at hv
        split at hv
        · rename_i hq
          injection hv with hv
          subst hv
          rw [add_none]
          show wr.cell? ⟨w.heap.size, 0 + q, none⟩ = _
          have hg : (filled n k (.int .i64 x) (.int .i64 0))[q]? = some (Value.int .i64 x) := by
            unfold filled
            rw [List.getElem?_append_left (by rw [List.length_replicate]; omega), List.getElem?_replicate, if_pos (by omega)]
          simp [World.cell?, hcellH.out, hg]
        · cases hv
      have hfit : k + (List.replicate i (Value.int .i64 x)).length ≤ (filled n k (.int .i64 x) (.int .i64 0)).length := by rw [List.length_replicate, filled_length hk]; exact hi2
      have hone : ∀ v ∈ List.replicate i (Value.int .i64 x), v.oneCell' = true := fun v hv => by rw [List.eq_of_mem_replicate hv]; rfl
      have hsrcH := Lib.hid hsrc; have hlenH := Lib.hid hlen; have hfitH := Lib.hid hfit; have honeH := Lib.hid hone
      clear hsrc hlen hfit hone hb hi
      go_upto_region 9 with fail
      go_region_law (refine step_copy_splice rfl (.tmp 41) (.tmp 44) 32 32 rfl 3 Tryd.underlying32 (by kernel_rfl) (some ⟨w.heap.size, k, none⟩) (some ⟨w.heap.size, 0, none⟩) (n - k) (n - k) k n (by simp [Act.eval, Act.put]; omega) (by simp [Act.eval, Act.put]) w.heap.size k (filled n k (.int .i64 x) (.int .i64 0)) 3 hcellH.out (List.replicate i (.int .i64 x)) hlenH.out (fun _ => ⟨rfl, ⟨w.heap.size, 0, none⟩, rfl, hsrcH.out⟩) hfitH.out honeH.out w.heap.size w hbH.out.drew (Nat.le_refl _) ?_; intro w4 hg4 hb4)
      all_goals
        go_wp2
        refine ⟨⟨k + i, hi2, by omega, by omega, ?_⟩, by simp [intOf]; omega⟩
        have := hg4.out
        rw [filled_splice] at this
        exact this
    · obtain rfl : n = k := by omega
      have hwh := whole_own (b := w.heap.size) (Nat.le_refl _) hcellH.out (filled_length (Nat.le_refl _)) (by unfold maxLen; omega)
      have hfe : filled n n (.int .i64 x) (.int .i64 0) = List.replicate n (Value.int .i64 x) := by simp [filled]
      rw [hfe] at hwh
      have hwhH := Lib.hid hwh
      clear hwh hfe
      go_wp2
      go_ret
      exact ⟨rfl, hwhH.out, hb⟩
end Go.Proofs.YtnpgnohnpbdblaaDoor
