/- teamsterref.OnTime where each job alone is late: none. -/
import Derived.Test.YtnpmmmicgpngpaaFallsW
import Derived.Test.YtnpmmmicgpngpaaMany
import Derived.Test.YtnpmmmicgpngpaaRefBit
namespace Go.Proofs.Ytnpmmmicgpngpaa
open Go.RowKit

/-- none of the ones seen has been chosen, or some one is late -/
def OkB (s : Nat) (o : List Nat) (k : Nat) (b : Bool) : Prop := b = true → ∀ j, j < k → s.testBit (o.getD j 0) = false
theorem OkB.zero (s : Nat) (o : List Nat) : OkB s o 0 true := fun _ j hj => absurd hj (by omega)
theorem OkB.skip {s : Nat} {o : List Nat} {k : Nat} {b : Bool} (h : OkB s o k b) (hk : s.testBit (o.getD k 0) = false) : OkB s o (k + 1) b := fun hb j hj => by
  by_cases e : j = k
  · rw [e]; exact hk
  · exact h hb j (by omega)
theorem OkB.no (s : Nat) (o : List Nat) (k : Nat) : OkB s o k false := fun h => by cases h
theorem OkB.done {s : Nat} {o : List Nat} {n : Nat} (h : OkB s o n true) (ho : o.Perm (List.range n)) (hs : s < 2 ^ n) : s = 0 := by
  refine Nat.eq_of_testBit_eq fun i => ?_
  rw [Nat.zero_testBit]
  by_cases hi : i < n
  · have hm : i ∈ o := ho.mem_iff.2 (List.mem_range.2 hi)
    obtain ⟨j, hj, rfl⟩ := List.getElem_of_mem hm
    have hol : o.length = n := by simpa using ho.length_eq
    have := h rfl j (by omega)
    rwa [List.getD, List.getElem?_eq_getElem hj] at this
  · exact Nat.testBit_lt_two_pow (Nat.lt_of_lt_of_le hs (Nat.pow_le_pow_right (by omega) (by omega)))
set_option maxHeartbeats 1600000 in
theorem ontime_zero (A : Option Addr) (n cap : Nat) (l : List Jb) (w : World) (hr : RdJ w A n l) (hq : qchk 1 l = 0) (hlate : ∀ i, i < n → pdue l i < ptime l i) :
    Calls Try.prog 6 #[.slice A n cap] w fun e w' => e = .returned (.int .i64 0) ∧ Below w.heap.size w w' := by
  obtain ⟨h7, hbt, hbf⟩ := qchk_zero hq
  have hel := hr.1
  rw [hel] at h7
  have hdbH := Lib.hid (show DueB l from hbf)
  have hpbH := Lib.hid (show ∀ i, 0 ≤ ptime l i ∧ ptime l i ≤ 1048576 from hbt)
  have hrH := Lib.hid hr; have hlateH := Lib.hid hlate
  clear hr hq hbt hbf hlate hel
  go_enter Try.func6, Try.ntmps6
  go_wp2
  go_loopw [3, 5, 15] (fun v _ q wr => ∃ (k : Nat) (D : List Int), k ≤ n ∧ q = .int .i64 k ∧ D.length = k ∧ wr.ownsRow w.heap.size 2 1 v k (ints .i64 D) ∧ Below w.heap.size w wr) (fun _ _ q _ => n - (intOf q).toNat)
  case atStart => exact ⟨0, [], by omega, rfl, rfl, World.ownsRow_nil _ _ _ _, Below.refl _ _⟩
  case round =>
    obtain ⟨k, D, hk, rfl, hD, hown, hb⟩ := hrel
    obtain ⟨wi, rfl⟩ : ∃ wi : World, wi = wr := ⟨_, rfl⟩
    have hownH := Lib.hid hown; have hbH := Lib.hid hb
    have hszw := hb.size
    by_cases hkn : k < n
    · obtain ⟨b, o1, rfl, hab, a0, a1, a2, a3, _⟩ := (hrH.out.later hb).at hkn
      have hdt := hdbH.out k
      obtain ⟨JX, hJX⟩ : ∃ J, jat l k = J := ⟨_, rfl⟩
      rw [hJX] at a0 a1 a2 a3 hdt
      clear hJX hown hb
      obtain ⟨t, A', l', c', du, wo, af⟩ := JX
      dsimp only at a0 a1 a2 a3 hdt
      have q2 := ((Blk.new wi 31 #[.int .i64 t, .slice A' l' c', .int .i64 du, .int .i64 wo])).cell (j := 2) (v := .int .i64 du) rfl
      have hw1 : IntKind.i64.wrap (-du) = -du := IntWalk.i64_in _ (by omega)
      have hrd := rd_new1 (wi.alloc (.cells #[.int .i64 t, .slice A' l' c', .int .i64 du, .int .i64 wo] 31)) (.int .i64 (-du)) 2
      rw [World.size_alloc] at hrd
      have hrdH := Lib.hid hrd
      clear hrd
      go_wp2_with (at_builtin; refine wpList_app (s := .tmp 19) (x := .tmp 23) _ tiI64 ((hownH.out.alloc _).alloc _) hrdH.out (ints_one (l := [-du])) (by omega) (by omega) (by simp; omega) rfl rfl rfl rfl ?_)
      intro v' w5 ownA gA atA
      have hb5 := Lib.hid (((hbH.out.alloc hszw (.cells #[.int .i64 t, .slice A' l' c', .int .i64 du, .int .i64 wo] 31)).alloc (by simp; omega) (.cells #[.int .i64 (-du)] 2)).grown gA (by simp; omega) (fun r e => (hownH.out.lt r e).1))
      have ownAH := Lib.hid (show w5.ownsRow w.heap.size 2 1 v' (k + 1) (ints .i64 (D ++ [-du])) by simpa [ints] using ownA)
      clear ownA gA atA
      go_wp2
      go_roundw
      case rel => exact ⟨k + 1, D ++ [-du], by omega, by go_num, by simp [hD], ownAH.out, hb5.out⟩
      case measure => simp [intOf]; omega
    · obtain rfl : k = n := by omega
      obtain ⟨A6, c6, rfl⟩ := own_slice hown
      have HF := Lib.hid (falls_any A6 k c6 D wi (Rd.of_own hown) (by omega))
      clear hown hb
      go_wp2_with fail
      refine HF.out.mono ?_
      rintro _ w6 ⟨⟨v6, o, rfl, ho, hown6⟩, hb6⟩
      obtain ⟨A7, c7, rfl⟩ := own_slice hown6
      have hb6H := Lib.hid (hbH.out.trans (hb6.mono hszw))
      have hRo := Lib.hid (Rd.of_own hown6)
      have hr6 := Lib.hid (hrH.out.later hb6H.out)
      have hoH := Lib.hid ho
      have hol := Lib.hid (show o.length = k by simpa using ho.length_eq)
      have hoi := Lib.hid (fun j (hj : j < k) => show o.getD j 0 < k from List.mem_range.1 (ho.mem_iff.1 (by rw [List.getD, List.getElem?_eq_getElem (by rw [hol.out]; exact hj)]; exact List.getElem_mem _)))
      clear ho hown6 hb6 HF hownH hbH
      obtain ⟨S, hS⟩ : ∃ S, 2 ^ k = S := ⟨_, rfl⟩
      have hS1 : 1 ≤ S := by rw [← hS]; exact Nat.one_le_two_pow
      have hS8 : S ≤ 128 := by rw [← hS]; exact (Nat.pow_le_pow_right (by omega) h7 : 2 ^ k ≤ 2 ^ 7)
      have hone : (2 : Int) ^ k % 4294967296 = (S : Int) := by
        have e : (2 : Int) ^ k = ((2 ^ k : Nat) : Int) := by simp
        rw [e, hS]; omega
      have hSH := Lib.hid hS
      clear hS
      go_wp2
      go_loopw [7, 8, 9, 10, 12] (fun b sv _ _ _ wr => ∃ s : Nat, s ≤ S ∧ b = .int .i64 0 ∧ sv = .int .u32 s ∧ wr = w6) (fun _ sv _ _ _ _ => S - (intOf sv).toNat)
      case atStart => exact ⟨0, by omega, rfl, rfl, rfl⟩
      case round =>
        obtain ⟨s, hs, rfl, rfl, rfl⟩ := hrel
        have hsu : ((s : Int) + 1) % 4294967296 = ((s + 1 : Nat) : Int) := by omega
        by_cases hsS : s < S
        · obtain ⟨wo, rfl⟩ : ∃ wo : World, wo = wr := ⟨_, rfl⟩
          have HB := Lib.hid (fun j (hj : j < k) => bit_any s (o.getD j 0) wo (by omega) (by have := hoi.out j hj; omega))
          have HS0 := Lib.hid (size_any 0 wo (by omega))
          go_wp2
          rw [hone]
          clear hone
          go_loopw [9, 10, 12, 38] (fun nv ov _ qv wr => ∃ (j : Nat) (x : Int) (ok : Bool), j ≤ k ∧ qv = .int .i64 j ∧ nv = .int .i64 x ∧ ov = .bool ok ∧ 0 ≤ x ∧ x ≤ 1048576 * j ∧ OkB s o j ok ∧ wr = wo) (fun _ _ _ qv _ => k - (intOf qv).toNat)
          case atStart => exact ⟨0, 0, true, by omega, rfl, rfl, rfl, by omega, by omega, OkB.zero s o, rfl⟩
          case round =>
            obtain ⟨j, x, ok, hj, rfl, rfl, rfl, hx0, hx1, hok, rfl⟩ := hrel
            have hokH := Lib.hid hok
            clear hok
            by_cases hjk : j < k
            · obtain ⟨b1, o1, rfl, hab, hc⟩ := hRo.out.int hjk
              rw [natI_at (by rw [hol.out]; exact hjk)] at hc
              have hin := hoi.out j hjk
              obtain ⟨b, o2, rfl, hab2, a0, a1, a2, a3, _⟩ := hr6.out.at hin
              have hpt := hpbH.out (o.getD j 0)
              have hlt := hlateH.out (o.getD j 0) hin
              have HB1 := Lib.hid (HB.out j hjk)
              unfold ptime at hpt hlt
              unfold pdue at hlt
              have hskip := Lib.hid (fun h => hokH.out.skip h)
              obtain ⟨JX, hJX⟩ : ∃ J, jat l (o.getD j 0) = J := ⟨_, rfl⟩
              rw [hJX] at a0 a1 a2 a3 hpt hlt
              clear hJX
              obtain ⟨t, A', l', c', du, wt, af⟩ := JX
              dsimp only at a0 a1 a2 a3 hpt hlt
              generalize o.getD j 0 = i at *
              have hik : (i : Int) < k := by omega
              have hjk' : (j : Int) < k := by omega
              have hw2 : IntKind.i64.wrap (x + t) = x + t := IntWalk.i64_in _ (by omega)
              cases hbit : s.testBit i
              · rw [hbit] at HB1
                have hsk := Lib.hid (hskip.out hbit)
                clear hbit
                go_wp2_with fail
                refine HB1.out.mono ?_
                rintro _ _ ⟨rfl, rfl⟩
                go_wp2
                go_roundw
                case rel => exact ⟨j + 1, x, ok, by omega, by go_num, rfl, rfl, hx0, by omega, hsk.out, trivial⟩
                case measure => simp [intOf]; omega
              · rw [hbit] at HB1
                clear hbit
                have hle : decide (x + t ≤ du) = false := decide_eq_false (by omega)
                cases ok
                all_goals
                  go_wp2_with fail
                  refine HB1.out.mono ?_
                  rintro _ _ ⟨rfl, rfl⟩
                  go_wp2
                  go_roundw
                  case rel => exact ⟨j + 1, x + t, false, by omega, by go_num, rfl, rfl, by omega, by omega, OkB.no s o _, trivial⟩
                  case measure => simp [intOf]; omega
            · obtain rfl : j = k := by omega
              cases ok
              · clear HB HS0
                go_wp2
                go_roundw
                case rel => exact ⟨s + 1, by omega, rfl, by go_num, trivial⟩
                case measure => simp [intOf]; omega
              · have hs0 : s = 0 := hokH.out.done hoH.out (by rw [hSH.out]; exact hsS)
                subst hs0
                clear HB
                go_wp2_with fail
                refine HS0.out.mono ?_
                rintro _ _ ⟨rfl, rfl⟩
                go_wp2
                go_roundw
                case rel => exact ⟨1, by omega, rfl, by go_num, trivial⟩
                case measure => simp [intOf]; omega
        · obtain rfl : s = S := by omega
          go_wp2
          go_ret
          exact ⟨rfl, hb6H.out⟩
end Go.Proofs.Ytnpmmmicgpngpaa
