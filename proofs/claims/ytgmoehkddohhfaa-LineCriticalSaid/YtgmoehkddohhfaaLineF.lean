/- The walk of teamsterref.Order. -/
import Derived.Test.YtgmoehkddohhfaaLineE
namespace Go.Proofs.Ytgmoehkddohhfaa
open Go.RowKit

theorem rdy_eq (js : List Jb) (l : List Int) (i : Nat) : rdy js l i = (!hasB l i && !(jat js i).after.any fun k => !hasB l k) := by
  unfold rdy okJ
  congr 2
  exact congrArg ((jat js i).after.any) (funext fun k => notD_dOf l k)
def Fst (js : List Jb) (l : List Int) (m : Nat) (r : Int) : Prop :=
  (r = -1 ∧ ∀ j, m ≤ j → j < js.length → rdy js l j = false) ∨ ∃ k : Nat, r = k ∧ m ≤ k ∧ k < js.length ∧ rdy js l k = true ∧ ∀ j, m ≤ j → j < k → rdy js l j = false
theorem Fst.no {js : List Jb} {l : List Int} {m : Nat} {r : Int} (h : Fst js l (m + 1) r) (hr : rdy js l m = false) : Fst js l m r := by
  have hb : ∀ j, m ≤ j → (m + 1 ≤ j → rdy js l j = false) → rdy js l j = false := fun j hj h => by
    rcases Nat.eq_or_lt_of_le hj with rfl | h'
    · exact hr
    · exact h h'
  rcases h with ⟨h1, h2⟩ | ⟨k, h1, h0, h2, h3, h4⟩
  · exact .inl ⟨h1, fun j hj hn => hb j hj fun h => h2 j h hn⟩
  · exact .inr ⟨k, h1, by omega, h2, h3, fun j hj hn => hb j hj fun h => h4 j h hn⟩
theorem Fst.yes {js : List Jb} {l : List Int} {m : Nat} (hm : m < js.length) (hr : rdy js l m = true) : Fst js l m m := .inr ⟨m, rfl, Nat.le_refl _, hm, hr, fun j h1 h2 => by omega⟩
theorem Fst.nx {js : List Jb} {l : List Int} {r : Int} (h : Fst js l 0 r) : nx js l = r := by
  rcases h with ⟨rfl, h2⟩ | ⟨k, rfl, h0, h2, h3, h4⟩
  · exact nx_none fun j hj => h2 j (Nat.zero_le _) hj
  · exact nx_some h2 h3 fun j hj => h4 j (Nat.zero_le _) hj
theorem Fst.range {js : List Jb} {l : List Int} {m : Nat} {r : Int} (h : Fst js l m r) : r = -1 ∨ (0 ≤ r ∧ r < js.length) := by
  rcases h with ⟨h1, _⟩ | ⟨k, h1, _, h2, _⟩
  · exact .inl h1
  · exact .inr (by omega)
def RefPost (js : List Jb) (w : World) (e : Ending) (w' : World) : Prop :=
  Below w.heap.size w w' ∧ ∃ v, e = .returned (.tuple #[v, .bool (kahn js js.length []).isSome])
set_option maxHeartbeats 3200000 in
theorem refOrder_any (A : Option Addr) (len cap : Nat) (l : List Jb) (w : World) (hr : RdJ w A len l) (hlen : len ≤ 10) :
    Calls Try.prog 7 #[.slice A len cap] w (RefPost l w) := by
  have helH := Lib.hid hr.1
  have hrH := Lib.hid hr
  clear hr
  go_enter Try.func7, Try.ntmps7
  go_wp2
  go_loopw [4, 5, 6, 7, 9, 30, 31, 32] (fun v _ _ _ _ _ _ _ wr => ∃ q : List Int, q.length ≤ len ∧ kahn l (len - q.length) q = kahn l len [] ∧ wr.ownsRow w.heap.size 3 1 v q.length (ints .i64 q) ∧ Below w.heap.size w wr) (fun v _ _ _ _ _ _ _ _ => len - sliceLen v)
  case atStart => exact ⟨[], Nat.zero_le _, rfl, World.ownsRow_nil _ _ _ _, Below.refl _ _⟩
  case round =>
    obtain ⟨q, hq, hk, hown, hb⟩ := hrel
    obtain ⟨Aq, cq, rfl⟩ := own_slice hown
    have hqr := Lib.hid (Rd.of_own hown)
    have hownH := Lib.hid hown; have hkH := Lib.hid hk; have hbH := Lib.hid hb
    have hrw := Lib.hid (hrH.out.later hb)
    clear hown hk hb
    by_cases hlt : q.length < len
    · go_wp2
      obtain ⟨wo, rfl⟩ : ∃ wo : World, wo = wr := ⟨_, rfl⟩
      go_loop [5, 6, 7, 9, 30, 31, 32] (fun x i _ _ _ _ _ => ∃ (m : Nat) (r : Int), m ≤ len ∧ i = .int .i64 ((m : Int) - 1) ∧ x = .int .i64 r ∧ Fst l q m r) (fun _ i _ _ _ _ _ => (intOf i + 1).toNat)
      case atStart => exact ⟨len, -1, Nat.le_refl _, rfl, rfl, .inl ⟨rfl, fun j h1 h2 => by have := helH.out; omega⟩⟩
      case round =>
        obtain ⟨m, r, hm, rfl, rfl, hf⟩ := hrel
        have hrange := hf.range
        have hfH := Lib.hid hf
        rw [helH.out] at hrange
        have hrgH := Lib.hid hrange
        clear hf hrange
        by_cases hm0 : m = 0
        · subst hm0
          have hnx := Lib.hid hfH.out.nx
          by_cases hr0 : r < 0
          · have hz := Lib.hid (show kahn l l.length [] = none by
              rw [helH.out, ← hkH.out, show len - q.length = (len - q.length - 1) + 1 by omega, kahn, hnx.out, if_pos hr0])
            go_wp2
            go_ret2
            exact ⟨hbH.out, _, by rw [hz.out]; rfl⟩
          · have hnew := Lib.hid (show kahn l (len - (q ++ [r]).length) (q ++ [r]) = kahn l len [] by
              rw [← hkH.out, show len - q.length = (len - (q ++ [r]).length) + 1 by simp; omega]
              conv => rhs; rw [kahn]
              rw [hnx.out, if_neg hr0])
            have hr1 : 0 ≤ r := by omega
            clear hr0
            go_wp2_with (at_builtin; refine wpList_app (s := .tmp 47) (x := .tmp 49) _ tiI (hownH.out.alloc _) (rd_new1 wo (.int .i64 r) 3) (ints_one (l := [r])) (by omega) (by omega) (hbH.out.alloc hbH.out.size _).size rfl rfl rfl rfl ?_)
            intro v' w5 hown5 hg5 hat5
            have hb5 : Below w.heap.size w w5 := (hbH.out.alloc hbH.out.size _).grown hg5 (hbH.out.alloc hbH.out.size _).size (fun g hg' => (hownH.out.lt g hg').1)
            clear hg5 hat5
            go_wp2
            go_roundw
            case rel => exact ⟨q ++ [r], by simp; omega, hnew.out, by simpa [ints] using hown5, hb5⟩
            case measure => rw [own_len hown5]; simp [sliceLen]; omega
        · obtain ⟨k, rfl⟩ : ∃ k, m = k + 1 := ⟨m - 1, by omega⟩
          have hkl : k < len := by omega
          obtain ⟨bb, o, rfl, hab, hc0, hc1, hc2, hc3, hfit⟩ := hrw.out.at hkl
          have hl' := hfit.2.1
          unfold maxLen at hl'
          have HH := Lib.hid (has_any (k : Int) Aq q.length cq q wo hqr.out (by omega))
          have hrd := Lib.hid (rdy_eq l q k)
          have hno := Lib.hid (@Fst.no l q k r hfH.out)
          have hyes := Lib.hid (@Fst.yes l q k (by rw [helH.out]; exact hkl))
          have hafH := Lib.hid hfit.1
          have hk1 : ((k + 1 : Nat) : Int) - 1 = (k : Int) := by omega
          rw [hk1]
          have hafl : (jat l k).after.length = (jat l k).len := by have := hfit.1.1; simpa [ints] using this
          generalize jat l k = a at *
          obtain ⟨t, A', l', c', du, wo', af⟩ := a
          have haflH := Lib.hid hafl
          clear hfit hm0 hk1 hafl
          simp only at *
          go_wp2_with fail
          refine HH.out.mono ?_
          rintro e w2 ⟨rfl, rfl⟩
          go_wp2
          go_loop [7, 9, 32] (fun b _ i => ∃ j : Nat, j ≤ l' ∧ i = .int .i64 j ∧ b = .bool (!hasB q k && !(af.take j).any fun y => !hasB q y)) (fun _ _ i => l' - (intOf i).toNat)
          case atStart => exact ⟨0, Nat.zero_le _, rfl, by simp⟩
          case round =>
            obtain ⟨j, hj, rfl, rfl⟩ := hrel
            by_cases hjl : j < l'
            · obtain ⟨b2, o2, rfl, hab2, hc5⟩ := hafH.out.int hjl
              have hta : ∀ p : Int → Bool, (af.take (j + 1)).any p = ((af.take j).any p || p (af.getD j 0)) := by
                intro p
                rw [take_succ_getD' af 0 j (by rw [haflH.out]; exact hjl), List.any_append]; simp
              have hta2 := Lib.hid (hta fun y => !hasB q y)
              have HK := Lib.hid (has_any (af.getD j 0) Aq q.length cq q wo hqr.out (by omega))
              clear hta
              generalize af.getD j 0 = z at *
              cases hcur : (!hasB q k && !(af.take j).any fun y => !hasB q y)
              · have hx := Lib.hid (show (!hasB q k && !(af.take (j + 1)).any fun y => !hasB q y) = false by
                  rw [hta2.out]; revert hcur; cases hasB q k <;> cases (af.take j).any fun y => !hasB q y <;> simp)
                clear hcur
                go_wp2
                go_round
                case rel => exact ⟨j + 1, by omega, by go_num, by rw [hx.out]⟩
                case measure => simp [intOf]; omega
              · have hx := Lib.hid (show (!hasB q k && !(af.take (j + 1)).any fun y => !hasB q y) = hasB q z by
                  rw [hta2.out]; revert hcur; cases hasB q k <;> cases (af.take j).any fun y => !hasB q y <;> simp)
                clear hcur
                go_wp2_with fail
                refine HK.out.mono ?_
                rintro e w2 ⟨rfl, rfl⟩
                go_wp2
                go_round
                case rel => exact ⟨j + 1, by omega, by go_num, by rw [hx.out]⟩
                case measure => simp [intOf]; omega
            · obtain rfl : j = l' := by omega
              rw [List.take_of_length_le (by rw [haflH.out]; omega)]
              cases hcur : (!hasB q k && !af.any fun y => !hasB q y)
              · have hx := Lib.hid (hno.out (by rw [hrd.out, hcur]))
                clear hcur
                go_wp2
                go_round
                case rel => exact ⟨k, r, by omega, rfl, rfl, hx.out⟩
                case measure => simp [intOf]
              · have hx := Lib.hid (hyes.out (by rw [hrd.out, hcur]))
                clear hcur
                go_wp2
                go_round
                case rel => exact ⟨k, k, by omega, rfl, rfl, hx.out⟩
                case measure => simp [intOf]
    · have hz := Lib.hid (show kahn l l.length [] = some q by
        rw [helH.out, ← hkH.out, show len - q.length = 0 by omega, kahn])
      go_wp2
      go_ret2
      exact ⟨hbH.out, _, by rw [hz.out]; rfl⟩
end Go.Proofs.Ytgmoehkddohhfaa
