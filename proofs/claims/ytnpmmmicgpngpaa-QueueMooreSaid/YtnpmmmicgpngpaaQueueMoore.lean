/- QueueMoore: MOORE, HODGSON: for any jobs and any order: in none more are done by when they are due than is told. -/
import Derived.Test.YtnpmmmicgpngpaaOnTime
namespace Go.Proofs.Ytnpmmmicgpngpaa
open Go.RowKit

theorem tm_next {p : Nat → Int} {x : List Nat} {k : Nat} (hk : k < x.length) : tm p (x.take (k + 1)) = tm p (x.take k) + p (x.getD k 0) := by
  have ht : x.take (k + 1) = x.take k ++ [x.getD k 0] := by
    rw [List.take_succ_eq_append_getElem (by omega)]; simp [List.getD, hk]
  unfold tm
  rw [ht]; simp
theorem cntT_next (p d : Nat → Int) (x : List Nat) (k : Nat) : cntT p d x (k + 1) = cntT p d x k + if onT p d x k then 1 else 0 := by
  unfold cntT
  rw [List.range_succ, List.countP_append]
  simp [List.countP_cons]
theorem tm_bd {p : Nat → Int} (hp : ∀ i, 0 ≤ p i ∧ p i ≤ 1048576) {x : List Nat} : ∀ k, k ≤ x.length → 0 ≤ tm p (x.take k) ∧ tm p (x.take k) ≤ 1048576 * k
  | 0, _ => by simp [tm]
  | k + 1, hk => by
    have ih := tm_bd hp (x := x) k (by omega)
    have := hp (x.getD k 0)
    rw [tm_next (show k < x.length by omega)]
    omega
theorem cntT_le (p d : Nat → Int) (x : List Nat) : ∀ k, cntT p d x k ≤ k
  | 0 => by simp [cntT]
  | k + 1 => by
    have := cntT_le p d x k
    rw [cntT_next]; split <;> omega
set_option maxHeartbeats 1600000 in
theorem queueMoore_walk (A A3 : Option Addr) (len cap len3 cap3 : Nat) (l : List Jb) (z : List Int) (w : World) (hr : RdJ w A len l) (hr3 : Rd w A3 len3 1 (ints .i64 z))
    (hl : len ≤ 9223372036854775807) (hl3 : len3 ≤ 9223372036854775807) (hcap3 : len3 ≤ cap3) :
    Calls Try.prog 3 #[.slice A len cap, .slice A3 len3 cap3] w fun e w' => e = .returned (.bool true) ∧ Below w.heap.size w w' := by
  have hel := hr.1
  have hel3 : z.length = len3 := by simpa [ints] using hr3.1
  have HJ := Lib.hid (fun W (h : Below w.heap.size w W) => jobsOk_any 1 (by omega) A len cap l W (hr.later h) hl)
  cases hq : qchk 1 l == 0
  · have HT := Lib.hid (many_bad A len cap l w hr hl (by simpa using hq))
    rw [hq] at HJ
    clear hr hr3 hel hel3 hq
    go_enter Try.func3, Try.ntmps3
    go_wp2_with fail
    refine HT.out.mono ?_
    rintro _ w1 ⟨⟨y, rfl, hy⟩, hb⟩
    have HJ1 := Lib.hid (HJ.out w1 hb)
    have hs1 := hb.size
    go_wp2_with fail
    refine HJ1.out.mono ?_
    rintro _ w2 ⟨rfl, hb2⟩
    go_wp2
    go_ret
    exact ⟨rfl, hb.trans (hb2.mono hs1)⟩
  · have hok : qchk 1 l = 0 := by simpa using hq
    rw [hq] at HJ
    obtain ⟨h7, hbt, hbf⟩ := qchk_zero hok
    rw [hel] at h7
    have hpbH := Lib.hid (show ∀ i, 0 ≤ ptime l i ∧ ptime l i ≤ 1048576 from hbt)
    have HT := Lib.hid (many_ok A len cap l w hr hok)
    have HE := Lib.hid (fun W (h : Below w.heap.size w W) => eachL_any (len : Int) A3 len3 cap3 z W (hr3.later h) hl3 hcap3)
    have HO := Lib.hid (fun W (h : Below w.heap.size w W) hlate => ontime_zero A len cap l W (hr.later h) hok hlate)
    have hrH := Lib.hid hr; have hr3H := Lib.hid hr3
    clear hr hr3 hok hq hbt hbf
    go_enter Try.func3, Try.ntmps3
    go_wp2_with fail
    refine HT.out.mono ?_
    rintro _ w1 ⟨⟨K, o, rfl, hpo, hso, hM⟩, hb⟩
    have HJ1 := Lib.hid (HJ.out w1 hb)
    have hs1 := hb.size
    have hol : o.length = len := by simpa using hpo.length_eq
    have hst : MSt (rev (ptime l) (pdue l) o) K := by have := hM.st; rwa [List.take_of_length_le (by omega)] at this
    have hKl := hM.len
    have hmoore := Lib.hid (fun (x : List Nat) (hx : x.Perm (List.range len)) => moore (p := ptime l) (d := pdue l) (fun i => (hpbH.out i).1) hpo (fun a b hab hb => by
      have := hso a b hab hb
      unfold KD at this
      unfold pdue
      omega) hx hst)
    have hnone := Lib.hid (fun (hK : K.length = 0) i (hi : i < len) => moore_none (p := ptime l) (d := pdue l) hpo hst hK hi)
    clear hpo hso hM hst hol
    obtain ⟨m, hm⟩ : ∃ m, K.length = m := ⟨_, rfl⟩
    rw [hm] at hKl hmoore hnone ⊢
    clear hm
    go_wp2_with fail
    refine HJ1.out.mono ?_
    rintro _ w2 ⟨rfl, hb2⟩
    have hb12 := Lib.hid (hb.trans (hb2.mono hs1))
    clear hb hb2 hs1 HJ HJ1 HT
    -- from the question whether the order is one
    have hgt : decide (len < m) = false := decide_eq_false (by omega)
    by_cases hm0 : m = 0
    · subst hm0
      have HO2 := Lib.hid (HO.out w2 hb12.out (hnone.out rfl))
      clear HO
      go_wp2_with fail
      refine HO2.out.mono ?_
      rintro _ w3 ⟨rfl, hb3⟩
      have hb3H := Lib.hid (hb12.out.trans (hb3.mono hb12.out.size))
      have HE3 := Lib.hid (HE.out w3 hb3H.out)
      clear hb12 hb3 HE HO2
      cases he : eachB len z
      · rw [he] at HE3
        clear he hel hel3
        go_wp2_with fail
        refine HE3.out.mono ?_
        rintro _ _ ⟨rfl, rfl⟩
        go_wp2
        go_ret
        exact ⟨rfl, hb3H.out⟩
      · rw [he] at HE3
        obtain ⟨x, hx, rfl⟩ := (eachB_iff len z).1 he
        have hxl : x.length = len := by simpa using hx.length_eq
        have hly : len3 = len := by simp [natI] at hel3; omega
        subst hly
        have hfin := Lib.hid (hmoore.out x hx)
        have hxlH := Lib.hid hxl; have hxH := Lib.hid hx
        clear he hel hel3 hx hxl hmoore
        go_wp2_with fail
        refine HE3.out.mono ?_
        rintro _ _ ⟨rfl, rfl⟩
        go_wp2
        go_loopw [7, 8, 10, 49] (fun t c _ q wr => ∃ k : Nat, k ≤ len3 ∧ q = .int .i64 k ∧ t = .int .i64 (tm (ptime l) (x.take k)) ∧ c = .int .i64 (cntT (ptime l) (pdue l) x k : Nat) ∧ wr = w3) (fun _ _ _ q _ => len3 - (intOf q).toNat)
        case atStart => exact ⟨0, Nat.zero_le _, rfl, by simp [tm], by simp [cntT], rfl⟩
        case round =>
          obtain ⟨k, hk, rfl, rfl, rfl, rfl⟩ := hrel
          by_cases hlt : k < len3
          · obtain ⟨b3, o3, rfl, hab3, hc3⟩ := (hr3H.out.later hb3H.out).int hlt
            rw [natI_at (by rw [hxlH.out]; exact hlt)] at hc3
            have hin : x.getD k 0 < len3 := List.mem_range.1 (hxH.out.mem_iff.1 (by rw [List.getD, List.getElem?_eq_getElem (by rw [hxlH.out]; exact hlt)]; exact List.getElem_mem _))
            obtain ⟨b, oo, rfl, hab, a0, a1, a2, a3, _⟩ := (hrH.out.later hb3H.out).at hin
            have hnx := Lib.hid (tm_next (p := ptime l) (x := x) (k := k) (by rw [hxlH.out]; exact hlt))
            have hcn := Lib.hid (cntT_next (ptime l) (pdue l) x k)
            have hon := Lib.hid (show onT (ptime l) (pdue l) x k = decide (tm (ptime l) (x.take (k + 1)) ≤ pdue l (x.getD k 0)) from rfl)
            have hbd := tm_bd hpbH.out (x := x) k (by rw [hxlH.out]; omega)
            have hpt := hpbH.out (x.getD k 0)
            have hcl := cntT_le (ptime l) (pdue l) x k
            have hp1 : ptime l (x.getD k 0) = (jat l (x.getD k 0)).time := rfl
            have hd1 : pdue l (x.getD k 0) = (jat l (x.getD k 0)).due := rfl
            rw [← hp1] at a0
            rw [← hd1] at a2
            clear hp1 hd1
            generalize ptime l (x.getD k 0) = t at *
            generalize pdue l (x.getD k 0) = du at *
            generalize x.getD k 0 = i at *
            generalize tm (ptime l) (x.take k) = T at *
            generalize cntT (ptime l) (pdue l) x k = C at *
            rw [hnx.out] at hon
            have hik : (i : Int) < len3 := by omega
            have hw1 : IntKind.i64.wrap (T + t) = T + t := IntWalk.i64_in _ (by omega)
            have hw2 : IntKind.i64.wrap ((C : Int) + 1) = ((C + 1 : Nat) : Int) := by rw [IntWalk.i64_in _ (by omega)]; omega
            by_cases hle : T + t ≤ du
            · have hd : decide (T + t ≤ du) = true := decide_eq_true hle
              have hcn2 := Lib.hid (show cntT (ptime l) (pdue l) x (k + 1) = C + 1 by rw [hcn.out, hon.out, hd]; rfl)
              clear hcn hon
              go_wp2
              go_roundw
              case rel => exact ⟨k + 1, by omega, by go_num, by rw [hnx.out], by rw [hcn2.out]; simp, trivial⟩
              case measure => simp [intOf]; omega
            · have hd : decide (T + t ≤ du) = false := decide_eq_false hle
              have hcn2 := Lib.hid (show cntT (ptime l) (pdue l) x (k + 1) = C by rw [hcn.out, hon.out, hd]; rfl)
              clear hcn hon
              go_wp2
              go_roundw
              case rel => exact ⟨k + 1, by omega, by go_num, by rw [hnx.out], by rw [hcn2.out], trivial⟩
              case measure => simp [intOf]; omega
          · obtain rfl : k = len3 := by omega
            have hle := hfin.out
            generalize cntT (ptime l) (pdue l) x k = C at *
            generalize tm (ptime l) (x.take k) = T at *
            have hd : decide (C ≤ 0) = true := decide_eq_true hle
            go_wp2
            go_ret
            exact ⟨by simp; omega, hb3H.out⟩
    · have hmz : ((m : Int) == 0) = false := beq_false_of_ne (by omega)
      have HE3 := Lib.hid (HE.out w2 hb12.out)
      clear HE HO
      cases he : eachB len z
      · rw [he] at HE3
        clear he hel hel3
        go_wp2_with fail
        refine HE3.out.mono ?_
        rintro _ _ ⟨rfl, rfl⟩
        go_wp2
        go_ret
        exact ⟨rfl, hb12.out⟩
      · rw [he] at HE3
        obtain ⟨x, hx, rfl⟩ := (eachB_iff len z).1 he
        have hxl : x.length = len := by simpa using hx.length_eq
        have hly : len3 = len := by simp [natI] at hel3; omega
        subst hly
        have hfin := Lib.hid (hmoore.out x hx)
        have hxlH := Lib.hid hxl; have hxH := Lib.hid hx
        clear he hel hel3 hx hxl hmoore
        go_wp2_with fail
        refine HE3.out.mono ?_
        rintro _ _ ⟨rfl, rfl⟩
        go_wp2
        go_loopw [7, 8, 10, 49] (fun t c _ q wr => ∃ k : Nat, k ≤ len3 ∧ q = .int .i64 k ∧ t = .int .i64 (tm (ptime l) (x.take k)) ∧ c = .int .i64 (cntT (ptime l) (pdue l) x k : Nat) ∧ wr = w2) (fun _ _ _ q _ => len3 - (intOf q).toNat)
        case atStart => exact ⟨0, Nat.zero_le _, rfl, by simp [tm], by simp [cntT], rfl⟩
        case round =>
          obtain ⟨k, hk, rfl, rfl, rfl, rfl⟩ := hrel
          by_cases hlt : k < len3
          · obtain ⟨b3, o3, rfl, hab3, hc3⟩ := (hr3H.out.later hb12.out).int hlt
            rw [natI_at (by rw [hxlH.out]; exact hlt)] at hc3
            have hin : x.getD k 0 < len3 := List.mem_range.1 (hxH.out.mem_iff.1 (by rw [List.getD, List.getElem?_eq_getElem (by rw [hxlH.out]; exact hlt)]; exact List.getElem_mem _))
            obtain ⟨b, oo, rfl, hab, a0, a1, a2, a3, _⟩ := (hrH.out.later hb12.out).at hin
            have hnx := Lib.hid (tm_next (p := ptime l) (x := x) (k := k) (by rw [hxlH.out]; exact hlt))
            have hcn := Lib.hid (cntT_next (ptime l) (pdue l) x k)
            have hon := Lib.hid (show onT (ptime l) (pdue l) x k = decide (tm (ptime l) (x.take (k + 1)) ≤ pdue l (x.getD k 0)) from rfl)
            have hbd := tm_bd hpbH.out (x := x) k (by rw [hxlH.out]; omega)
            have hpt := hpbH.out (x.getD k 0)
            have hcl := cntT_le (ptime l) (pdue l) x k
            have hp1 : ptime l (x.getD k 0) = (jat l (x.getD k 0)).time := rfl
            have hd1 : pdue l (x.getD k 0) = (jat l (x.getD k 0)).due := rfl
            rw [← hp1] at a0
            rw [← hd1] at a2
            clear hp1 hd1
            generalize ptime l (x.getD k 0) = t at *
            generalize pdue l (x.getD k 0) = du at *
            generalize x.getD k 0 = i at *
            generalize tm (ptime l) (x.take k) = T at *
            generalize cntT (ptime l) (pdue l) x k = C at *
            rw [hnx.out] at hon
            have hik : (i : Int) < len3 := by omega
            have hw1 : IntKind.i64.wrap (T + t) = T + t := IntWalk.i64_in _ (by omega)
            have hw2 : IntKind.i64.wrap ((C : Int) + 1) = ((C + 1 : Nat) : Int) := by rw [IntWalk.i64_in _ (by omega)]; omega
            by_cases hle : T + t ≤ du
            · have hd : decide (T + t ≤ du) = true := decide_eq_true hle
              have hcn2 := Lib.hid (show cntT (ptime l) (pdue l) x (k + 1) = C + 1 by rw [hcn.out, hon.out, hd]; rfl)
              clear hcn hon
              go_wp2
              go_roundw
              case rel => exact ⟨k + 1, by omega, by go_num, by rw [hnx.out], by rw [hcn2.out]; simp, trivial⟩
              case measure => simp [intOf]; omega
            · have hd : decide (T + t ≤ du) = false := decide_eq_false hle
              have hcn2 := Lib.hid (show cntT (ptime l) (pdue l) x (k + 1) = C by rw [hcn.out, hon.out, hd]; rfl)
              clear hcn hon
              go_wp2
              go_roundw
              case rel => exact ⟨k + 1, by omega, by go_num, by rw [hnx.out], by rw [hcn2.out], trivial⟩
              case measure => simp [intOf]; omega
          · obtain rfl : k = len3 := by omega
            have hle := hfin.out
            generalize cntT (ptime l) (pdue l) x k = C at *
            generalize tm (ptime l) (x.take k) = T at *
            have hd : decide (C ≤ m) = true := decide_eq_true hle
            go_wp2
            go_ret
            exact ⟨by simp, hb12.out⟩
theorem queueMoore_any (A : Option Addr) (len cap : Nat) (l : List Jb) (A3 : Option Addr) (len3 cap3 : Nat) (o : List Int) (w : World) (hr : RdJ w A len l) (hl : len ≤ maxLen) (_ : len ≤ cap)
    (_ : ∀ j ∈ l, (∀ z ∈ j.after, (Lit.int .i64 z).wf = true) ∧ (Lit.int .i64 j.time).wf = true ∧ (Lit.int .i64 j.due).wf = true ∧ (Lit.int .i64 j.worth).wf = true)
    (hr3 : Rd w A3 len3 1 (ints .i64 o)) (hl3 : len3 ≤ maxLen) (hcap3 : len3 ≤ cap3) (_ : ∀ z ∈ o, (Lit.int .i64 z).wf = true) :
    Calls Try.prog 3 #[.slice A len cap, .slice A3 len3 cap3] w fun e w' => e = .returned (.bool true) ∧ Below w.heap.size w w' := by
  unfold maxLen at hl hl3
  exact queueMoore_walk A A3 len cap len3 cap3 l o w hr hr3 (by omega) (by omega) hcap3
end Go.Proofs.Ytnpmmmicgpngpaa
