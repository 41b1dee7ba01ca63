/- LineCritical: the walk. -/
import Derived.Test.YtgmoehkddohhfaaTimesW
namespace Go.Proofs.Ytgmoehkddohhfaa
open Go.RowKit

theorem row_at {w : World} {g n : Nat} {F : Nat → Int} (h : Rd w (some ⟨g, 0, none⟩) n 1 (row n F)) {j : Nat} (hj : j < n) : g < w.heap.size ∧ w.cell? ⟨g, j, none⟩ = some (.int .i64 (F j)) := by
  obtain ⟨b, o, hA, hlt, hc⟩ := h.row hj
  injection hA with hA
  injection hA with h1 h2 _
  subst h1 h2
  exact ⟨hlt, by simpa using hc⟩
theorem any_range_succ (p : Nat → Bool) (k : Nat) : (List.range (k + 1)).any p = ((List.range k).any p || p k) := by simp [List.range_succ]
set_option maxRecDepth 100000 in
set_option maxHeartbeats 3200000 in
theorem lineCritical_any (A : Option Addr) (len cap : Nat) (l : List Jb) (w : World) (hr : RdJ w A len l) (hl : len ≤ maxLen) (_ : len ≤ cap) (hwf0 : ∀ j ∈ l, (∀ z ∈ j.after, (Lit.int .i64 z).wf = true) ∧ (Lit.int .i64 j.time).wf = true ∧ (Lit.int .i64 j.due).wf = true ∧ (Lit.int .i64 j.worth).wf = true) :
    Calls Try.prog 4 #[.slice A len cap] w fun e w' => e = .returned (.bool true) ∧ Below w.heap.size w w' := by
  have hwf : ∀ j ∈ l, ∀ z ∈ j.after, (Lit.int .i64 z).wf = true := fun j hj => (hwf0 j hj).1
  clear hwf0
  unfold maxLen at hl
  have HT := Lib.hid (times_any A len cap l w hr (by omega) hwf)
  have hrH := Lib.hid hr
  have helH := Lib.hid hr.1
  clear hr hwf
  go_enter Try.func4, Try.ntmps4
  go_wp2_with fail
  refine HT.out.mono ?_
  rintro e w1 ⟨hb1, ⟨c, hc, rfl⟩ | ⟨g1, g2, E, L, en, hj0, rfl, hE, hL, ht, hen⟩⟩
  · have hcb : (c != 0) = true := by simpa using hc
    go_wp2
    all_goals
      go_ret
      exact ⟨rfl, hb1⟩
  · rw [helH.out] at hE hL ht
    rw [helH.out]
    have hlen := jchk_len hj0
    rw [helH.out] at hlen
    have hjok := Lib.hid (jchk_all hj0)
    have hEH := Lib.hid hE; have hLH := Lib.hid hL; have htH := Lib.hid ht; have hb1H := Lib.hid hb1
    have hr1 := Lib.hid (hrH.out.later hb1)
    have hsz1 := hb1.size
    have htop : len = 0 → en = 0 := ht.none
    clear hE hL ht HT hj0 hb1
    have htopH := Lib.hid htop
    have hnn : (len != len) = false := by simp
    obtain ⟨W1, rfl⟩ : ∃ W : World, W = w1 := ⟨_, rfl⟩
    by_cases hz : len = 0
    · have he := htop hz
      subst hz he
      go_wp2
      go_loopw [7, 8, 9, 63, 11, 108, 109, 110] (fun b _ _ i _ _ _ _ wr => i = .int .i64 0 ∧ b = .bool true ∧ Below W1.heap.size W1 wr) (fun _ _ _ _ _ _ _ _ _ => 0)
      case atStart => exact ⟨rfl, rfl, Below.refl _ _⟩
      case round =>
        obtain ⟨rfl, rfl, hb⟩ := hrel
        go_wp2
        go_ret
        exact ⟨rfl, hb1H.out.trans (hb.mono hsz1)⟩
    · have hz' : 0 < len := by omega
      clear htop
      go_wp2
      go_loopw [7, 8, 9, 63, 11, 108, 109, 110] (fun b _ _ i _ _ _ _ wr => ∃ k : Nat, k ≤ len ∧ i = .int .i64 k ∧ b = .bool ((List.range k).any fun m => E m == L m) ∧ Below W1.heap.size W1 wr) (fun _ _ _ i _ _ _ _ _ => len - (intOf i).toNat)
      case atStart => exact ⟨0, Nat.zero_le _, rfl, rfl, Below.refl _ _⟩
      case round =>
        obtain ⟨k, hk, rfl, rfl, hb⟩ := hrel
        by_cases hlt : k < len
        · obtain ⟨bb, o, rfl, hab, hc0, hc1, hc2, hc3, hfit⟩ := (hr1.out.later hb).at hlt
          obtain ⟨hg1, hcE⟩ := row_at (hEH.out.later hb) hlt
          obtain ⟨hg2, hcL⟩ := row_at (hLH.out.later hb) hlt
          have hpos := htH.out.pos k hlt
          have hcon := Lib.hid (htH.out.con k hlt)
          have htm : tmJ l k = (jat l k).time := rfl
          rw [htm] at hpos
          have hjk := Lib.hid (hjok.out _ (jat_mem (k := k) (by rw [helH.out]; exact hlt)))
          have hl10 := hjk.out.len
          have ht0 := hjk.out.t0
          have hjz := Lib.hid hjk.out.z
          have hafl : (jat l k).after.length = (jat l k).len := by have := hfit.1.1; simpa [ints] using this
          have hafH := Lib.hid (show Rd W1 (jat l k).A (jat l k).len 1 (ints .i64 (jat l k).after) by
            obtain ⟨_, _, _, _, _, _, _, _, h⟩ := hr1.out.at hlt
            exact h.1)
          have haflH := Lib.hid hafl
          unfold aftJ at hcon
          clear hfit hjk hafl htm
          generalize (jat l k).time = t at *
          generalize (jat l k).A = A' at *
          generalize (jat l k).len = l' at *
          generalize (jat l k).cap = c' at *
          generalize (jat l k).due = du at *
          generalize (jat l k).worth = wo at *
          generalize (jat l k).after = af at *
          have hnext := Lib.hid (any_range_succ (fun m => E m == L m) k)
          generalize (List.range k).any (fun m => E m == L m) = tb at *
          generalize hEk : E k = ek at *
          generalize hLk : L k = lk at *
          have hEkH := Lib.hid hEk; have hLkH := Lib.hid hLk
          clear hEk hLk
          have hx1 := alloc_cell hg1 hcE (Obj.cells #[.int .i64 t, .slice A' l' c', .int .i64 du, .int .i64 wo] 32)
          have hx2 := alloc_cell hg2 hcL (Obj.cells #[.int .i64 t, .slice A' l' c', .int .i64 du, .int .i64 wo] 32)
          have hbX := hb.alloc hb.size (Obj.cells #[.int .i64 t, .slice A' l' c', .int .i64 du, .int .i64 wo] 32)
          have hszX : (wr.alloc (Obj.cells #[.int .i64 t, .slice A' l' c', .int .i64 du, .int .i64 wo] 32)).heap.size = wr.heap.size + 1 := by simp
          have hy0 : (wr.alloc (Obj.cells #[.int .i64 t, .slice A' l' c', .int .i64 du, .int .i64 wo] 32)).cell? ⟨wr.heap.size, 0, none⟩ = some (.int .i64 t) := by go_simp
          have hy1 : (wr.alloc (Obj.cells #[.int .i64 t, .slice A' l' c', .int .i64 du, .int .i64 wo] 32)).cell? ⟨wr.heap.size, 1, none⟩ = some (.slice A' l' c') := by go_simp
          have hw1 : IntKind.i64.wrap (lk + t) = lk + t := IntWalk.i64_in _ (by omega)
          have hp1 : 0 ≤ ek := by omega
          have hp2 : ek ≤ lk := by omega
          have hp3 : lk + t ≤ en := by omega
          have hk0 : (0 : Int) ≤ k := by omega
          have hki : (k : Int) < len := by omega
          clear hpos hcE hcL
          go_wp2
          generalize hwx : wr.alloc (Obj.cells #[.int .i64 t, .slice A' l' c', .int .i64 du, .int .i64 wo] 32) = wx at *
          generalize hbs : wr.heap.size = bs at *
          go_quiet (fail)
          go_wp2
          clear hw1
          have hbq := below_drewN hbX nq
          have hy0 : (wx.drewN nq).cell? ⟨bs, 0, none⟩ = some (.int .i64 t) := hy0
          have hy1 : (wx.drewN nq).cell? ⟨bs, 1, none⟩ = some (.slice A' l' c') := hy1
          have hx1 : (wx.drewN nq).cell? ⟨g1, k, none⟩ = some (.int .i64 ek) := hx1
          have hx2 : (wx.drewN nq).cell? ⟨g2, k, none⟩ = some (.int .i64 lk) := hx2
          generalize wx.drewN nq = wq at *
          have hrel2 : ∀ b : Bool, b = (tb || (ek == lk)) → b = ((List.range (k + 1)).any fun m => E m == L m) := fun b h => by rw [hnext.out, h]
          have hrel2H := Lib.hid hrel2
          clear hrel2 hnext
          cases tb
          all_goals
            go_quiet (fail)
            have hbq2 := below_drewN hbq nq
            have hy1' : (wq.drewN nq).cell? ⟨bs, 1, none⟩ = some (.slice A' l' c') := hy1
            generalize wq.drewN nq = wq2 at *
            go_wp2
            go_loopw [11, 110] (fun _ i wy => ∃ j : Nat, j ≤ l' ∧ i = .int .i64 j ∧ Below W1.heap.size W1 wy) (fun _ i _ => l' - (intOf i).toNat)
            case atStart => exact ⟨0, Nat.zero_le _, rfl, hbq2⟩
            case round =>
              obtain ⟨j, hj, rfl, hby⟩ := hrel
              by_cases hjl : j < l'
              · obtain ⟨b2, o2, rfl, hab3, hcz⟩ := (hafH.out.later hby).int hjl
                have hmem : af.getD j 0 ∈ af := by simp [List.getD, show j < af.length by rw [haflH.out]; exact hjl]
                have hz := hjz.out _ hmem
                rw [helH.out] at hz
                have hcz2 := hcon.out _ hmem
                obtain ⟨zn, hzn⟩ : ∃ zn : Nat, af.getD j 0 = (zn : Int) := ⟨(af.getD j 0).toNat, by omega⟩
                rw [hzn] at hcz hz hcz2
                rw [Int.toNat_natCast] at hcz2
                have hzl : zn < len := by omega
                obtain ⟨_, _, hA', hab4, hz0, _⟩ := (hr1.out.later hby).at hzl
                injection hA' with hA'
                injection hA' with hA' hA'' _
                subst hA' hA''
                have hpz := htH.out.pos zn hzl
                obtain ⟨hg3, hcE⟩ := row_at (hEH.out.later hby) hlt
                obtain ⟨hg4, hcL⟩ := row_at (hLH.out.later hby) hlt
                obtain ⟨hg5, hcEz⟩ := row_at (hEH.out.later hby) hzl
                obtain ⟨hg6, hcLz⟩ := row_at (hLH.out.later hby) hzl
                change wr.cell? ⟨_, _ + zn * 4, none⟩ = some (.int .i64 (tmJ l zn)) at hz0
                rw [hEkH.out] at hcE
                rw [hLkH.out] at hcL
                have htz : 0 ≤ tmJ l zn := by
                  have := (hjok.out _ (jat_mem (k := zn) (by rw [helH.out]; exact hzl))).t0
                  exact this
                generalize tmJ l zn = tz at *
                generalize E zn = ez at *
                generalize L zn = lz at *
                have hq1 : IntKind.i64.wrap (ez + tz) = ez + tz := IntWalk.i64_in _ (by omega)
                have hq2 : IntKind.i64.wrap (lz + tz) = lz + tz := IntWalk.i64_in _ (by omega)
                have hq3 : ez + tz ≤ ek := by omega
                have hq4 : lz + tz ≤ lk := by omega
                have hzi : (zn : Int) < len := by omega
                have hz00 : (0 : Int) ≤ zn := by omega
                clear hz hmem hpz hcz2 hzn
                go_wp2
                go_quiet (fail)
                go_wp2
                go_roundw
                case rel => exact ⟨j + 1, by omega, by go_num, below_drewN hby nq⟩
                case measure => simp [intOf]; omega
              · go_wp2
                go_roundw
                case rel => exact ⟨k + 1, by omega, by go_num, by congr 1; exact hrel2H.out _ (by simp), hby⟩
                case measure => simp [intOf]; omega
        · obtain rfl : k = len := by omega
          obtain ⟨i, hi, he⟩ := htH.out.tight hz'
          have ht : ((List.range k).any fun m => E m == L m) = true := List.any_eq_true.2 ⟨i, by simpa using hi, by simp [he]⟩
          rw [ht]
          go_wp2
          go_ret
          exact ⟨rfl, hb1H.out.trans (hb.mono hsz1)⟩
end Go.Proofs.Ytgmoehkddohhfaa
