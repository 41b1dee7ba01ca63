/- johnson: JOHNSON's order, made one by one. Printed by tools/johnson.py. -/
import Derived.Test.YtednlnlppedkiaaQueueLaw
import Derived.Test.YtednlnlppedkiaaQueueAny
namespace Go.Proofs.Ytednlnlppedkiaa
open Go.RowKit

set_option maxHeartbeats 6400000 in
set_option maxRecDepth 100000 in
theorem johnson_any (A A2 : Option Addr) (n cap cap2 : Nat) (fs ss : List Int) (w : World) (hr : Rd w A n 1 (ints .i64 fs)) (hr2 : Rd w A2 n 1 (ints .i64 ss)) (hn : n ≤ 7) :
    Calls Try.prog 11 #[.slice A n cap, .slice A2 n cap2] w fun e w' => ∃ A' c o, e = .returned (.slice A' n c) ∧ w'.ownsRow w.heap.size 3 1 (.slice A' n c) n (ints .i64 (natI o)) ∧ o.Perm (List.range n) ∧ o.Pairwise (JR fs ss) ∧ Below w.heap.size w w' := by
  have hrH := Lib.hid hr; have hr2H := Lib.hid hr2
  clear hr hr2
  go_enter Try.func11, Try.ntmps11
  go_wp2
  obtain ⟨gh, hgh⟩ : ∃ gh, w.heap.size = gh := ⟨_, rfl⟩
  go_loopw [5, 6] (fun v tv wr => ∃ (t : Nat) (ti : Int) (o : List Nat), t ≤ 2 ∧ ti = t ∧ tv = .int .i64 ti ∧ JI fs ss n t o ∧ wr.ownsRow gh 3 1 v o.length (ints .i64 (natI o)) ∧ Below gh w wr) (fun _ tv _ => 2 - (intOf tv).toNat)
  case atStart => exact ⟨0, 0, [], by omega, rfl, rfl, JI.start, World.ownsRow_nil _ _ _ _, by rw [← hgh]; exact Below.refl _ _⟩
  case round =>
    obtain ⟨t, ti, o0, ht, hti, rfl, hJ0, hown0, hb0⟩ := hrel
    match t, ht with
    | 0, _ =>
      have htiH := Lib.hid (show ti = 0 by omega)
      have hq0 : 0 ≤ ti := by omega
      have hq1 : ti ≤ 2 := by omega
      have hq2 : decide (ti < 2) = true := by simp; omega
      have hq3 : (ti == 0) = true := by simp; omega
      have hq4 : (ti == 1) = false := by simp; omega
      clear hti
      go_wp2
      go_loopw [5, 15] (fun v qv wr => ∃ (q : Nat) (o : List Nat), q ≤ n ∧ qv = .int .i64 q ∧ JI fs ss n 0 o ∧ ((∀ j, j < n → ¬ Cand fs ss 0 o j) ∨ q ≤ o.length) ∧ wr.ownsRow gh 3 1 v o.length (ints .i64 (natI o)) ∧ Below gh w wr) (fun _ qv _ => n - (intOf qv).toNat)
      case atStart => exact ⟨0, o0, Nat.zero_le _, rfl, hJ0, .inr (Nat.zero_le _), hown0, hb0⟩
      case round =>
        obtain ⟨q, o, hq, rfl, hJ, hcnt, hown, hb⟩ := hrel
        have hJH := Lib.hid hJ; have hcntH := Lib.hid hcnt; have hownH := Lib.hid hown; have hbH := Lib.hid hb
        obtain ⟨Ao, co, rfl⟩ := own_slice hown
        have hol : o.length ≤ n := by
          have := hJ.nd.length_le_of_subset (l₂ := List.range n) fun x hx => List.mem_range.2 (hJ.lt x hx)
          simpa using this
        have hszr := hb.size
        have hRo := Lib.hid (Rd.of_own hown)
        clear hJ hcnt hown hb
        obtain ⟨wq, rfl⟩ : ∃ wq, wq = wr := ⟨_, rfl⟩
        have hszq : gh ≤ wq.heap.size := by omega
        by_cases hqn : q < n
        · go_wp2
          go_loopw [7, 8] (fun bv kv wx => ∃ (k : Nat) (b : Int), k ≤ n ∧ kv = .int .i64 k ∧ bv = .int .i64 b ∧ BSt fs ss 0 o k b ∧ Below wq.heap.size wq wx) (fun _ kv _ => n - (intOf kv).toNat)
          case atStart => exact ⟨0, -1, Nat.zero_le _, rfl, rfl, BSt.zero, Below.refl _ _⟩
          case round =>
            obtain ⟨wx, rfl⟩ : ∃ wx, wx = wr := ⟨_, rfl⟩
            obtain ⟨k, bv, hk, rfl, rfl, hBS, hb3⟩ := hrel
            have hb3' : Below w.heap.size w wx := by
              have h1 := hbH.out.trans (hb3.mono hszq)
              rwa [← hgh] at h1
            by_cases hkn : k < n
            · obtain ⟨b, o1, rfl, hab, hc⟩ := (hrH.out.later hb3').int hkn
              obtain ⟨b2, o2, rfl, hab2, hc2⟩ := (hr2H.out.later hb3').int hkn
              have hki : (k : Int) < n := by omega
              have HHk := Lib.hid (fun nq => has_any (k : Int) Ao o.length co (natI o) (wx.drewN nq) (hRo.out.later (below_drewN hb3 nq)) (by omega))
              cases hhas : hasB (natI o) (k : Int)
              · rw [hhas] at HHk
                have hno : k ∉ o := fun hm => by
                  have := (hasB_mem (natI o) (k : Int)).2 (by unfold natI; exact List.mem_map.2 ⟨k, hm, rfl⟩)
                  rw [hhas] at this; cases this
                have hgr := Lib.hid (show gr fs ss k = if fs.getD k 0 < ss.getD k 0 then 0 else 1 from rfl)
                have hbetD := Lib.hid (fun b : Nat => show Bet fs ss 0 k b ↔ fs.getD k 0 < fs.getD b 0 from by simp [Bet])
                have hnoH := Lib.hid hno; have hBSH := Lib.hid hBS
                have hbnd := Lib.hid (show ∀ b : Nat, bv = b → b < k by
                  intro b hb2
                  rcases hBSH.out with ⟨h1, _⟩ | ⟨b', h1, h2, _⟩ <;> omega)
                have hform := Lib.hid (show bv = -1 ∨ ∃ b : Nat, bv = b by
                  rcases hBSH.out with ⟨h1, _⟩ | ⟨b', h1, h2, _⟩
                  · exact .inl h1
                  · exact .inr ⟨b', h1⟩)
                clear hhas hno hBS
                by_cases hfs : fs.getD k 0 < ss.getD k 0
                · have hg := Lib.hid (hgr.out.trans (if_pos hfs))
                  clear hgr
                  have hfd : decide (fs.getD k 0 < ss.getD k 0) = true := decide_eq_true hfs
                  generalize fs.getD k 0 = fk at *
                  generalize ss.getD k 0 = sk at *
                  rcases hform.out with rfl | ⟨b, rfl⟩
                  · have hBS2 := Lib.hid (hBSH.out.first ⟨hnoH.out, hg.out⟩)
                    clear hform
                    go_wp2
                    go_quiet ((go_at_call 20; with_reducible exact quiet_left (HHk.out _)))
                    go_wp2
                    go_quiet (fail)
                    go_wp2
                    go_roundw
                    case rel => exact ⟨k + 1, _, by omega, by go_num, rfl, hBS2.out, below_drewN hb3 _⟩
                    case measure => simp [intOf]; omega
                  · have hbk := hbnd.out b rfl
                    obtain ⟨bb, oo, hAb, habb, hcb⟩ := (hrH.out.later hb3').int (show b < n by omega)
                    injection hAb with hAb; injection hAb with hA1 hA2 hA3
                    subst hA1; subst hA2
                    have hbn : (b : Int) < n := by omega
                    have hb00 : (0 : Int) ≤ b := by omega
                    have hb01 : decide ((b : Int) < 0) = false := by simp
                    have hbetB := Lib.hid (hbetD.out b)
                    clear hbetD
                    generalize fs.getD b 0 = fb at *
                    by_cases hcmp : fk < fb
                    · have hcd : decide (fk < fb) = true := decide_eq_true hcmp
                      have hBS2 := Lib.hid (hBSH.out.better ⟨hnoH.out, hg.out⟩ (hbetB.out.2 hcmp))
                      clear hform
                      go_wp2
                      go_quiet ((go_at_call 20; with_reducible exact quiet_left (HHk.out _)))
                      go_wp2
                      go_quiet (fail)
                      go_wp2
                      go_roundw
                      case rel => exact ⟨k + 1, _, by omega, by go_num, rfl, hBS2.out, below_drewN hb3 _⟩
                      case measure => simp [intOf]; omega
                    · have hcd : decide (fk < fb) = false := decide_eq_false hcmp
                      have hBS2 := Lib.hid (hBSH.out.keep (fun h => hcmp (hbetB.out.1 h)))
                      clear hform
                      go_wp2
                      go_quiet ((go_at_call 20; with_reducible exact quiet_left (HHk.out _)))
                      go_wp2
                      go_quiet (fail)
                      go_wp2
                      go_roundw
                      case rel => exact ⟨k + 1, _, by omega, by go_num, rfl, hBS2.out, below_drewN hb3 _⟩
                      case measure => simp [intOf]; omega
                · have hg := Lib.hid (hgr.out.trans (if_neg hfs))
                  clear hgr
                  have hfd : decide (fs.getD k 0 < ss.getD k 0) = false := decide_eq_false hfs
                  generalize fs.getD k 0 = fk at *
                  generalize ss.getD k 0 = sk at *
                  have hBS2 := Lib.hid (hBSH.out.skip (fun hc => by have := hc.2; have := hg.out; omega))
                  go_wp2
                  go_quiet ((go_at_call 20; with_reducible exact quiet_left (HHk.out _)))
                  go_wp2
                  go_roundw
                  case rel => exact ⟨k + 1, _, by omega, by go_num, rfl, hBS2.out, below_drewN hb3 nq⟩
                  case measure => simp [intOf]; omega
              · rw [hhas] at HHk
                have hyes : k ∈ o := by
                  have := (hasB_mem (natI o) (k : Int)).1 hhas
                  unfold natI at this
                  obtain ⟨a, ha, he⟩ := List.mem_map.1 this
                  obtain rfl : a = k := by omega
                  exact ha
                have hBS2 := Lib.hid (hBS.skip (fun hc => hc.1 hyes))
                clear hhas hyes hBS
                go_wp2
                go_quiet ((go_at_call 20; with_reducible exact quiet_left (HHk.out _)))
                go_wp2
                go_roundw
                case rel => exact ⟨k + 1, _, by omega, by go_num, rfl, hBS2.out, below_drewN hb3 nq⟩
                case measure => simp [intOf]; omega
            · obtain rfl : k = n := by omega
              have hb4 := hb3
              rcases hBS with ⟨rfl, hno⟩ | ⟨b, rfl, hbk, hcd, hbest⟩
              · have hnoH := Lib.hid hno
                clear hno
                go_wp2
                go_roundw
                case rel => exact ⟨q + 1, o, by omega, by go_num, hJH.out, .inl hnoH.out, own_below hownH.out hb3, hbH.out.trans (hb3.mono hszq)⟩
                case measure => simp [intOf]; omega
              · have hJ2 := Lib.hid (hJH.out.push (.inr ⟨b, rfl, hbk, hcd, hbest⟩) (by omega))
                have hcd2 := Lib.hid (show q + 1 ≤ (o ++ [b]).length by
                  rcases hcntH.out with h | h
                  · exact absurd hcd (h b hbk)
                  · simp; omega)
                clear hcd hbest
                have hs3 := hb3.size
                have hown3 := own_below hownH.out hb3
                have hbx := hbH.out.trans (hb3.mono hszq)
                have hal : gh ≤ (wx.alloc (.cells #[.int .i64 (b : Int)] 3)).heap.size := by simp; omega
                go_wp2_with (at_builtin; refine wpList_app (s := .tmp 75) (x := .tmp 77) _ tiIc (hown3.alloc _) (rd_new1 wx (.int .i64 (b : Int)) 3) (ints_one (l := [(b : Int)])) (by omega) (by omega) hal rfl rfl rfl rfl ?_)
                intro v' wC ownC gC atC
                have bC := (hbx.alloc (by omega) (.cells #[.int .i64 (b : Int)] 3)).grown gC hal (fun g hg => (hown3.lt g hg).1)
                clear gC atC hown3
                go_wp2
                go_roundw
                case rel => exact ⟨q + 1, o ++ [b], by omega, by go_num, hJ2.out, .inr hcd2.out, by rw [show ints .i64 (natI (o ++ [b])) = ints .i64 (natI o) ++ [.int .i64 (b : Int)] by simp [ints, natI], List.length_append]; exact ownC, bC⟩
                case measure => simp [intOf]; omega
        · obtain rfl : q = n := by omega
          have hno := Lib.hid (show ∀ j, j < q → ¬ Cand fs ss 0 o j by
            rcases hcntH.out with h | h
            · exact h
            · exact no_cand hJH.out h)
          go_wp2
          go_roundw
          case rel => exact ⟨1, ti + 1, o, by omega, by have := htiH.out; omega, by go_num, hJH.out.turn hno.out, hownH.out, hbH.out⟩
          case measure => have := htiH.out; simp [intOf]; omega
    | 1, _ =>
      have htiH := Lib.hid (show ti = 1 by omega)
      have hq0 : 0 ≤ ti := by omega
      have hq1 : ti ≤ 2 := by omega
      have hq2 : decide (ti < 2) = true := by simp; omega
      have hq3 : (ti == 0) = false := by simp; omega
      have hq4 : (ti == 1) = true := by simp; omega
      clear hti
      go_wp2
      go_loopw [5, 15] (fun v qv wr => ∃ (q : Nat) (o : List Nat), q ≤ n ∧ qv = .int .i64 q ∧ JI fs ss n 1 o ∧ ((∀ j, j < n → ¬ Cand fs ss 1 o j) ∨ q ≤ o.length) ∧ wr.ownsRow gh 3 1 v o.length (ints .i64 (natI o)) ∧ Below gh w wr) (fun _ qv _ => n - (intOf qv).toNat)
      case atStart => exact ⟨0, o0, Nat.zero_le _, rfl, hJ0, .inr (Nat.zero_le _), hown0, hb0⟩
      case round =>
        obtain ⟨q, o, hq, rfl, hJ, hcnt, hown, hb⟩ := hrel
        have hJH := Lib.hid hJ; have hcntH := Lib.hid hcnt; have hownH := Lib.hid hown; have hbH := Lib.hid hb
        obtain ⟨Ao, co, rfl⟩ := own_slice hown
        have hol : o.length ≤ n := by
          have := hJ.nd.length_le_of_subset (l₂ := List.range n) fun x hx => List.mem_range.2 (hJ.lt x hx)
          simpa using this
        have hszr := hb.size
        have hRo := Lib.hid (Rd.of_own hown)
        clear hJ hcnt hown hb
        obtain ⟨wq, rfl⟩ : ∃ wq, wq = wr := ⟨_, rfl⟩
        have hszq : gh ≤ wq.heap.size := by omega
        by_cases hqn : q < n
        · go_wp2
          go_loopw [7, 8] (fun bv kv wx => ∃ (k : Nat) (b : Int), k ≤ n ∧ kv = .int .i64 k ∧ bv = .int .i64 b ∧ BSt fs ss 1 o k b ∧ Below wq.heap.size wq wx) (fun _ kv _ => n - (intOf kv).toNat)
          case atStart => exact ⟨0, -1, Nat.zero_le _, rfl, rfl, BSt.zero, Below.refl _ _⟩
          case round =>
            obtain ⟨wx, rfl⟩ : ∃ wx, wx = wr := ⟨_, rfl⟩
            obtain ⟨k, bv, hk, rfl, rfl, hBS, hb3⟩ := hrel
            have hb3' : Below w.heap.size w wx := by
              have h1 := hbH.out.trans (hb3.mono hszq)
              rwa [← hgh] at h1
            by_cases hkn : k < n
            · obtain ⟨b, o1, rfl, hab, hc⟩ := (hrH.out.later hb3').int hkn
              obtain ⟨b2, o2, rfl, hab2, hc2⟩ := (hr2H.out.later hb3').int hkn
              have hki : (k : Int) < n := by omega
              have HHk := Lib.hid (fun nq => has_any (k : Int) Ao o.length co (natI o) (wx.drewN nq) (hRo.out.later (below_drewN hb3 nq)) (by omega))
              cases hhas : hasB (natI o) (k : Int)
              · rw [hhas] at HHk
                have hno : k ∉ o := fun hm => by
                  have := (hasB_mem (natI o) (k : Int)).2 (by unfold natI; exact List.mem_map.2 ⟨k, hm, rfl⟩)
                  rw [hhas] at this; cases this
                have hgr := Lib.hid (show gr fs ss k = if fs.getD k 0 < ss.getD k 0 then 0 else 1 from rfl)
                have hbetD := Lib.hid (fun b : Nat => show Bet fs ss 1 k b ↔ ss.getD b 0 < ss.getD k 0 from by simp [Bet])
                have hnoH := Lib.hid hno; have hBSH := Lib.hid hBS
                have hbnd := Lib.hid (show ∀ b : Nat, bv = b → b < k by
                  intro b hb2
                  rcases hBSH.out with ⟨h1, _⟩ | ⟨b', h1, h2, _⟩ <;> omega)
                have hform := Lib.hid (show bv = -1 ∨ ∃ b : Nat, bv = b by
                  rcases hBSH.out with ⟨h1, _⟩ | ⟨b', h1, h2, _⟩
                  · exact .inl h1
                  · exact .inr ⟨b', h1⟩)
                clear hhas hno hBS
                by_cases hfs : fs.getD k 0 < ss.getD k 0
                · have hg := Lib.hid (hgr.out.trans (if_pos hfs))
                  clear hgr
                  have hfd : decide (fs.getD k 0 < ss.getD k 0) = true := decide_eq_true hfs
                  generalize fs.getD k 0 = fk at *
                  generalize ss.getD k 0 = sk at *
                  have hBS2 := Lib.hid (hBSH.out.skip (fun hc => by have := hc.2; have := hg.out; omega))
                  go_wp2
                  go_quiet ((go_at_call 20; with_reducible exact quiet_left (HHk.out _)))
                  go_wp2
                  go_roundw
                  case rel => exact ⟨k + 1, _, by omega, by go_num, rfl, hBS2.out, below_drewN hb3 nq⟩
                  case measure => simp [intOf]; omega
                · have hg := Lib.hid (hgr.out.trans (if_neg hfs))
                  clear hgr
                  have hfd : decide (fs.getD k 0 < ss.getD k 0) = false := decide_eq_false hfs
                  generalize fs.getD k 0 = fk at *
                  generalize ss.getD k 0 = sk at *
                  rcases hform.out with rfl | ⟨b, rfl⟩
                  · have hBS2 := Lib.hid (hBSH.out.first ⟨hnoH.out, hg.out⟩)
                    clear hform
                    go_wp2
                    go_quiet ((go_at_call 20; with_reducible exact quiet_left (HHk.out _)))
                    go_wp2
                    go_quiet (fail)
                    go_wp2
                    go_roundw
                    case rel => exact ⟨k + 1, _, by omega, by go_num, rfl, hBS2.out, below_drewN hb3 _⟩
                    case measure => simp [intOf]; omega
                  · have hbk := hbnd.out b rfl
                    obtain ⟨bb, oo, hAb, habb, hcb⟩ := (hr2H.out.later hb3').int (show b < n by omega)
                    injection hAb with hAb; injection hAb with hA1 hA2 hA3
                    subst hA1; subst hA2
                    have hbn : (b : Int) < n := by omega
                    have hb00 : (0 : Int) ≤ b := by omega
                    have hb01 : decide ((b : Int) < 0) = false := by simp
                    have hbetB := Lib.hid (hbetD.out b)
                    clear hbetD
                    generalize ss.getD b 0 = sb at *
                    by_cases hcmp : sb < sk
                    · have hcd : decide (sb < sk) = true := decide_eq_true hcmp
                      have hBS2 := Lib.hid (hBSH.out.better ⟨hnoH.out, hg.out⟩ (hbetB.out.2 hcmp))
                      clear hform
                      go_wp2
                      go_quiet ((go_at_call 20; with_reducible exact quiet_left (HHk.out _)))
                      go_wp2
                      go_quiet (fail)
                      go_wp2
                      go_roundw
                      case rel => exact ⟨k + 1, _, by omega, by go_num, rfl, hBS2.out, below_drewN hb3 _⟩
                      case measure => simp [intOf]; omega
                    · have hcd : decide (sb < sk) = false := decide_eq_false hcmp
                      have hBS2 := Lib.hid (hBSH.out.keep (fun h => hcmp (hbetB.out.1 h)))
                      clear hform
                      go_wp2
                      go_quiet ((go_at_call 20; with_reducible exact quiet_left (HHk.out _)))
                      go_wp2
                      go_quiet (fail)
                      go_wp2
                      go_roundw
                      case rel => exact ⟨k + 1, _, by omega, by go_num, rfl, hBS2.out, below_drewN hb3 _⟩
                      case measure => simp [intOf]; omega
              · rw [hhas] at HHk
                have hyes : k ∈ o := by
                  have := (hasB_mem (natI o) (k : Int)).1 hhas
                  unfold natI at this
                  obtain ⟨a, ha, he⟩ := List.mem_map.1 this
                  obtain rfl : a = k := by omega
                  exact ha
                have hBS2 := Lib.hid (hBS.skip (fun hc => hc.1 hyes))
                clear hhas hyes hBS
                go_wp2
                go_quiet ((go_at_call 20; with_reducible exact quiet_left (HHk.out _)))
                go_wp2
                go_roundw
                case rel => exact ⟨k + 1, _, by omega, by go_num, rfl, hBS2.out, below_drewN hb3 nq⟩
                case measure => simp [intOf]; omega
            · obtain rfl : k = n := by omega
              have hb4 := hb3
              rcases hBS with ⟨rfl, hno⟩ | ⟨b, rfl, hbk, hcd, hbest⟩
              · have hnoH := Lib.hid hno
                clear hno
                go_wp2
                go_roundw
                case rel => exact ⟨q + 1, o, by omega, by go_num, hJH.out, .inl hnoH.out, own_below hownH.out hb3, hbH.out.trans (hb3.mono hszq)⟩
                case measure => simp [intOf]; omega
              · have hJ2 := Lib.hid (hJH.out.push (.inr ⟨b, rfl, hbk, hcd, hbest⟩) (by omega))
                have hcd2 := Lib.hid (show q + 1 ≤ (o ++ [b]).length by
                  rcases hcntH.out with h | h
                  · exact absurd hcd (h b hbk)
                  · simp; omega)
                clear hcd hbest
                have hs3 := hb3.size
                have hown3 := own_below hownH.out hb3
                have hbx := hbH.out.trans (hb3.mono hszq)
                have hal : gh ≤ (wx.alloc (.cells #[.int .i64 (b : Int)] 3)).heap.size := by simp; omega
                go_wp2_with (at_builtin; refine wpList_app (s := .tmp 75) (x := .tmp 77) _ tiIc (hown3.alloc _) (rd_new1 wx (.int .i64 (b : Int)) 3) (ints_one (l := [(b : Int)])) (by omega) (by omega) hal rfl rfl rfl rfl ?_)
                intro v' wC ownC gC atC
                have bC := (hbx.alloc (by omega) (.cells #[.int .i64 (b : Int)] 3)).grown gC hal (fun g hg => (hown3.lt g hg).1)
                clear gC atC hown3
                go_wp2
                go_roundw
                case rel => exact ⟨q + 1, o ++ [b], by omega, by go_num, hJ2.out, .inr hcd2.out, by rw [show ints .i64 (natI (o ++ [b])) = ints .i64 (natI o) ++ [.int .i64 (b : Int)] by simp [ints, natI], List.length_append]; exact ownC, bC⟩
                case measure => simp [intOf]; omega
        · obtain rfl : q = n := by omega
          have hno := Lib.hid (show ∀ j, j < q → ¬ Cand fs ss 1 o j by
            rcases hcntH.out with h | h
            · exact h
            · exact no_cand hJH.out h)
          go_wp2
          go_roundw
          case rel => exact ⟨2, ti + 1, o, by omega, by have := htiH.out; omega, by go_num, hJH.out.turn hno.out, hownH.out, hbH.out⟩
          case measure => have := htiH.out; simp [intOf]; omega
    | 2, _ =>
      have htiH := Lib.hid (show ti = 2 by omega)
      have hq0 : 0 ≤ ti := by omega
      have hq1 : ti ≤ 2 := by omega
      have hq2 : decide (ti < 2) = false := by simp; omega
      have hq3 : (ti == 0) = false := by simp; omega
      have hq4 : (ti == 1) = false := by simp; omega
      clear hti
      have hp := Lib.hid hJ0.all
      have hpw := Lib.hid hJ0.pw
      have hln : o0.length = n := by simpa using hp.out.length_eq
      rw [hln] at hown0
      obtain ⟨A', c, rfl⟩ := own_slice hown0
      have hownH := Lib.hid hown0; have hbH := Lib.hid hb0
      clear hJ0 hown0 hb0
      go_wp2
      go_ret
      rw [← hgh] at hownH hbH
      exact ⟨A', c, o0, rfl, hownH.out, hp.out, hpw.out, hbH.out⟩
end Go.Proofs.Ytednlnlppedkiaa
