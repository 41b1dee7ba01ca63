/- teamsterref.Falls: what it hands back holds each place (that the numbers fall is not said: the laws here need none of it). -/
import Derived.Test.YtnpmmmicgpngpaaPermI
import Derived.BigQuiet
import Derived.Deep.LoopGhost
namespace Go.Proofs.Ytnpmmmicgpngpaa
open Go.RowKit

theorem tiFa : TI Try.prog 23 3 (.int .i64 0) 1 8 := TI.mk' Try.underlying23 (by kernel_rfl) rfl (by decide)
/-- what has been chosen of the places that are left -/
def FaB (o : List Nat) (k : Nat) (b : Int) : Prop := (b = -1 ∧ ∀ j, j < k → j ∈ o) ∨ ∃ m : Nat, b = m ∧ m < k ∧ m ∉ o
structure FaO (n : Nat) (o : List Nat) : Prop where
  nd : o.Nodup
  lt : ∀ i ∈ o, i < n
theorem FaO.zero (n : Nat) : FaO n [] := ⟨List.nodup_nil, fun _ h => (List.not_mem_nil h).elim⟩
theorem FaO.len {n : Nat} {o : List Nat} (h : FaO n o) : o.length ≤ n := by
  have := h.nd.length_le_of_subset (l₂ := List.range n) fun x hx => List.mem_range.2 (h.lt x hx)
  simpa using this
theorem FaO.next {n : Nat} {o : List Nat} {b : Int} (h : FaO n o) (hl : o.length < n) (hb : FaB o n b) : ∃ m : Nat, b = m ∧ m < n ∧ FaO n (o ++ [m]) := by
  rcases hb with ⟨_, hall⟩ | ⟨m, h1, h2, h3⟩
  · exfalso
    have := (List.nodup_range (n := n)).length_le_of_subset (l₂ := o) fun x hx => hall x (List.mem_range.1 hx)
    simp at this; omega
  · refine ⟨m, h1, h2, ⟨?_, fun i hi => ?_⟩⟩
    · rw [List.nodup_append]
      exact ⟨h.nd, by simp, fun a ha c hc e => by simp at hc; subst hc; subst e; exact h3 ha⟩
    · rcases List.mem_append.1 hi with hi | hi
      · exact h.lt i hi
      · simp at hi; subst hi; exact h2
theorem FaB.has {o : List Nat} {k : Nat} {b : Int} (h : FaB o k b) (hk : k ∈ o) : FaB o (k + 1) b := by
  rcases h with ⟨h1, h2⟩ | ⟨m, h1, h2, h3⟩
  · exact .inl ⟨h1, fun j hj => by
      by_cases e : j = k
      · rw [e]; exact hk
      · exact h2 j (by omega)⟩
  · exact .inr ⟨m, h1, by omega, h3⟩
theorem FaB.keep {o : List Nat} {k m : Nat} (h : FaB o k (m : Int)) : FaB o (k + 1) (m : Int) := by
  rcases h with ⟨h1, h2⟩ | ⟨m', h1, h2, h3⟩
  · omega
  · exact .inr ⟨m', h1, by omega, h3⟩
theorem FaB.new {o : List Nat} {k : Nat} (h : k ∉ o) : FaB o (k + 1) (k : Int) := .inr ⟨k, rfl, by omega, h⟩
theorem natI_mem {o : List Nat} {k : Nat} : hasB (natI o) (k : Int) = true ↔ k ∈ o := by
  rw [hasB_mem]
  unfold natI
  constructor
  · intro h
    obtain ⟨i, hi, e⟩ := List.mem_map.1 h
    have : i = k := by omega
    rwa [← this]
  · exact fun h => List.mem_map.2 ⟨k, h, rfl⟩
set_option maxHeartbeats 1600000 in
theorem falls_any (A : Option Addr) (n cap : Nat) (zs : List Int) (w : World) (hr : Rd w A n 1 (ints .i64 zs)) (hn : n ≤ 1000) :
    Calls Try.prog 17 #[.slice A n cap] w fun e w' => (∃ v o, e = .returned v ∧ o.Perm (List.range n) ∧ w'.ownsRow w.heap.size 3 1 v n (ints .i64 (natI o))) ∧ Below w.heap.size w w' := by
  have hzl : zs.length = n := by simpa [ints] using hr.1
  have hrH := Lib.hid hr
  clear hr hzl
  go_enter Try.func17, Try.ntmps17
  go_wp2
  go_loopg [3, 4, 5] n (fun gh v _ _ wr => ∃ o : List Nat, o.length + gh = n ∧ FaO n o ∧ wr.ownsRow w.heap.size 3 1 v o.length (ints .i64 (natI o)) ∧ Below w.heap.size w wr)
  case atStart => exact ⟨[], by simp, FaO.zero n, World.ownsRow_nil _ _ _ _, Below.refl _ _⟩
  case round =>
    obtain ⟨o, hon, hO, hown, hb⟩ := hrel
    obtain ⟨Ao, co, rfl⟩ := own_slice hown
    obtain ⟨wq, rfl⟩ : ∃ wq, wq = wr := ⟨_, rfl⟩
    obtain ⟨G0, rfl⟩ : ∃ G0, G0 = gk := ⟨_, rfl⟩
    have hszq := hb.size
    have hRo := Lib.hid (Rd.of_own hown)
    have hOH := Lib.hid hO; have hownH := Lib.hid hown; have hbH := Lib.hid hb
    clear hO hown hb
    by_cases hlt : o.length < n
    · go_wp2
      go_loopw [4, 5] (fun bv kv wx => ∃ (k : Nat) (b : Int), k ≤ n ∧ kv = .int .i64 k ∧ bv = .int .i64 b ∧ FaB o k b ∧ Below wq.heap.size wq wx) (fun _ kv _ => n - (intOf kv).toNat)
      case atStart => exact ⟨0, -1, Nat.zero_le _, rfl, rfl, .inl ⟨rfl, fun j hj => absurd hj (by omega)⟩, Below.refl _ _⟩
      case round =>
        obtain ⟨wx, rfl⟩ : ∃ wx, wx = wr := ⟨_, rfl⟩
        obtain ⟨k, bv, hk, rfl, rfl, hB, hb3⟩ := hrel
        have hBH := Lib.hid hB
        clear hB
        by_cases hkn : k < n
        · have hb3' := hbH.out.trans (hb3.mono hszq)
          have HHk := Lib.hid (fun nq => has_any (k : Int) Ao o.length co (natI o) (wx.drewN nq) (hRo.out.later (below_drewN hb3 nq)) (by omega))
          cases hhas : hasB (natI o) (k : Int)
          · rw [hhas] at HHk
            have hno := Lib.hid (show k ∉ o from fun h => by have := natI_mem.2 h; rw [hhas] at this; cases this)
            clear hhas
            by_cases hneg : bv < 0
            · have hnd : decide (bv < 0) = true := decide_eq_true hneg
              go_wp2
              go_quiet ((go_at_call 20; with_reducible exact quiet_left (HHk.out _)))
              go_wp2
              go_roundw
              case rel => exact ⟨k + 1, k, by omega, by go_num, rfl, FaB.new hno.out, below_drewN hb3 _⟩
              case measure => simp [intOf]; omega
            · obtain ⟨m, rfl, hmn⟩ : ∃ m : Nat, bv = m ∧ m < n := by
                rcases hBH.out with ⟨h1, _⟩ | ⟨m, h1, h2, _⟩
                · omega
                · exact ⟨m, h1, by omega⟩
              obtain ⟨b1, o1, rfl, hab, hc⟩ := (hrH.out.later hb3').int hkn
              obtain ⟨_, _, hA, _, hc2⟩ := (hrH.out.later hb3').int hmn
              injection hA with hA; injection hA with hA1 hA2 hA3
              subst hA1; subst hA2
              generalize zs.getD k 0 = x at *
              generalize zs.getD m 0 = y at *
              have hki : (k : Int) < n := by omega
              have hmi : (m : Int) < n := by omega
              by_cases hgt : y < x
              · have hgd : decide (y < x) = true := decide_eq_true hgt
                go_wp2
                go_quiet ((go_at_call 20; with_reducible exact quiet_left (HHk.out _)))
                go_wp2
                go_roundw
                case rel => exact ⟨k + 1, k, by omega, by go_num, rfl, FaB.new hno.out, below_drewN hb3 _⟩
                case measure => simp [intOf]; omega
              · have hgd : decide (y < x) = false := decide_eq_false hgt
                go_wp2
                go_quiet ((go_at_call 20; with_reducible exact quiet_left (HHk.out _)))
                go_wp2
                go_roundw
                case rel => exact ⟨k + 1, m, by omega, by go_num, rfl, hBH.out.keep, below_drewN hb3 _⟩
                case measure => simp [intOf]; omega
          · rw [hhas] at HHk
            have hyes := Lib.hid (natI_mem.1 hhas)
            clear hhas
            go_wp2
            go_quiet ((go_at_call 20; with_reducible exact quiet_left (HHk.out _)))
            go_wp2
            go_roundw
            case rel => exact ⟨k + 1, bv, by omega, by go_num, rfl, hBH.out.has hyes.out, below_drewN hb3 _⟩
            case measure => simp [intOf]; omega
        · obtain rfl : k = n := by omega
          obtain ⟨m, rfl, hmn, hO2⟩ := hOH.out.next hlt hBH.out
          have hO2H := Lib.hid hO2
          have hownX := Lib.hid (own_below hownH.out hb3)
          have hbX := Lib.hid (hbH.out.trans (hb3.mono hszq))
          have hszx := hbX.out.size
          have hnat : natI (o ++ [m]) = natI o ++ [(m : Int)] := by simp [natI]
          have hnatH := Lib.hid hnat
          clear hO2 hnat hb3
          go_wp2_with (at_builtin; refine wpList_app (s := .tmp 37) (x := .tmp 39) _ tiFa (hownX.out.alloc _) (rd_new1 _ (.int .i64 (m : Int)) 3) (ints_one (l := [(m : Int)])) (by omega) (by omega) (by simp; omega) rfl rfl rfl rfl ?_)
          intro v' w5 ownA gA atA
          have hb5 := Lib.hid ((hbX.out.alloc hszx (.cells #[.int .i64 (m : Int)] 3)).grown gA (by simp; omega) (fun r e => (hownX.out.lt r e).1))
          have ownAH := Lib.hid (show w5.ownsRow w.heap.size 3 1 v' (o ++ [m]).length (ints .i64 (natI (o ++ [m]))) by rw [hnatH.out]; simpa [ints] using ownA)
          clear ownA gA atA
          go_wp2
          go_roundg (G0 - 1)
          case measure => omega
          case rel => exact ⟨o ++ [m], by simp; omega, hO2H.out, ownAH.out, hb5.out⟩
    · have hol : o.length = n := by have := hOH.out.len; omega
      have hperm := Lib.hid (perm_of_sub hOH.out.nd hOH.out.lt (Nat.le_of_eq hol.symm))
      have hownF := Lib.hid (show wq.ownsRow w.heap.size 3 1 (.slice Ao o.length co) n (ints .i64 (natI o)) by rw [← hol]; exact hownH.out)
      go_wp2
      go_ret
      exact ⟨⟨_, o, rfl, hperm.out, hownF.out⟩, hbH.out⟩
end Go.Proofs.Ytnpmmmicgpngpaa
