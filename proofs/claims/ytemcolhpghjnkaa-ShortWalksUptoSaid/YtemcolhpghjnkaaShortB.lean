/- Reach. -/
import Derived.Test.YtemcolhpghjnkaaShortA
import Derived.Test.YtemcolhpghjnkaaBellman
namespace Go.Proofs.Ytemcolhpghjnkaa
open Go.RowKit

theorem tiL : TI Try.prog 25 2 (.int .i64 0) 1 8 := TI.mk' Try.underlying25 (by kernel_rfl) rfl (by decide)
theorem reach_lo {l : List Arc} (hl : ∀ a ∈ l, -1048576 ≤ aW a ∧ aW a ≤ 1048576) (s k : Nat) (hk : k ≤ 11) (i : Nat) : -11534336 ≤ reach l s k i ∧ reach l s k i ≤ 1152921504606846976 := by
  rcases reach_bound hl s k i with h | h
  · unfold far at h; omega
  · omega
theorem aok_split {N : Nat} {a : Arc} (h : AOk N a) : ∃ (f t : Nat) (m e : Int), a = ((f : Int), (t : Int), m, e) ∧ f < N ∧ t < N ∧ f ≠ t ∧ 0 ≤ m ∧ m ≤ 1048576 ∧ -1048576 ≤ e ∧ e ≤ 1048576 := by
  obtain ⟨x, y, m, e⟩ := a
  obtain ⟨h1, h2, h3, h4, h5, h6, h7, h8, h9⟩ := h
  dsimp only at *
  exact ⟨x.toNat, y.toNat, m, e, by rw [Int.toNat_of_nonneg h1, Int.toNat_of_nonneg h3], by omega, by omega, by omega, h6, h7, h8, h9⟩
theorem atake_succ {l : List Arc} {k : Nat} (h : k < l.length) : l.take (k + 1) = l.take k ++ [aat l k] := take_succ_getD' l (0, 0, 0, 0) k h
def dpart (l : List Arc) (D : Nat → Int) (k : Nat) : Nat → Int := (l.take k).foldl (dstep D) D
theorem dpart_succ {l : List Arc} {D : Nat → Int} {k : Nat} (h : k < l.length) : dpart l D (k + 1) = dstep D (dpart l D k) (aat l k) := by
  unfold dpart
  rw [atake_succ h, List.foldl_append]; rfl
theorem dstep_yes {D n : Nat → Int} {f t : Nat} {m e : Int} (h1 : D f < 1152921504606846976) (h2 : D f + e < n t) : dstep D n ((f : Int), (t : Int), m, e) = fun i => if i = t then D f + e else n i := by
  unfold dstep
  rw [show aF ((f : Int), (t : Int), m, e) = f from rfl, show aT ((f : Int), (t : Int), m, e) = t from rfl, show aW ((f : Int), (t : Int), m, e) = e from rfl, if_pos ⟨h1, h2⟩]
  rfl
theorem dstep_no {D n : Nat → Int} {f t : Nat} {m e : Int} (h : ¬ (D f < 1152921504606846976 ∧ D f + e < n t)) : dstep D n ((f : Int), (t : Int), m, e) = n := by
  unfold dstep
  rw [show aF ((f : Int), (t : Int), m, e) = f from rfl, show aT ((f : Int), (t : Int), m, e) = t from rfl, show aW ((f : Int), (t : Int), m, e) = e from rfl]
  exact if_neg h
theorem own_cap {w : World} {b e s n c : Nat} {A : Option Addr} {xs : List Value} (h : w.ownsRow b e s (.slice A n c) n xs) : n ≤ c := by
  rcases h.2 with ⟨h1, h2⟩ | ⟨g, cap, cur, h1, _, _, hc, _⟩
  · omega
  · injection h1 with _ _ h3; omega
def RowPost (n : Nat) (F : Nat → Int) (w : World) (e : Ending) (w' : World) : Prop := ∃ (A : Option Addr) (c : Nat), e = .returned (.slice A n c) ∧ n ≤ c ∧ Rd w' A n 1 (row n F) ∧ Below w.heap.size w w'
set_option maxHeartbeats 3200000 in
set_option maxRecDepth 100000 in
theorem reach_any (N s K : Nat) (A : Option Addr) (len cap : Nat) (l : List Arc) (w : World) (hr : Rd w A len 4 (arcs l)) (hN : N ≤ 10) (hl : len ≤ 30) (hs : s < N) (hK : K ≤ 11) (hok : ∀ a ∈ l, AOk N a) :
    Calls Try.prog 16 #[.agg #[.int .i64 N, .slice A len cap], .int .i64 s, .int .i64 K] w (RowPost N (reach l s K) w) := by
  have helH := Lib.hid (arcs_len hr)
  have hrH := Lib.hid hr; have hokH := Lib.hid hok
  have hlo := Lib.hid (fun k => reach_lo (l := l) (fun a ha => ⟨(hok a ha).w0, (hok a ha).w1⟩) s k)
  clear hr hok
  go_enter Try.func16, Try.ntmps16
  go_wp2
  have g0 : (w.alloc (Obj.cells #[Value.int IntKind.i64 (N : Int), Value.slice A len cap] 24)).cell? ⟨w.heap.size, 0, none⟩ = some (.int .i64 N) := by go_simp
  have g1 : (w.alloc (Obj.cells #[Value.int IntKind.i64 (N : Int), Value.slice A len cap] 24)).cell? ⟨w.heap.size, 1, none⟩ = some (.slice A len cap) := by go_simp
  have hS0 : w.heap.size < (w.alloc (Obj.cells #[Value.int IntKind.i64 (N : Int), Value.slice A len cap] 24)).heap.size := by simp
  have hbw0 : Below w.heap.size w (w.alloc (Obj.cells #[Value.int IntKind.i64 (N : Int), Value.slice A len cap] 24)) := (Below.refl _ _).alloc (Nat.le_refl _) _
  generalize w.alloc (Obj.cells #[Value.int IntKind.i64 (N : Int), Value.slice A len cap] 24) = W0 at *
  have hr0 := Lib.hid (hrH.out.later hbw0)
  go_loopw [7, 8] (fun v i wr => ∃ k : Nat, k ≤ N ∧ i = .int .i64 k ∧ wr.ownsRow W0.heap.size 2 1 v k (row k fun _ => far) ∧ Below W0.heap.size W0 wr) (fun _ i _ => N - (intOf i).toNat)
  case atStart => exact ⟨0, Nat.zero_le _, rfl, World.ownsRow_nil _ _ _ _, Below.refl _ _⟩
  case round =>
    obtain ⟨k, hk, rfl, hown, hb⟩ := hrel
    have hownH := Lib.hid hown; clear hown
    have hSr := hb.size
    have hSw : w.heap.size < wr.heap.size := by omega
    have q0 := below_cell hb hS0 g0
    have q1 := below_cell hb hS0 g1
    by_cases hlt : k < N
    · go_wp2_with (at_builtin; refine wpList_app (s := .tmp 19) (x := .tmp 20) _ tiL (hownH.out.alloc _) (rd_new1 wr (.int .i64 1152921504606846976) 2) (ints_one (l := [1152921504606846976])) (by omega) (by omega) (hb.alloc hb.size _).size rfl rfl rfl rfl ?_)
      intro v' w5 hown5 hg5 hat5
      have hb5 : Below W0.heap.size W0 w5 := (hb.alloc hb.size _).grown hg5 (hb.alloc hb.size _).size (fun g hg' => (hownH.out.lt g hg').1)
      clear hg5 hat5
      go_wp2
      go_roundw
      case rel => exact ⟨k + 1, by omega, by go_num, by rw [row_snoc]; exact hown5, hb5⟩
      case measure => simp [intOf]; omega
    · obtain rfl : k = N := by omega
      obtain ⟨g, c, rfl, hgB, hgS⟩ := hownH.out.form (by omega)
      have hst := Lib.hid (hownH.out.stored s (.int .i64 0)).1
      have hcs : wr.cell? ⟨g, s, none⟩ = some (.int .i64 far) := (hownH.out.cellAt s (by omega)).trans (row_get hs)
      have hfz := hownH.out.frozenAt s
      have hbs := Lib.hid (hb.setCell (p := ⟨g, s, none⟩) hgB (.int .i64 0))
      have hsi : (s : Int) < k := by omega
      have hinit := Lib.hid (show (row k fun _ => far).set s (.int .i64 0) = row k (reach l s 0) by rw [row_set]; rfl)
      have hgw := hownH.out.frozenAt s
      clear hownH hb
      go_wp2
      have q0 : (wr.setCell ⟨g, s, none⟩ (Value.int IntKind.i64 0)).cell? ⟨w.heap.size, 0, none⟩ = some (.int .i64 k) := cell_set_other (by omega) q0
      have q1 : (wr.setCell ⟨g, s, none⟩ (Value.int IntKind.i64 0)).cell? ⟨w.heap.size, 1, none⟩ = some (.slice A len cap) := cell_set_other (by omega) q1
      have hst0 := Lib.hid (show (wr.setCell ⟨g, s, none⟩ (Value.int IntKind.i64 0)).ownsRow W0.heap.size 2 1 (.slice (some ⟨g, 0, none⟩) k c) k (row k (reach l s 0)) by rw [← hinit.out]; exact hst.out)
      have hsz : W0.heap.size ≤ (wr.setCell ⟨g, s, none⟩ (Value.int IntKind.i64 0)).heap.size := by simpa using hSr
      generalize wr.setCell ⟨g, s, none⟩ (Value.int IntKind.i64 0) = W1 at *
      clear hst hcs hgw hSw hgS hinit hfz
      go_loopw [7, 9, 10, 12, 34, 35, 36] (fun v i _ _ _ _ _ wr => ∃ j : Nat, j ≤ K ∧ i = .int .i64 j ∧ wr.ownsRow W0.heap.size 2 1 v k (row k (reach l s j)) ∧ Below W0.heap.size W0 wr) (fun _ i _ _ _ _ _ _ => K - (intOf i).toNat)
      case atStart => exact ⟨0, Nat.zero_le _, rfl, hst0.out, hbs.out⟩
      case round =>
        clear q0 q1 hsz
        obtain ⟨j, hj, rfl, hown, hb⟩ := hrel
        have hSr := hb.size
        have hSw : w.heap.size < wr.heap.size := by omega
        have q0 := below_cell hb hS0 g0
        have q1 := below_cell hb hS0 g1
        obtain ⟨gd, cd, rfl, hdB, hdS⟩ := hown.form (by omega)
        have hownH := Lib.hid hown; clear hown
        by_cases hlt : j < K
        · have hrd := Lib.hid (Rd.of_own hownH.out)
          go_wp2_with (at_builtin; refine wpList_app (base := wr.heap.size) (s := .tmp 30) (x := .tmp 31) _ tiL (World.ownsRow_lit (base := wr.heap.size) wr #[] 0 (Nat.le_refl _) (Nat.zero_le _) rfl) (hrd.out.alloc _) row_one (by omega) (by omega) (by simp) rfl rfl rfl rfl ?_)
          intro v' w5 hown5 hg5 hat5
          have hb5 : Below wr.heap.size wr w5 := ((Below.refl _ _).alloc (Nat.le_refl _) _).grown hg5 (by simp) (fun g hg' => by simp [Value.ownBlock] at hg'; omega)
          obtain ⟨g2, c2, rfl, hg2B, hg2S⟩ := hown5.form (by omega)
          have hbw5 := hb.trans (hb5.mono hSr)
          have hs5 := hb5.size
          have q0 := below_cell hb5 hSw q0
          have q1 := below_cell hb5 hSw q1
          have hl1 := hlo.out j (by omega)
          have hl1H := Lib.hid hl1
          have hgd2 : ¬ gd = g2 := by omega
          have hd5 := Lib.hid (own_below hownH.out (hb5.mono (Nat.le_refl _)))
          have hn5 := Lib.hid (show w5.ownsRow wr.heap.size 2 1 (.slice (some ⟨g2, 0, none⟩) k c2) k (row k (dpart l (reach l s j) 0)) from hown5)
          have hrn := Lib.hid (show reach l s (j + 1) = dpart l (reach l s j) len by
            unfold dpart; rw [List.take_of_length_le (by rw [helH.out]; omega)]; rfl)
          have hbw5H := Lib.hid hbw5
          clear hg5 hat5 hown5 hl1 hb5 hbw5 hownH hb
          generalize reach l s j = D at *
          generalize hB : wr.heap.size = B at *
          clear hB
          go_wp2
          go_loopw [12, 36] (fun _ i wr => ∃ m : Nat, m ≤ len ∧ i = .int .i64 m ∧ wr.ownsRow B 2 1 (.slice (some ⟨g2, 0, none⟩) k c2) k (row k (dpart l D m)) ∧ wr.ownsRow W0.heap.size 2 1 (.slice (some ⟨gd, 0, none⟩) k cd) k (row k D) ∧ Below W0.heap.size W0 wr) (fun _ i _ => len - (intOf i).toNat)
          case atStart => exact ⟨0, Nat.zero_le _, rfl, hn5.out, hd5.out, hbw5H.out⟩
          case round =>
            clear q0 q1
            obtain ⟨m, hm, rfl, hown, hownd, hb⟩ := hrel
            have hSr := hb.size
            have hSw : w.heap.size < wr.heap.size := by omega
            have q0 := below_cell hb hS0 g0
            have q1 := below_cell hb hS0 g1
            by_cases hlt2 : m < len
            · obtain ⟨bb, oo, rfl, hab, hc1, hc2, hc3, hc4⟩ := (hr0.out.later hb).arc hlt2
              have hml : m < l.length := by rw [helH.out]; exact hlt2
              obtain ⟨f, t, mo, e, hat, hf, ht, hne, hm0, hm1, he0, he1⟩ := aok_split (hokH.out _ (aat_mem hml))
              have hnx := dpart_succ (D := D) hml
              rw [hat] at hc1 hc2 hc3 hc4 hnx
              dsimp only at hc1 hc2 hc3 hc4
              have hDf := hl1H.out f
              have kf : wr.cell? ⟨gd, f, none⟩ = some (.int .i64 (D f)) := (hownd.cellAt f (by omega)).trans (row_get hf)
              have kt : wr.cell? ⟨g2, t, none⟩ = some (.int .i64 (dpart l D m t)) := (hown.cellAt t (by omega)).trans (row_get ht)
              have zt := hown.frozenAt t
              have sg2 := (hown.lt _ rfl).2
              have sgd := (hownd.lt _ rfl).2
              have hownH := Lib.hid hown; have howndH := Lib.hid hownd
              have hyes := Lib.hid (@dstep_yes D (dpart l D m) f t mo e)
              have hno := Lib.hid (@dstep_no D (dpart l D m) f t mo e)
              have hnxH := Lib.hid hnx
              have hset := Lib.hid (fun v => row_set k (dpart l D m) t v)
              have hfi : (f : Int) < k := by omega
              have hti : (t : Int) < k := by omega
              clear hown hownd hnx hml hat hDf
              have hDf := hl1H.out f
              generalize D f = x at *
              generalize dpart l D m t = y at *
              obtain ⟨hx0, hx1⟩ := hDf
              by_cases c1 : x < 1152921504606846976
              · by_cases c2' : x + e < y
                · have hz := Lib.hid (show row k (dpart l D (m + 1)) = (row k (dpart l D m)).set t (.int .i64 (x + e)) by rw [hset.out, hnxH.out, hyes.out c1 c2'])
                  go_wp2
                  go_quiet (fail)
                  go_wp2
                  go_region
                  go_wp2
                  go_roundw
                  case rel => exact ⟨m + 1, by omega, by go_num, by rw [hz.out]; exact ((own_drewN (hownH.out.alloc _) _).stored t _).1, own_set_other (own_drewN (howndH.out.alloc _) _) (by simp [Value.ownBlock]; omega) _, (below_drewN (hb.alloc hSr _) _).setCell (show W0.heap.size ≤ g2 by omega) _⟩
                  case measure => simp [intOf]; omega
                · have hz := Lib.hid (show dpart l D (m + 1) = dpart l D m by rw [hnxH.out, hno.out (by omega)])
                  have c2'' : y ≤ x + e := by omega
                  clear c2'
                  go_wp2
                  go_quiet (fail)
                  go_wp2
                  go_roundw
                  case rel => exact ⟨m + 1, by omega, by go_num, by rw [hz.out]; exact own_drewN (hownH.out.alloc _) _, own_drewN (howndH.out.alloc _) _, below_drewN (hb.alloc hSr _) _⟩
                  case measure => simp [intOf]; omega
              · have hz := Lib.hid (show dpart l D (m + 1) = dpart l D m by rw [hnxH.out, hno.out (by omega)])
                have hd : decide (x < 1152921504606846976) = false := by simpa using c1
                clear c1
                go_wp2
                go_quiet (fail)
                go_wp2
                go_roundw
                case rel => exact ⟨m + 1, by omega, by go_num, by rw [hz.out]; exact own_drewN (hownH.out.alloc _) _, own_drewN (howndH.out.alloc _) _, below_drewN (hb.alloc hSr _) _⟩
                case measure => simp [intOf]; omega
            · obtain rfl : m = len := by omega
              have hz := Lib.hid (show wr.ownsRow W0.heap.size 2 1 (.slice (some ⟨g2, 0, none⟩) k c2) k (row k (reach l s (j + 1))) by rw [hrn.out]; exact own_base (by omega) hown)
              clear hown hownd
              go_wp2
              go_roundw
              case rel => exact ⟨j + 1, by omega, by go_num, hz.out, hb⟩
              case measure => simp [intOf]; omega
        · obtain rfl : j = K := by omega
          have hrd := Lib.hid (Rd.of_own hownH.out)
          have hcd := hownH.out.2
          go_wp2
          go_ret
          exact ⟨_, cd, rfl, own_cap hownH.out, hrd.out, hbw0.trans (hb.mono hbw0.size)⟩
end Go.Proofs.Ytemcolhpghjnkaa
