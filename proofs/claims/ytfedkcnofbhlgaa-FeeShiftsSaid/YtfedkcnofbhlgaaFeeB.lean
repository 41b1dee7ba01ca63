/- fee.Assign. -/
import Derived.Test.YtfedkcnofbhlgaaFeeLaw
import Derived.Test.YtfedkcnofbhlgaaFeeA
import Derived.Test.YtfedkcnofbhlgaaOnes64
import Derived.Test.YtfedkcnofbhlgaaRow
namespace Go.Proofs.Ytfedkcnofbhlgaa
open Go.RowKit

theorem ofInt_i64F (a : Nat) (ha : a < 9223372036854775808) : (BitVec.ofInt 64 (a : Int)).toNat = a := by
  rw [BitVec.ofInt_natCast, BitVec.toNat_ofNat]; exact Nat.mod_eq_of_lt (by omega)
theorem i64_andF (a b : Nat) (ha : a < 9223372036854775808) (hb : b < 9223372036854775808) : bits .and .i64 (a : Int) (b : Int) = ((a &&& b : Nat) : Int) := by
  have hx : a &&& b < 2 ^ 63 := Nat.and_lt_two_pow _ (by omega)
  show IntKind.i64.wrap ((BitVec.ofInt 64 (a : Int) &&& BitVec.ofInt 64 (b : Int)).toNat : Int) = _
  rw [BitVec.toNat_and, ofInt_i64F a ha, ofInt_i64F b hb, IntKind.wrap_i64]
  omega
theorem i64_orF (a b : Nat) (ha : a < 9223372036854775808) (hb : b < 9223372036854775808) : bits .or .i64 (a : Int) (b : Int) = ((a ||| b : Nat) : Int) := by
  have hx : a ||| b < 2 ^ 63 := Nat.or_lt_two_pow (by omega) (by omega)
  show IntKind.i64.wrap ((BitVec.ofInt 64 (a : Int) ||| BitVec.ofInt 64 (b : Int)).toNat : Int) = _
  rw [BitVec.toNat_or, ofInt_i64F a ha, ofInt_i64F b hb, IntKind.wrap_i64]
  omega
theorem bit_i64F (v k : Nat) (hv : v < 65536) : bits .and .i64 ((v : Int) / 2 ^ k) 1 = if v.testBit k then 1 else 0 := by
  have h1 : ((v : Int) / 2 ^ k) = ((v / 2 ^ k : Nat) : Int) := by simp
  have h2 : v / 2 ^ k ≤ v := Nat.div_le_self ..
  have h := i64_andF (v / 2 ^ k) 1 (by omega) (by omega)
  rw [h1, show (1 : Int) = ((1 : Nat) : Int) from rfl, h, nat_mask1, Nat.testBit_eq_decide_div_mod_eq]
  rcases Nat.mod_two_eq_zero_or_one (v / 2 ^ k) with h | h <;> simp [h]

theorem tiL : TI Try.prog 23 2 (.int .i64 0) 1 8 := TI.mk' Try.underlying23 (by kernel_rfl) rfl (by decide)
theorem tiI : TI Try.prog 24 3 (.int .i64 0) 1 8 := TI.mk' Try.underlying24 (by kernel_rfl) rfl (by decide)
def feeF (l : List Rw) (i j : Nat) : Int := (rat l i).zs.getD j 0
theorem fchk_ok {n : Nat} {l : List Rw} (hl : l.length = n) (h : fchk n l = 0) (hz : ∀ r ∈ l, r.zs.length = r.len) : n ≤ 8 ∧ (∀ i, i < n → (rat l i).len = n ∧ (rat l i).zs.length = n) ∧ FeesIn (feeF l) n := by
  unfold fchk at h
  split at h
  · omega
  · split at h
    · omega
    · split at h
      · omega
      · rename_i h1 h2 h3
        have hw : ∀ i, i < n → (rat l i).len = n ∧ (rat l i).zs.length = n := fun i hi => by
          have hm := rat_mem (l := l) (k := i) (by omega)
          have := List.any_eq_false.1 (by simpa using h2) (rat l i) hm
          unfold wideF at this
          simp at this
          exact ⟨this, by rw [hz _ hm]; exact this⟩
        refine ⟨by omega, hw, fun i j hi hj => ?_⟩
        have hm := rat_mem (l := l) (k := i) (by omega)
        simp only [Bool.not_eq_true] at h3
        have h4 := List.any_eq_false.1 h3 (rat l i) hm
        have hj' : j < (rat l i).zs.length := by rw [(hw i hi).2]; exact hj
        simp only [Bool.not_eq_true] at h4
        have h5 := List.any_eq_false.1 h4 ((rat l i).zs.getD j 0) (by simp [List.getD, hj'])
        simp [bigF] at h5
        rw [show (rat l i).zs[j]?.getD 0 = (rat l i).zs.getD j 0 from rfl] at h5
        unfold feeF
        omega
theorem RdR.zl {w : World} {A : Option Addr} {n : Nat} {l : List Rw} (h : RdR w A n l) : ∀ r ∈ l, r.zs.length = r.len := fun r hr => (h.2.2 r hr).zl

theorem assign_bad (A : Option Addr) (len cap : Nat) (l : List Rw) (w : World) (hr : RdR w A len l) (hl : len ≤ 9223372036854775807) (hc : fchk len l ≠ 0) :
    Calls Try.prog 5 #[.slice A len cap] w fun e w' => e = .returned (.tuple #[.slice none 0 0, .int .i64 0, .int .i64 (fchk len l)]) ∧ Below w.heap.size w w' := by
  have HC := Lib.hid (grid_any A len cap l w hr hl)
  have hcb : (fchk len l != 0) = true := by simpa using hc
  clear hr hc
  go_enter Try.func5, Try.ntmps5
  go_wp2_with fail
  refine HC.out.mono ?_
  rintro e w1 ⟨rfl, hb⟩
  clear HC
  go_wp2
  go_ret3
  exact ⟨rfl, hb⟩

def updI (G : Nat → Int) (q : Nat) (v : Int) : Nat → Int := fun i => if i = q then v else G i
/-- the table, when all above u are settled -/
def Settled (f : Nat → Nat → Int) (n u : Nat) (G : Nat → Int) : Prop := ∀ x, u ≤ x → x < 2 ^ n → G x = bst f n (n - popc n x) x
theorem popc_below {n q : Nat} (h : q + 1 < 2 ^ n) : popc n q < n := by
  have h1 := popc_le n q
  rcases Nat.lt_or_ge (popc n q) n with h2 | h2
  · exact h2
  · have := popc_full (k := n) (x := q) (by omega)
    have : q = 2 ^ n - 1 := Nat.eq_of_testBit_eq fun i => by
      rw [Nat.testBit_two_pow_sub_one]
      by_cases hi : i < n
      · simp [this i hi, hi]
      · simp only [hi, decide_false]
        exact Nat.testBit_lt_two_pow (Nat.lt_of_lt_of_le (show q < 2 ^ n by omega) (Nat.pow_le_pow_right (by omega) (by omega)))
    omega
theorem settled_step {f : Nat → Nat → Int} {n q : Nat} {G : Nat → Int} (h : Settled f n (q + 1) G) (hq : q + 1 < 2 ^ n) {k : Nat} (hk : k + 1 = n - popc n q) : Settled f n q (updI G q (mn f (bst f n k) (popc n q) q n)) := fun x hx hx2 => by
  unfold updI
  split
  · rename_i e
    subst e
    rw [← hk]
    show _ = mn f (bst f n k) (n - (k + 1)) x n
    rw [show n - (k + 1) = popc n x by have := popc_below hq; omega]
  · exact h x (by omega) hx2
theorem two_i64 (n : Nat) (hn : n ≤ 8) : IntKind.i64.wrap ((2 : Int) ^ n) = ((2 ^ n : Nat) : Int) := by
  have h : 2 ^ n ≤ 2 ^ 8 := Nat.pow_le_pow_right (by omega) hn
  have h2 : ((2 ^ n : Nat) : Int) = (2 : Int) ^ n := by simp
  have h3 := Nat.two_pow_pos n
  rw [← h2]
  exact IntWalk.i64_in _ (by omega)
set_option maxHeartbeats 3200000 in
set_option maxRecDepth 100000 in
theorem assign_ok (A : Option Addr) (n cap : Nat) (l : List Rw) (w : World) (hr : RdR w A n l) (hc : fchk n l = 0) :
    Calls Try.prog 5 #[.slice A n cap] w fun e w' => ∃ v, e = .returned (.tuple #[v, .int .i64 (bst (feeF l) n n 0), .int .i64 0]) ∧ w'.ownsRow w.heap.size 3 1 v n (row n fun i => ((jAt (feeF l) n i : Nat) : Int)) ∧ Below w.heap.size w w' := by
  obtain ⟨h8, hlen, hin⟩ := fchk_ok hr.1 hc hr.zl
  have HC := Lib.hid (grid_any A n cap l w hr (by omega))
  rw [hc] at HC
  have hrH := Lib.hid hr; have hlenH := Lib.hid hlen; have hinH := Lib.hid hin
  have hP8 : 2 ^ n ≤ 2 ^ 8 := Nat.pow_le_pow_right (by omega) h8
  have hP0 := Nat.two_pow_pos n
  have hw2 := two_i64 n h8
  have hw22 : IntKind.i64.wrap (((2 ^ n : Nat) : Int) - 2) = ((2 ^ n : Nat) : Int) - 2 := IntWalk.i64_in _ (by omega)
  clear hr hc hlen hin
  obtain ⟨P, hP⟩ : ∃ P, P = 2 ^ n := ⟨_, rfl⟩
  rw [← hP] at hw2 hw22 hP8 hP0
  have hPH := Lib.hid hP
  clear hP
  have hP2 : (2 : Int) ^ n = (P : Int) := by rw [hPH.out]; simp
  rw [hP2] at hw2
  go_enter Try.func5, Try.ntmps5
  go_wp2_with fail
  refine HC.out.mono ?_
  rintro e w1 ⟨rfl, hb1⟩
  have hs1 := hb1.size
  clear HC
  go_wp2_with (at_make; refine wpList_mk1 _ tiL w.heap.size P (by omega) (by omega) hs1 rfl rfl rfl rfl rfl (by first | rfl | exact hP2) (by first | rfl | exact hP2) ?_)
  intro w2 hown hg
  rw [row_replicate] at hown
  have hb2 := below_grown hg
  have hs2 := hb2.size
  have hbb := hb1.trans (hb2.mono hs1)
  have hb0 := (hown.lt _ rfl).2
  have hst0 : Settled (feeF l) n (P - 1) (fun _ => 0) := fun x h1 h2 => by
    have : x = 2 ^ n - 1 := by rw [hPH.out] at h1; omega
    have hp : popc n x = n := by
      rw [this]
      have h1 := popc_le n (2 ^ n - 1)
      rcases Nat.lt_or_ge (popc n (2 ^ n - 1)) n with h2 | h2
      · obtain ⟨i, hi, hb⟩ := popc_free h2
        rw [Nat.testBit_two_pow_sub_one] at hb
        simp [hi] at hb
      · omega
    rw [hp, Nat.sub_self]
    rfl
  have hst0 := Lib.hid hst0
  have hbt : w.heap.size ≤ w1.heap.size := hs1
  generalize w1.heap.size = bt at *
  clear hg hb2
  go_wp2
  go_loopw [8] (fun i wr => ∃ (u : Nat) (G : Nat → Int), u + 1 ≤ P ∧ i = .int .i64 ((u : Int) - 1) ∧ wr.ownsRow w.heap.size 2 1 (.slice (some ⟨bt, 0, none⟩) P P) P (row P G) ∧ Settled (feeF l) n u G ∧ Below w.heap.size w wr) (fun i _ => (intOf i + 1).toNat)
  case atStart => exact ⟨P - 1, fun _ => 0, by omega, by congr 1; omega, hown, hst0.out, hbb⟩
  case round =>
    clear hown hst0 hbb hb0 hs2
    obtain ⟨u, G, hu, rfl, hown, hst, hb⟩ := hrel
    have hownH := Lib.hid hown; have hstH := Lib.hid hst; have hbH := Lib.hid hb
    have hbl := (hown.lt _ rfl).2
    by_cases hu0 : u = 0
    · subst hu0
      have hG := Lib.hid (fun x (hx : x < P) => hst x (Nat.zero_le _) (by rw [← hPH.out]; exact hx))
      have hbs := Lib.hid (Below.refl wr.heap.size wr)
      have hbw : w.heap.size ≤ wr.heap.size := hb.size
      clear hst hown hb hstH
      simp only [Int.ofNat_zero, Int.zero_sub]
      generalize wr = wo at *
      go_wp2
      go_loopw [11, 12, 73] (fun v ww i ws => ∃ k : Nat, k ≤ n ∧ i = .int .i64 k ∧ ww = .int .i64 ((wAt (feeF l) n k : Nat) : Int) ∧ ws.ownsRow wo.heap.size 3 1 v k (row k fun i => ((jAt (feeF l) n i : Nat) : Int)) ∧ Below wo.heap.size wo ws) (fun _ _ i _ => n - (intOf i).toNat)
      case atStart => exact ⟨0, Nat.zero_le _, rfl, rfl, World.ownsRow_nil _ _ _ _, hbs.out⟩
      case round =>
        obtain ⟨k, hk, rfl, rfl, hlist, hbk⟩ := hrel
        have hlistH := Lib.hid hlist; have hbkH := Lib.hid hbk
        by_cases hlt : k < n
        · obtain ⟨hwl, hwp⟩ := wAt_ok h8 hinH.out k hk
          rw [← hPH.out] at hwl
          obtain ⟨hj1, hj2, hj3⟩ := jAt_ok h8 hinH.out hlt
          have hfit := hrH.out.2.2 _ (rat_mem (l := l) (k := k) (by rw [hrH.out.1]; exact hlt))
          obtain ⟨bf, of, rfl, hbf, hcf, _⟩ := (hrH.out.later (hbH.out.trans (hbk.mono hbw))).at hlt
          have hfl := hlenH.out k hlt
          have hfzH := Lib.hid (show ∀ j, (rat l k).zs.getD j 0 = feeF l k j from fun j => rfl)
          have hfitc := hfit.2.2
          have hfitH := Lib.hid hfit.1
          have hpick := Lib.hid (fun j (hj : j < jAt (feeF l) n k) => pk_not (f := feeF l) (n := n) (k := n - (k + 1)) (w := wAt (feeF l) n k) hj)
          have hnext := Lib.hid (show wAt (feeF l) n (k + 1) = wAt (feeF l) n k ||| 2 ^ jAt (feeF l) n k from rfl)
          have hsnoc := Lib.hid (row_snoc k fun i => ((jAt (feeF l) n i : Nat) : Int))
          have hGw := hG.out (wAt (feeF l) n k) hwl
          rw [hwp] at hGw
          have hGx := Lib.hid (show ∀ j, j < n → (wAt (feeF l) n k).testBit j = false → wAt (feeF l) n k ||| 2 ^ j < P ∧ G (wAt (feeF l) n k ||| 2 ^ j) = bst (feeF l) n (n - (k + 1)) (wAt (feeF l) n k ||| 2 ^ j) ∧ (-8388608 ≤ bst (feeF l) n (n - (k + 1)) (wAt (feeF l) n k ||| 2 ^ j) ∧ bst (feeF l) n (n - (k + 1)) (wAt (feeF l) n k ||| 2 ^ j) ≤ 8388608) from fun j hj hb => by
            have hp : popc n (wAt (feeF l) n k ||| 2 ^ j) = k + 1 := by rw [popc_or hb, if_pos hj, hwp]
            have hP' : wAt (feeF l) n k ||| 2 ^ j < P := by rw [hPH.out] at hwl ⊢; exact or_lt hwl hj
            have := bst_in h8 hinH.out (n - (k + 1)) (by omega) _ (show popc n (wAt (feeF l) n k ||| 2 ^ j) = n - (n - (k + 1)) by omega)
            refine ⟨hP', by rw [hG.out _ hP', hp], by omega, by omega⟩)
          have hisp := Lib.hid (show ∀ j, isPk (feeF l) n (n - (k + 1)) (wAt (feeF l) n k) j = (!(wAt (feeF l) n k).testBit j && (feeF l k j + bst (feeF l) n (n - (k + 1)) (wAt (feeF l) n k ||| 2 ^ j) == bst (feeF l) n (n - k) (wAt (feeF l) n k))) from fun j => by
            unfold isPk
            rw [show n - (n - (k + 1) + 1) = k by omega, show n - (k + 1) + 1 = n - k by omega])
          rw [hnext.out] at hj3
          clear hfit hlist
          have hwl8 : wAt (feeF l) n k < 256 := by omega
          have hw0 : (0 : Int) ≤ ((wAt (feeF l) n k : Nat) : Int) := by omega
          have hwP : ((wAt (feeF l) n k : Nat) : Int) < P := by omega
          generalize rat l k = ra at *
          obtain ⟨A', l', c', zs⟩ := ra
          obtain ⟨hl1, hl2⟩ := hfl
          simp only at hl1 hl2 hfitc
          have hl1 := hl1.symm
          subst hl1
          have hk0 : (0 : Int) ≤ k := by omega
          have hkn : (k : Int) < n := by omega
          have hbH2 := hbH.out
          go_wp2
          go_loopw [15] (fun jv ws => ∃ j : Nat, j ≤ jAt (feeF l) n k ∧ jv = .int .i64 j ∧ ws.ownsRow wo.heap.size 3 1 u11 k (row k fun i => ((jAt (feeF l) n i : Nat) : Int)) ∧ Below wo.heap.size wo ws) (fun jv _ => jAt (feeF l) n k - (intOf jv).toNat)
          case atStart => exact ⟨0, Nat.zero_le _, rfl, hlistH.out, hbkH.out⟩
          case round =>
            clear hcf hbk
            obtain ⟨j, hj, rfl, hlist, hbk⟩ := hrel
            have hjn : j < n := by omega
            obtain ⟨b2, o2, rfl, hb2l, hc2⟩ := (hfitH.out.later (hbH.out.trans (hbk.mono hbw))).int hjn
            rw [hfzH.out] at hc2
            have htab := own_below hownH.out hbk
            have hbl := (htab.lt _ rfl).2
            have kw : wr.cell? ⟨bt, wAt (feeF l) n k, none⟩ = some (.int .i64 (bst (feeF l) n (n - k) (wAt (feeF l) n k))) := by
              have := (htab.cellAt _ (by omega)).trans (row_get (F := G) hwl)
              rw [this, hGw]
            have hbit := bit_i64F (wAt (feeF l) n k) j (by omega)
            have hj0 : (0 : Int) ≤ j := by omega
            have hjn' : (j : Int) < n := by omega
            have hjc : (j : Int) < c' := by omega
            have hzin := hinH.out k j hlt hjn
            have hlH := Lib.hid hlist; have hbkH2 := Lib.hid hbk
            have hw2m : IntKind.i64.wrap ((2 : Int) ^ j) = (2 : Int) ^ j := by
              have := two_i64 j (by omega)
              rw [this]; simp
            have hor : bits .or .i64 ((wAt (feeF l) n k : Nat) : Int) ((2 : Int) ^ j) = ((wAt (feeF l) n k ||| 2 ^ j : Nat) : Int) := by
              have := i64_orF (wAt (feeF l) n k) (2 ^ j) (by omega) (by have : 2 ^ j ≤ 2 ^ 8 := Nat.pow_le_pow_right (by omega) (by omega); omega)
              rw [← this]; simp
            have hip := hisp.out j
            cases hbj : (wAt (feeF l) n k).testBit j
            · rw [hbj] at hbit hip
              simp only [Bool.false_eq_true, if_false] at hbit
              obtain ⟨hx1, hx2, hx3, hx4⟩ := hGx.out j hjn hbj
              have kx : wr.cell? ⟨bt, wAt (feeF l) n k ||| 2 ^ j, none⟩ = some (.int .i64 (bst (feeF l) n (n - (k + 1)) (wAt (feeF l) n k ||| 2 ^ j))) := by
                have := (htab.cellAt _ (by omega)).trans (row_get (F := G) hx1)
                rw [this, hx2]
              have hadd : IntKind.i64.wrap (feeF l k j + bst (feeF l) n (n - (k + 1)) (wAt (feeF l) n k ||| 2 ^ j)) = feeF l k j + bst (feeF l) n (n - (k + 1)) (wAt (feeF l) n k ||| 2 ^ j) := IntWalk.i64_in _ (by omega)
              have hx0 : (0 : Int) ≤ ((wAt (feeF l) n k ||| 2 ^ j : Nat) : Int) := by omega
              have hxP' : ((wAt (feeF l) n k ||| 2 ^ j : Nat) : Int) < P := by omega
              clear htab hlist hbk hGw hx2
              by_cases hjJ : j < jAt (feeF l) n k
              · have hno := hpick.out j hjJ
                rw [hno] at hip
                simp only [Bool.not_false, Bool.true_and] at hip
                have hne : (feeF l k j + bst (feeF l) n (n - (k + 1)) (wAt (feeF l) n k ||| 2 ^ j) != bst (feeF l) n (n - k) (wAt (feeF l) n k)) = true := by
                  rw [bne, ← hip]; rfl
                clear hip hno
                generalize wAt (feeF l) n k ||| 2 ^ j = x at *
                generalize wAt (feeF l) n k = ww at *
                generalize feeF l k j = z at *
                generalize bst (feeF l) n (n - (k + 1)) x = bx at *
                generalize bst (feeF l) n (n - k) ww = bw at *
                go_wp2
                go_quiet (fail)
                go_wp2
                go_roundw
                case rel => exact ⟨j + 1, by omega, by go_num, own_below hlH.out (below_drewN (Below.refl _ _) nq), below_drewN hbkH2.out nq⟩
                case measure => simp [intOf]; omega
              · have hjJ' : j = jAt (feeF l) n k := by omega
                subst hjJ'
                have hne : (feeF l k (jAt (feeF l) n k) + bst (feeF l) n (n - (k + 1)) (wAt (feeF l) n k ||| 2 ^ jAt (feeF l) n k) != bst (feeF l) n (n - k) (wAt (feeF l) n k)) = false := by
                  rw [hj3]; simp
                clear hip hjJ hj3 hpick hisp hGx
                generalize jAt (feeF l) n k = j at *
                generalize wAt (feeF l) n k ||| 2 ^ j = x at *
                generalize wAt (feeF l) n k = ww at *
                generalize feeF l k j = z at *
                generalize bst (feeF l) n (n - (k + 1)) x = bx at *
                generalize bst (feeF l) n (n - k) ww = bw at *
                go_wp2
                go_quiet (fail)
                have hlD := own_below hlH.out (below_drewN (Below.refl _ wr) nq)
                have hbD := below_drewN hbkH2.out nq
                generalize wr.drewN nq = wd at *
                go_wp2_with (at_builtin; refine wpList_app (s := .tmp 103) (x := .tmp 105) _ tiI (hlD.alloc _) (rd_new1 wd (.int .i64 j) 3) (ints_one (l := [(j : Int)])) (by omega) (by omega) (hbD.alloc hbD.size _).size rfl rfl rfl rfl ?_)
                intro v' w5 hown5 hg5 _
                have hb5 : Below wo.heap.size wo w5 := (hbD.alloc hbD.size _).grown hg5 (hbD.alloc hbD.size _).size (fun g hg' => (hlD.lt g hg').1)
                clear hg5
                go_wp2
                go_roundw
                case rel => exact ⟨k + 1, by omega, by go_num, by rw [hnext.out], by rw [hsnoc.out]; exact hown5, hb5⟩
                case measure => simp [intOf]; omega
            · have hjJ : j < jAt (feeF l) n k := by
                rcases Nat.lt_or_ge j (jAt (feeF l) n k) with h | h
                · exact h
                · have : j = jAt (feeF l) n k := by omega
                  rw [this, hj2] at hbj
                  cases hbj
              rw [hbj] at hbit
              simp only [if_true] at hbit
              clear htab hlist hbk hGw hip hGx hisp hpick
              generalize wAt (feeF l) n k = ww at *
              go_wp2
              go_quiet (fail)
              go_wp2
              go_roundw
              case rel => exact ⟨j + 1, by omega, by go_num, own_below hlH.out (below_drewN (Below.refl _ _) nq), below_drewN hbkH2.out nq⟩
              case measure => simp [intOf]; omega
        · obtain rfl : n = k := by omega
          have kz : wr.cell? ⟨bt, 0, none⟩ = some (.int .i64 (bst (feeF l) n n 0)) := by
            have := ((own_below hownH.out hbk).cellAt 0 (by omega)).trans (row_get (F := G) hP0)
            rw [this, hG.out 0 hP0, popc_zero, Nat.sub_zero]
          have hbl := (own_below hownH.out hbk).lt _ rfl
          clear hlist
          have hP0' : (0 : Int) < P := by omega
          go_wp2
          go_region
          all_goals
            go_wp2
            go_ret3
            exact ⟨_, rfl, own_drew (own_base (by omega) hlistH.out), (hbH.out.trans (hbk.mono hbw)).drew⟩
    · obtain ⟨q, rfl⟩ : ∃ q, u = q + 1 := ⟨u - 1, by omega⟩
      have hq1 : (((q + 1 : Nat) : Int) - 1) = q := by omega
      rw [hq1]
      have hq2 : q + 1 < 2 ^ n := by rw [← hPH.out]; omega
      have hpq := popc_below hq2
      have hp8 : popc 8 q = popc n q := by
        have := popc_fits (k := n) (x := q) (by omega) (8 - n)
        rwa [show n + (8 - n) = 8 by omega] at this
      have hstep := Lib.hid (fun k hk => settled_step (k := k) hst hq2 hk)
      have HO := Lib.hid (fun W => ones_any q W (by omega))
      rw [hp8] at HO
      obtain ⟨i0, hi0⟩ : ∃ i0, i0 = popc n q := ⟨_, rfl⟩
      rw [← hi0] at HO hpq hstep
      have hi0H := Lib.hid hi0
      clear hi0 hst hq1 hu0
      have kq : wr.cell? ⟨bt, q, none⟩ = some (.int .i64 (G q)) := (hown.cellAt q (by omega)).trans (row_get (by omega))
      have zq := hown.frozenAt q
      have hq0 : (0 : Int) ≤ q := by omega
      have hqP : (q : Int) < P := by omega
      have hbs := hb.setCell (p := ⟨bt, q, none⟩) hbt (.int .i64 1152921504606846976)
      have hos : (wr.setCell ⟨bt, q, none⟩ (.int .i64 1152921504606846976)).ownsRow w.heap.size 2 1 (.slice (some ⟨bt, 0, none⟩) P P) P (row P (updI G q (mn (feeF l) (bst (feeF l) n (n - (i0 + 1))) i0 q 0))) := by
        have := (hown.stored q (.int .i64 1152921504606846976)).1
        rw [row_set] at this
        exact this
      have hfit := hrH.out.2.2 _ (rat_mem (l := l) (k := i0) (by rw [hrH.out.1]; exact hpq))
      obtain ⟨bf, of, rfl, hbf, hcf, _⟩ := (hrH.out.later hbs).at hpq
      have hfl := (hlenH.out i0 hpq)
      have hfz : ∀ j, (rat l i0).zs.getD j 0 = feeF l i0 j := fun j => rfl
      have hfzH := Lib.hid hfz
      have hosH := Lib.hid hos; have hbsH := Lib.hid hbs
      have hfitc := hfit.2.2
      have hfitH := Lib.hid hfit.1
      clear hfit hos hbs hown hb hfz
      generalize rat l i0 = ra at *
      obtain ⟨A', l', c', zs⟩ := ra
      obtain ⟨hl1, hl2⟩ := hfl
      simp only at hl1 hl2 hfitc
      have hl1 := hl1.symm
      subst hl1
      have hi00 : (0 : Int) ≤ i0 := by omega
      have hi0n : (i0 : Int) < n := by omega
      have hin8 : IntKind.u64.wrap (q : Int) = q := by
        rw [IntKind.wrap_u64]; omega
      go_wp2_with fail
      generalize wr.setCell ⟨bt, q, none⟩ (.int .i64 1152921504606846976) = W1 at *
      clear kq zq
      refine (HO.out W1).mono ?_
      rintro e W2 ⟨rfl, rfl⟩
      go_wp2
      go_loopw [43] (fun i ws => ∃ m : Nat, m ≤ n ∧ i = .int .i64 m ∧ ws.ownsRow w.heap.size 2 1 (.slice (some ⟨bt, 0, none⟩) P P) P (row P (updI G q (mn (feeF l) (bst (feeF l) n (n - (i0 + 1))) i0 q m))) ∧ Below w.heap.size w ws) (fun i _ => n - (intOf i).toNat)
      case atStart => exact ⟨0, Nat.zero_le _, rfl, hosH.out, hbsH.out⟩
      case round =>
        clear hcf hin8
        obtain ⟨m, hm, rfl, hown, hb⟩ := hrel
        have hownH := Lib.hid hown; have hbH := Lib.hid hb
        by_cases hlt : m < n
        · have hmn := Lib.hid (show mn (feeF l) (bst (feeF l) n (n - (i0 + 1))) i0 q (m + 1) = if q.testBit m then mn (feeF l) (bst (feeF l) n (n - (i0 + 1))) i0 q m else min (mn (feeF l) (bst (feeF l) n (n - (i0 + 1))) i0 q m) (feeF l i0 m + bst (feeF l) n (n - (i0 + 1)) (q ||| 2 ^ m)) from rfl)
          obtain ⟨b2, o2, rfl, hb2l, hc2⟩ := (hfitH.out.later hb).int hlt
          rw [hfzH.out] at hc2
          have hm0 : (0 : Int) ≤ m := by omega
          have hmn' : (m : Int) < n := by omega
          have hmc : (m : Int) < c' := by have := hfitc; omega
          have hbit := bit_i64F q m (by omega)
          cases hqm : q.testBit m
          · rw [hqm] at hbit hmn
            simp only [Bool.false_eq_true, if_false] at hbit hmn
            have hxP : q ||| 2 ^ m < P := by rw [hPH.out]; exact or_lt (by omega) hlt
            have hxq := or_gt hqm
            have hpx : popc n (q ||| 2 ^ m) = i0 + 1 := by rw [popc_or hqm, if_pos hlt, hi0H.out]
            have hbx : updI G q (mn (feeF l) (bst (feeF l) n (n - (i0 + 1))) i0 q m) (q ||| 2 ^ m) = bst (feeF l) n (n - (i0 + 1)) (q ||| 2 ^ m) := by
              unfold updI
              rw [if_neg (by omega), hstH.out _ (by omega) (by rw [← hPH.out]; exact hxP), hpx]
            have hby := bst_in h8 hinH.out (n - (i0 + 1)) (by omega) (q ||| 2 ^ m) (by omega)
            have hbz := hinH.out i0 m hpq hlt
            have kq : wr.cell? ⟨bt, q, none⟩ = some (.int .i64 (mn (feeF l) (bst (feeF l) n (n - (i0 + 1))) i0 q m)) := by
              have := (hown.cellAt q (by omega)).trans (row_get (by omega))
              rw [this]; simp [updI]
            have kx : wr.cell? ⟨bt, q ||| 2 ^ m, none⟩ = some (.int .i64 (bst (feeF l) n (n - (i0 + 1)) (q ||| 2 ^ m))) := by
              have := (hown.cellAt (q ||| 2 ^ m) (by omega)).trans (row_get hxP)
              rw [this, hbx]
            have zq := hown.frozenAt q
            have hbl := (hown.lt _ rfl).2
            have hor : bits .or .i64 (q : Int) ((2 : Int) ^ m) = ((q ||| 2 ^ m : Nat) : Int) := by
              have := i64_orF q (2 ^ m) (by omega) (by have : 2 ^ m ≤ 2 ^ 8 := Nat.pow_le_pow_right (by omega) (by omega); omega)
              rw [← this]; simp
            have hw2m : IntKind.i64.wrap ((2 : Int) ^ m) = (2 : Int) ^ m := by
              have := two_i64 m (by omega)
              rw [this]; simp
            have hrel' : ∀ v, (row P (updI G q (mn (feeF l) (bst (feeF l) n (n - (i0 + 1))) i0 q m))).set q (.int .i64 v) = row P (updI G q v) := fun v => by
              rw [row_set]
              congr 1
              funext i
              unfold updI
              split <;> rfl
            have hrelH := Lib.hid hrel'
            clear hrel' hown hb hbx hpx hxq hqm hw2
            generalize mn (feeF l) (bst (feeF l) n (n - (i0 + 1))) i0 q m = cur at *
            generalize bst (feeF l) n (n - (i0 + 1)) (q ||| 2 ^ m) = bx at *
            generalize q ||| 2 ^ m = x at *
            generalize feeF l i0 m = z at *
            have hadd : IntKind.i64.wrap (z + bx) = z + bx := IntWalk.i64_in _ (by omega)
            have hx0 : (0 : Int) ≤ x := by omega
            have hxP' : (x : Int) < P := by omega
            clear hby hbz
            go_wp2
            go_region
            all_goals
              go_wp2
              go_roundw
              case rel =>
                refine ⟨m + 1, by omega, by go_num, ?_, (hbH.out.setCell (p := ⟨bt, q, none⟩) hbt _).drew⟩
                rw [hmn.out, show min cur (z + bx) = if z + bx < cur then z + bx else cur by split <;> omega, ← hrelH.out]
                exact own_drew (hownH.out.stored q _).1
              case measure => simp [intOf]; omega
          · rw [hqm] at hbit hmn
            simp only [if_true] at hbit hmn
            go_wp2
            go_roundw
            case rel => exact ⟨m + 1, by omega, by go_num, by rw [hmn.out]; exact hownH.out, hbH.out⟩
            case measure => simp [intOf]; omega
        · obtain rfl : n = m := by omega
          have hfin := Lib.hid (hstep.out (n - (i0 + 1)) (by omega))
          have hwq : IntKind.i64.wrap ((q : Int) - 1) = (q : Int) - 1 := IntWalk.i64_in _ (by omega)
          go_wp2
          go_roundw
          case rel => exact ⟨q, _, by omega, by go_num, hownH.out, hfin.out, hbH.out⟩
          case measure => simp [intOf]
end Go.Proofs.Ytfedkcnofbhlgaa
