/- tour.Tour, where there is one. -/
import Derived.Test.YtbghkpkpmbbghaaDoorTourD
import Derived.Test.YtbghkpkpmbbghaaDoorHeld
import Derived.Test.YtbghkpkpmbbghaaDoorMarks
import Derived.Test.YtbghkpkpmbbghaaDoorEachBits
import Derived.Test.YtbghkpkpmbbghaaDoorCalm
import Derived.Test.YtbghkpkpmbbghaaDoorLast
import Derived.Test.YtbghkpkpmbbghaaDoorNatI
import Derived.Maps.OwnIn
namespace Go.Proofs.YtbghkpkpmbbghaaDoor
open Go.RowKit Go.Shelf
attribute [local go_sem] Oper.semAt_some

theorem tiIt : TI Tryd.prog 25 3 (.int .i64 0) 1 8 := TI.mk' Tryd.underlying25 (by kernel_rfl) rfl (by decide)
/-- with the way that has been gone -/
structure TrM (s B bR g bL n : Nat) (A : Option Addr) (len cap : Nat) (ns : List Nat) (a : Nat) (L : List Nat) (v : Value) (W : World) : Prop where
  t : TrS s B bR g n A len cap ns a W
  bl : Boxed W bL 25 v
  own : W.ownsRow (bR + 2) 3 1 v L.length (ints .i64 (natI L))
  lt : bR + 2 ≤ bL
  ne : v.ownBlock ≠ some bL
section
variable {s B bR g bL n len cap a : Nat} {A : Option Addr} {ns L : List Nat} {v : Value} {W W' : World}
theorem TrM.grown {row : Option Nat} (h : TrM s B bR g bL n A len cap ns a L v W) (hg : W.grownBy W' row) (hr : ∀ r, row = some r → bL + 1 ≤ r) (hv : v.ownBlock = none ∨ v.ownBlock ≠ row) : TrM s B bR g bL n A len cap ns a L v W' := by
  have := h.lt
  exact ⟨h.t.grown hg (fun r e => by have := hr r e; omega), h.bl.kept hg (fun e => by have := hr _ e.symm; omega), h.own.kept hg hv, h.lt, h.ne⟩
theorem TrM.later (h : TrM s B bR g bL n A len cap ns a L v W) (hb : Below W.heap.size W W') : TrM s B bR g bL n A len cap ns a L v W' :=
  h.grown (row := none) ⟨hb.os, hb.tape, hb.output, hb.size, fun j hj _ => hb.block j hj⟩ (fun r e => by cases e) (by cases v.ownBlock <;> simp)
theorem TrM.size (h : TrM s B bR g bL n A len cap ns a L v W) : bL + 1 ≤ W.heap.size := h.bl.lt
theorem TrM.turned {ns' : List Nat} (h : TrM s B bR g bL n A len cap ns a L v W) (ho : W'.ownsRow B 38 1 (.slice (some ⟨g, 0, none⟩) n n) n (wds ns')) (hg : W.grownBy W' (some g)) : TrM s B bR g bL n A len cap ns' a L v W' := by
  have h1 := h.t.lt; have h2 := h.lt
  exact ⟨h.t.turned ho hg, h.bl.kept hg (fun e => by injection e with e; omega), h.own.kept hg (.inr (fun e => by have := (h.own.lt g e).1; omega)), h.lt, h.ne⟩
theorem TrM.setA (h : TrM s B bR g bL n A len cap ns a L v W) (i : Nat) : TrM s B bR g bL n A len cap ns i L v (W.setCell ⟨bR + 1, 0, none⟩ (.int .i64 (i : Int))) := by
  have hg : W.grownBy (W.setCell ⟨bR + 1, 0, none⟩ (.int .i64 (i : Int))) (some (bR + 1)) := ⟨rfl, rfl, rfl, by simp, fun k _ hk => heap_setCell_other W ⟨bR + 1, 0, none⟩ k _ (fun e => hk (by simp [e]))⟩
  have h2 := h.lt
  exact ⟨h.t.setA i, h.bl.kept hg (fun e => by injection e with e; omega), h.own.kept hg (.inr (fun e => by have := (h.own.lt _ e).1; omega)), h.lt, h.ne⟩
end
theorem wpListIn_appT {F : Fence} {n : Nat} {P : Program} {w : World} {ops : Array Oper} {rest : List Oper} {o : Oper} {a : Act} {Q : Exit → Act → World → Prop} {s x : Operand} {t e : TypeId} {z : Value} {bytes : Nat} (T : TI P t e z 1 bytes)
    {base k c : Nat} {v u : Value} {xs : List Value} {ad : Addr} (hown : w.ownsRow base e 1 v k xs) (hc : w.cell? ad = some u) (h1 : u.oneCell' = true) (b2 : (k + 1) * bytes ≤ 140737488355328) (b1 : k + 1 ≤ 9223372036854775807) (b3 : base ≤ w.heap.size)
    (hg : o.guard = none) (hop : o.op = Op.call { callee := Callee.builtin Builtin.append, args := #[s, x], argTypes := #[t, t] }) (hs : a.eval s = v) (hx : a.eval x = .slice (some ad) 1 c)
    (hK : ∀ v' w', w'.ownsRow base e 1 v' (k + 1) (xs ++ [u]) → w.grownBy w' v.ownBlock → (v'.ownBlock = v.ownBlock ∨ v'.ownBlock = some w.heap.size) → wpListIn F n P ops Q rest (a.put o.dst v') w') :
    wpListIn F n P ops Q (o :: rest) a w := by
  obtain ⟨i, hi, hz, hsize, hby⟩ := T.hi
  refine wpListIn_append_own_at w hg s x t hop base e i z 1 bytes T.ht hi hz hsize hby T.hzs T.hsz v k xs hs hown ad 1 c [u] hx rfl (fun j y hj => ?_) (fun y hy => by simp at hy; subst hy; exact h1) b1 b2 b3 (fun v' w' h2 h3 _ h5 => hK v' w' h2 h3 h5)
  cases j with
  | zero => simp at hj; subst hj; simpa [Addr.add] using hc
  | succ j => simp at hj
theorem bx_ne {W : World} {f : Nat} {t e b s n : Nat} {u v : Value} {xs : List Value} (hB : Boxed W f t u) (ho : W.ownsRow b e s v n xs) (hne : t ≠ e) : v.ownBlock ≠ some f := fun h => by
  rcases ho.2 with ⟨rfl, _⟩ | ⟨g, cap, cur, rfl, _, h3, _⟩
  · cases h
  · obtain rfl : g = f := Option.some.inj h
    rw [show W.heap[g]? = _ from hB] at h3
    injection h3 with h3
    injection h3 with h4 h5
    exact hne h5
theorem ko_own {W W' : World} {b e s n : Nat} {v : Value} {xs : List Value} (h : W.ownsRow b e s v n xs) (hg : W.grownBy W' v.ownBlock) : KeepsOthers W W' :=
  KeepsOthers.of_grownBy hg fun j o hj ho => by
    rcases h.2 with ⟨rfl, _⟩ | ⟨g, c, cur, rfl, _, hgg, _⟩
    · cases hj
    · cases hj; rw [hgg] at ho; cases ho; rfl
theorem ko_below {W W' : World} (hb : Below W.heap.size W W') : KeepsOthers W W' := ⟨hb.size, fun k _ hk _ => (hb.block k (Array.getElem?_eq_some_iff.1 hk).1).trans hk⟩
theorem own_row {W : World} {b e s n : Nat} {v : Value} {xs : List Value} {row : Option Nat} (h : W.ownsRow b e s v n xs) (hr : ∀ r, row = some r → ∃ o : Obj, W.heap[r]? = some o ∧ o.isCells = false) : v.ownBlock = none ∨ v.ownBlock ≠ row := by
  rcases h.2 with ⟨rfl, _⟩ | ⟨g, c, cur, rfl, _, hgg, _⟩
  · exact .inl rfl
  · refine .inr fun e => ?_
    obtain ⟨o, h1, h2⟩ := hr g e.symm
    rw [hgg] at h1; cases h1; cases h2
def unT {x : Nat} (l : List (Bt x)) : List Nat := l.map (·.1)
theorem unT_snoc {x : Nat} (l : List (Bt x)) (y : Bt x) : unT (l ++ [y]) = unT l ++ [y.1] := by simp [unT]
/-- none of those tried goes on -/
def NoG (n : Nat) (ns : List Nat) (a : Nat) (pre : List Nat) : Prop := ∀ j ∈ pre, oneB (turnW ns a j) n j = false
def lenC (o : Option Value) : Nat := match o with
  | some (.slice _ n _) => n
  | _ => 0
def TrPost (n : Nat) (es : List E) (w : World) (e : Ending) (w' : World) : Prop :=
  ∃ (v : Value) (L : List Nat), e = .returned (.tuple #[v, .int .i64 0]) ∧ w'.ownsRow w.heap.size 3 1 v L.length (ints .i64 (natI L)) ∧ TourP n (nearW n es) L ∧ Below w.heap.size w w'
set_option maxHeartbeats 3200000 in
set_option maxRecDepth 100000 in
set_option linter.unusedSimpArgs false in
theorem tour_ok (n : Nat) (A : Option Addr) (len cap : Nat) (es : List E) (w : World) (hr : Rd w A len 3 (ps3 .i64 .i64 .i64 es)) (hlen : len ≤ 9223372036854775807) (htb : Tb w) (h : gchk n es = 0) (h1 : 1 ≤ n) (hyes : TourC n (nearW n es)) :
    Calls Tryd.prog 4 #[.agg #[.int .i64 (n : Int), .slice A len cap]] w (TrPost n es w) := by
  have gb := (Below.refl _ w).alloc (Nat.le_refl _) (.cells #[.int .i64 (n : Int), .slice A len cap] 24)
  have bG := Blk.new w 24 #[.int .i64 (n : Int), .slice A len cap]
  have hgr := nearGr h
  obtain ⟨_, h10, hl45, hokE, _⟩ := gchk_ok h
  rw [Int.toNat_natCast] at hokE
  have h10 : n ≤ 10 := by omega
  have hel := ps3_len hr
  rw [hel] at hl45
  have htl : 0 < w.heap.size := World.block_lt_of_cell? w _ (htb 0 (by decide))
  have hsz : (w.alloc (.cells #[.int .i64 (n : Int), .slice A len cap] 24)).heap.size = w.heap.size + 1 := by simp
  have HC := Lib.hid (check_any n A len cap es _ (hr.later gb) hlen)
  rw [h] at HC
  have gbH := Lib.hid gb; have bGH := Lib.hid bG; have hrH := Lib.hid hr; have hokH := Lib.hid hokE; have hgrH := Lib.hid hgr; have hyesH := Lib.hid hyes; have htbH := Lib.hid htb
  have g0 := bG.cell (j := 0) (v := .int .i64 n) rfl; have g1 := bG.cell (j := 1) (v := .slice A len cap) rfl
  clear bG gb hr h hokE hgr hyes htb hel
  refine calls_of_wp_calm 4 Tryd.func4 rfl ?_
  simp only [Tryd.ntmps4, List.size_toArray, List.length_cons, List.length_nil, Nat.reduceAdd, Nat.reduceSub, Array.replicate_succ, Array.replicate_zero, List.push_toArray, List.append_toArray, List.nil_append, List.cons_append]
  go_wp2
  go_step3
  go_wp2_with fail
  refine HC.out.mono ?_
  rintro _ w1 ⟨rfl, hb1⟩
  have b1 := bGH.out.below hb1 (by simp)
  have b01 := gbH.out.trans (hb1.mono gbH.out.size)
  have hb01 := Lib.hid b01
  have k0 := b1.cell (j := 0) (v := .int .i64 n) rfl; have k1 := b1.cell (j := 1) (v := .slice A len cap) rfl
  have hs1 : w.heap.size < w1.heap.size := by have := hb1.size; simp at this; omega
  have HN := Lib.hid (near_any n A len cap es w1 (hrH.out.later b01) h10 hl45 hokH.out)
  have b1H := Lib.hid b1
  have hn0 : ((n : Int) == 0) = false := by rw [beq_eq_false_iff_ne]; omega
  clear g0 g1 b01 hb1 b1
  go_wp2_with fail
  refine HN.out.mono ?_
  rintro _ w2 ⟨gn, rfl, hown, hb2⟩
  obtain ⟨ns, hns⟩ : ∃ ns, nearW n es = ns := ⟨_, rfl⟩
  rw [hns] at hown hgrH hyesH
  have hlgn := hown.lt gn rfl
  have hS0 : TrS w.heap.size w1.heap.size w2.heap.size gn n A len cap ns 0 ((w2.alloc (.cells #[.slice (some ⟨gn, 0, none⟩) n n] 36)).alloc (.cells #[.int .i64 0] 3)) := by
    have bA := Boxed.new (w2.alloc (.cells #[.slice (some ⟨gn, 0, none⟩) n n] 36)) 3 (.int .i64 0)
    rw [World.size_alloc] at bA
    exact ⟨((b1H.out.below hb2 hs1).alloc _).alloc _, (Boxed.new w2 _ _).alloc _, bA, (hown.alloc _).alloc _, by omega⟩
  have hnl := Lib.hid (show ns.length = n by rw [← hns]; exact nearW_length _ _)
  have hb3 := Lib.hid (((hb01.out.trans (hb2.mono hb01.out.size)).alloc (by have := hb2.size; omega) (.cells #[.slice (some ⟨gn, 0, none⟩) n n] 36)).alloc (by have := hb2.size; simp; omega) (.cells #[.int .i64 0] 3))
  have hS0H := Lib.hid hS0
  have hnsH := Lib.hid hns
  have hs2 := hb2.size
  have hst : ((w2.alloc (.cells #[.slice (some ⟨gn, 0, none⟩) n n] 36)).alloc (.cells #[.int .i64 0] 3)).heap.size = w2.heap.size + 2 := by simp
  clear hown hb2 hS0 hns HN k0 k1
  go_wp2
  generalize (w2.alloc (.cells #[.slice (some ⟨gn, 0, none⟩) n n] 36)).alloc (.cells #[.int .i64 0] 3) = w3 at *
  generalize hbRe : w2.heap.size = bR at *
  clear hbRe hst
  have hpw : ∀ j, ns.getD j 0 < 1024 := fun j => Nat.lt_of_lt_of_le (hgrH.out.lt j) (Nat.pow_le_pow_right (n := 2) (by omega) h10)
  have hpwH := Lib.hid hpw
  clear hpw
  go_loopw [7, 8, 23] (fun _ _ iv wr => ∃ i a : Nat, i ≤ n ∧ iv = .int .i64 i ∧ (∀ j, j < i → popc 10 (ns.getD j 0) % 2 = 0) ∧ FstI ns i a ∧ a < n ∧ TrS w.heap.size w1.heap.size bR gn n A len cap ns a wr ∧ Below w.heap.size w wr) (fun _ _ iv _ => n - (intOf iv).toNat)
  case atStart => exact ⟨0, 0, by omega, rfl, fun j hj => absurd hj (by omega), FstI.zero, by omega, hS0H.out, hb3.out⟩
  case round =>
    clear hS0H hb3
    obtain ⟨i, a, hi, rfl, hev, hF, ha, hS, hb⟩ := hrel
    obtain ⟨w4, rfl⟩ : ∃ w4 : World, w4 = wr := ⟨_, rfl⟩
    have hevH := Lib.hid hev; have hFH := Lib.hid hF; have hbH := Lib.hid hb; have hSH := Lib.hid hS
    by_cases hin : i < n
    · have hi0 : (0 : Int) ≤ i := by omega
      have hiI : (i : Int) < n := by omega
      have ci := (hS.own.cellAt i (by omega)).trans (wds_get (by rw [hnl.out]; exact hin))
      have HO := Lib.hid (ones_any (ns.getD i 0) w4 (hpwH.out i))
      have hpp := popc_le 10 (ns.getD i 0)
      obtain ⟨x, hx⟩ : ∃ x, ns.getD i 0 = x := ⟨_, rfl⟩
      have hxH := Lib.hid hx
      rw [hx] at ci HO hpp
      obtain ⟨p, hp⟩ : ∃ p, popc 10 x = p := ⟨_, rfl⟩
      have hpH := Lib.hid hp
      rw [hp] at HO hpp
      have hlt := hS.lt
      clear hev hF hb hS hx hp
      go_wp2_with fail
      refine HO.out.mono ?_
      rintro _ _ ⟨rfl, nq, rfl⟩
      have hS5 := Lib.hid (hSH.out.later (below_drewN (Below.refl _ w4) nq))
      have hb5 := Lib.hid (below_drewN hbH.out nq)
      clear HO ci
      generalize w4.drewN nq = w5 at *
      by_cases hodd : p % 2 = 1
      · have := hyesH.out.1 i hin
        rw [hxH.out, hpH.out] at this
        omega
      have h1 : ((p : Int) % 2 == 1) = false := by rw [beq_eq_false_iff_ne]; omega
      have h2 : (Int.tmod (p : Int) 2 == 1) = false := by rw [beq_eq_false_iff_ne, Int.tmod_eq_emod_of_nonneg (by omega)]; omega
      have hev2 := Lib.hid (show ∀ j, j < i + 1 → popc 10 (ns.getD j 0) % 2 = 0 from fun j hj => by
        by_cases e : j = i
        · rw [e, hxH.out, hpH.out]; omega
        · exact hevH.out j (by omega))
      have cR := hS5.out.fR.cell; have cA := hS5.out.fA.cell; have fA := hS5.out.fA.frozen; have lA := hS5.out.fA.lt
      have caa := (hS5.out.own.cellAt a (by omega)).trans (wds_get (by rw [hnl.out]; exact ha))
      obtain ⟨y, hy⟩ : ∃ y, ns.getD a 0 = y := ⟨_, rfl⟩
      have hyH := Lib.hid hy
      rw [hy] at caa
      have ha0 : (0 : Int) ≤ a := by omega
      have haI : (a : Int) < n := by omega
      clear hy hodd
      by_cases hx0 : x = 0
      · have hxb : ((x : Int) != 0) = false := by simp [hx0]
        have hF2 := Lib.hid (hFH.out.same (.inl (by rw [hxH.out]; exact hx0)))
        clear hx0
        go_wp2
        go_roundw
        case rel => exact ⟨i + 1, a, by omega, by go_num, hev2.out, hF2.out, ha, hS5.out, hb5.out⟩
        case measure => simp [intOf]; omega
      · have hxb : ((x : Int) != 0) = true := bne_iff_ne.2 (by omega)
        by_cases hy0 : y = 0
        · have hyb : ((y : Int) == 0) = true := by simp [hy0]
          have hF2 := Lib.hid (hFH.out.next (by rw [hxH.out]; exact hx0) (by rw [hyH.out]; exact hy0))
          have hS6 := Lib.hid (hS5.out.setA i)
          have hb6 := Lib.hid (hb5.out.setCell (p := ⟨bR + 1, 0, none⟩) (show w.heap.size ≤ bR + 1 by omega) (.int .i64 (i : Int)))
          clear hx0 hy0
          go_wp2
          go_roundw
          case rel => exact ⟨i + 1, i, by omega, by go_num, hev2.out, hF2.out, hin, hS6.out, hb6.out⟩
          case measure => simp [intOf]; omega
        · have hyb : ((y : Int) == 0) = false := by rw [beq_eq_false_iff_ne]; omega
          have hF2 := Lib.hid (hFH.out.same (.inr (by rw [hyH.out]; exact hy0)))
          clear hx0 hy0
          go_wp2
          go_roundw
          case rel => exact ⟨i + 1, a, by omega, by go_num, hev2.out, hF2.out, ha, hS5.out, hb5.out⟩
          case measure => simp [intOf]; omega
    · obtain rfl : i = n := by omega
      have cR := hS.fR.cell; have cA := hS.fA.cell
      have HW := Lib.hid (one_any (some ⟨gn, 0, none⟩) i i a ns w4 (Rd.of_own hS.own) hgrH.out ha (htbH.out.below htl hb) (by have := hb.size; omega))
      have hob : oneB ns i a = true := (one_iff hgrH.out ha).2 (hyesH.out.2 a hF)
      rw [hob] at HW
      have hTI := Lib.hid (TrI.beg hgrH.out hnl.out ha hev ((one_iff hgrH.out ha).1 hob))
      clear hev hF hb hS hob
      go_wp2_with fail
      refine HW.out.mono ?_
      rintro _ w5 ⟨rfl, hb5⟩
      have hS5 := hSH.out.later hb5
      have hb05 := hbH.out.trans (hb5.mono hbH.out.size)
      have cA := hS5.fA.cell
      have hSH5 := Lib.hid hS5; have hb05H := Lib.hid hb05
      have hsz5 := hS5.size
      clear hb5 HW hS5 hb05
      go_wp2_with fail
      have hM0 : TrM w.heap.size w1.heap.size bR gn (w5.heap.size + 1) i A len cap ns a [a] (.slice (some ⟨w5.heap.size, 0, none⟩) 1 1) ((w5.alloc (.cells #[.int .i64 (a : Int)] 3)).alloc (.cells #[.slice (some ⟨w5.heap.size, 0, none⟩) 1 1] 25)) := by
        have b1 := Boxed.new (w5.alloc (.cells #[.int .i64 (a : Int)] 3)) 25 (.slice (some ⟨w5.heap.size, 0, none⟩) 1 1)
        rw [World.size_alloc] at b1
        have o1 := World.ownsRow_lit (base := bR + 2) (e := 3) (size := 1) w5 #[.int .i64 (a : Int)] 1 hsz5 (by unfold maxLen; omega) rfl
        exact ⟨(hSH5.out.later ((Below.refl _ _).alloc (Nat.le_refl _) _)).later ((Below.refl _ _).alloc (Nat.le_refl _) _), b1, o1.alloc _, by omega, fun e => by have e : w5.heap.size = w5.heap.size + 1 := (by injection e); omega⟩
      have hbb0 := Lib.hid ((hb05H.out.alloc hb05H.out.size (.cells #[.int .i64 (a : Int)] 3)).alloc (by have := hb05H.out.size; simp; omega) (.cells #[.slice (some ⟨w5.heap.size, 0, none⟩) 1 1] 25))
      have hM0H := Lib.hid hM0
      have hdn : TrPost i es w = fun e w' => ∃ (v : Value) (L : List Nat), e = .returned (.tuple #[v, .int .i64 0]) ∧ w'.ownsRow w.heap.size 3 1 v L.length (ints .i64 (natI L)) ∧ TourP i ns L ∧ Below w.heap.size w w' := by
        funext e w'
        unfold TrPost; rw [hnsH.out]
      have hdnH := Lib.hid hdn
      clear hM0 hdn hSH5 hb05H
      generalize (w5.alloc (.cells #[.int .i64 (a : Int)] 3)).alloc (.cells #[.slice (some ⟨w5.heap.size, 0, none⟩) 1 1] 25) = w6 at *
      generalize hbLe : w5.heap.size + 1 = bL at *
      generalize w5.heap.size = bS at *
      go_step3
      go_wp2_with fail
      refine wp_loop (fun a' wr => ∃ (ds : List Deferred), a' = { tmps := #[(a'.tmps.getD 0 undef), (.pointer (some ⟨w.heap.size, 0, none⟩)), (a'.tmps.getD 2 undef), (a'.tmps.getD 3 undef), (a'.tmps.getD 4 undef), (.pointer (some ⟨bR, 0, none⟩)), (.pointer (some ⟨bR + 1, 0, none⟩)), (a'.tmps.getD 7 undef), (a'.tmps.getD 8 undef), (.pointer (some ⟨bL, 0, none⟩)), (a'.tmps.getD 10 undef), (a'.tmps.getD 11 undef), (a'.tmps.getD 12 undef), (a'.tmps.getD 13 undef), (a'.tmps.getD 14 undef), (a'.tmps.getD 15 undef), (a'.tmps.getD 16 undef), (a'.tmps.getD 17 undef), (a'.tmps.getD 18 undef), (a'.tmps.getD 19 undef), (a'.tmps.getD 20 undef), (a'.tmps.getD 21 undef), (a'.tmps.getD 22 undef), (a'.tmps.getD 23 undef), (a'.tmps.getD 24 undef), (a'.tmps.getD 25 undef), (a'.tmps.getD 26 undef), (a'.tmps.getD 27 undef), (a'.tmps.getD 28 undef), (a'.tmps.getD 29 undef), (a'.tmps.getD 30 undef), (a'.tmps.getD 31 undef), (a'.tmps.getD 32 undef), (a'.tmps.getD 33 undef), (a'.tmps.getD 34 undef), (a'.tmps.getD 35 undef), (a'.tmps.getD 36 undef), (a'.tmps.getD 37 undef), (a'.tmps.getD 38 undef), (a'.tmps.getD 39 undef), (a'.tmps.getD 40 undef), (a'.tmps.getD 41 undef), (a'.tmps.getD 42 undef), (a'.tmps.getD 43 undef), (a'.tmps.getD 44 undef), (a'.tmps.getD 45 undef), (a'.tmps.getD 46 undef), (a'.tmps.getD 47 undef), (a'.tmps.getD 48 undef), (a'.tmps.getD 49 undef), (a'.tmps.getD 50 undef), (a'.tmps.getD 51 undef), (a'.tmps.getD 52 undef), (a'.tmps.getD 53 undef), (a'.tmps.getD 54 undef), (a'.tmps.getD 55 undef), (a'.tmps.getD 56 undef), (a'.tmps.getD 57 undef), (a'.tmps.getD 58 undef), (a'.tmps.getD 59 undef), (a'.tmps.getD 60 undef), (a'.tmps.getD 61 undef), (a'.tmps.getD 62 undef), (a'.tmps.getD 63 undef), (a'.tmps.getD 64 undef), (a'.tmps.getD 65 undef), (a'.tmps.getD 66 undef), (a'.tmps.getD 67 undef), (a'.tmps.getD 68 undef), (a'.tmps.getD 69 undef), (a'.tmps.getD 70 undef), (a'.tmps.getD 71 undef), (a'.tmps.getD 72 undef), (a'.tmps.getD 73 undef)], defers := ds } ∧ (∃ (ns1 : List Nat) (b : Nat) (L : List Nat) (v : Value), TrI i ns a ns1 b L ∧ TrM w.heap.size w1.heap.size bR gn bL i A len cap ns1 b L v wr ∧ Marks w.heap.size wr.heap.size ds wr ∧ Below w.heap.size w wr)) (fun _ wr => 60 - lenC (wr.cell? ⟨bL, 0, none⟩)) ?atStart ?round
      case atStart =>
        refine ⟨_, rfl, ?_⟩
        exact ⟨ns, a, [a], _, hTI.out, hM0H.out, trivial, hbb0.out⟩
      case round =>
        clear hM0H hbb0
        rintro a' wr ⟨ds, ha, hrel⟩
        generalize a'.tmps.getD 0 undef = x0 at ha hrel
        generalize a'.tmps.getD 2 undef = x2 at ha hrel
        generalize a'.tmps.getD 3 undef = x3 at ha hrel
        generalize a'.tmps.getD 4 undef = x4 at ha hrel
        generalize a'.tmps.getD 7 undef = x7 at ha hrel
        generalize a'.tmps.getD 8 undef = x8 at ha hrel
        generalize a'.tmps.getD 10 undef = x10 at ha hrel
        generalize a'.tmps.getD 11 undef = x11 at ha hrel
        generalize a'.tmps.getD 12 undef = x12 at ha hrel
        generalize a'.tmps.getD 13 undef = x13 at ha hrel
        generalize a'.tmps.getD 14 undef = x14 at ha hrel
        generalize a'.tmps.getD 15 undef = x15 at ha hrel
        generalize a'.tmps.getD 16 undef = x16 at ha hrel
        generalize a'.tmps.getD 17 undef = x17 at ha hrel
        generalize a'.tmps.getD 18 undef = x18 at ha hrel
        generalize a'.tmps.getD 19 undef = x19 at ha hrel
        generalize a'.tmps.getD 20 undef = x20 at ha hrel
        generalize a'.tmps.getD 21 undef = x21 at ha hrel
        generalize a'.tmps.getD 22 undef = x22 at ha hrel
        generalize a'.tmps.getD 23 undef = x23 at ha hrel
        generalize a'.tmps.getD 24 undef = x24 at ha hrel
        generalize a'.tmps.getD 25 undef = x25 at ha hrel
        generalize a'.tmps.getD 26 undef = x26 at ha hrel
        generalize a'.tmps.getD 27 undef = x27 at ha hrel
        generalize a'.tmps.getD 28 undef = x28 at ha hrel
        generalize a'.tmps.getD 29 undef = x29 at ha hrel
        generalize a'.tmps.getD 30 undef = x30 at ha hrel
        generalize a'.tmps.getD 31 undef = x31 at ha hrel
        generalize a'.tmps.getD 32 undef = x32 at ha hrel
        generalize a'.tmps.getD 33 undef = x33 at ha hrel
        generalize a'.tmps.getD 34 undef = x34 at ha hrel
        generalize a'.tmps.getD 35 undef = x35 at ha hrel
        generalize a'.tmps.getD 36 undef = x36 at ha hrel
        generalize a'.tmps.getD 37 undef = x37 at ha hrel
        generalize a'.tmps.getD 38 undef = x38 at ha hrel
        generalize a'.tmps.getD 39 undef = x39 at ha hrel
        generalize a'.tmps.getD 40 undef = x40 at ha hrel
        generalize a'.tmps.getD 41 undef = x41 at ha hrel
        generalize a'.tmps.getD 42 undef = x42 at ha hrel
        generalize a'.tmps.getD 43 undef = x43 at ha hrel
        generalize a'.tmps.getD 44 undef = x44 at ha hrel
        generalize a'.tmps.getD 45 undef = x45 at ha hrel
        generalize a'.tmps.getD 46 undef = x46 at ha hrel
        generalize a'.tmps.getD 47 undef = x47 at ha hrel
        generalize a'.tmps.getD 48 undef = x48 at ha hrel
        generalize a'.tmps.getD 49 undef = x49 at ha hrel
        generalize a'.tmps.getD 50 undef = x50 at ha hrel
        generalize a'.tmps.getD 51 undef = x51 at ha hrel
        generalize a'.tmps.getD 52 undef = x52 at ha hrel
        generalize a'.tmps.getD 53 undef = x53 at ha hrel
        generalize a'.tmps.getD 54 undef = x54 at ha hrel
        generalize a'.tmps.getD 55 undef = x55 at ha hrel
        generalize a'.tmps.getD 56 undef = x56 at ha hrel
        generalize a'.tmps.getD 57 undef = x57 at ha hrel
        generalize a'.tmps.getD 58 undef = x58 at ha hrel
        generalize a'.tmps.getD 59 undef = x59 at ha hrel
        generalize a'.tmps.getD 60 undef = x60 at ha hrel
        generalize a'.tmps.getD 61 undef = x61 at ha hrel
        generalize a'.tmps.getD 62 undef = x62 at ha hrel
        generalize a'.tmps.getD 63 undef = x63 at ha hrel
        generalize a'.tmps.getD 64 undef = x64 at ha hrel
        generalize a'.tmps.getD 65 undef = x65 at ha hrel
        generalize a'.tmps.getD 66 undef = x66 at ha hrel
        generalize a'.tmps.getD 67 undef = x67 at ha hrel
        generalize a'.tmps.getD 68 undef = x68 at ha hrel
        generalize a'.tmps.getD 69 undef = x69 at ha hrel
        generalize a'.tmps.getD 70 undef = x70 at ha hrel
        generalize a'.tmps.getD 71 undef = x71 at ha hrel
        generalize a'.tmps.getD 72 undef = x72 at ha hrel
        generalize a'.tmps.getD 73 undef = x73 at ha hrel
        subst ha
        obtain ⟨ns1, b, L, v, hTI1, hM, hmk, hb⟩ := hrel
        obtain ⟨wo, rfl⟩ : ∃ wo : World, wo = wr := ⟨_, rfl⟩
        have hszo := hb.size
        have hMsz := hM.size
        have hMlt := hM.lt
        have hTlt := hM.t.lt
        have cR := hM.t.fR.cell
        have HW := Lib.hid (has_any (some ⟨gn, 0, none⟩) i i ns1 wo (Rd.of_own hM.t.own) h10)
        have hTIH := Lib.hid hTI1; have hMH := Lib.hid hM; have hmkH := Lib.hid hmk; have hbH := Lib.hid hb
        clear hTI1 hM hmk hb
        cases hh : hasN ns1
        · rw [hh] at HW
          have hP := Lib.hid (hTIH.out.done hh)
          have cl := hMH.out.bl.cell
          have ho := Lib.hid (own_base (b' := w.heap.size) (by omega) hMH.out.own)
          clear hh
          go_wp2_with fail
          refine HW.out.mono ?_
          rintro _ _ ⟨rfl, rfl⟩
          clear HW cR
          go_wp2_with fail
          rw [Exit.noGoto_ret, hdnH.out]
          refine leaves_marksJ (B := w.heap.size) (J := fun W' => W'.ownsRow w.heap.size 3 1 v L.length (ints .i64 (natI L)) ∧ Below w.heap.size w W' ∧ w.heap.size ≤ W'.heap.size) hmkH.out ⟨ho.out, hbH.out, by omega⟩
            (fun V r o' hV hd hr => ⟨hV.1.kept (grownBy_putObj' V r o') (by
                rcases hV.1.2 with ⟨rfl, _⟩ | ⟨g, c, cur, rfl, _, hgg, _⟩
                · exact .inl rfl
                · right; intro e; cases e; rw [hgg] at hd; cases hd), hV.2.1.grown (grownBy_putObj' V r o') hV.2.2 (fun r' e => by cases e; omega), by have := (grownBy_putObj' V r o').size; omega⟩)
            fun w' hw' => ⟨.tuple #[v, .int .i64 0], by simp [results, Tryd.results4, go_sem], v, L, rfl, hw'.1, hP.out, hw'.2.1⟩
        · rw [hh] at HW
          have hgo := Lib.hid (hTIH.out.goes hh)
          have hbn := hTIH.out.ins b (by
            have h1 := hTIH.out.last
            cases hL : L.getLast? with
            | none => exact absurd (List.getLast?_eq_none_iff.1 hL) hTIH.out.ne
            | some z =>
              rw [hL] at h1
              have h2 : z = b := h1
              exact h2 ▸ List.mem_of_getLast? hL)
          have cA := hMH.out.t.fA.cell
          have hb0 : (0 : Int) ≤ b := by omega
          have hbI : (b : Int) < i := by omega
          have cb := (hMH.out.t.own.cellAt b (by omega)).trans (wds_get (by rw [hTIH.out.len]; exact hbn))
          have hyl := hTIH.out.g.lt b
          have hp10 : 2 ^ i ≤ 2 ^ 10 := Nat.pow_le_pow_right (by omega) h10
          obtain ⟨y, hy⟩ : ∃ y, ns1.getD b 0 = y := ⟨_, rfl⟩
          have hyH := Lib.hid hy
          rw [hy] at cb hyl
          clear hh hy
          go_wp2_with fail
          refine HW.out.mono ?_
          rintro _ _ ⟨rfl, rfl⟩
          clear HW
          go_wp2_with fail
          refine (each_any y _).mono ?_
          rintro e w8 ⟨rfl, rfl⟩
          have bE := Boxed.new wo 38 (.int .u32 (y : Int))
          have hb8 := hbH.out.alloc hbH.out.size (.cells #[.int .u32 (y : Int)] 38)
          have htl2 : 0 < w.heap.size := htl
          have ht8 := htbH.out.below htl hb8
          have hsz8 : (wo.alloc (.cells #[.int .u32 (y : Int)] 38)).heap.size = wo.heap.size + 1 := by simp
          have h0I : TrM w.heap.size w1.heap.size bR gn bL i A len cap ns1 b L v (wo.alloc (.cells #[.int .u32 (y : Int)] 38)) ∧ Marks w.heap.size wo.heap.size ds (wo.alloc (.cells #[.int .u32 (y : Int)] 38)) ∧ Below w.heap.size w (wo.alloc (.cells #[.int .u32 (y : Int)] 38)) ∧ wo.heap.size < (wo.alloc (.cells #[.int .u32 (y : Int)] 38)).heap.size ∧ NoG i ns1 b (unT ([] : List (Bt y))) :=
            ⟨hMH.out.later ((Below.refl _ _).alloc (Nat.le_refl _) _), hmkH.out.keeps (KeepsOthers.alloc _ _), hb8, by omega, fun j hj => by cases hj⟩
          have hvb := Lib.hid (fun q (e : v.ownBlock = some q) => (hMH.out.own.lt q e).2)
          have hvN := Lib.hid (show v.ownBlock = none → ∀ {r : Option Nat}, none = r → False from fun h _ _ => by
            rcases hMH.out.own.2 with ⟨_, h0⟩ | ⟨g, c, cur, rfl, _⟩
            · exact hTIH.out.ne (List.length_eq_zero_iff.1 h0)
            · cases h)
          clear hb8 cR cA cb
          go_wp2
          refine (wpIn_wide (n := 4)).1 ?_
          generalize wo.alloc (.cells #[.int .u32 (y : Int)] 38) = w8 at *
          generalize hbEe : wo.heap.size = bEx at *
          refine' rangeFunc_box (n := 4) (α := Bt y) (gf := 21) (lb := #[.pointer (some ⟨bEx, 0, none⟩)]) (by omega) rfl (enters_of Tryd.func21 (by kernel_rfl) rfl)
            (each_stops 3 (by omega) bEx w.heap.size y (by omega) w8 ht8 htl2 (by omega) bE (by omega)) (by omega) (fun h h' => KpE.trans h h') (kpE_b (by omega) (by omega)) (Below.refl _ _) (fun _ => rfl)
            (fun pre W => TrM w.heap.size w1.heap.size bR gn bL i A len cap ns1 b L v W ∧ Marks w.heap.size bEx ds W ∧ Below w.heap.size w W ∧ bEx < W.heap.size ∧ NoG i ns1 b (unT pre))
            (fun c pre W => c = .exit 3 ∧ ∃ j v', nb ns1 b j = true ∧ oneB (turnW ns1 b j) i j = true ∧ TrM w.heap.size w1.heap.size bR gn bL i A len cap (turnW ns1 b j) j (L ++ [j]) v' W ∧ v'.ownBlock ≠ some bEx ∧ Marks w.heap.size bEx ds W ∧ Below w.heap.size w W) ?hI ?hIb ?hX ?hXb h0I _ ?assign ?body ?done ?stop
          case hI =>
            rintro pre W1 W2 row ⟨h1, h3, h4, h6, h5⟩ hg' hr
            have hr' : ∀ r, row = some r → w8.heap.size ≤ r := fun r e => (hr r e).1
            exact ⟨h1.grown hg' (fun r e => by have := hr' r e; omega) (own_row h1.own fun r e => (hr r e).2), h3.grown hg' (fun r e => by have := hr' r e; omega), h4.grown hg' h4.size (fun r e => by have := hr' r e; omega), Nat.lt_of_lt_of_le h6 hg'.size, h5⟩
          case hIb =>
            rintro pre W1 W2 row ⟨h1, h3, h4, h6, h5⟩ hg' hr
            exact ⟨h1.grown hg' (fun r e => by have := hr r e; omega) (.inr fun e => by
              cases hv : v.ownBlock with
              | none => rw [hv] at e; exact hvN.out hv e
              | some q => rw [hv] at e; have := hvb.out q hv; have := hr q e.symm; omega), h3.grown hg' (fun r e => by have := hr r e; omega), h4.grown hg' h4.size (fun r e => by have := hr r e; omega), Nat.lt_of_lt_of_le h6 hg'.size, h5⟩
          case hX =>
            rintro c pre W1 W2 row ⟨h0, j, v', h1, h2, h3, h4, h5, h6⟩ hg' hr
            have hr' : ∀ r, row = some r → w8.heap.size ≤ r := fun r e => (hr r e).1
            exact ⟨h0, j, v', h1, h2, h3.grown hg' (fun r e => by have := hr' r e; omega) (own_row h3.own fun r e => (hr r e).2), h4, h5.grown hg' (fun r e => by have := hr' r e; omega), h6.grown hg' h6.size (fun r e => by have := hr' r e; omega)⟩
          case hXb =>
            rintro c pre W1 W2 row ⟨h0, j, v', h1, h2, h3, h4, h5, h6⟩ hg' hr
            refine ⟨h0, j, v', h1, h2, h3.grown hg' (fun r e => by have := hr r e; omega) ?_, h4, h5.grown hg' (fun r e => by have := hr r e; omega), h6.grown hg' h6.size (fun r e => by have := hr r e; omega)⟩
            cases hq : row with
            | none => cases v'.ownBlock <;> simp
            | some q => exact .inr fun e => h4 (by rw [e, hr q hq])
          case assign =>
            intro l0 y W K hK
            gi_wp2
            exact hK
          case body =>
            rintro l0 pre yy W ⟨h1, h3, h4, h6, h5⟩ hpl
            have hjy := yy.2.2
            have hj32 := yy.2.1
            have hsn := unT_snoc pre yy
            obtain ⟨j, hje⟩ : ∃ j, yy.1 = j := ⟨_, rfl⟩
            rw [hje] at hjy hj32 hsn
            simp only [hje]
            clear hje
            have hsnH := Lib.hid hsn
            have hnb := Lib.hid (show nb ns1 b j = true by unfold nb; rw [hyH.out]; exact hjy)
            obtain ⟨_, hjn, _, hbj⟩ := hTIH.out.g.ok b j hnb.out
            have hpw := Lib.hid (fun q => Nat.lt_of_lt_of_le (hTIH.out.g.lt q) hp10)
            have HT := Lib.hid (turn_any w1.heap.size gn i b j ns1 W h1.t.own h10 hbn hjn hbj hpw.out)
            have cR := h1.t.fR.cell; have cA := h1.t.fA.cell
            have h1H := Lib.hid h1; have h3H := Lib.hid h3; have h4H := Lib.hid h4; have h5H := Lib.hid h5
            clear h1 h3 h4 h5 hsn hjy
            gi_wp2_with fail
            refine ⟨trivial, (CallsIn.inRound l0 (callsIn_wide.2 HT.out)).mono ?_⟩
            rintro _ W1 ⟨rfl, hown1, hg1⟩
            have hT1 := h1H.out.turned hown1 hg1
            have hk1 : KeepsOthers W W1 := ko_own (v := .slice (some ⟨gn, 0, none⟩) i i) h1H.out.t.own hg1
            have hm1 := h3H.out.keeps hk1
            have hb1 := h4H.out.grown hg1 h4H.out.size (fun r e => by cases e; omega)
            have g2 := Lib.hid (turn_gr hTIH.out.g hTIH.out.len hnb.out)
            have htb1 := htbH.out.below htl hb1
            have hs1 : W.heap.size ≤ W1.heap.size := hg1.size
            have HO := Lib.hid (one_any (some ⟨gn, 0, none⟩) i i j (turnW ns1 b j) W1 (Rd.of_own hT1.t.own) g2.out hjn htb1 (by have := hb1.size; omega))
            have c1 := hT1.t.fR.cell
            have hkB : KpE w.heap.size bEx W W1 := ⟨(Below.refl _ W).grown hg1 (by have := h4H.out.size; omega) (fun r e => by cases e; omega), hg1.block bEx h6 (fun e => by injection e with e; omega)⟩
            have hT1H := Lib.hid hT1; have hk1H := Lib.hid hk1; have hm1H := Lib.hid hm1; have hb1H := Lib.hid hb1; have hkBH := Lib.hid hkB
            clear HT hT1 hk1 hm1 hb1 hown1 hg1 cR cA htb1 hkB
            gi_wp2_with fail
            refine ⟨trivial, (CallsIn.inRound l0 (callsIn_wide.2 HO.out)).mono ?_⟩
            rintro _ W2 ⟨rfl, hbb⟩
            have hT2 := hT1H.out.later hbb
            have hk2 := hk1H.out.trans (ko_below hbb)
            have hm2 := hm1H.out.later hbb
            have hb2 := hb1H.out.trans (hbb.mono hb1H.out.size)
            have hkB2 : KpE w.heap.size bEx W W2 := ⟨hkBH.out.1.trans (hbb.mono (by have := hb1H.out.size; omega)), (hbb.block bEx (by omega)).trans hkBH.out.2⟩
            have hs2 : W1.heap.size ≤ W2.heap.size := hbb.size
            have hT2H := Lib.hid hT2; have hk2H := Lib.hid hk2; have hm2H := Lib.hid hm2; have hb2H := Lib.hid hb2; have hkB2H := Lib.hid hkB2
            have c1 := hT2.t.fR.cell; have cA := hT2.t.fA.cell; have fA := hT2.t.fA.frozen; have lA := hT2.t.fA.lt; have cL := hT2.bl.cell; have fL := hT2.bl.frozen; have lL := hT2.bl.lt
            clear HO hT2 hk2 hm2 hb2 hkB2 hbb hT1H hk1H hm1H hb1H hkBH
            cases ho : oneB (turnW ns1 b j) i j
            · have hoH := Lib.hid ho
              have hpw2 := Lib.hid (fun q => Nat.lt_of_lt_of_le (g2.out.lt q) hp10)
              have HT := Lib.hid (turn_any w1.heap.size gn i b j (turnW ns1 b j) W2 hT2H.out.t.own h10 hbn hjn hbj hpw2.out)
              rw [turn_turn hTIH.out.len hbn hjn hbj] at HT
              clear ho
              gi_wp2_with fail
              refine ⟨trivial, (CallsIn.inRound l0 (callsIn_wide.2 HT.out)).mono ?_⟩
              rintro _ W3 ⟨rfl, hown3, hg3⟩
              have hT3 := hT2H.out.turned hown3 hg3
              have hk3 := hk2H.out.trans (ko_own (v := .slice (some ⟨gn, 0, none⟩) i i) hT2H.out.t.own hg3)
              have hm3 := hm2H.out.keeps (ko_own (v := .slice (some ⟨gn, 0, none⟩) i i) hT2H.out.t.own hg3)
              have hb3 := hb2H.out.grown hg3 hb2H.out.size (fun r e => by cases e; omega)
              have hkB3 : KpE w.heap.size bEx W W3 := ⟨hkB2H.out.1.grown hg3 (by have := hb2H.out.size; omega) (fun r e => by cases e; omega), (hg3.block bEx (by omega) (fun e => by injection e with e; omega)).trans hkB2H.out.2⟩
              have hno := Lib.hid (show NoG i ns1 b (unT (pre ++ [yy])) from by
                rw [hsnH.out]
                intro q hq
                rcases List.mem_append.1 hq with h | h
                · exact h5H.out q h
                · obtain rfl : q = j := by simpa using h
                  exact hoH.out)
              have hI := Lib.hid (And.intro hT3 (And.intro hm3 (And.intro hb3 (And.intro (show bEx < W3.heap.size by have := hg3.size; omega) hno.out))))
              have hkF := Lib.hid hk3; have hkp := Lib.hid hkB3
              clear HT hT3 hk3 hm3 hb3 hkB3 hown3 hg3 c1 cA fA lA cL fL lL hno
              gi_wp2
              exact ⟨hkF.out.from _, hkp.out, hI.out⟩
            · have hoH := Lib.hid ho
              have hTA := hT2H.out.setA j
              have hkA : KeepsOthers W2 (W2.setCell ⟨bR + 1, 0, none⟩ (.int .i64 (j : Int))) := KeepsOthers.setCell _ _ _
              have hbA := hb2H.out.setCell (p := ⟨bR + 1, 0, none⟩) (show w.heap.size ≤ bR + 1 by omega) (.int .i64 (j : Int))
              have hsA : (W2.setCell ⟨bR + 1, 0, none⟩ (.int .i64 (j : Int))).heap.size = W2.heap.size := by simp
              obtain ⟨A8, c8, rfl⟩ := own_slice hTA.own
              have hLl := hTIH.out.len_le h10
              have hTAH := Lib.hid hTA; have hkAH := Lib.hid hkA; have hbAH := Lib.hid hbA
              have cLA := hTA.bl.cell; have fLA := hTA.bl.frozen; have lLA := hTA.bl.lt
              clear ho hTA hkA hbA
              have hcN := (Boxed.new (W2.setCell ⟨bR + 1, 0, none⟩ (.int .i64 (j : Int))) 3 (.int .i64 (j : Int))).cell
              rw [hsA] at hcN
              have hcNH := Lib.hid hcN
              clear hcN
              gi_wp2_with ((gi_at_builtin
                            refine wpListIn_appT (s := .tmp 65) (x := .tmp 67) tiIt (hTAH.out.own.alloc (.cells #[.int .i64 (j : Int)] 3)) hcNH.out rfl (by omega) (by omega) (by simp; omega) rfl rfl rfl rfl ?_
                            intro v' wB ownB gB hatB
                            obtain ⟨g', cap', rfl⟩ := ownsRow_succ ownB
                            have hneL := bx_ne (hTAH.out.bl.alloc (.cells #[.int .i64 (j : Int)] 3)) (hTAH.out.own.alloc (.cells #[.int .i64 (j : Int)] 3)) (by decide)
                            have blB := (hTAH.out.bl.alloc (.cells #[.int .i64 (j : Int)] 3)).kept gB (fun e => hneL e.symm)
                            have hTB := (hTAH.out.t.later ((Below.refl _ _).alloc (Nat.le_refl _) (.cells #[.int .i64 (j : Int)] 3))).grown gB (fun r e => (hTAH.out.own.lt r e).1)
                            have hneL2 := bx_ne blB ownB (by decide)
                            have hkB4 := (hkAH.out.trans (KeepsOthers.alloc _ (.cells #[.int .i64 (j : Int)] 3))).trans (ko_own (hTAH.out.own.alloc (.cells #[.int .i64 (j : Int)] 3)) gB)
                            have hbB4 := (hbAH.out.alloc hbAH.out.size (.cells #[.int .i64 (j : Int)] 3)).grown gB (by have := hbAH.out.size; simp; omega) (fun r e => by have := (hTAH.out.own.lt r e).1; omega)
                            have hneE : (Value.slice (some ⟨g', 0, none⟩) (L.length + 1) cap').ownBlock ≠ some bEx := fun e => by
                              rcases hatB with h | h
                              · rw [e] at h
                                have := hvb.out bEx h.symm
                                omega
                              · rw [e] at h
                                have h : bEx = _ := Option.some.inj h
                                simp at h
                                omega
                            have cB := blB.cell; have fB := blB.frozen; have lB := blB.lt
                            have hTBH := Lib.hid hTB; have blBH := Lib.hid blB; have ownBH := Lib.hid ownB; have hkB4H := Lib.hid hkB4; have hbB4H := Lib.hid hbB4; have hneEH := Lib.hid hneE; have hneL2H := Lib.hid hneL2
                            clear hTB blB ownB hkB4 hbB4 hneE hneL2 hneL gB hatB cLA fLA lLA))
              have hgL := grownBy_setCell' wB bL (.slice (some ⟨g', 0, none⟩) (L.length + 1) cap')
              have hrowE : ints .i64 (natI (L ++ [j])) = ints .i64 (natI L) ++ [.int .i64 (j : Int)] := by simp [ints, natI]
              have hTF : TrM w.heap.size w1.heap.size bR gn bL i A len cap (turnW ns1 b j) j (L ++ [j]) (.slice (some ⟨g', 0, none⟩) (L.length + 1) cap') (wB.setCell ⟨bL, 0, none⟩ (.slice (some ⟨g', 0, none⟩) (L.length + 1) cap')) := by
                have hlt := hTBH.out.lt
                refine ⟨⟨hTBH.out.fG.kept hgL (fun e => by injection e with e; omega), hTBH.out.fR.kept hgL (fun e => by injection e with e; omega), hTBH.out.fA.kept hgL (fun e => by injection e with e; omega), hTBH.out.own.kept hgL (.inr (fun e => by have e : gn = bL := (by injection e); omega)), hTBH.out.lt⟩, blBH.out.set _, ?_, hMlt, hneL2H.out⟩
                rw [List.length_append, hrowE]
                exact ownBH.out.kept hgL (.inr hneL2H.out)
              have hkF := hkB4H.out.trans (KeepsOthers.setCell wB ⟨bL, 0, none⟩ (.slice (some ⟨g', 0, none⟩) (L.length + 1) cap'))
              have hbF := hbB4H.out.setCell (p := ⟨bL, 0, none⟩) (show w.heap.size ≤ bL by omega) (.slice (some ⟨g', 0, none⟩) (L.length + 1) cap')
              exact ⟨(hk2H.out.trans hkF).from _, rfl, j, _, hnb.out, hoH.out, hTF, hneEH.out, hm2H.out.keeps hkF, hbF⟩
          case done =>
            rintro D ys W hD hys ⟨h1, h3, h4, h6, h5⟩ hK
            have hys' : unT ys = bitsL y := hys
            obtain ⟨j, hj1, hj2⟩ := hgo.out
            have hjb : y.testBit j = true := by unfold nb at hj1; rw [hyH.out] at hj1; exact hj1
            have := h5 j (by rw [hys', mem_bitsL]; exact ⟨by have := (hTIH.out.g.ok b j hj1).2.1; omega, hjb⟩)
            rw [hj2] at this; cases this
          case stop =>
            rintro D c pre W hD _ ⟨rfl, j, v', hnb, ho, h3, h4, h5, h6⟩ hK
            have hmp : Marks w.heap.size (D + 1) ({ target := .collected D, args := #[] } :: ds) W := Marks.push (T := bEx) h5 (by omega) (by omega) hK
            have hmp2 := hmp.mono (Array.getElem?_eq_some_iff.1 hK).1
            have hTI2 := Lib.hid (hTIH.out.step hnb ho)
            have h3H := Lib.hid h3; have h6H := Lib.hid h6; have hmH := Lib.hid hmp2
            have hLl := hTIH.out.len_le h10
            have c1 := Lib.hid (hMH.out.bl.cell); have c2 := Lib.hid h3.bl.cell
            have hLv := hMH.out.own; have hLv2 := h3.own
            obtain ⟨A1, c1', rfl⟩ := own_slice hLv
            obtain ⟨A2, c2', rfl⟩ := own_slice hLv2
            clear h3 h5 h6 hmp hmp2 hK hnb ho hLv hLv2
            gi_wp2
            go_wp2
            refine ⟨⟨_, rfl, ?rel⟩, ?measure⟩
            case rel => exact ⟨turnW ns1 b j, j, L ++ [j], _, hTI2.out, h3H.out, hmH.out, h6H.out⟩
            case measure =>
              rw [c1.out, c2.out]
              simp [lenC]; omega
end Go.Proofs.YtbghkpkpmbbghaaDoor
