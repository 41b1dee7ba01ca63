/- beats.list: the first row that can be followed to the end. -/
import Derived.Test.YtnlgmjigadgneaaDoorRowLaw
import Derived.Test.YtnlgmjigadgneaaDoorHeld
import Derived.Test.YtnlgmjigadgneaaDoorMarks
import Derived.Test.YtnlgmjigadgneaaDoorCalm
import Derived.Test.YtnlgmjigadgneaaDoorPermI
import Derived.Test.YtnlgmjigadgneaaDoorTourW
namespace Go.Proofs.YtnlgmjigadgneaaDoor
open Go.RowKit Go.Shelf
attribute [local go_sem] Oper.semAt_some

theorem tiI : TI Tryd.prog 31 3 (.int .i64 0) 1 8 := TI.mk' Tryd.underlying31 (by kernel_rfl) rfl (by decide)
def unA {x : Nat} (l : List (Bt x)) : List Nat := l.map (·.1)
theorem unA_snoc {x : Nat} (l : List (Bt x)) (y : Bt x) : unA (l ++ [y]) = unA l ++ [y.1] := by simp [unA]
theorem natI_get (l : List Nat) (k : Nat) : (natI l).getD k 0 = ((l.getD k 0 : Nat) : Int) := by
  simp only [natI, List.getD, List.getElem?_map]
  cases l[k]? <;> rfl
theorem natI_snoc (l : List Nat) (c : Nat) : natI (l ++ [c]) = natI l ++ [(c : Int)] := by simp [natI]
/-- a row that reads is no record of a loop -/
theorem Rd.off {w w' : World} {A : Option Addr} {n s : Nat} {xs : List Value} {r : Option Nat} (h : Rd w A n s xs) (hs : 0 < s) (hg : w.grownBy w' r) (hr : ∀ k, r = some k → ∃ o, w.heap[k]? = some o ∧ o.isCells = false) : Rd w' A n s xs := by
  refine ⟨h.1, fun hn => ?_⟩
  obtain ⟨b, o, rfl, hlt, hc⟩ := h.2 hn
  refine ⟨b, o, rfl, Nat.lt_of_lt_of_le hlt hg.size, fun j hj => (hg.cell_far ⟨b, o + j, none⟩ hlt fun e => ?_).trans (hc j hj)⟩
  obtain ⟨ob, h1, h2⟩ := hr b e.symm
  have h3 := hc 0 (Nat.mul_pos hn hs)
  have h4 : 0 < xs.length := by rw [h.1]; exact Nat.mul_pos hn hs
  unfold World.cell? at h3
  rw [h1] at h3
  cases ob <;> simp_all [Obj.isCells]
theorem Rd.offBox {w w' : World} {A : Option Addr} {n s : Nat} {xs : List Value} {r : Option Nat} {t : Nat} (h : Rd w A n s xs) (hA : ∀ b o, A = some ⟨b, o, none⟩ → t ≤ b) (hg : w.grownBy w' r) (hr : ∀ k, r = some k → k < t) : Rd w' A n s xs :=
  h.grown hg fun b o e he => by have := hA b o e; have := hr b he; omega
/-- what list answers -/
def LPost (ts : List Nat) (ring : Bool) (l : List Nat) (x : Nat) (Al : Option Addr) (w : World) (e : Ending) (w' : World) : Prop :=
  Below w.heap.size w w' ∧ ((∃ A c R, e = .returned (.slice A R.length c) ∧ Rd w' A R.length 1 (ints .i64 (natI R)) ∧ R.length ≤ c ∧ (A = Al ∨ ∀ b o, A = some ⟨b, o, none⟩ → w.heap.size ≤ b) ∧ Whole ts ring l x R) ∨ (e = .returned (.slice none 0 0) ∧ ∀ R, ¬ Whole ts ring l x R))
/-- what the loop over the next ones holds -/
def LI (ts : List Nat) (ring : Bool) (l : List Nat) (x : Nat) (At Al : Option Addr) (ct cl s t : Nat) (w : World) {z : Nat} (pre : List (Bt z)) (W : World) : Prop :=
  Boxed W s 22 (.slice At ts.length ct) ∧ Boxed W (s + 1) 31 (.slice Al l.length cl) ∧ Boxed W (s + 2) 23 (.int .u32 (x : Int)) ∧ Boxed W (s + 3) 4 (.bool ring) ∧ Boxed W (s + 4) 31 (.slice none 0 0) ∧
    Below s w W ∧ t ≤ W.heap.size ∧ ∀ c ∈ unA pre, ∀ R, ¬ Whole ts ring (l ++ [c]) (del x c) R
def LX (ts : List Nat) (ring : Bool) (l : List Nat) (x : Nat) (s t : Nat) (w : World) {z : Nat} (c : Code) (_ : List (Bt z)) (W : World) : Prop :=
  c = .ret ∧ Below s w W ∧ ∃ A k R, Boxed W (s + 4) 31 (.slice A R.length k) ∧ Rd W A R.length 1 (ints .i64 (natI R)) ∧ R.length ≤ k ∧ (∀ b o, A = some ⟨b, o, none⟩ → t ≤ b) ∧ Whole ts ring l x R
section
variable {ts : List Nat} {ring : Bool} {l : List Nat} {x : Nat} {At Al : Option Addr} {ct cl s t z : Nat} {w : World}
theorem below_row {A C : World} {row : Option Nat} (h : Below s w A) (hg : A.grownBy C row) (hs : s ≤ A.heap.size) (hr : ∀ r, row = some r → s ≤ r) : Below s w C :=
  h.grown hg hs hr
theorem LI.abides {pre : List (Bt z)} {A C : World} {row : Option Nat} (h : LI ts ring l x At Al ct cl s t w pre A) (hst : s + 5 ≤ t) (hg : A.grownBy C row) (hr : ∀ r, row = some r → s + 5 ≤ r) : LI ts ring l x At Al ct cl s t w pre C := by
  obtain ⟨h1, h2, h3, h4, h5, h6, h7, h8⟩ := h
  have ne : ∀ b, b < s + 5 → some b ≠ row := fun b hb e => by have := hr b e.symm; omega
  exact ⟨h1.kept hg (ne _ (by omega)), h2.kept hg (ne _ (by omega)), h3.kept hg (ne _ (by omega)), h4.kept hg (ne _ (by omega)), h5.kept hg (ne _ (by omega)), below_row h6 hg (by omega) (fun r e => by have := hr r e; omega), Nat.le_trans h7 hg.size, h8⟩
theorem LX.abides {pre : List (Bt z)} {c : Code} {A C : World} {row : Option Nat} (h : LX ts ring l x s t w c pre A) (hs : s ≤ A.heap.size) (hg : A.grownBy C row) (hr : ∀ r, row = some r → s + 5 ≤ r)
    (h2 : (∀ k, row = some k → ∃ o, A.heap[k]? = some o ∧ o.isCells = false) ∨ ∀ k, row = some k → k < t) : LX ts ring l x s t w c pre C := by
  obtain ⟨h1, hb, B, k, R, h3, h4, h5, h6, h7⟩ := h
  have ne : ∀ b, b < s + 5 → some b ≠ row := fun b hb e => by have := hr b e.symm; omega
  refine ⟨h1, below_row hb hg hs (fun r e => by have := hr r e; omega), B, k, R, h3.kept hg (ne _ (by omega)), ?_, h5, h6, h7⟩
  rcases h2 with h2 | h2
  · exact h4.off (by omega) hg h2
  · exact h4.offBox h6 hg h2
end
theorem whole_zero' {ts l : List Nat} {ring : Bool} (h : ring = true → ∃ a b, l.getLast? = some a ∧ l.head? = some b ∧ beat ts a b = true) : Whole ts ring l 0 l :=
  whole_zero.2 ⟨rfl, fun hr a b ha hb => by obtain ⟨a', b', h1, h2, h3⟩ := h hr; rw [h1] at ha; rw [h2] at hb; cases ha; cases hb; exact h3⟩
theorem last_get {l : List Nat} {m : Nat} (h : l.length = m + 1) : l.getLast? = some (l.getD m 0) ∧ l.head? = some (l.getD 0 0) := by
  constructor
  · rw [List.getLast?_eq_getElem?, h]
    simp [List.getD, show m < l.length by omega]
  · cases l with
    | nil => simp at h
    | cons a l => rfl
set_option maxHeartbeats 1600000 in
set_option maxRecDepth 100000 in
theorem list_zero (ts : List Nat) (hlt : ∀ i, i < ts.length → ts.getD i 0 < 4294967296) (ring : Bool) (l : List Nat) (hln : l.length ≤ 8) (hl8 : ts.length ≤ 8) (hlb : ∀ a ∈ l, a < ts.length) (hne : ring = true → l ≠ [])
    (At Al : Option Addr) (ct cl : Nat) (w : World) (hrt : Rd w At ts.length 1 (wds ts)) (hrl : Rd w Al l.length 1 (ints .i64 (natI l))) (hcl : l.length ≤ cl) :
    Calls Tryd.prog 17 #[.slice At ts.length ct, .slice Al l.length cl, .int .u32 0, .bool ring] w (LPost ts ring l 0 Al w) := by
  have hb1 := (((((Below.refl _ w).alloc (Nat.le_refl _) (.cells #[.slice At ts.length ct] 22)).alloc (by simp) (.cells #[.slice Al l.length cl] 31)).alloc (by simp; omega) (.cells #[.int .u32 0] 23)).alloc (by simp; omega) (.cells #[.bool ring] 4)).alloc (by simp; omega) (.cells #[.slice none 0 0] 31)
  have b0 := ((((Boxed.new w 22 (.slice At ts.length ct)).alloc (.cells #[.slice Al l.length cl] 31)).alloc (.cells #[.int .u32 0] 23)).alloc (.cells #[.bool ring] 4)).alloc (.cells #[.slice none 0 0] 31)
  have b1 := (((Boxed.new (w.alloc (.cells #[.slice At ts.length ct] 22)) 31 (.slice Al l.length cl)).alloc (.cells #[.int .u32 0] 23)).alloc (.cells #[.bool ring] 4)).alloc (.cells #[.slice none 0 0] 31)
  have b2 := ((Boxed.new ((w.alloc (.cells #[.slice At ts.length ct] 22)).alloc (.cells #[.slice Al l.length cl] 31)) 23 (.int .u32 0)).alloc (.cells #[.bool ring] 4)).alloc (.cells #[.slice none 0 0] 31)
  have b3 := (Boxed.new (((w.alloc (.cells #[.slice At ts.length ct] 22)).alloc (.cells #[.slice Al l.length cl] 31)).alloc (.cells #[.int .u32 0] 23)) 4 (.bool ring)).alloc (.cells #[.slice none 0 0] 31)
  have b4 := Boxed.new ((((w.alloc (.cells #[.slice At ts.length ct] 22)).alloc (.cells #[.slice Al l.length cl] 31)).alloc (.cells #[.int .u32 0] 23)).alloc (.cells #[.bool ring] 4)) 31 (.slice none 0 0)
  simp only [World.size_alloc, Nat.add_assoc, Nat.reduceAdd] at b1 b2 b3 b4
  have hrtB := hrt.later hb1
  have hrlB := hrl.later hb1
  have hrlH := Lib.hid hrl
  cases ring
  · have hW : Whole ts false l 0 l := whole_zero' (fun h => by cases h)
    have hWH := Lib.hid hW
    clear hrt hrl hrtB hne hW hlt hlb
    go_enter Tryd.func17, Tryd.ntmps17
    go_wp2
    simp only [Nat.add_assoc, Nat.reduceAdd]
    generalize (((((w.alloc (.cells #[.slice At ts.length ct] 22)).alloc (.cells #[.slice Al l.length cl] 31)).alloc (.cells #[.int .u32 0] 23)).alloc (.cells #[.bool false] 4)).alloc (.cells #[.slice none 0 0] 31)) = wB at *
    have c1 := b1.cell; have c2 := b2.cell; have c3 := b3.cell
    have hb1H := Lib.hid hb1; have b4H := Lib.hid b4; have hrlBH := Lib.hid hrlB
    clear hb1 b0 b1 b2 b3 b4 hrlB
    go_quiet (fail)
    have c1q : (wB.drewN nq).cell? ⟨w.heap.size + 1, 0, none⟩ = some (.slice Al l.length cl) := c1
    have b4q : Boxed (wB.drewN nq) (w.heap.size + 4) 31 (.slice none 0 0) := b4H.out
    have hbq := below_drewN hb1H.out nq
    have hrlq : Rd (wB.drewN nq) Al l.length 1 (ints .i64 (natI l)) := hrlBH.out
    generalize wB.drewN nq = wq at *
    have c6 := b4q.frozen
    have c7 := b4q.cell
    have hl3' := b4q.lt
    have k6 := (b4q.set (.slice Al l.length cl)).cell
    have hbqH := Lib.hid hbq; have hrlqH := Lib.hid hrlq
    have hle := b4q.lt
    clear hbq b4q hrlq c1 c2 c3
    go_wp2
    (try simp only [Exit.inBlock, Exit.then])
    refine bodyPost_ret (v := .slice Al l.length cl) (by simp [results, Tryd.results17, go_sem, k6]) rfl ?_
    have hgs := grownBy_setCell' wq (w.heap.size + 4) (.slice Al l.length cl)
    have hbf := below_row hbqH.out hgs (by omega) (fun r e => by cases e; omega)
    exact ⟨hbf, .inl ⟨Al, cl, l, rfl, hrlH.out.later hbf, hcl, .inl rfl, hWH.out⟩⟩
  · obtain ⟨m, hm⟩ : ∃ m, l.length = m + 1 := ⟨l.length - 1, by have := List.length_pos_iff.2 (hne rfl); omega⟩
    obtain ⟨hla, hhe⟩ := last_get hm
    have hma : l.getD m 0 ∈ l := by rw [List.getD, List.getElem?_eq_getElem (show m < l.length by omega)]; exact List.getElem_mem _
    have hmb : l.getD 0 0 ∈ l := by rw [List.getD, List.getElem?_eq_getElem (show 0 < l.length by omega)]; exact List.getElem_mem _
    have haN := hlb _ hma
    have hbN := hlb _ hmb
    obtain ⟨gl, ol, rfl, hgl, hcm⟩ := hrlB.int (show m < l.length by omega)
    obtain ⟨_, _, he, _, hc0⟩ := hrlB.int (show 0 < l.length by omega)
    cases he
    rw [natI_get] at hcm hc0
    rw [Nat.add_zero] at hc0
    obtain ⟨gt, ot, rfl, hgt, hct⟩ := hrtB.wd haN
    have hy32 := hlt _ haN
    have hshr := shr_bit (ts.getD (l.getD m 0) 0) (l.getD 0 0) hy32
    have hWt : beat ts (l.getD m 0) (l.getD 0 0) = true → Whole ts true l 0 l := fun h => whole_zero' fun _ => ⟨_, _, hla, hhe, h⟩
    have hWf : beat ts (l.getD m 0) (l.getD 0 0) = false → ∀ R, ¬ Whole ts true l 0 R := fun h R hR => by
      have := (whole_zero.1 hR).2 rfl _ _ hla hhe
      rw [h] at this; cases this
    unfold beat at hWt hWf
    have hmi : IntKind.i64.wrap ((l.length : Int) - 1) = (m : Int) := by rw [hm, IntWalk.i64_in _ (by omega)]; omega
    have hml : (m : Int) < l.length := by omega
    have h0l : (0 : Int) < l.length := by omega
    have h0n : 0 < l.length := by omega
    have hWtH := Lib.hid hWt; have hWfH := Lib.hid hWf
    clear hrt hrl hrtB hne hlt hlb hla hhe hma hmb hWt hWf
    generalize ts.getD (l.getD m 0) 0 = y at *
    generalize l.getD m 0 = a at *
    generalize l.getD 0 0 = b at *
    have haI : (a : Int) < ts.length := by omega
    have ha0 : (0 : Int) ≤ a := by omega
    have hb0 : (0 : Int) ≤ b := by omega
    clear hm
    generalize hnn : l.length = n at *
    have hnnH := Lib.hid hnn
    clear hnn
    cases hbit : y.testBit b
    · rw [hbit] at hshr hWfH
      have hz : (bits .and .u32 ((y : Int) / (2 : Int) ^ b) 1 == 0) = true := by rw [hshr]; rfl
      clear hshr hWtH hbit
      have hWH := Lib.hid (hWfH.out rfl)
      clear hWfH
      go_enter Tryd.func17, Tryd.ntmps17
      go_wp2
      simp only [Nat.add_assoc, Nat.reduceAdd]
      generalize (((((w.alloc (.cells #[.slice (some ⟨gt, ot, none⟩) ts.length ct] 22)).alloc (.cells #[.slice (some ⟨gl, ol, none⟩) n cl] 31)).alloc (.cells #[.int .u32 0] 23)).alloc (.cells #[.bool true] 4)).alloc (.cells #[.slice none 0 0] 31)) = wB at *
      have c0 := b0.cell; have c1 := b1.cell; have c2 := b2.cell; have c3 := b3.cell
      have hb1H := Lib.hid hb1; have b4H := Lib.hid b4
      clear hb1 b0 b1 b2 b3 b4 hrlB
      go_quiet (fail)
      have b4q : Boxed (wB.drewN nq) (w.heap.size + 4) 31 (.slice none 0 0) := b4H.out
      have hbq := below_drewN hb1H.out nq
      generalize wB.drewN nq = wq at *
      have c6 := b4q.frozen
      have c7 := b4q.cell
      have hl3' := b4q.lt
      have k6 := (b4q.set (.slice none 0 0)).cell
      have hbqH := Lib.hid hbq
      have hle := b4q.lt
      clear hbq b4q c0 c1 c2 c3
      go_wp2
      (try simp only [Exit.inBlock, Exit.then])
      refine bodyPost_ret (v := .slice none 0 0) (by simp [results, Tryd.results17, go_sem, k6]) rfl ?_
      have hgs := grownBy_setCell' wq (w.heap.size + 4) (.slice none 0 0)
      exact ⟨below_row hbqH.out hgs (by omega) (fun r e => by cases e; omega), .inr ⟨rfl, hWH.out⟩⟩
    · rw [hbit] at hshr hWtH
      have hz : (bits .and .u32 ((y : Int) / (2 : Int) ^ b) 1 == 0) = false := by rw [hshr]; rfl
      clear hshr hWfH hbit
      have hWH := Lib.hid (hWtH.out rfl)
      clear hWtH
      go_enter Tryd.func17, Tryd.ntmps17
      go_wp2
      simp only [Nat.add_assoc, Nat.reduceAdd]
      generalize (((((w.alloc (.cells #[.slice (some ⟨gt, ot, none⟩) ts.length ct] 22)).alloc (.cells #[.slice (some ⟨gl, ol, none⟩) n cl] 31)).alloc (.cells #[.int .u32 0] 23)).alloc (.cells #[.bool true] 4)).alloc (.cells #[.slice none 0 0] 31)) = wB at *
      have c0 := b0.cell; have c1 := b1.cell; have c2 := b2.cell; have c3 := b3.cell
      have hb1H := Lib.hid hb1; have b4H := Lib.hid b4
      clear hb1 b0 b1 b2 b3 b4 hrlB
      go_quiet (fail)
      have c1q : (wB.drewN nq).cell? ⟨w.heap.size + 1, 0, none⟩ = some (.slice (some ⟨gl, ol, none⟩) n cl) := c1
      have b4q : Boxed (wB.drewN nq) (w.heap.size + 4) 31 (.slice none 0 0) := b4H.out
      have hbq := below_drewN hb1H.out nq
      generalize wB.drewN nq = wq at *
      have c6 := b4q.frozen
      have c7 := b4q.cell
      have hl3' := b4q.lt
      have k6 := (b4q.set (.slice (some ⟨gl, ol, none⟩) n cl)).cell
      have hbqH := Lib.hid hbq
      have hle := b4q.lt
      clear hbq b4q c0 c1 c2 c3
      go_wp2
      (try simp only [Exit.inBlock, Exit.then])
      refine bodyPost_ret (v := .slice (some ⟨gl, ol, none⟩) n cl) (by simp [results, Tryd.results17, go_sem, k6]) rfl ?_
      have hgs := grownBy_setCell' wq (w.heap.size + 4) (.slice (some ⟨gl, ol, none⟩) n cl)
      have hbf := below_row hbqH.out hgs (by omega) (fun r e => by cases e; omega)
      exact ⟨hbf, .inl ⟨_, cl, l, by rw [hnnH.out], by rw [hnnH.out]; exact hrlH.out.later hbf, by have := hnnH.out; omega, .inl rfl, hWH.out⟩⟩
end Go.Proofs.YtnlgmjigadgneaaDoor
