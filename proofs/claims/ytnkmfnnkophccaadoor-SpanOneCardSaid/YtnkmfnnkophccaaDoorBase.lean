/- Words and small laws on memory that the walks of this seat share: a slice that is read as a list of values, whatever the size of its elements; owned rows; draws; bits. -/
import Derived.WalkKit
import Derived.WalkSpells
import Derived.WalkLawsBesides
import Derived.Laws.EntriesVeiled
import Derived.Lib.Hide
import Derived.Deep.QuietTactic
import Derived.BigQuiet
import Derived.Deep.AppendLies
import Derived.Deep.RegionHeld3
import Derived.Maps.AppendAt
import Derived.Deep.Draws
import Derived.Deep.DeepCutAuto
import Derived.Laws.OwnMore
namespace Go.Proofs.YtnkmfnnkophccaaDoor
open Go.RowKit

theorem own_drewN {w : World} {b e s n : Nat} {v : Value} {xs : List Value} (h : w.ownsRow b e s v n xs) (k : Nat) : (w.drewN k).ownsRow b e s v n xs := h
theorem own_drew {w : World} {b e s n : Nat} {v : Value} {xs : List Value} (h : w.ownsRow b e s v n xs) : w.drew.ownsRow b e s v n xs := h
theorem below_drewN {B : Nat} {a w : World} (h : Below B a w) (n : Nat) : Below B a (w.drewN n) := ⟨h.os, h.tape, h.output, h.size, h.block⟩
/-- an owned row behind a call that leaves all that was there as it was -/
theorem own_below {w w' : World} {b e s n : Nat} {v : Value} {xs : List Value} (h : w.ownsRow b e s v n xs) (hb : Below w.heap.size w w') : w'.ownsRow b e s v n xs :=
  h.kept (row := none) ⟨hb.os, hb.tape, hb.output, hb.size, fun i hi _ => hb.block i hi⟩ (by cases h : v.ownBlock <;> simp)
theorem below_grown {w w' : World} (h : w.grownBy w' none) : Below w.heap.size w w' := ⟨h.os, h.tape, h.output, h.size, fun i hi => h.block i hi (by simp)⟩
theorem below_mono {B B' : Nat} {a w w' : World} (h : Below B a w) (h' : Below B' w w') (hB : B ≤ B') : Below B a w' := h.trans (h'.mono hB)

/-- a slice of n elements of s cells each that reads as the values xs, cell by cell -/
def Rd (w : World) (A : Option Addr) (n s : Nat) (xs : List Value) : Prop :=
  xs.length = n * s ∧ (0 < n → ∃ b o, A = some ⟨b, o, none⟩ ∧ b < w.heap.size ∧ ∀ j, j < n * s → w.cell? ⟨b, o + j, none⟩ = xs[j]?)

section
variable {w w' : World} {A : Option Addr} {n s : Nat} {xs : List Value}
theorem Rd.below {B : Nat} (h : Rd w A n s xs) (hB : w.heap.size ≤ B) (hb : Below B w w') : Rd w' A n s xs := by
  refine ⟨h.1, fun hn => ?_⟩
  obtain ⟨b, o, rfl, hlt, hc⟩ := h.2 hn
  exact ⟨b, o, rfl, Nat.lt_of_lt_of_le hlt hb.size, fun j hj => (hb.cell (p := ⟨b, o + j, none⟩) (Nat.lt_of_lt_of_le hlt hB)).trans (hc j hj)⟩
theorem Rd.later (h : Rd w A n s xs) (hb : Below w.heap.size w w') : Rd w' A n s xs := h.below (Nat.le_refl _) hb
theorem Rd.alloc (h : Rd w A n s xs) (ob : Obj) : Rd (w.alloc ob) A n s xs := h.later ((Below.refl _ _).alloc (Nat.le_refl _) ob)
theorem Rd.drew (h : Rd w A n s xs) : Rd w.drew A n s xs := h
theorem Rd.drewN (h : Rd w A n s xs) (k : Nat) : Rd (w.drewN k) A n s xs := h
theorem Rd.grown {r : Option Nat} (h : Rd w A n s xs) (hg : w.grownBy w' r) (hne : ∀ b o, A = some ⟨b, o, none⟩ → r ≠ some b) : Rd w' A n s xs := by
  refine ⟨h.1, fun hn => ?_⟩
  obtain ⟨b, o, rfl, hlt, hc⟩ := h.2 hn
  exact ⟨b, o, rfl, Nat.lt_of_lt_of_le hlt hg.size, fun j hj => (hg.cell_far ⟨b, o + j, none⟩ hlt (Ne.symm (hne b o rfl))).trans (hc j hj)⟩
theorem Rd.of_own {base e : Nat} {c : Nat} (h : w.ownsRow base e s (.slice A n c) n xs) : Rd w A n s xs := by
  refine ⟨h.1, fun hn => ?_⟩
  obtain ⟨g, cap, hv, hb, hlt⟩ := h.form hn
  injection hv with h1 _ h3
  subst h1; subst h3
  exact ⟨g, 0, rfl, hlt, fun j hj => by simpa using h.cellAt j hj⟩
theorem Rd.cell {k j : Nat} (h : Rd w A n s xs) (hk : k < n) (hj : j < s) : ∃ b o, A = some ⟨b, o, none⟩ ∧ b < w.heap.size ∧ w.cell? ⟨b, o + k * s + j, none⟩ = xs[k * s + j]? := by
  obtain ⟨b, o, rfl, hlt, hc⟩ := h.2 (by omega)
  have hm : k * s + j < n * s := by
    have : (k + 1) * s ≤ n * s := Nat.mul_le_mul_right s hk
    rw [Nat.succ_mul] at this
    omega
  exact ⟨b, o, rfl, hlt, by rw [Nat.add_assoc]; exact hc _ hm⟩
end

/-- the cells of a list of elements of which each has s -/
theorem flat_get {α : Type} {f : α → List Value} {s : Nat} (hf : ∀ a, (f a).length = s) (l : List α) (k j : Nat) (hj : j < s) : (l.flatMap f)[k * s + j]? = (l[k]?).bind fun a => (f a)[j]? := by
  induction l generalizing k with
  | nil => simp
  | cons a l ih =>
    cases k with
    | zero => simp only [List.flatMap_cons, Nat.zero_mul, Nat.zero_add, List.getElem?_cons_zero, Option.bind_some]; rw [List.getElem?_append_left (by rw [hf]; exact hj)]
    | succ k =>
      rw [List.flatMap_cons, List.getElem?_append_right (by rw [hf, Nat.succ_mul]; omega), hf, show (k + 1) * s + j - s = k * s + j by rw [Nat.succ_mul]; omega, ih k]
      simp
theorem flat_length {α : Type} {f : α → List Value} {s : Nat} (hf : ∀ a, (f a).length = s) (l : List α) : (l.flatMap f).length = l.length * s := by
  induction l with
  | nil => simp
  | cons a l ih => simp [hf, ih, Nat.succ_mul, Nat.add_comm]

/-- a slice of integers of one kind -/
def ints (k : IntKind) (zs : List Int) : List Value := zs.map (.int k)
/-- a slice of words -/
def wds (l : List Nat) : List Value := l.map fun (x : Nat) => Value.int .u32 (x : Int)
/-- structs of two, three, four integers -/
def ps2 (k₁ k₂ : IntKind) (l : List (Int × Int)) : List Value := l.flatMap fun c => [.int k₁ c.1, .int k₂ c.2]
def ps3 (k₁ k₂ k₃ : IntKind) (l : List (Int × Int × Int)) : List Value := l.flatMap fun c => [.int k₁ c.1, .int k₂ c.2.1, .int k₃ c.2.2]
theorem ints_get {k : IntKind} {zs : List Int} {j : Nat} (h : j < zs.length) : (ints k zs)[j]? = some (.int k (zs.getD j 0)) := by simp [ints, List.getD, h]
theorem wds_get {l : List Nat} {j : Nat} (h : j < l.length) : (wds l)[j]? = some (.int .u32 ((l.getD j 0 : Nat) : Int)) := by simp [wds, List.getD, h]
theorem ps2_get {k₁ k₂ : IntKind} {l : List (Int × Int)} {j : Nat} (h : j < l.length) : (ps2 k₁ k₂ l)[j * 2 + 0]? = some (.int k₁ (l.getD j (0, 0)).1) ∧ (ps2 k₁ k₂ l)[j * 2 + 1]? = some (.int k₂ (l.getD j (0, 0)).2) := by
  constructor
  · rw [ps2, flat_get (s := 2) (fun _ => rfl) l j 0 (by omega)]; simp [List.getD, h]
  · rw [ps2, flat_get (s := 2) (fun _ => rfl) l j 1 (by omega)]; simp [List.getD, h]
theorem ps3_get {k₁ k₂ k₃ : IntKind} {l : List (Int × Int × Int)} {j : Nat} (h : j < l.length) : (ps3 k₁ k₂ k₃ l)[j * 3 + 0]? = some (.int k₁ (l.getD j (0, 0, 0)).1) ∧ (ps3 k₁ k₂ k₃ l)[j * 3 + 1]? = some (.int k₂ (l.getD j (0, 0, 0)).2.1) ∧ (ps3 k₁ k₂ k₃ l)[j * 3 + 2]? = some (.int k₃ (l.getD j (0, 0, 0)).2.2) := by
  refine ⟨?_, ?_, ?_⟩
  · rw [ps3, flat_get (s := 3) (fun _ => rfl) l j 0 (by omega)]; simp [List.getD, h]
  · rw [ps3, flat_get (s := 3) (fun _ => rfl) l j 1 (by omega)]; simp [List.getD, h]
  · rw [ps3, flat_get (s := 3) (fun _ => rfl) l j 2 (by omega)]; simp [List.getD, h]
theorem ints_length {k : IntKind} {zs : List Int} : (ints k zs).length = zs.length := by simp [ints]
theorem wds_length {l : List Nat} : (wds l).length = l.length := by simp [wds]
theorem ps2_length {k₁ k₂ : IntKind} {l : List (Int × Int)} : (ps2 k₁ k₂ l).length = l.length * 2 := flat_length (s := 2) (fun _ => rfl) l
theorem ps3_length {k₁ k₂ k₃ : IntKind} {l : List (Int × Int × Int)} : (ps3 k₁ k₂ k₃ l).length = l.length * 3 := flat_length (s := 3) (fun _ => rfl) l

section
variable {w : World} {A : Option Addr} {n : Nat}
theorem Rd.int {k : IntKind} {zs : List Int} (h : Rd w A n 1 (ints k zs)) {j : Nat} (hj : j < n) : ∃ b o, A = some ⟨b, o, none⟩ ∧ b < w.heap.size ∧ w.cell? ⟨b, o + j, none⟩ = some (.int k (zs.getD j 0)) := by
  obtain ⟨b, o, rfl, hlt, hc⟩ := h.cell (j := 0) hj (by omega)
  have hl : zs.length = n := by simpa [ints] using h.1
  exact ⟨b, o, rfl, hlt, by simpa [ints_get (k := k) (zs := zs) (j := j) (by omega)] using hc⟩
theorem Rd.wd {l : List Nat} (h : Rd w A n 1 (wds l)) {j : Nat} (hj : j < n) : ∃ b o, A = some ⟨b, o, none⟩ ∧ b < w.heap.size ∧ w.cell? ⟨b, o + j, none⟩ = some (.int .u32 ((l.getD j 0 : Nat) : Int)) := by
  obtain ⟨b, o, rfl, hlt, hc⟩ := h.cell (j := 0) hj (by omega)
  have hl : l.length = n := by simpa [wds] using h.1
  exact ⟨b, o, rfl, hlt, by simpa [wds_get (l := l) (j := j) (by omega)] using hc⟩
theorem Rd.pair {k₁ k₂ : IntKind} {l : List (Int × Int)} (h : Rd w A n 2 (ps2 k₁ k₂ l)) {j : Nat} (hj : j < n) : ∃ b o, A = some ⟨b, o, none⟩ ∧ b < w.heap.size ∧ w.cell? ⟨b, o + j * 2, none⟩ = some (.int k₁ (l.getD j (0, 0)).1) ∧ w.cell? ⟨b, o + j * 2 + 1, none⟩ = some (.int k₂ (l.getD j (0, 0)).2) := by
  have hl : l.length = n := by have := h.1; rw [ps2_length] at this; omega
  have hg := ps2_get (k₁ := k₁) (k₂ := k₂) (l := l) (j := j) (by omega)
  obtain ⟨b, o, rfl, hlt, hc⟩ := h.2 (by omega)
  exact ⟨b, o, rfl, hlt, by rw [← hg.1]; exact hc (j * 2) (by omega), by rw [← hg.2, Nat.add_assoc]; exact hc (j * 2 + 1) (by omega)⟩
theorem Rd.triple {k₁ k₂ k₃ : IntKind} {l : List (Int × Int × Int)} (h : Rd w A n 3 (ps3 k₁ k₂ k₃ l)) {j : Nat} (hj : j < n) : ∃ b o, A = some ⟨b, o, none⟩ ∧ b < w.heap.size ∧ w.cell? ⟨b, o + j * 3, none⟩ = some (.int k₁ (l.getD j (0, 0, 0)).1) ∧ w.cell? ⟨b, o + j * 3 + 1, none⟩ = some (.int k₂ (l.getD j (0, 0, 0)).2.1) ∧ w.cell? ⟨b, o + j * 3 + 2, none⟩ = some (.int k₃ (l.getD j (0, 0, 0)).2.2) := by
  have hl : l.length = n := by have := h.1; rw [ps3_length] at this; omega
  have hg := ps3_get (k₁ := k₁) (k₂ := k₂) (k₃ := k₃) (l := l) (j := j) (by omega)
  obtain ⟨b, o, rfl, hlt, hc⟩ := h.2 (by omega)
  refine ⟨b, o, rfl, hlt, by rw [← hg.1]; exact hc (j * 3) (by omega), by rw [← hg.2.1, Nat.add_assoc]; exact hc (j * 3 + 1) (by omega), by rw [← hg.2.2, Nat.add_assoc]; exact hc (j * 3 + 2) (by omega)⟩
end

/- lists -/
theorem take_succ_getD' {α : Type} (l : List α) (d : α) (k : Nat) (h : k < l.length) : l.take (k + 1) = l.take k ++ [l.getD k d] := by
  rw [List.take_succ_eq_append_getElem h]; simp [List.getD, h]
theorem any_take_succ' {α : Type} (p : α → Bool) (d : α) (l : List α) (k : Nat) (hk : k < l.length) (h : (l.take k).any p = false) (h' : p (l.getD k d) = false) : (l.take (k + 1)).any p = false := by
  rw [take_succ_getD' l d k hk, List.any_append, h]; simpa using h'
theorem any_of_getD' {α : Type} (p : α → Bool) (d : α) (l : List α) (k : Nat) (hk : k < l.length) (h' : p (l.getD k d) = true) : l.any p = true := by
  refine List.any_eq_true.2 ⟨l[k], List.getElem_mem _, ?_⟩
  simpa [List.getD, hk] using h'
theorem all_take_succ' {α : Type} (p : α → Bool) (d : α) (l : List α) (k : Nat) (hk : k < l.length) (h : (l.take k).all p = true) (h' : p (l.getD k d) = true) : (l.take (k + 1)).all p = true := by
  rw [take_succ_getD' l d k hk, List.all_append, h]; simpa using h'
theorem all_of_getD' {α : Type} (p : α → Bool) (d : α) (l : List α) (k : Nat) (hk : k < l.length) (h' : p (l.getD k d) = false) : l.all p = false := by
  refine List.all_eq_false.2 ⟨l[k], List.getElem_mem _, ?_⟩
  simpa [List.getD, hk] using h'

/- words -/
theorem two_pow_u32 (i : Nat) (hi : i < 32) : (2 : Int) ^ i % 4294967296 = ((2 ^ i : Nat) : Int) := by
  have h : 2 ^ i < 2 ^ 32 := Nat.pow_lt_pow_right (by omega) hi
  have h2 : ((2 ^ i : Nat) : Int) = (2 : Int) ^ i := by simp
  rw [← h2, show (4294967296 : Int) = ((4294967296 : Nat) : Int) from rfl, ← Int.natCast_emod, Nat.mod_eq_of_lt (by simpa using h)]
theorem bit_core (x i : Nat) (hx : x < 4294967296) (hi : i < 32) : (bits .and .u32 (x : Int) ((2 : Int) ^ i % 4294967296) != 0) = x.testBit i := by
  have h : 2 ^ i < 2 ^ 32 := Nat.pow_lt_pow_right (by omega) hi
  rw [two_pow_u32 i hi, u32_and_nat x (2 ^ i) hx (by simpa using h), nat_bit]
  have hp : 2 ^ i ≠ 0 := by simp
  rw [Nat.testBit_eq_decide_div_mod_eq]
  rcases Nat.mod_two_eq_zero_or_one (x / 2 ^ i) with h | h
  · simp [h]
  · rw [h, Nat.one_mul]
    simp only [decide_true]
    rw [bne_iff_ne]
    exact fun hh => hp (by exact_mod_cast hh)

/- append onto a row of the call's own, its source nil or not -/
section
variable {P : Program} (w : World)
theorem run_append_of_nil (base : Nat) (t ty e : TypeId) (i : TypeInfo) (size : Nat) (ht : P.underlying t = some (.slice e)) (hi : P.info? e = some i)
    (v : Value) (n : Nat) (xs : List Value) (hown : w.ownsRow base e size v n xs) (c : Nat) : (Builtin.append_ #[t, t] ty #[v, .slice none 0 c]).run P w = .ok v w := by
  rcases hown.2 with ⟨rfl, rfl⟩ | ⟨g, cap, cur, rfl, _, _, hnc, _⟩
  · simp [Builtin.append_, run_underlying ht, sizeOf, typeInfo, hi, Builtin.lenOf, Builtin.firstCells]
  · simp [Builtin.append_, run_underlying ht, sizeOf, typeInfo, hi, Builtin.lenOf, Builtin.firstCells, hnc, storeCells]
theorem run_append_any (base : Nat) (t ty e : TypeId) (i : TypeInfo) (z : Value) (size bytes : Nat) (ht : P.underlying t = some (.slice e)) (hi : P.info? e = some i) (hz : i.zero = some z)
    (hsize : i.size = size) (hby : i.bytes = bytes) (hzs : z.cells.size = size) (hsz : 0 < size)
    (v : Value) (n : Nat) (xs : List Value) (hown : w.ownsRow base e size v n xs)
    (A : Option Addr) (m c : Nat) (news : List Value) (hr : Rd w A m size news) (h1 : ∀ u ∈ news, u.oneCell' = true)
    (h63 : n + m ≤ maxLen) (hbytes : (n + m) * bytes ≤ 140737488355328) (hbase : base ≤ w.heap.size) :
    ∃ v' w', (Builtin.append_ #[t, t] ty #[v, .slice A m c]).run P w = .ok v' w' ∧ w'.ownsRow base e size v' (n + m) (xs ++ news) ∧ w.grownBy w' v.ownBlock ∧
      (v'.ownBlock = v.ownBlock ∨ v'.ownBlock = some w.heap.size) := by
  rcases A with _ | ad
  · have hm : m = 0 := by
      rcases Nat.eq_zero_or_pos m with h0 | h0
      · exact h0
      · obtain ⟨b, o, h, _⟩ := hr.2 h0
        cases h
    subst hm
    have hn : news = [] := List.eq_nil_of_length_eq_zero (by simpa using hr.1)
    subst hn
    exact ⟨v, w, run_append_of_nil w base t ty e i size ht hi v n xs hown c, by simpa using hown, World.grownBy.refl w _, .inl rfl⟩
  · have hcells : ∀ j u, news[j]? = some u → w.cell? (ad.add j) = some u := by
      intro j u hu
      rcases Nat.eq_zero_or_pos m with h0 | h0
      · subst h0
        have hn : news = [] := List.eq_nil_of_length_eq_zero (by simpa using hr.1)
        subst hn
        simp at hu
      · obtain ⟨b, o, h, _, hc⟩ := hr.2 h0
        injection h with h
        subst h
        have hj : j < m * size := by rw [← hr.1]; exact (List.getElem?_eq_some_iff.1 hu).1
        rw [show (⟨b, o, none⟩ : Addr).add j = ⟨b, o + j, none⟩ by unfold Addr.add; by_cases h : j = 0 <;> simp [h]]
        exact (hc j hj).trans hu
    obtain ⟨v', w', hrun, h2, h3, _, h5⟩ := run_append_own_at (P := P) w base t ty e i z size bytes ht hi hz hsize hby hzs hsz v n xs hown ad m c news hr.1 hcells h1 h63 hbytes hbase
    exact ⟨v', w', hrun, h2, h3, h5⟩
theorem wp_append_any {o : Oper} {a : Act} {K : Act → World → Prop} {Q : Exit → Act → World → Prop} (s x : Operand) (t : TypeId)
    (ho : o.op = .call { callee := .builtin .append, args := #[s, x], argTypes := #[t, t] })
    (base : Nat) (e : TypeId) (i : TypeInfo) (z : Value) (size bytes : Nat) (ht : P.underlying t = some (.slice e)) (hi : P.info? e = some i) (hz : i.zero = some z)
    (hsize : i.size = size) (hby : i.bytes = bytes) (hzs : z.cells.size = size) (hsz : 0 < size)
    (v : Value) (n : Nat) (xs : List Value) (hs : a.eval s = v) (hown : w.ownsRow base e size v n xs)
    (A : Option Addr) (m c : Nat) (news : List Value) (hx : a.eval x = .slice A m c) (hr : Rd w A m size news) (h1 : ∀ u ∈ news, u.oneCell' = true)
    (h63 : n + m ≤ maxLen) (hbytes : (n + m) * bytes ≤ 140737488355328) (hbase : base ≤ w.heap.size)
    (h : ∀ v' w', w'.ownsRow base e size v' (n + m) (xs ++ news) → w.grownBy w' v.ownBlock → (v'.ownBlock = v.ownBlock ∨ v'.ownBlock = some w.heap.size) → K (a.put o.dst v') w') : o.wp P a w K Q := by
  obtain ⟨v', w', hrun, h2, h3, h4⟩ := run_append_any (P := P) w base t o.type e i z size bytes ht hi hz hsize hby hzs hsz v n xs hown A m c news hr h1 h63 hbytes hbase
  unfold Oper.wp execOp
  simp only [ho, resolve, invoke, builtin, Sem.run_bind, Sem.run_pure, Result.andThen_ok, List.map_toArray, List.map_cons, List.map_nil, hs, hx, hrun]
  exact h v' w' h2 h3 h4
theorem wpList_append_any {ops : Array Oper} {rest : List Oper} {o : Oper} {a : Act} {Q : Exit → Act → World → Prop} (hgd : o.guard = none) (s x : Operand) (t : TypeId)
    (ho : o.op = .call { callee := .builtin .append, args := #[s, x], argTypes := #[t, t] })
    (base : Nat) (e : TypeId) (i : TypeInfo) (z : Value) (size bytes : Nat) (ht : P.underlying t = some (.slice e)) (hi : P.info? e = some i) (hz : i.zero = some z)
    (hsize : i.size = size) (hby : i.bytes = bytes) (hzs : z.cells.size = size) (hsz : 0 < size)
    (v : Value) (n : Nat) (xs : List Value) (hs : a.eval s = v) (hown : w.ownsRow base e size v n xs)
    (A : Option Addr) (m c : Nat) (news : List Value) (hx : a.eval x = .slice A m c) (hr : Rd w A m size news) (h1 : ∀ u ∈ news, u.oneCell' = true)
    (h63 : n + m ≤ maxLen) (hbytes : (n + m) * bytes ≤ 140737488355328) (hbase : base ≤ w.heap.size)
    (h : ∀ v' w', w'.ownsRow base e size v' (n + m) (xs ++ news) → w.grownBy w' v.ownBlock → (v'.ownBlock = v.ownBlock ∨ v'.ownBlock = some w.heap.size) → wpList P ops Q rest (a.put o.dst v') w') : wpList P ops Q (o :: rest) a w :=
  wpList_plain hgd fun _ hK => wp_append_any w s x t ho base e i z size bytes ht hi hz hsize hby hzs hsz v n xs hs hown A m c news hx hr h1 h63 hbytes hbase fun v' w' h2 h3 h4 => hK _ _ (h v' w' h2 h3 h4)
theorem step_append_any {ops : Array Oper} {o : Oper} {a : Act} {K : Act → World → Prop} {Q : Exit → Act → World → Prop} {E : Prop} (hgd : o.guard = none) (s x : Operand) (t : TypeId)
    (ho : o.op = .call { callee := .builtin .append, args := #[s, x], argTypes := #[t, t] })
    (base : Nat) (e : TypeId) (i : TypeInfo) (z : Value) (size bytes : Nat) (ht : P.underlying t = some (.slice e)) (hi : P.info? e = some i) (hz : i.zero = some z)
    (hsize : i.size = size) (hby : i.bytes = bytes) (hzs : z.cells.size = size) (hsz : 0 < size)
    (v : Value) (n : Nat) (xs : List Value) (hs : a.eval s = v) (hown : w.ownsRow base e size v n xs)
    (A : Option Addr) (m c : Nat) (news : List Value) (hx : a.eval x = .slice A m c) (hr : Rd w A m size news) (h1 : ∀ u ∈ news, u.oneCell' = true)
    (h63 : n + m ≤ maxLen) (hbytes : (n + m) * bytes ≤ 140737488355328) (hbase : base ≤ w.heap.size)
    (h : ∀ v' w', w'.ownsRow base e size v' (n + m) (xs ++ news) → w.grownBy w' v.ownBlock → (v'.ownBlock = v.ownBlock ∨ v'.ownBlock = some w.heap.size) → K (a.put o.dst v') w') :
    if Region.wanted o (yielded ops a.tmps) = true then Oper.wp P o a w K Q else E := by
  have hw : Region.wanted o (yielded ops a.tmps) = true := by simp [Region.wanted, hgd]
  rw [if_pos hw]
  exact wp_append_any w s x t ho base e i z size bytes ht hi hz hsize hby hzs hsz v n xs hs hown A m c news hx hr h1 h63 hbytes hbase h

/-- what is to be known of a slice type t over elements e -/
structure TI (P : Program) (t e : TypeId) (z : Value) (size bytes : Nat) : Prop where
  ht : P.underlying t = some (.slice e)
  hi : ∃ i, P.info? e = some i ∧ i.zero = some z ∧ i.size = size ∧ i.bytes = bytes
  hzs : z.cells.size = size
  hsz : 0 < size
theorem TI.mk' {t e : TypeId} {z : Value} {size bytes : Nat} (ht : P.underlying t = some (.slice e)) (h : (P.info? e).map (fun i => (i.zero, i.size, i.bytes)) = some (some z, size, bytes)) (hzs : z.cells.size = size) (hsz : 0 < size) : TI P t e z size bytes := by
  obtain ⟨i0, hi0, hz0, hz1, hz2⟩ := info_parts h
  exact ⟨ht, ⟨i0, hi0, hz0, hz1, hz2⟩, hzs, hsz⟩
theorem wpList_mk1 {ops : Array Oper} {rest : List Oper} {o : Oper} {a : Act} {Q : Exit → Act → World → Prop} {l c : Operand} {t e : TypeId} {z : Value} {bytes : Nat} (T : TI P t e z 1 bytes) (base : Nat) (n : Nat)
    (hbytes : bytes * n ≤ 281474976710656) (h63 : n ≤ 9223372036854775807) (hbase : base ≤ w.heap.size) (hz1 : z.cells = #[z])
    (ho : o.op = Op.makeSlice t l c) (hgd : o.guard = none) {kl kc : IntKind} {L C : Int} (hl : a.eval l = .int kl L) (hc : a.eval c = .int kc C) (hL : L = (n : Int)) (hC : C = (n : Int))
    (h : ∀ w', w'.ownsRow base e 1 (.slice (some ⟨w.heap.size, 0, none⟩) n n) n (List.replicate n z) → w.grownBy w' none → wpList P ops Q rest (a.put o.dst (.slice (some ⟨w.heap.size, 0, none⟩) n n)) w') : wpList P ops Q (o :: rest) a w := by
  obtain ⟨i, hi, hz, hsize, hby⟩ := T.hi
  refine wpList_make_full w hgd l c t ho base e i z 1 T.ht hi hz hsize kl kc L C n hl hc hL hC (by rw [hby]; exact hbytes) h63 hbase fun w' h1 h2 => h w' ?_ h2
  rw [hz1, Nat.mul_one, toList_madeCells_one] at h1
  exact h1
theorem wpList_app {ops : Array Oper} {rest : List Oper} {o : Oper} {a : Act} {Q : Exit → Act → World → Prop} {s x : Operand} {t e : TypeId} {z : Value} {size bytes : Nat} (T : TI P t e z size bytes)
    {base : Nat} {v : Value} {n : Nat} {xs : List Value} (hown : w.ownsRow base e size v n xs) {A : Option Addr} {m c : Nat} {news : List Value} (hr : Rd w A m size news) (h1 : ∀ u ∈ news, u.oneCell' = true)
    (hbytes : (n + m) * bytes ≤ 140737488355328) (h63 : n + m ≤ 9223372036854775807) (hbase : base ≤ w.heap.size)
    (ho : o.op = .call { callee := .builtin .append, args := #[s, x], argTypes := #[t, t] }) (hgd : o.guard = none) (hs : a.eval s = v) (hx : a.eval x = .slice A m c)
    (h : ∀ v' w', w'.ownsRow base e size v' (n + m) (xs ++ news) → w.grownBy w' v.ownBlock → (v'.ownBlock = v.ownBlock ∨ v'.ownBlock = some w.heap.size) → wpList P ops Q rest (a.put o.dst v') w') : wpList P ops Q (o :: rest) a w := by
  obtain ⟨i, hi, hz, hsize, hby⟩ := T.hi
  exact wpList_append_any w hgd s x t ho base e i z size bytes T.ht hi hz hsize hby T.hzs T.hsz v n xs hs hown A m c news hx hr h1 h63 hbytes hbase h
theorem step_app {ops : Array Oper} {o : Oper} {a : Act} {K : Act → World → Prop} {Q : Exit → Act → World → Prop} {E : Prop} {s x : Operand} {t e : TypeId} {z : Value} {size bytes : Nat} (T : TI P t e z size bytes)
    {base : Nat} {v : Value} {n : Nat} {xs : List Value} (hown : w.ownsRow base e size v n xs) {A : Option Addr} {m c : Nat} {news : List Value} (hr : Rd w A m size news) (h1 : ∀ u ∈ news, u.oneCell' = true)
    (hbytes : (n + m) * bytes ≤ 140737488355328) (h63 : n + m ≤ 9223372036854775807) (hbase : base ≤ w.heap.size)
    (ho : o.op = .call { callee := .builtin .append, args := #[s, x], argTypes := #[t, t] }) (hgd : o.guard = none) (hs : a.eval s = v) (hx : a.eval x = .slice A m c)
    (h : ∀ v' w', w'.ownsRow base e size v' (n + m) (xs ++ news) → w.grownBy w' v.ownBlock → (v'.ownBlock = v.ownBlock ∨ v'.ownBlock = some w.heap.size) → K (a.put o.dst v') w') :
    if Region.wanted o (yielded ops a.tmps) = true then Oper.wp P o a w K Q else E := by
  obtain ⟨i, hi, hz, hsize, hby⟩ := T.hi
  exact step_append_any w hgd s x t ho base e i z size bytes T.ht hi hz hsize hby T.hzs T.hsz v n xs hs hown A m c news hx hr h1 h63 hbytes hbase h
end
theorem grown_cell {w w' : World} {r : Option Nat} (hg : w.grownBy w' r) {b o : Nat} {u : Value} (hlt : b < w.heap.size) (hne : r ≠ some b) (h : w.cell? ⟨b, o, none⟩ = some u) : w'.cell? ⟨b, o, none⟩ = some u :=
  (hg.cell_far ⟨b, o, none⟩ hlt (Ne.symm hne)).trans h
theorem alloc_cell {w : World} {b o : Nat} {u : Value} (hlt : b < w.heap.size) (h : w.cell? ⟨b, o, none⟩ = some u) (ob : Obj) : (w.alloc ob).cell? ⟨b, o, none⟩ = some u :=
  (World.cell?_alloc_lt w ob ⟨b, o, none⟩ hlt).trans h
theorem below_cell {B : Nat} {w w' : World} (hb : Below B w w') {b o : Nat} {u : Value} (hlt : b < B) (h : w.cell? ⟨b, o, none⟩ = some u) : w'.cell? ⟨b, o, none⟩ = some u :=
  (hb.cell (p := ⟨b, o, none⟩) hlt).trans h
theorem own_slice {w : World} {b e s n : Nat} {v : Value} {xs : List Value} (h : w.ownsRow b e s v n xs) : ∃ A c, v = .slice A n c := by
  rcases h.2 with ⟨rfl, rfl⟩ | ⟨g, cap, cur, rfl, _⟩
  · exact ⟨none, 0, rfl⟩
  · exact ⟨_, cap, rfl⟩
theorem own_base {w : World} {b b' e s n : Nat} {v : Value} {xs : List Value} (hb : b' ≤ b) (h : w.ownsRow b e s v n xs) : w.ownsRow b' e s v n xs := by
  refine ⟨h.1, ?_⟩
  rcases h.2 with h | ⟨g, cap, cur, h1, h2, h3⟩
  · exact .inl h
  · exact .inr ⟨g, cap, cur, h1, Nat.le_trans hb h2, h3⟩
theorem quiet_left {P : Program} {f : FuncId} {args : Array Value} {w : World} {n : Nat} {v : Value} (h : Calls P f args (w.drewN n) fun e w' => e = .returned v ∧ w.drewN n = w') : Calls P f args (w.drewN n) fun e w' => e = .returned v ∧ ∃ m, w' = w.drewN m :=
  h.mono fun _ _ ⟨he, hm⟩ => ⟨he, n, hm.symm⟩
theorem quiet_add_left {P : Program} {f : FuncId} {args : Array Value} {w : World} {a n : Nat} {v : Value} (h : Calls P f args (w.drewN (a + n)) fun e w' => e = .returned v ∧ w.drewN (a + n) = w') :
    Calls P f args (w.drewN (a + n)) fun e w'' => e = .returned v ∧ ∃ m, w'' = w.drewN (a + m) :=
  h.mono fun _ _ ⟨he, hm⟩ => ⟨he, n, hm.symm⟩
theorem rd_lit (w : World) (cs : List Value) (t : TypeId) (n s : Nat) (h : cs.length = n * s) : Rd (w.alloc (Obj.cells cs.toArray t)) (some ⟨w.heap.size, 0, none⟩) n s cs := by
  refine ⟨h, fun _ => ⟨_, 0, rfl, by simp, fun j hj => ?_⟩⟩
  rw [World.cell?_alloc_at _ _ _ _ rfl]
  simp
theorem rd_new1 (w : World) (u : Value) (t : TypeId) : Rd (w.alloc (Obj.cells #[u] t)) (some ⟨w.heap.size, 0, none⟩) 1 1 [u] := by
  refine ⟨rfl, fun _ => ⟨_, 0, rfl, by simp, fun j hj => ?_⟩⟩
  obtain rfl : j = 0 := by omega
  rw [World.cell?_alloc_at _ _ _ _ rfl]; rfl
theorem rd_new2 (w : World) (u v : Value) (t : TypeId) : Rd (w.alloc (Obj.cells #[u, v] t)) (some ⟨w.heap.size, 0, none⟩) 1 2 [u, v] := by
  refine ⟨rfl, fun _ => ⟨_, 0, rfl, by simp, fun j hj => ?_⟩⟩
  have : j = 0 ∨ j = 1 := by omega
  rcases this with rfl | rfl
  · rw [World.cell?_alloc_at _ _ _ _ rfl]; rfl
  · rw [World.cell?_alloc_at _ _ _ _ rfl]; rfl
theorem rd_new3 (w : World) (u v x : Value) (t : TypeId) : Rd (w.alloc (Obj.cells #[u, v, x] t)) (some ⟨w.heap.size, 0, none⟩) 1 3 [u, v, x] := by
  refine ⟨rfl, fun _ => ⟨_, 0, rfl, by simp, fun j hj => ?_⟩⟩
  have : j = 0 ∨ j = 1 ∨ j = 2 := by omega
  rcases this with rfl | rfl | rfl
  · rw [World.cell?_alloc_at _ _ _ _ rfl]; rfl
  · rw [World.cell?_alloc_at _ _ _ _ rfl]; rfl
  · rw [World.cell?_alloc_at _ _ _ _ rfl]; rfl
theorem ps2_one {k₁ k₂ : IntKind} {l : List (Int × Int)} : ∀ u ∈ ps2 k₁ k₂ l, u.oneCell' = true := by
  intro u hu
  simp only [ps2, List.mem_flatMap] at hu
  obtain ⟨c, _, hc⟩ := hu
  simp at hc
  rcases hc with rfl | rfl <;> rfl
theorem ps3_one {k₁ k₂ k₃ : IntKind} {l : List (Int × Int × Int)} : ∀ u ∈ ps3 k₁ k₂ k₃ l, u.oneCell' = true := by
  intro u hu
  simp only [ps3, List.mem_flatMap] at hu
  obtain ⟨c, _, hc⟩ := hu
  simp at hc
  rcases hc with rfl | rfl | rfl <;> rfl
theorem ints_one {k : IntKind} {l : List Int} : ∀ u ∈ ints k l, u.oneCell' = true := by
  intro u hu
  simp only [ints, List.mem_map] at hu
  obtain ⟨c, _, rfl⟩ := hu
  rfl
theorem wds_one {l : List Nat} : ∀ u ∈ wds l, u.oneCell' = true := by
  intro u hu
  simp only [wds, List.mem_map] at hu
  obtain ⟨c, _, rfl⟩ := hu
  rfl
end Go.Proofs.YtnkmfnnkophccaaDoor
