/- one by one, the least worker: what is told is told once only. -/
import Derived.Test.YticffbcbfgboeaaPlaceC
namespace Go.Proofs.Yticffbcbfgboeaa
open Go.RowKit Go.Shelf

def Bad (d : PD) (i : Nat) (room : Nat → Int) (t : Int) (j : Nat) : Prop := d.may i j = true → room j ≠ 0 → ∃ b, MaxPl (d.from (i + 1) (subR room j)) b ∧ 1 + b ≠ t
inductive Gr (d : PD) : Nat → (Nat → Int) → Int → List Int → Prop
  | start {K : Int} : MaxPl d K → Gr d 0 d.room K []
  | left {i : Nat} {room : Nat → Int} {t : Int} {l : List Int} : Gr d i room t l → (∀ j, j < d.nw → Bad d i room t j) → Gr d (i + 1) room t (l ++ [-1])
  | take {i j : Nat} {room : Nat → Int} {t b : Int} {l : List Int} : Gr d i room t l → (∀ j', j' < j → Bad d i room t j') → j < d.nw → d.may i j = true → room j ≠ 0 → MaxPl (d.from (i + 1) (subR room j)) b → 1 + b = t → Gr d (i + 1) (subR room j) b (l ++ [(j : Int)])
theorem MaxPl.unique {d : PD} {K K' : Int} (h : MaxPl d K) (h' : MaxPl d K') : K = K' := by
  obtain ⟨⟨P, hP, hc⟩, hu⟩ := h
  obtain ⟨⟨P', hP', hc'⟩, hu'⟩ := h'
  have := hu P' hP'
  have := hu' P hP
  omega
theorem Bad.not {d : PD} {i j : Nat} {room : Nat → Int} {t b : Int} (h : Bad d i room t j) (hm : d.may i j = true) (hr : room j ≠ 0) (hb : MaxPl (d.from (i + 1) (subR room j)) b) (ht : 1 + b = t) : False := by
  obtain ⟨b', hb', hne⟩ := h hm hr
  exact hne (by rw [hb'.unique hb]; exact ht)
theorem Gr.unique {d : PD} {i : Nat} {room room' : Nat → Int} {t t' : Int} {l l' : List Int} (h : Gr d i room t l) (h' : Gr d i room' t' l') : room = room' ∧ t = t' ∧ l = l' := by
  induction h generalizing room' t' l' with
  | start hK =>
    cases h' with
    | start hK' => exact ⟨rfl, hK.unique hK', rfl⟩
  | left h hno ih =>
    cases h' with
    | left h' hno' =>
      obtain ⟨rfl, rfl, rfl⟩ := ih h'
      exact ⟨rfl, rfl, rfl⟩
    | take h' hno' hj hm hr hb ht =>
      obtain ⟨rfl, rfl, rfl⟩ := ih h'
      exact ((hno _ hj).not hm hr hb ht).elim
  | @take i j room t b l h hno hj hm hr hb ht ih =>
    cases h' with
    | left h' hno' =>
      obtain ⟨rfl, rfl, rfl⟩ := ih h'
      exact ((hno' _ hj).not hm hr hb ht).elim
    | @take _ j' _ _ _ _ h' hno' hj' hm' hr' hb' ht' =>
      obtain ⟨rfl, rfl, rfl⟩ := ih h'
      have e : j = j' := by
        rcases Nat.lt_trichotomy j j' with e | e | e
        · exact ((hno' _ e).not hm hr hb ht).elim
        · exact e
        · exact ((hno _ e).not hm' hr' hb' ht').elim
      subst e
      exact ⟨rfl, hb.unique hb', rfl⟩
theorem Gr.pgi {d : PD} {K : Int} (hK : MaxPl d K) (hr : ∀ j, j < d.nw → 0 ≤ d.room j) {i : Nat} {room : Nat → Int} {t : Int} {l : List Int} (h : Gr d i room t l) (hi : i ≤ d.nt) : PGI d K i room t l := by
  induction h with
  | start hK' => rw [hK'.unique hK]; exact .start hK hr
  | left h hno ih =>
    have := ih (by omega)
    exact this.left (leave' (by omega) this.mx fun j hj => hno j hj)
  | take h hno hj hm hr hb ht ih => exact (ih (by omega)).take hj hm hr hb ht
theorem cntJ_nonneg (l : List Int) (j i : Nat) : 0 ≤ cntJ l j i := sm_nonneg fun m _ => by (try dsimp only); split <;> omega
theorem PGI.room_bd {d : PD} {K t : Int} {i : Nat} {room : Nat → Int} {l : List Int} (h : PGI d K i room t l) {j : Nat} (hj : j < d.nw) : 0 ≤ room j ∧ room j ≤ d.room j := by
  have h1 := h.rm j hj
  have h2 := cntJ_nonneg l j i
  omega
theorem PGI.t_bd {d : PD} {K t : Int} {i : Nat} {room : Nat → Int} {l : List Int} (h : PGI d K i room t l) : 0 ≤ t ∧ t ≤ K := by
  have h1 := h.ct
  have h2 : 0 ≤ cntL l i := cntPl_nonneg _ _
  obtain ⟨⟨P, _, hc⟩, _⟩ := h.mx
  have := cntPl_nonneg (d.from i room).nt P
  omega
/-- the room at each, as it came -/
def rms (ws : List (Int × Int)) (j : Nat) : Int := (wat ws j).1
theorem pdm_from (ws : List (Int × Int)) (ts : List Nat) (R0 R : Nat → Int) (k : Nat) : PDm ws (ts.drop k) R = (PDm ws ts R0).from k R := by
  unfold PDm PD.from
  simp only [PD.mk.injEq, List.length_drop, and_true, true_and]
  funext i j
  simp [List.getD]
theorem pdm_self (ws : List (Int × Int)) (ts : List Nat) (R : Nat → Int) : PDm ws ts R = (PDm ws ts R).from 0 R := (from_zero _).symm
/- the rows of the call's own -/
structure MS (B C nw : Nat) (v7 v8 : Value) (room : Nat → Int) (l : List Int) (W : World) : Prop where
  ro : W.ownsRow B 3 1 v7 nw (row nw room)
  lo : W.ownsRow C 3 1 v8 l.length (ints .i64 l)
  lt : ∀ g, v7.ownBlock = some g → g < C
  hC : B ≤ C ∧ C ≤ W.heap.size
section
variable {B C nw : Nat} {v7 v8 : Value} {room : Nat → Int} {l : List Int} {W W' : World}
theorem own_later {b e s n : Nat} {v : Value} {xs : List Value} (h : W.ownsRow b e s v n xs) (hb : Below W.heap.size W W') : W'.ownsRow b e s v n xs :=
  h.kept (row := none) ⟨hb.os, hb.tape, hb.output, hb.size, fun j hj _ => hb.block j hj⟩ (by cases v.ownBlock with | none => exact .inl rfl | some g => exact .inr (by simp))
theorem MS.later (h : MS B C nw v7 v8 room l W) (hb : Below W.heap.size W W') : MS B C nw v7 v8 room l W' :=
  ⟨own_later h.ro hb, own_later h.lo hb, h.lt, h.hC.1, Nat.le_trans h.hC.2 hb.size⟩
theorem MS.alloc (h : MS B C nw v7 v8 room l W) (o : Obj) : MS B C nw v7 v8 room l (W.alloc o) := h.later ((Below.refl _ W).alloc (Nat.le_refl _) o)
theorem MS.app (h : MS B C nw v7 v8 room l W) {v' : Value} {x : Int} (hown : W'.ownsRow C 3 1 v' (l.length + 1) (ints .i64 l ++ [.int .i64 x])) (hg : W.grownBy W' v8.ownBlock) : MS B C nw v7 v' room (l ++ [x]) W' :=
  ⟨h.ro.kept hg (by
    rcases e : v7.ownBlock with _ | g
    · exact .inl rfl
    · refine .inr fun e2 => ?_
      have h1 := h.lt g e
      have := (h.lo.lt g e2.symm).1
      omega), by simpa [ints] using hown, h.lt, h.hC.1, Nat.le_trans h.hC.2 hg.size⟩
theorem MS.setR {g c : Nat} (h : MS B C nw (.slice (some ⟨g, 0, none⟩) nw c) v8 room l W) (j : Nat) (x : Int) : MS B C nw (.slice (some ⟨g, 0, none⟩) nw c) v8 (fun k => if k = j then x else room k) l (W.setCell ⟨g, j, none⟩ (.int .i64 x)) := by
  have hg := grown_setA W g j (.int .i64 x)
  refine ⟨?_, h.lo.kept hg ?_, h.lt, h.hC.1, Nat.le_trans h.hC.2 hg.size⟩
  · have := (h.ro.stored j (.int .i64 x)).1
    rwa [row_set] at this
  · refine .inr fun e => ?_
    have h1 := h.lt g rfl
    have := (h.lo.lt g e).1
    omega
theorem MS.setL {g c : Nat} (h : MS B C nw v7 (.slice (some ⟨g, 0, none⟩) (l.length + 1) c) room (l ++ [-1]) W) (x : Int) : MS B C nw v7 (.slice (some ⟨g, 0, none⟩) (l.length + 1) c) room (l ++ [x]) (W.setCell ⟨g, l.length, none⟩ (.int .i64 x)) := by
  have hg := grown_setA W g l.length (.int .i64 x)
  have hlo := h.lo
  rw [List.length_append, List.length_singleton] at hlo
  refine ⟨h.ro.kept hg ?_, ?_, h.lt, h.hC.1, Nat.le_trans h.hC.2 hg.size⟩
  · refine .inr fun e => ?_
    have h1 := h.lt g e
    have := (hlo.lt g rfl).1
    omega
  · have := (hlo.stored l.length (.int .i64 x)).1
    rw [List.length_append, List.length_singleton]
    simpa [ints] using this
theorem MS.rcell {g c : Nat} (h : MS B C nw (.slice (some ⟨g, 0, none⟩) nw c) v8 room l W) {j : Nat} (hj : j < nw) : W.cell? ⟨g, j, none⟩ = some (.int .i64 (room j)) := (h.ro.cellAt j (by omega)).trans (row_get hj)
end
theorem subR_at (room : Nat → Int) (j : Nat) : (fun k => if k = j then room j - 1 else room k) = subR room j := by
  funext k
  unfold subR
  split
  · rename_i e; rw [e]
  · rfl
theorem subR_back (room : Nat → Int) (j : Nat) : (fun k => if k = j then room j else subR room j k) = room := by
  funext k
  unfold subR
  split
  · rename_i e; rw [e]
  · rfl
end Go.Proofs.Yticffbcbfgboeaa
