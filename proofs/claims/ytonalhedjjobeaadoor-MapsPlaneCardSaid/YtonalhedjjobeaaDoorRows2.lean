/- Slices of slices of integers in memory. -/
import Derived.Test.YtonalhedjjobeaaDoorOpen
namespace Go.Proofs.YtonalhedjjobeaaDoor
open Go.RowKit Go.ChangeShapes Go.WideShapes Go.Deep Go.Joins

structure Rw where
  A : Option Addr
  len : Nat
  cap : Nat
  zs : List Int
instance : Inhabited Rw := ⟨⟨none, 0, 0, []⟩⟩
def rv (r : Rw) : Value := .slice r.A r.len r.cap
def RFit (w : World) (r : Rw) : Prop := Rd w r.A r.len 1 (ints .i64 r.zs) ∧ r.len ≤ maxLen ∧ r.len ≤ r.cap
def RdR (w : World) (A : Option Addr) (n : Nat) (l : List Rw) : Prop := l.length = n ∧ Rd w A n 1 (l.map rv) ∧ ∀ r ∈ l, RFit w r
def rat (l : List Rw) (k : Nat) : Rw := l.getD k default
section
variable {w w' : World} {A : Option Addr} {n : Nat} {l : List Rw}
theorem RFit.later {r : Rw} (h : RFit w r) (hb : Below w.heap.size w w') : RFit w' r := ⟨h.1.later hb, h.2⟩
theorem RFit.zl {r : Rw} (h : RFit w r) : r.zs.length = r.len := by simpa [ints] using h.1.1
theorem RdR.below {B : Nat} (h : RdR w A n l) (hB : w.heap.size ≤ B) (hb : Below B w w') : RdR w' A n l :=
  ⟨h.1, h.2.1.below hB hb, fun j hj => ⟨(h.2.2 j hj).1.below hB hb, (h.2.2 j hj).2⟩⟩
theorem RdR.later (h : RdR w A n l) (hb : Below w.heap.size w w') : RdR w' A n l := h.below (Nat.le_refl _) hb
theorem RdR.alloc (h : RdR w A n l) (o : Obj) : RdR (w.alloc o) A n l := h.later ((Below.refl _ _).alloc (Nat.le_refl _) o)
theorem RdR.drew (h : RdR w A n l) : RdR w.drew A n l := h
theorem rat_mem {k : Nat} (h : k < l.length) : rat l k ∈ l := by simp [rat, List.getD, h]
theorem RdR.at {k : Nat} (h : RdR w A n l) (hk : k < n) : ∃ b o, A = some ⟨b, o, none⟩ ∧ b < w.heap.size ∧ w.cell? ⟨b, o + k, none⟩ = some (.slice (rat l k).A (rat l k).len (rat l k).cap) ∧ RFit w (rat l k) := by
  obtain ⟨hl, hr, hf⟩ := h
  obtain ⟨b, o, rfl, hlt, hc⟩ := hr.cell (j := 0) hk (by omega)
  refine ⟨b, o, rfl, hlt, ?_, hf _ (rat_mem (by omega))⟩
  have hk' : k < l.length := by omega
  have hg : (l.map rv)[k]? = some (.slice (rat l k).A (rat l k).len (rat l k).cap) := by
    rw [List.getElem?_map]
    simp [rat, List.getD, hk', rv]
  simpa [hg] using hc
end
theorem tr_rows_of {H : Type} {enc : TypeId × Value → H} {P : Program} {w : World} {base : Nat} {spare : Nat → Bool} {held : Bool} {t r e : TypeId} {fuel : Nat} {v : Value} {x : DataW H × List MemPlace} (ht : P.underlying t = some (.slice r)) (hr : P.underlying r = some (.slice e)) (he : P.underlying e = some (.int .i64)) (hcr : P.cellsOf r = 1) (hc : P.cellsOf e = 1)
    (h : DataW.trod enc P w base spare held fuel t [v] = some x) :
    ∃ (A : Option Addr) (len cap : Nat) (l : List Rw), v = .slice A len cap ∧ len ≤ maxLen ∧ len ≤ cap ∧ RdR w A len l ∧ ∀ r ∈ l, ∀ z ∈ r.zs, (Lit.int .i64 z).wf = true := by
  rcases open_slice1 ht hcr h with ⟨hcs, rfl⟩ | ⟨a, len, cap, m, n, V, D, Pl, hcs, _, hl, hm, hmm, rfl, hi⟩
  · injection hcs with hcs _
    exact ⟨none, 0, 0, [], hcs, Nat.zero_le _, Nat.le_refl _, ⟨rfl, ⟨rfl, fun h => absurd h (by omega)⟩, by simp⟩, by simp⟩
  · injection hcs with hcs _
    have hlm : len ≤ m := by rw [hmm]; split <;> omega
    obtain ⟨l, hll, hR⟩ := exists_list (default : Rw) len (fun i c => (RFit w c ∧ ∀ z ∈ c.zs, (Lit.int .i64 z).wf = true) ∧ w.cell? (a.add i) = some (rv c)) (by
      intro i hil
      obtain ⟨h1, h2⟩ := hi i (by omega)
      obtain ⟨A', l', c', zs, hv, m1, m2, m3, m4, _⟩ := tr_ints (bytes := P.bytesOf e) hr he hc rfl h2
      exact ⟨⟨A', l', c', zs⟩, ⟨⟨m3, m1, m2⟩, m4⟩, by rw [h1, hv]; rfl⟩)
    have hQ := mem_of_getD (default : Rw) (fun c => RFit w c ∧ ∀ z ∈ c.zs, (Lit.int .i64 z).wf = true) l (fun i hi => (hR i (by omega)).1)
    refine ⟨some a, len, cap, l, hcs, Nat.le_trans hl hm, hl, ⟨hll, ⟨by simp [hll], fun hn => ?_⟩, fun r hr => (hQ r hr).1⟩, fun r hr => (hQ r hr).2⟩
    have h0 := (hR 0 hn).2
    have hsp : a.spot = none := by
      have := World.cell?_spot h0
      simpa [Addr.add] using this
    obtain ⟨b, o, sp⟩ := a
    simp only at hsp
    subst hsp
    rw [add_none] at h0
    refine ⟨b, o, rfl, World.block_lt_of_cell? w _ h0, fun j hj => ?_⟩
    have hjl : j < len := by simpa using hj
    have := (hR j hjl).2
    rw [add_none] at this
    rw [this, List.getElem?_map]
    simp [List.getD, show j < l.length by omega]
end Go.Proofs.YtonalhedjjobeaaDoor
