/- chord: the seeker in memory; a world in which two blocks at most have turned. -/
import Derived.Test.YtcbmbofbiodhmaaDoorHoleExt
import Derived.Test.YtcbmbofbiodhmaaDoorStillRound
import Derived.Test.YtcbmbofbiodhmaaDoorMarks
import Derived.Test.YtcbmbofbiodhmaaDoorCalm
import Derived.Test.YtcbmbofbiodhmaaDoorBlk
import Derived.Test.YtcbmbofbiodhmaaDoorEachBits
namespace Go.Proofs.YtcbmbofbiodhmaaDoor
open Go.RowKit

/-- all that was there lies as it lay, but for the block p, and the block o if there is one -/
structure Gr2 (p : Nat) (o : Option Nat) (W W' : World) : Prop where
  os : W'.os = W.os
  tape : W'.tape = W.tape
  output : W'.output = W.output
  size : W.heap.size ≤ W'.heap.size
  block : ∀ k, k < W.heap.size → k ≠ p → some k ≠ o → W'.heap[k]? = W.heap[k]?
section
variable {p : Nat} {o o' : Option Nat} {W W' W'' : World}
theorem Gr2.refl (p : Nat) (o : Option Nat) (W : World) : Gr2 p o W W := ⟨rfl, rfl, rfl, Nat.le_refl _, fun _ _ _ _ => rfl⟩
theorem Gr2.of_below (h : Below W.heap.size W W') : Gr2 p o W W' := ⟨h.os, h.tape, h.output, h.size, fun k hk _ _ => h.block k hk⟩
theorem Gr2.of_grown {row : Option Nat} (h : W.grownBy W' row) (hr : ∀ r, row = some r → r = p ∨ some r = o ∨ W.heap.size ≤ r) : Gr2 p o W W' :=
  ⟨h.os, h.tape, h.output, h.size, fun k hk h1 h2 => h.block k hk fun e => by
    rcases hr k e.symm with e | e | e
    · exact h1 e
    · exact h2 e
    · omega⟩
theorem Gr2.trans (h : Gr2 p o W W') (h' : Gr2 p o' W' W'') (ho : ∀ k, o' = some k → o = some k ∨ W.heap.size ≤ k) : Gr2 p o W W'' :=
  ⟨h'.os.trans h.os, h'.tape.trans h.tape, h'.output.trans h.output, Nat.le_trans h.size h'.size, fun k hk h1 h2 => by
    refine (h'.block k (Nat.lt_of_lt_of_le hk h.size) h1 fun e => ?_).trans (h.block k hk h1 h2)
    rcases ho k e.symm with e | e
    · exact h2 e.symm
    · omega⟩
theorem Gr2.grown {row : Option Nat} (h : Gr2 p o W W') (hg : W'.grownBy W'' row) (hr : ∀ r, row = some r → r = p ∨ some r = o ∨ W.heap.size ≤ r) : Gr2 p o W W'' :=
  ⟨hg.os.trans h.os, hg.tape.trans h.tape, hg.output.trans h.output, Nat.le_trans h.size hg.size, fun k hk h1 h2 => by
    refine (hg.block k (Nat.lt_of_lt_of_le hk h.size) fun e => ?_).trans (h.block k hk h1 h2)
    rcases hr k e.symm with e | e | e
    · exact h1 e
    · exact h2 e
    · omega⟩
theorem Gr2.below {n : Nat} (h : Gr2 p o W W') (hn : n ≤ W.heap.size) (hp : n ≤ p) (ho : ∀ k, o = some k → n ≤ k) : Below n W W' :=
  ⟨h.os, h.tape, h.output, h.size, fun k hk => h.block k (by omega) (by omega) fun e => by have := ho k e.symm; omega⟩
theorem Gr2.boxed {b : Nat} {t : TypeId} {v : Value} (h : Gr2 p o W W') (hb : Boxed W b t v) (h1 : b ≠ p) (h2 : some b ≠ o) : Boxed W' b t v := (h.block b hb.lt h1 h2).trans hb
theorem Gr2.keeps (h : Gr2 p o W W') (hp : ∃ ob : Obj, W.heap[p]? = some ob ∧ ob.isCells = true) (ho : ∀ k, o = some k → ∃ ob : Obj, W.heap[k]? = some ob ∧ ob.isCells = true) : KeepsOthers W W' :=
  ⟨h.size, fun k ob hk hc => by
    refine (h.block k (Array.getElem?_eq_some_iff.1 hk).1 (fun e => ?_) fun e => ?_).trans hk
    · obtain ⟨ob', h1, h2⟩ := hp
      rw [← e, hk] at h1; cases h1; rw [h2] at hc; cases hc
    · obtain ⟨ob', h1, h2⟩ := ho k e.symm
      rw [hk] at h1; cases h1; rw [h2] at hc; cases hc⟩
end
theorem own_cells1 {w : World} {b e s n : Nat} {v : Value} {xs : List Value} (h : w.ownsRow b e s v n xs) {g : Nat} (hv : v.ownBlock = some g) : ∃ o : Obj, w.heap[g]? = some o ∧ o.isCells = true := by
  rcases h.2 with ⟨rfl, _⟩ | ⟨g1, c1, cur1, rfl, _, h1, _⟩
  · cases hv
  · cases hv; exact ⟨_, h1, rfl⟩
/-- the seeker at p, its list L -/
structure SS (ns : List Nat) (n p size cn b0 : Nat) (A : Option Addr) (W : World) (v : Value) (L : List Nat) : Prop where
  bk : Blk W p 46 #[.slice A n cn, v, .int .i64 size]
  rn : Rd W A n 1 (wds ns)
  ow : W.ownsRow b0 3 1 v L.length (ints .i64 (natI L))
  nA : ∀ b o, A = some ⟨b, o, none⟩ → b ≠ p ∧ b < b0
  np : v.ownBlock ≠ some p
section
variable {ns : List Nat} {n p size cn b0 : Nat} {A : Option Addr} {W W' : World} {v : Value} {L : List Nat}
theorem SS.grown {row : Option Nat} (h : SS ns n p size cn b0 A W v L) (hg : W.grownBy W' row) (h1 : some p ≠ row) (h2 : ∀ b o, A = some ⟨b, o, none⟩ → some b ≠ row) (h3 : v.ownBlock = none ∨ v.ownBlock ≠ row) : SS ns n p size cn b0 A W' v L :=
  ⟨h.bk.kept hg h1, h.rn.grown hg (fun b o e => (h2 b o e).symm), h.ow.kept hg h3, h.nA, h.np⟩
theorem SS.drewN (h : SS ns n p size cn b0 A W v L) (k : Nat) : SS ns n p size cn b0 A (W.drewN k) v L := ⟨h.bk, h.rn.drewN k, h.ow, h.nA, h.np⟩
theorem SS.drew (h : SS ns n p size cn b0 A W v L) : SS ns n p size cn b0 A W.drew v L := ⟨h.bk, h.rn.drew, h.ow, h.nA, h.np⟩
theorem SS.later (h : SS ns n p size cn b0 A W v L) (hb : Below W.heap.size W W') : SS ns n p size cn b0 A W' v L :=
  ⟨h.bk.below hb h.bk.lt, h.rn.later hb, own_below h.ow hb, h.nA, h.np⟩
theorem SS.pc (h : SS ns n p size cn b0 A W v L) : ∃ ob : Obj, W.heap[p]? = some ob ∧ ob.isCells = true := ⟨_, h.bk, rfl⟩
theorem SS.oc (h : SS ns n p size cn b0 A W v L) : ∀ k, v.ownBlock = some k → ∃ ob : Obj, W.heap[k]? = some ob ∧ ob.isCells = true := fun _ hk => own_cells1 h.ow hk
theorem SS.at (h : SS ns n p size cn b0 A W v L) {k : Nat} (hk : k < L.length) : ∃ g c, v = .slice (some ⟨g, 0, none⟩) L.length c ∧ L.length ≤ c ∧ g < W.heap.size ∧ b0 ≤ g ∧ W.cell? ⟨g, k, none⟩ = some (.int .i64 ((L.getD k 0 : Nat) : Int)) := by
  rcases h.ow.2 with ⟨_, e⟩ | ⟨g, c, cur, e, _, _, hc, _⟩
  · omega
  · subst e
    have := h.ow.lt g rfl
    refine ⟨g, c, rfl, hc, this.2, this.1, (h.ow.cellAt k (by omega)).trans ?_⟩
    simp [ints, natI, List.getD, hk]
end
/-- how on ends: d more nodes are wanted -/
def OnP (ns : List Nat) (n p size cn b0 : Nat) (A : Option Addr) (v : Value) (L : List Nat) (x d : Nat) (w : World) (e : Ending) (w' : World) : Prop :=
  Gr2 p v.ownBlock w w' ∧ ∃ v', (v'.ownBlock = v.ownBlock ∨ ∃ g, v'.ownBlock = some g ∧ w.heap.size ≤ g) ∧
    ((e = .returned (.bool true) ∧ ∃ M, M.length = d ∧ Ext ns size L x M ∧ SS ns n p size cn b0 A w' v' (L ++ M)) ∨ (e = .returned (.bool false) ∧ (∀ M, M.length = d → ¬ Ext ns size L x M) ∧ SS ns n p size cn b0 A w' v' L))
end Go.Proofs.YtcbmbofbiodhmaaDoor
