/- A function that runs loops over functions in rounds of a loop of its own: the marks that they leave in its frame. -/
import Derived.Test.YtnkmfnnkophccaaDoorBox
namespace Go.Proofs.YtnkmfnnkophccaaDoor
open Go.RowKit Go.Shelf

/-- the marks: blocks from B on, each ahead of the one behind it, all below T -/
def Marks (B : Nat) : Nat → List Deferred → World → Prop
  | _, [], _ => True
  | T, d :: ds, w => ∃ r, d = { target := .collected r, args := #[] } ∧ B ≤ r ∧ r < T ∧ w.heap[r]? = some (.deferred (some [])) ∧ Marks B r ds w
theorem Marks.mono {B : Nat} : ∀ {T T' : Nat} {ds : List Deferred} {w : World}, T ≤ T' → Marks B T ds w → Marks B T' ds w
  | _, _, [], _, _, _ => trivial
  | _, _, _ :: _, _, hT, ⟨r, h1, h2, h3, h4, h5⟩ => ⟨r, h1, h2, by omega, h4, h5⟩
theorem Marks.keep {B : Nat} {w w' : World} (hk : ∀ (k : Nat) (o : Obj), B ≤ k → w.heap[k]? = some o → o.isCells = false → w'.heap[k]? = some o) : ∀ {T : Nat} {ds : List Deferred}, Marks B T ds w → Marks B T ds w'
  | _, [], _ => trivial
  | _, _ :: _, ⟨r, h1, h2, h3, h4, h5⟩ => ⟨r, h1, h2, h3, hk r _ h2 h4 rfl, Marks.keep hk h5⟩
theorem Marks.keeps {B : Nat} {w w' : World} (h : KeepsOthers w w') {T : Nat} {ds : List Deferred} (hm : Marks B T ds w) : Marks B T ds w' := hm.keep fun k o _ hk ho => h.same k o hk ho
/-- behind a call that leaves all that lay as it lay -/
theorem Marks.later {B : Nat} {w w' : World} (h : Below w.heap.size w w') {T : Nat} {ds : List Deferred} (hm : Marks B T ds w) : Marks B T ds w' := hm.keep fun k _ _ hk _ => (h.block k (Array.getElem?_eq_some_iff.1 hk).1).trans hk
theorem Marks.push {B T D : Nat} {ds : List Deferred} {w : World} (hm : Marks B T ds w) (hB : B ≤ D) (hT : T ≤ D) (hD : w.heap[D]? = some (.deferred (some []))) : Marks B (D + 1) ({ target := .collected D, args := #[] } :: ds) w :=
  ⟨D, rfl, hB, Nat.lt_succ_self _, hD, hm.mono hT⟩
theorem Marks.grown {B T : Nat} {w w' : World} {row : Option Nat} (hg : w.grownBy w' row) (hr : ∀ r, row = some r → T ≤ r) : ∀ {ds : List Deferred}, Marks B T ds w → Marks B T ds w' := by
  intro ds
  induction ds generalizing T with
  | nil => exact fun _ => trivial
  | cons d ds ih =>
    rintro ⟨r, h1, h2, h3, h4, h5⟩
    refine ⟨r, h1, h2, h3, (hg.block r (Array.getElem?_eq_some_iff.1 h4).1 (fun e => ?_)).trans h4, ih (fun r' e => ?_) h5⟩
    · have := hr r e.symm; omega
    · have := hr r' e; omega
theorem marks_own {β : Type} {B T B' : Nat} {ds : List Deferred} (hT : T ≤ B') : OwnFrom B' (fun (_ : β) W => Marks B T ds W) := fun _ _ _ _ hs hg hr => hs.grown hg (fun r e => Nat.le_trans hT (hr r e).1)
theorem marks_boxy {β : Type} {B T Bs : Nat} {ds : List Deferred} (hT : T ≤ Bs) : Boxy Bs (fun (_ : β) W => Marks B T ds W) := fun _ _ _ _ hs hg hr => hs.grown hg (fun r e => by rw [hr r e]; exact hT)
theorem Boxy.and {β : Type} {Bs : Nat} {I I' : β → World → Prop} (h : Boxy Bs I) (h' : Boxy Bs I') : Boxy Bs (fun s W => I s W ∧ I' s W) := fun s A B row hs hg hr => ⟨h s A B row hs.1 hg hr, h' s A B row hs.2 hg hr⟩
theorem boxed_boxy {β : Type} {Bs b : Nat} {t : TypeId} (f : β → Value) (hne : b ≠ Bs) : Boxy Bs (fun s W => Boxed W b t (f s)) := fun _ _ _ _ hs hg hr => hs.kept hg (fun e => hne (hr b e.symm))
theorem below_boxy {β : Type} {Bs n₀ : Nat} {w₀ : World} (hn : n₀ ≤ w₀.heap.size) (hB : n₀ ≤ Bs) : Boxy Bs (fun (_ : β) W => Below n₀ w₀ W) := fun _ _ _ _ hs hg hr => hs.grown hg (Nat.le_trans hn hs.size) (fun k e => by rw [hr k e]; exact hB)
/-- leaving the function: the marks are taken one by one -/
theorem leaves_marks {n : Nat} {P : Program} {fn : Func} {tmps : Array Value} {R : Ending → World → Prop} {B : Nat} : ∀ {ds : List Deferred} {T : Nat} {w : World}, Marks B T ds w →
    (∀ w', Below B w w' → LeavesIn Fence.wide n P fn tmps R [] .returning w') → LeavesInM Fence.wide n P fn tmps R ds .returning w
  | [], _, w, _, h => h w (Below.refl _ _)
  | d :: ds, T, w, ⟨r, h1, h2, h3, h4, h5⟩, h => by
    have hlt := (Array.getElem?_eq_some_iff.1 h4).1
    have hb : Below B w (w.putObj r (.deferred none)) := (Below.refl B w).grown (grownBy_putObj' w r _) (by omega) (fun k e => by cases e; exact h2)
    refine ⟨by simp, .inl ⟨r, _, by rw [h1], run_takeDeferred h4, leaves_marks (h5.grown (grownBy_putObj' w r _) (fun k e => by cases e; exact Nat.le_refl _)) fun w' hb' => h w' (hb.trans hb')⟩⟩
/-- the same, for whatever abides that a mark is taken -/
theorem leaves_marksJ {n : Nat} {P : Program} {fn : Func} {tmps : Array Value} {R : Ending → World → Prop} {B : Nat} {J : World → Prop} : ∀ {ds : List Deferred} {T : Nat} {w : World}, Marks B T ds w → J w →
    (∀ W r o', J W → W.heap[r]? = some (.deferred (some [])) → B ≤ r → J (W.putObj r o')) → (∀ w', J w' → LeavesIn Fence.wide n P fn tmps R [] .returning w') → LeavesInM Fence.wide n P fn tmps R ds .returning w
  | [], _, _, _, hJ, _, h => h _ hJ
  | _ :: _, _, w, ⟨r, h1, h2, _, h4, h5⟩, hJ, hp, h =>
    ⟨by simp, .inl ⟨r, _, by rw [h1], run_takeDeferred h4, leaves_marksJ (h5.grown (grownBy_putObj' w r _) (fun k e => by cases e; exact Nat.le_refl _)) (hp w r _ hJ h4 h2) hp h⟩⟩
end Go.Proofs.YtnkmfnnkophccaaDoor
