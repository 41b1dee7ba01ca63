/- A range over a function whose iterator lays its own cells when it is entered and writes them while it yields: the law for the caller, at the wide fence. -/
import Derived.RangeFuncNested
import Derived.RangeFuncBound
import Derived.RangeFuncCalls
import Derived.RangeFuncLeaves
import Derived.RangeFuncBox
import Derived.Shelf.Abstract
import Derived.Shelf.RegionOpen
import Derived.WalkKit
import Derived.OwnWalkIn
import Derived.TacticsInMore
import Derived.LoopNIn
import Derived.LoopIn
import Derived.Test.YtednlnlppedkiaaBase
namespace Go.Proofs.Ytednlnlppedkiaa
open Go.RowKit Go.Shelf

/-- what abides whatever happens to the objects from lo to hi -/
def Apart {β : Type} (lo hi : Nat) (J : β → World → Prop) : Prop := ∀ s A B row, J s A → A.grownBy B row → (∀ r, row = some r → lo ≤ r ∧ r < hi) → J s B
/-- the objects from lo to hi lie as they lay -/
def KpR (lo hi : Nat) (W W' : World) : Prop := W.heap.size ≤ W'.heap.size ∧ ∀ r, lo ≤ r → r < hi → W'.heap[r]? = W.heap[r]?
theorem KpR.refl (lo hi : Nat) (W : World) : KpR lo hi W W := ⟨Nat.le_refl _, fun _ _ _ => rfl⟩
theorem KpR.trans {lo hi : Nat} {A B C : World} (h : KpR lo hi A B) (h' : KpR lo hi B C) : KpR lo hi A C := ⟨Nat.le_trans h.1 h'.1, fun r h1 h2 => (h'.2 r h1 h2).trans (h.2 r h1 h2)⟩
theorem KpR.grown {lo hi : Nat} {A B C : World} {row : Option Nat} (h : KpR lo hi A B) (hg : B.grownBy C row) (hs : hi ≤ B.heap.size) (hr : ∀ r, row = some r → r < lo ∨ hi ≤ r) : KpR lo hi A C :=
  h.trans ⟨hg.size, fun r h1 h2 => hg.block r (Nat.lt_of_lt_of_le h2 hs) (fun e => by have := hr r e.symm; omega)⟩
theorem KpR.below {lo hi : Nat} {A B C : World} (h : KpR lo hi A B) (hb : Below B.heap.size B C) (hs : hi ≤ B.heap.size) : KpR lo hi A C := h.trans ⟨hb.size, fun r _ h2 => hb.block r (Nat.lt_of_lt_of_le h2 hs)⟩
/-- an iterator that lays its own cells: what it owes the caller -/
def SeqFresh {α : Type} (n : Nat) (P : Program) (g : Nat) (lb : Array Value) (encs : α → Array Value) (lo hi : Nat) (Mem : α → World → Prop) (S : List α → Prop) (w : World) : Prop :=
  ∀ (l : Nat) (J : List α → World → Prop) (W : World), Below w.heap.size w W → W.heap.size = lo → l < lo → Apart lo hi J →
    (∀ pre x W1, J pre W1 → hi ≤ W1.heap.size → Mem x W1 → YieldAt Fence.wide 0 P l (encs x) W1 fun e W' => e = .returned (.bool true) ∧ J (pre ++ [x]) W' ∧ KpR lo hi W1 W') →
    J [] W →
    CallsIn Fence.wide n P g (#[.func (.yield l) #[] #[]] ++ lb) W fun e W' => (∃ v, e = .returned v) ∧ ∃ xs, S xs ∧ J xs W'
theorem keep_out {A B : World} {row : Option Nat} {lo hi k : Nat} {o : Obj} (hg : A.grownBy B row) (hr : ∀ r, row = some r → lo ≤ r ∧ r < hi) (hk : k < lo) (h : A.heap[k]? = some o) : B.heap[k]? = some o :=
  (hg.block k (Array.getElem?_eq_some_iff.1 h).1 (fun e => by have := hr k e.symm; omega)).trans h
theorem roundIn_any {n m : Nat} {P : Program} {l : Nat} {f : FuncId} {tmps : Array Value} {assign body : Code} {w : World} {R : Ending → World → Prop} (h : RoundIn Fence.wide n P l f tmps assign body w R) : RoundIn Fence.wide m P l f tmps assign body w R :=
  ⟨h.1, fun c cs _ => h.2 c cs (room_wide _)⟩
/-- the caller's law -/
theorem rangeFunc_fresh {α : Type} {P : Program} {n : Nat} {g : Operand} {ps : Array Tmp} {assign body : Code} {Q : Exit → Act → World → Prop} {a : Act} {w : World} {gf : Nat} {lb : Array Value}
    (h1 : 1 ≤ n) (hg : a.eval g = .func (.func gf) #[] lb) (eg : ∀ args w, (callFunc gf args).run P w = .ok (.enter gf args) w)
    {encs : α → Array Value} {m : Nat} {Mem : α → World → Prop} {S : List α → Prop} (hseq : SeqFresh (n - 1) P gf lb encs (w.heap.size + 2) (w.heap.size + 2 + m) Mem S w)
    (hMem : ∀ x A B r, Mem x A → A.grownBy B (some r) → r < w.heap.size + 2 → Mem x B) (hps : ∀ x, (encs x).size = ps.size)
    (I : List α → World → Prop) (hI : Apart w.heap.size (w.heap.size + 2 + m) I) (h0 : I [] w) (a₁ : α → Act)
    (hassign : ∀ (l : Nat) (x : α) (W : World) (K : Act → World → Prop), K (a₁ x) W →
      assign.wpIn (Fence.wide.inRound l) (n - 1 - 1) P (Exit.then K (fun _ _ _ => False)) { tmps := (ps.zip (encs x)).foldl (fun t (p, v) => t.setIfInBounds p v) a.tmps, defers := [] } W)
    (hbody : ∀ (l : Nat) (pre : List α) (x : α) (W : World), I pre W → w.heap.size + 2 + m ≤ W.heap.size → Mem x W →
      body.wpIn (Fence.wide.inRound l) (n - 1 - 1) P (ownPostG w.heap.size (KpR (w.heap.size + 2) (w.heap.size + 2 + m)) I (fun _ _ _ => False) (pre ++ [x]) W) (a₁ x) W)
    (hdone : ∀ (D : Nat) (xs : List α) (W : World), w.heap.size ≤ D → S xs → I xs W → W.heap[D]? = some (.deferred (some [])) → Q .normal { a with defers := { target := .collected D, args := #[] } :: a.defers } W) :
    (Code.rangeFunc g ps assign body).wpIn Fence.wide n P Q a w := by
  refine wpIn_rangeFunc fun fn hfn => ?_
  obtain ⟨rc, hrc⟩ : ∃ rc : LoopState → Option Code → Loop, rc = fun st pe => { state := st, pending := pe, fn, tmps := a.tmps, params := ps, assign, body, defers := w.heap.size } := ⟨_, rfl⟩
  obtain ⟨V, hV⟩ : ∃ V, (w.alloc (.deferred (some []))).alloc (.loop (rc .ready none)) = V := ⟨_, rfl⟩
  have hsV : V.heap.size = w.heap.size + 2 := by rw [← hV]; simp
  have recV : V.heap[w.heap.size + 1]? = some (.loop (rc .ready none)) := by
    rw [← hV]; have := World.alloc_heap_new (w.alloc (.deferred (some []))) (.loop (rc .ready none)); rwa [World.size_alloc] at this
  have defV : V.heap[w.heap.size]? = some (.deferred (some [])) := by
    rw [← hV]; exact (Below.heap_alloc _ _ _ (by simp)).trans (World.alloc_heap_new w _)
  have iV : I [] V := by rw [← hV]; exact hI _ _ _ _ (hI _ _ _ _ h0 (World.grownBy_alloc w _ none) (by simp)) (World.grownBy_alloc _ _ none) (by simp)
  have bV : Below w.heap.size w V := by
    rw [← hV]; exact ((Below.refl _ w).alloc (Nat.le_refl _) _).alloc (by simp) _
  have hput : ∀ (pre : List α) (W : World) (o : Obj), I pre W → I pre (W.putObj (w.heap.size + 1) o) := fun pre W o h => hI _ _ _ _ h (grownBy_putObj' W _ o) (fun r e => by cases e; omega)
  have kput : ∀ (W : World) (o : Obj), KpR (w.heap.size + 2) (w.heap.size + 2 + m) W (W.putObj (w.heap.size + 1) o) := fun W o => ⟨(grownBy_putObj' W (w.heap.size + 1) o).size, fun r h2 _ => World.putObj_heap_other (by omega)⟩
  refine ⟨w.heap.size + 1, [{ target := .collected w.heap.size, args := #[] }], V, { target := .fn (.func gf) lb, args := #[.func (.yield (w.heap.size + 1)) #[] #[]] }, V, gf,
    #[.func (.yield (w.heap.size + 1)) #[] #[]] ++ lb, V, by rw [← hV, hrc]; exact run_enterLoop_outer _ _ _ _ _, by simp only [resolve, hg]; simp [go_sem], fun _ _ => trivial, by simp [invoke, go_sem, eg], fun _ => h1, ?_⟩
  refine (hseq (w.heap.size + 1)
    (fun pre W => I pre W ∧ W.heap[w.heap.size + 1]? = some (.loop (rc .ready none)) ∧ W.heap[w.heap.size]? = some (.deferred (some []))) V bV hsV (by omega)
    (fun s A B row h hg' hr => ⟨hI s A B row h.1 hg' (fun r e => by have := hr r e; omega), keep_out hg' hr (by omega) h.2.1, keep_out hg' hr (by omega) h.2.2⟩) ?_ ⟨iV, recV, defV⟩).mono ?_
  · rintro pre x W ⟨hi, hl, hk⟩ hsz hmem
    have hlt := (Array.getElem?_eq_some_iff.1 hl).1
    have hy := run_yield (P := P) (args := encs x) hl (by rw [hrc]; exact hps x)
    rw [hrc] at hy
    refine ⟨fn, _, assign, body, hy, roundIn_any (n := n - 1 - 1) (roundIn_of_wpIn hfn (hassign _ x W _ ⟨_, run_beginRound hl (by rw [hrc]), ?_⟩))⟩
    clear hy
    obtain ⟨U, hU⟩ : ∃ U, W.putObj (w.heap.size + 1) (.loop { rc .ready none with state := .busy }) = U := ⟨_, rfl⟩
    have recU : U.heap[w.heap.size + 1]? = some (.loop { rc .ready none with state := .busy }) := by rw [← hU]; exact World.putObj_heap_same hlt
    have defU : U.heap[w.heap.size]? = some (.deferred (some [])) := by rw [← hU]; exact (World.putObj_heap_other (by omega)).trans hk
    have kU : KpR (w.heap.size + 2) (w.heap.size + 2 + m) W U := by rw [← hU]; exact kput _ _
    have iU : I pre U := by rw [← hU]; exact hput _ _ _ hi
    have mU : Mem x U := by rw [← hU]; exact hMem _ _ _ _ hmem (grownBy_putObj' W _ _) (by omega)
    rw [hU]
    refine wpIn_mono (hbody _ pre x U iU (Nat.le_trans hsz kU.1) mU) ?_
    have ending : ∀ (jump : Option Code) (X : World), KeepsFrom w.heap.size U X →
        (Instr.endRound (w.heap.size + 1) jump).run P X = .ok (.bool jump.isNone) (X.putObj (w.heap.size + 1) (.loop (rc (if jump.isNone then .ready else .done) jump))) ∧
        X.heap[w.heap.size + 1]? = some (.loop { rc .ready none with state := .busy }) ∧
        (X.putObj (w.heap.size + 1) (.loop (rc (if jump.isNone then .ready else .done) jump))).heap[w.heap.size + 1]? = some (.loop (rc (if jump.isNone then .ready else .done) jump)) ∧
        (X.putObj (w.heap.size + 1) (.loop (rc (if jump.isNone then .ready else .done) jump))).heap[w.heap.size]? = some (.deferred (some [])) := fun jump X hX => by
      have rX := hX.same _ _ (by omega) recU rfl
      have dX := hX.same _ _ (Nat.le_refl _) defU rfl
      have hr := run_endRound (P := P) jump rX
      refine ⟨?_, rX, World.putObj_heap_same (Array.getElem?_eq_some_iff.1 rX).1, (World.putObj_heap_other (by omega)).trans dX⟩
      rw [hrc] at hr ⊢
      exact hr
    rintro e a3 X hp
    cases e with
    | normal =>
      obtain ⟨hX, kX, iX⟩ := hp
      obtain ⟨hr, rX, e1, e2⟩ := ending none X hX
      exact ⟨_, _, hr, rfl, ⟨hput _ _ _ iX, e1, e2⟩, (kU.trans kX).trans (kput _ _)⟩
    | ret => exact hp.2.elim
    | exit id => exact hp.2.elim
    | goto t => exact hp.2.elim
    | panic ch => exact hp.elim
    | outgrown => exact hp.elim
  · rintro e X ⟨⟨v, rfl⟩, ⟨xs, hS, iX, rX, dX⟩⟩
    have hr := run_endLoop (P := P) rX (by rw [hrc]; simp)
    rw [hrc] at hr
    exact ⟨none, _, hr, hdone _ xs _ (Nat.le_refl _) hS (hput _ _ _ iX) ((World.putObj_heap_other (by omega)).trans dX)⟩
end Go.Proofs.Ytednlnlppedkiaa
