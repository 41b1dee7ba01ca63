/- A range over a function whose iterator keeps its state in a captured variable (a box of its own): the law for the caller, at the wide fence. -/
import Derived.RangeFuncNested
import Derived.RangeFuncBound
import Derived.RangeFuncCalls
import Derived.RangeFuncLeaves
import Derived.RangeFuncBox
import Derived.Shelf.Abstract
import Derived.Shelf.RegionOpen
import Derived.WalkKit
import Derived.OwnWalkIn
import Derived.TacticsInMore
import Derived.LoopNIn
import Derived.LoopIn
import Derived.Test.YtnkmfnnkophccaaDoorBase
namespace Go.Proofs.YtnkmfnnkophccaaDoor
open Go.RowKit Go.Shelf

/-- what speaks of nothing in the box -/
def Boxy {β : Type} (Bs : Nat) (J : β → World → Prop) : Prop := ∀ s A B row, J s A → A.grownBy B row → (∀ r, row = some r → r = Bs) → J s B
/-- an iterator that has a box: what it owes the caller -/
def SeqBox {α : Type} (n : Nat) (P : Program) (g : Nat) (lb : Array Value) (encs : α → Array Value) (Bs : Nat) (Kp : World → World → Prop) (S Sp : List α → Prop) (N : Nat) (w : World) : Prop :=
  ∀ (l : Nat) (J Jx : List α → World → Prop) (W : World), Below w.heap.size w W → Boxy Bs J → Boxy Bs Jx →
    (∀ pre x W1, J pre W1 → pre.length < N → YieldAt Fence.wide (n - 1) P l (encs x) W1 fun e W' =>
      (e = .returned (.bool true) ∧ J (pre ++ [x]) W' ∧ Kp W1 W') ∨ (e = .returned (.bool false) ∧ Jx (pre ++ [x]) W')) →
    J [] W →
    CallsIn Fence.wide n P g (#[.func (.yield l) #[] #[]] ++ lb) W fun e W' => (∃ v, e = .returned v) ∧ ((∃ xs, S xs ∧ J xs W') ∨ (∃ pre, Sp pre ∧ Jx pre W'))
theorem keep_rec {A B : World} {row : Option Nat} {Bs k : Nat} {o : Obj} (hg : A.grownBy B row) (hr : ∀ r, row = some r → r = Bs) (hk : k ≠ Bs) (h : A.heap[k]? = some o) : B.heap[k]? = some o :=
  (hg.block k (Array.getElem?_eq_some_iff.1 h).1 (fun e => hk (hr k e.symm))).trans h
/-- the caller's law -/
theorem rangeFunc_box {α : Type} {P : Program} {n : Nat} {g : Operand} {ps : Array Tmp} {assign body : Code} {Q : Exit → Act → World → Prop} {a : Act} {w : World} {gf : Nat} {lb : Array Value}
    (h1 : 1 ≤ n) (hg : a.eval g = .func (.func gf) #[] lb) (eg : ∀ args w, (callFunc gf args).run P w = .ok (.enter gf args) w)
    {encs : α → Array Value} {Bs : Nat} {Kp : World → World → Prop} {S Sp : List α → Prop} {N : Nat} {w0 : World} (hseq : SeqBox (n - 1) P gf lb encs Bs Kp S Sp N w0) (hBs : Bs < w.heap.size)
    (hKt : ∀ {A B C : World}, Kp A B → Kp B C → Kp A C) (hKb : ∀ (W : World) (l : Nat) (o o' : Obj), w.heap.size ≤ l → W.heap[l]? = some o → o.isCells = false → o.isWalk = false → Kp W (W.putObj l o')) (hb0 : Below w0.heap.size w0 w) (hps : ∀ x, (encs x).size = ps.size)
    (I : List α → World → Prop) (Ix : Code → List α → World → Prop) (hI : OwnFrom w.heap.size I) (hIb : Boxy Bs I) (hIx : ∀ c, OwnFrom w.heap.size (Ix c)) (hIxb : ∀ c, Boxy Bs (Ix c)) (h0 : I [] w) (a₁ : α → Act)
    (hassign : ∀ (l : Nat) (x : α) (W : World) (K : Act → World → Prop), K (a₁ x) W →
      assign.wpIn (Fence.wide.inRound l) (n - 1 - 1) P (Exit.then K (fun _ _ _ => False)) { tmps := (ps.zip (encs x)).foldl (fun t (p, v) => t.setIfInBounds p v) a.tmps, defers := [] } W)
    (hbody : ∀ (l : Nat) (pre : List α) (x : α) (W : World), I pre W → pre.length < N → body.wpIn (Fence.wide.inRound l) (n - 1 - 1) P (ownPostG w.heap.size Kp I Ix (pre ++ [x]) W) (a₁ x) W)
    (hdone : ∀ (D : Nat) (xs : List α) (W : World), w.heap.size ≤ D → S xs → I xs W → W.heap[D]? = some (.deferred (some [])) → Q .normal { a with defers := { target := .collected D, args := #[] } :: a.defers } W)
    (hstop : ∀ (D : Nat) (c : Code) (pre : List α) (W : World), w.heap.size ≤ D → Sp pre → Ix c pre W → W.heap[D]? = some (.deferred (some [])) → c.wpIn Fence.wide n P Q { a with defers := { target := .collected D, args := #[] } :: a.defers } W) :
    (Code.rangeFunc g ps assign body).wpIn Fence.wide n P Q a w := by
  refine wpIn_rangeFunc fun fn hfn => ?_
  -- the loop's record, and the block for what its rounds defer
  obtain ⟨rc, hrc⟩ : ∃ rc : LoopState → Option Code → Loop, rc = fun st pe => { state := st, pending := pe, fn, tmps := a.tmps, params := ps, assign, body, defers := w.heap.size } := ⟨_, rfl⟩
  obtain ⟨V, hV⟩ : ∃ V, (w.alloc (.deferred (some []))).alloc (.loop (rc .ready none)) = V := ⟨_, rfl⟩
  have hsV : V.heap.size = w.heap.size + 2 := by rw [← hV]; simp
  have recV : V.heap[w.heap.size + 1]? = some (.loop (rc .ready none)) := by
    rw [← hV]; have := World.alloc_heap_new (w.alloc (.deferred (some []))) (.loop (rc .ready none)); rwa [World.size_alloc] at this
  have defV : V.heap[w.heap.size]? = some (.deferred (some [])) := by
    rw [← hV]; exact (Below.heap_alloc _ _ _ (by simp)).trans (World.alloc_heap_new w _)
  have iV : I [] V := by rw [← hV]; exact hI.alloc _ (hI.alloc _ h0)
  have bV : Below w0.heap.size w0 V := by
    rw [← hV]; exact hb0.trans ((((Below.refl _ w).alloc (Nat.le_refl _) _).alloc (by simp) _).mono hb0.size)
  refine ⟨w.heap.size + 1, [{ target := .collected w.heap.size, args := #[] }], V, { target := .fn (.func gf) lb, args := #[.func (.yield (w.heap.size + 1)) #[] #[]] }, V, gf,
    #[.func (.yield (w.heap.size + 1)) #[] #[]] ++ lb, V, by rw [← hV, hrc]; exact run_enterLoop_outer _ _ _ _ _, by simp only [resolve, hg]; simp [go_sem], fun _ _ => trivial, by simp [invoke, go_sem, eg], fun _ => h1, ?_⟩
  refine (hseq (w.heap.size + 1)
    (fun pre W => I pre W ∧ W.heap[w.heap.size + 1]? = some (.loop (rc .ready none)) ∧ W.heap[w.heap.size]? = some (.deferred (some [])))
    (fun pre W => ∃ c, Ix c pre W ∧ W.heap[w.heap.size + 1]? = some (.loop (rc .done (some c))) ∧ W.heap[w.heap.size]? = some (.deferred (some []))) V bV
    (fun s A B row h hg' hr => ⟨hIb s A B row h.1 hg' hr, keep_rec hg' hr (by omega) h.2.1, keep_rec hg' hr (by omega) h.2.2⟩)
    (fun s A B row h hg' hr => h.imp fun c h => ⟨hIxb c s A B row h.1 hg' hr, keep_rec hg' hr (by omega) h.2.1, keep_rec hg' hr (by omega) h.2.2⟩) ?_ ⟨iV, recV, defV⟩).mono ?_
  · rintro pre x W ⟨hi, hl, hk⟩ hlen
    have hlt := (Array.getElem?_eq_some_iff.1 hl).1
    have hy := run_yield (P := P) (args := encs x) hl (by rw [hrc]; exact hps x)
    rw [hrc] at hy
    refine ⟨fn, _, assign, body, hy, roundIn_of_wpIn hfn (hassign _ x W _ ⟨_, run_beginRound hl (by rw [hrc]), ?_⟩)⟩
    clear hy
    obtain ⟨U, hU⟩ : ∃ U, W.putObj (w.heap.size + 1) (.loop { rc .ready none with state := .busy }) = U := ⟨_, rfl⟩
    have recU : U.heap[w.heap.size + 1]? = some (.loop { rc .ready none with state := .busy }) := by rw [← hU]; exact World.putObj_heap_same hlt
    have defU : U.heap[w.heap.size]? = some (.deferred (some [])) := by rw [← hU]; exact (World.putObj_heap_other (by omega)).trans hk
    have kU : Kp W U := by rw [← hU]; exact hKb _ _ _ _ (by omega) hl rfl rfl
    have iU : I pre U := by rw [← hU]; exact hI.putObj _ hi (by omega) hl rfl
    rw [hU]
    refine wpIn_mono (hbody _ pre x U iU hlen) ?_
    have ending : ∀ (jump : Option Code) (X : World), KeepsFrom w.heap.size U X →
        (Instr.endRound (w.heap.size + 1) jump).run P X = .ok (.bool jump.isNone) (X.putObj (w.heap.size + 1) (.loop (rc (if jump.isNone then .ready else .done) jump))) ∧
        X.heap[w.heap.size + 1]? = some (.loop { rc .ready none with state := .busy }) ∧
        (X.putObj (w.heap.size + 1) (.loop (rc (if jump.isNone then .ready else .done) jump))).heap[w.heap.size + 1]? = some (.loop (rc (if jump.isNone then .ready else .done) jump)) ∧
        (X.putObj (w.heap.size + 1) (.loop (rc (if jump.isNone then .ready else .done) jump))).heap[w.heap.size]? = some (.deferred (some [])) := fun jump X hX => by
      have rX := hX.same _ _ (by omega) recU rfl
      have dX := hX.same _ _ (Nat.le_refl _) defU rfl
      have hr := run_endRound (P := P) jump rX
      refine ⟨?_, rX, World.putObj_heap_same (Array.getElem?_eq_some_iff.1 rX).1, (World.putObj_heap_other (by omega)).trans dX⟩
      rw [hrc] at hr ⊢
      exact hr
    have over : ∀ (c : Code) (X : World), KeepsFrom w.heap.size U X → Ix c (pre ++ [x]) X → ∃ (v : Value) (X' : World), (Instr.endRound (w.heap.size + 1) (some c)).run P X = .ok v X' ∧
        v = .bool false ∧ ∃ c, Ix c (pre ++ [x]) X' ∧ X'.heap[w.heap.size + 1]? = some (.loop (rc .done (some c))) ∧ X'.heap[w.heap.size]? = some (.deferred (some [])) := fun c X hX hc => by
      obtain ⟨hr, rX, e1, e2⟩ := ending (some c) X hX
      exact ⟨_, _, hr, rfl, c, (hIx c).putObj _ hc (by omega) rX rfl, e1, e2⟩
    rintro e a3 X hp
    cases e with
    | normal =>
      obtain ⟨hX, kX, iX⟩ := hp
      obtain ⟨hr, rX, e1, e2⟩ := ending none X hX
      exact ⟨_, _, hr, .inl ⟨rfl, ⟨hI.putObj _ iX (by omega) rX rfl, e1, e2⟩, hKt (hKt kU kX) (hKb _ _ _ _ (by omega) rX rfl rfl)⟩⟩
    | ret => obtain ⟨v, X', hr, hv, hh⟩ := over .ret X hp.1 hp.2; exact ⟨v, X', hr, .inr ⟨by rw [hv], hh⟩⟩
    | exit id => obtain ⟨v, X', hr, hv, hh⟩ := over (.exit id) X hp.1 hp.2; exact ⟨v, X', hr, .inr ⟨by rw [hv], hh⟩⟩
    | goto t => obtain ⟨v, X', hr, hv, hh⟩ := over (.goto t) X hp.1 hp.2; exact ⟨v, X', hr, .inr ⟨by rw [hv], hh⟩⟩
    | panic ch => exact hp.elim
    | outgrown => exact hp.elim
  · rintro e X ⟨⟨v, rfl⟩, ⟨xs, hS, iX, rX, dX⟩ | ⟨pre, hSp, c, iX, rX, dX⟩⟩
    · have hr := run_endLoop (P := P) rX (by rw [hrc]; simp)
      rw [hrc] at hr
      exact ⟨none, _, hr, hdone _ xs _ (Nat.le_refl _) hS (hI.putObj _ iX (by omega) rX rfl) ((World.putObj_heap_other (by omega)).trans dX)⟩
    · have hr := run_endLoop (P := P) rX (by rw [hrc]; simp)
      rw [hrc] at hr
      exact ⟨some c, _, hr, hstop _ c pre _ (Nat.le_refl _) hSp ((hIx c).putObj _ iX (by omega) rX rfl) ((World.putObj_heap_other (by omega)).trans dX)⟩
end Go.Proofs.YtnkmfnnkophccaaDoor
