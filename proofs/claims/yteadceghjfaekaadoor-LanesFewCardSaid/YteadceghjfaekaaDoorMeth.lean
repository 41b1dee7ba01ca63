/- A range over a method value that only reads: the law for the caller; a loop whose measure is a ghost. -/
import Derived.Test.YteadceghjfaekaaDoorBox
namespace Go.Proofs.YteadceghjfaekaaDoor
open Go.RowKit Go.Shelf

/-- an iterator that makes no memory of its own: what it owes the caller -/
def SeqM {α : Type} (n : Nat) (P : Program) (g : Nat) (ba : Array Value) (encs : α → Array Value) (S : List α → Prop) (w : World) : Prop :=
  ∀ (l : Nat) (J : List α → World → Prop) (W : World), Below w.heap.size w W →
    (∀ pre x W1, J pre W1 → YieldAt Fence.wide (n - 1) P l (encs x) W1 fun e W' => e = .returned (.bool true) ∧ J (pre ++ [x]) W') →
    J [] W →
    CallsIn Fence.wide n P g (ba ++ #[.func (.yield l) #[] #[]]) W fun e W' => (∃ v, e = .returned v) ∧ ∃ xs, S xs ∧ J xs W'
theorem rangeFunc_meth {α : Type} {P : Program} {n : Nat} {g : Operand} {ps : Array Tmp} {assign body : Code} {Q : Exit → Act → World → Prop} {a : Act} {w : World} {gf : Nat} {ba : Array Value}
    (h1 : 1 ≤ n) (hg : a.eval g = .func (.func gf) ba #[]) (eg : ∀ args w, (callFunc gf args).run P w = .ok (.enter gf args) w)
    {encs : α → Array Value} {S : List α → Prop} {w0 : World} (hseq : SeqM (n - 1) P gf ba encs S w0)
    (hb0 : Below w0.heap.size w0 w) (hps : ∀ x, (encs x).size = ps.size)
    (I : List α → World → Prop) (hI : OwnFrom w.heap.size I) (h0 : I [] w) (a₁ : α → Nat → Act) (o : α → Obj)
    (hassign : ∀ (l : Nat) (x : α) (W : World) (K : Act → World → Prop) (b : Nat), b = W.heap.size → K (a₁ x b) (W.alloc (o x)) →
      assign.wpIn (Fence.wide.inRound l) (n - 1 - 1) P (Exit.then K (fun _ _ _ => False)) { tmps := (ps.zip (encs x)).foldl (fun t (p, v) => t.setIfInBounds p v) a.tmps, defers := [] } W)
    (hbody : ∀ (l : Nat) (pre : List α) (x : α) (W : World) (b : Nat), I pre W → w.heap.size ≤ b → W.heap[b]? = some (o x) → body.wpIn (Fence.wide.inRound l) (n - 1 - 1) P (ownPostG w.heap.size (fun _ _ => True) I (fun _ _ _ => False) (pre ++ [x]) W) (a₁ x b) W)
    (hdone : ∀ (D : Nat) (xs : List α) (W : World), w.heap.size ≤ D → S xs → I xs W → W.heap[D]? = some (.deferred (some [])) → Q .normal { a with defers := { target := .collected D, args := #[] } :: a.defers } W) :
    (Code.rangeFunc g ps assign body).wpIn Fence.wide n P Q a w := by
  refine wpIn_rangeFunc fun fn hfn => ?_
  obtain ⟨rc, hrc⟩ : ∃ rc : LoopState → Option Code → Loop, rc = fun st pe => { state := st, pending := pe, fn, tmps := a.tmps, params := ps, assign, body, defers := w.heap.size } := ⟨_, rfl⟩
  obtain ⟨V, hV⟩ : ∃ V, (w.alloc (.deferred (some []))).alloc (.loop (rc .ready none)) = V := ⟨_, rfl⟩
  have hsV : V.heap.size = w.heap.size + 2 := by rw [← hV]; simp
  have recV : V.heap[w.heap.size + 1]? = some (.loop (rc .ready none)) := by
    rw [← hV]; have := World.alloc_heap_new (w.alloc (.deferred (some []))) (.loop (rc .ready none)); rwa [World.size_alloc] at this
  have defV : V.heap[w.heap.size]? = some (.deferred (some [])) := by
    rw [← hV]; exact (Below.heap_alloc _ _ _ (by simp)).trans (World.alloc_heap_new w _)
  have iV : I [] V := by rw [← hV]; exact hI.alloc _ (hI.alloc _ h0)
  have bV : Below w0.heap.size w0 V := by
    rw [← hV]; exact hb0.trans ((((Below.refl _ w).alloc (Nat.le_refl _) _).alloc (by simp) _).mono hb0.size)
  refine ⟨w.heap.size + 1, [{ target := .collected w.heap.size, args := #[] }], V, { target := .fn (.func gf) #[], args := ba ++ #[.func (.yield (w.heap.size + 1)) #[] #[]] }, V, gf,
    ba ++ #[.func (.yield (w.heap.size + 1)) #[] #[]], V, by rw [← hV, hrc]; exact run_enterLoop_outer _ _ _ _ _, by simp only [resolve, hg]; simp [go_sem], fun _ _ => trivial, by simp [invoke, go_sem, eg], fun _ => h1, ?_⟩
  refine (hseq (w.heap.size + 1)
    (fun pre W => I pre W ∧ W.heap[w.heap.size + 1]? = some (.loop (rc .ready none)) ∧ W.heap[w.heap.size]? = some (.deferred (some []))) V bV ?_ ⟨iV, recV, defV⟩).mono ?_
  · rintro pre x W ⟨hi, hl, hk⟩
    have hlt := (Array.getElem?_eq_some_iff.1 hl).1
    have hy := run_yield (P := P) (args := encs x) hl (by rw [hrc]; exact hps x)
    rw [hrc] at hy
    refine ⟨fn, _, assign, body, hy, roundIn_of_wpIn hfn (hassign _ x W _ _ rfl ⟨_, run_beginRound (show (W.alloc (o x)).heap[w.heap.size + 1]? = _ from (Below.heap_alloc _ _ _ hlt).trans hl) (by rw [hrc]), ?_⟩)⟩
    clear hy
    have hnew : (W.alloc (o x)).heap[W.heap.size]? = some (o x) := World.alloc_heap_new W _
    have hlW : (W.alloc (o x)).heap[w.heap.size + 1]? = some (.loop (rc .ready none)) := (Below.heap_alloc _ _ _ hlt).trans hl
    have hkW : (W.alloc (o x)).heap[w.heap.size]? = some (.deferred (some [])) := (Below.heap_alloc _ _ _ (by omega)).trans hk
    have hiW : I pre (W.alloc (o x)) := hI.alloc _ hi
    have hltW : w.heap.size + 1 < (W.alloc (o x)).heap.size := by simp; omega
    obtain ⟨U, hU⟩ : ∃ U, (W.alloc (o x)).putObj (w.heap.size + 1) (.loop { rc .ready none with state := .busy }) = U := ⟨_, rfl⟩
    have recU : U.heap[w.heap.size + 1]? = some (.loop { rc .ready none with state := .busy }) := by rw [← hU]; exact World.putObj_heap_same hltW
    have defU : U.heap[w.heap.size]? = some (.deferred (some [])) := by rw [← hU]; exact (World.putObj_heap_other (by omega)).trans hkW
    have nU : U.heap[W.heap.size]? = some (o x) := by rw [← hU]; exact (World.putObj_heap_other (by omega)).trans hnew
    have iU : I pre U := by rw [← hU]; exact hI.putObj _ hiW (by omega) hlW rfl
    rw [hU]
    refine wpIn_mono (hbody _ pre x U W.heap.size iU (by omega) nU) ?_
    have ending : ∀ (jump : Option Code) (X : World), KeepsFrom w.heap.size U X →
        (Instr.endRound (w.heap.size + 1) jump).run P X = .ok (.bool jump.isNone) (X.putObj (w.heap.size + 1) (.loop (rc (if jump.isNone then .ready else .done) jump))) ∧
        X.heap[w.heap.size + 1]? = some (.loop { rc .ready none with state := .busy }) ∧
        (X.putObj (w.heap.size + 1) (.loop (rc (if jump.isNone then .ready else .done) jump))).heap[w.heap.size + 1]? = some (.loop (rc (if jump.isNone then .ready else .done) jump)) ∧
        (X.putObj (w.heap.size + 1) (.loop (rc (if jump.isNone then .ready else .done) jump))).heap[w.heap.size]? = some (.deferred (some [])) := fun jump X hX => by
      have rX := hX.same _ _ (by omega) recU rfl
      have dX := hX.same _ _ (Nat.le_refl _) defU rfl
      have hr := run_endRound (P := P) jump rX
      refine ⟨?_, rX, World.putObj_heap_same (Array.getElem?_eq_some_iff.1 rX).1, (World.putObj_heap_other (by omega)).trans dX⟩
      rw [hrc] at hr ⊢
      exact hr
    rintro e a3 X hp
    cases e with
    | normal =>
      obtain ⟨hX, kX, iX⟩ := hp
      obtain ⟨hr, rX, e1, e2⟩ := ending none X hX
      exact ⟨_, _, hr, rfl, ⟨hI.putObj _ iX (by omega) rX rfl, e1, e2⟩⟩
    | ret => exact hp.2.elim
    | exit id => exact hp.2.elim
    | goto t => exact hp.2.elim
    | panic ch => exact hp.elim
    | outgrown => exact hp.elim
  · rintro e X ⟨⟨v, rfl⟩, xs, hS, iX, rX, dX⟩
    have hr := run_endLoop (P := P) rX (by rw [hrc]; simp)
    rw [hrc] at hr
    exact ⟨none, _, hr, hdone _ xs _ (Nat.le_refl _) hS (hI.putObj _ iX (by omega) rX rfl) ((World.putObj_heap_other (by omega)).trans dX)⟩
theorem least_of {p : Nat → Prop} : ∀ d, p d → ∃ m, p m ∧ m ≤ d ∧ ∀ k, p k → m ≤ k := by
  intro d
  induction d using Nat.strongRecOn with
  | _ d ih =>
    intro h
    by_cases hs : ∃ k, k < d ∧ p k
    · obtain ⟨k, hk, hp⟩ := hs
      obtain ⟨m, h1, h2, h3⟩ := ih k hk hp
      exact ⟨m, h1, by omega, h3⟩
    · exact ⟨d, h, Nat.le_refl _, fun k hk => Nat.not_lt.1 fun hlt => hs ⟨k, hlt, hk⟩⟩
/-- a loop whose measure is a ghost of its invariant -/
theorem wp_loop_ghost {P : Program} {Q : Exit → Act → World → Prop} {a : Act} {w : World} {c : Code} (I : Nat → Act → World → Prop) {d0 : Nat} (h₀ : I d0 a w)
    (round : ∀ d a w, I d a w → c.wp P (Exit.then (fun a' w' => ∃ d', d' < d ∧ I d' a' w') Q) a w) : (Code.loop c).wp P Q a w := by
  classical
  have ex : ∀ a w, (∃ d, I d a w) → ∃ m, I m a w ∧ ∀ k, I k a w → m ≤ k := fun a w ⟨d, h⟩ => by
    obtain ⟨m, h1, _, h3⟩ := least_of (p := fun d => I d a w) d h
    exact ⟨m, h1, h3⟩
  refine wp_loop (fun a w => ∃ d, I d a w) (fun a w => if h : ∃ d, I d a w then Classical.choose (ex a w h) else 0) ⟨d0, h₀⟩ fun a w h => ?_
  have hd := Classical.choose_spec (ex a w h)
  refine Code.wp_mono ?_ (round _ a w hd.1)
  intro e a' w' he
  cases e <;> try exact he
  obtain ⟨d', hlt, hI⟩ := he
  refine ⟨⟨d', hI⟩, ?_⟩
  have h' : ∃ d, I d a' w' := ⟨d', hI⟩
  rw [dif_pos h', dif_pos h]
  exact Nat.lt_of_le_of_lt ((Classical.choose_spec (ex a' w' h')).2 d' hI) hlt
end Go.Proofs.YteadceghjfaekaaDoor
