/- The arcs of a net that came in. -/
import Derived.Test.YtgengjneccpaiaaNet
namespace Go.Proofs.Ytgengjneccpaiaa
open Go.ChangeShapes Go.WideShapes Go.ChangeAt Go.RowKit Go.Joins

def AWf (a : Arc) : Prop := (Lit.int .i64 a.1).wf = true ∧ (Lit.int .i64 a.2.1).wf = true ∧ (Lit.int .i64 a.2.2.1).wf = true ∧ (Lit.int .i64 a.2.2.2).wf = true
theorem tr_arcs {H : Type} {enc : TypeId × Value → H} {w : World} {base : Nat} {spare : Nat → Bool} {held : Bool} {fuel : Nat} {v : Value} {x : DataW H × List MemPlace} (h : DataW.trod enc Try.prog w base spare held fuel 22 [v] = some x) :
    ∃ (A : Option Addr) (len cap : Nat) (l : List Arc), v = .slice A len cap ∧ len ≤ maxLen ∧ len ≤ cap ∧ l.length = len ∧ Rd w A len 4 (arcs l) ∧ ∀ a ∈ l, AWf a := by
  obtain ⟨A, len, cap, l, h1, h2, h3, h4, h5, h6, _⟩ := tr_structs ((0, 0, 0, 0) : Arc) av (bytes := 32) (s := 4) Try.underlying22 Try.underlying53 (by kernel_rfl) (by kernel_rfl) rfl (by omega) (by kernel_rfl) (fun _ => rfl) AWf (by
    intro vs n hl hg
    match vs, hl with
    | [u0, u1, u2, u3], _ =>
      obtain ⟨_, _, a0, b0⟩ := hg 0 _ rfl
      obtain ⟨_, _, a1, b1⟩ := hg 1 _ rfl
      obtain ⟨_, _, a2, b2⟩ := hg 2 _ rfl
      obtain ⟨_, _, a3, b3⟩ := hg 3 _ rfl
      simp at a0 a1 a2 a3
      subst a0; subst a1; subst a2; subst a3
      obtain ⟨f, rfl, wf⟩ := tr_int Try.underlying3 b0
      obtain ⟨t, rfl, wt⟩ := tr_int Try.underlying3 b1
      obtain ⟨m, rfl, wm⟩ := tr_int Try.underlying2 b2
      obtain ⟨e, rfl, we⟩ := tr_int Try.underlying2 b3
      exact ⟨(f, t, m, e), rfl, wf, wt, wm, we⟩) h
  exact ⟨A, len, cap, l, h1, h2, h3, h4, h5, h6⟩
end Go.Proofs.Ytgengjneccpaiaa
