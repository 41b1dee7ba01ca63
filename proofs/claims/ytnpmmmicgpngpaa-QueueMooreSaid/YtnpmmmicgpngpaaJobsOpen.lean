/- A slice of jobs that came in. -/
import Derived.Test.YtnpmmmicgpngpaaJobs
namespace Go.Proofs.Ytnpmmmicgpngpaa
open Go.ChangeShapes Go.WideShapes Go.ChangeAt Go.RowKit Go.Joins

theorem tr_jobs {H : Type} {enc : TypeId × Value → H} {w : World} {base : Nat} {spare : Nat → Bool} {held : Bool} {fuel : Nat} {v : Value} {x : DataW H × List MemPlace} (h : DataW.trod enc Try.prog w base spare held fuel 22 [v] = some x) :
    ∃ (A : Option Addr) (len cap : Nat) (l : List Jb), v = .slice A len cap ∧ len ≤ maxLen ∧ len ≤ cap ∧ RdJ w A len l ∧ (∀ j ∈ l, (∀ z ∈ j.after, (Lit.int .i64 z).wf = true) ∧ (Lit.int .i64 j.time).wf = true ∧ (Lit.int .i64 j.due).wf = true ∧ (Lit.int .i64 j.worth).wf = true) := by
  obtain ⟨A, len, cap, l, h1, h2, h3, h4, h5, h6, _⟩ := tr_structs (default : Jb) jv (bytes := 48) (s := 4) Try.underlying22 Try.underlying31 (by kernel_rfl) (by kernel_rfl) rfl (by omega) (by kernel_rfl) (fun _ => rfl)
    (fun j => JFit w j ∧ (∀ z ∈ j.after, (Lit.int .i64 z).wf = true) ∧ (Lit.int .i64 j.time).wf = true ∧ (Lit.int .i64 j.due).wf = true ∧ (Lit.int .i64 j.worth).wf = true) (by
    intro vs n hl hg
    match vs, hl with
    | [u0, u1, u2, u3], _ =>
      obtain ⟨_, _, a0, b0⟩ := hg 0 _ rfl
      obtain ⟨_, _, a1, b1⟩ := hg 1 _ rfl
      obtain ⟨_, _, a2, b2⟩ := hg 2 _ rfl
      obtain ⟨_, _, a3, b3⟩ := hg 3 _ rfl
      simp at a0 a1 a2 a3
      subst a0; subst a1; subst a2; subst a3
      obtain ⟨t, rfl, wt⟩ := tr_int Try.underlying2 b0
      obtain ⟨A', l', c', zs, rfl, m1, m2, m3, m4, _⟩ := tr_ints (bytes := 8) Try.underlying23 Try.underlying3 (by kernel_rfl) (by kernel_rfl) b1
      obtain ⟨du, rfl, wd⟩ := tr_int Try.underlying2 b2
      obtain ⟨wo, rfl, ww⟩ := tr_int Try.underlying2 b3
      exact ⟨⟨t, A', l', c', du, wo, zs⟩, rfl, ⟨m3, m1, m2⟩, m4, wt, wd, ww⟩) h
  exact ⟨A, len, cap, l, h1, h2, h3, ⟨h4, h5, fun j hj => (h6 j hj).1⟩, fun j hj => (h6 j hj).2⟩
end Go.Proofs.Ytnpmmmicgpngpaa
