/- A struct of two slices of slices of int that came in. -/
import Derived.Test.YtcmefjfhcdedjaaRows
import Derived.Test.YtcmefjfhcdedjaaRows2
namespace Go.Proofs.Ytcmefjfhcdedjaa
open Go.ChangeShapes Go.WideShapes Go.ChangeAt Go.RowKit Go.Joins

theorem tr_rowsI {H : Type} {enc : TypeId × Value → H} {w : World} {base : Nat} {spare : Nat → Bool} {held : Bool} {fuel : Nat} {v : Value} {x : DataW H × List MemPlace} (h : DataW.trod enc Try.prog w base spare held fuel 22 [v] = some x) :
    ∃ (A : Option Addr) (len cap : Nat) (l : List Rw), v = .slice A len cap ∧ len ≤ maxLen ∧ len ≤ cap ∧ RdR w A len l ∧ ∀ r ∈ l, ∀ z ∈ r.zs, (Lit.int .i64 z).wf = true :=
  tr_rows_of Try.underlying22 Try.underlying29 Try.underlying3 (by kernel_rfl) (by kernel_rfl) h
end Go.Proofs.Ytcmefjfhcdedjaa
