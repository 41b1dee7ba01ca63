/- A slice of slices of int64 that came in. -/
import Derived.Test.YtfedkcnofbhlgaaRows
import Derived.Test.YtfedkcnofbhlgaaRows2
namespace Go.Proofs.Ytfedkcnofbhlgaa
open Go.ChangeShapes Go.WideShapes Go.ChangeAt Go.RowKit Go.Joins

theorem tr_rows {H : Type} {enc : TypeId × Value → H} {w : World} {base : Nat} {spare : Nat → Bool} {held : Bool} {fuel : Nat} {v : Value} {x : DataW H × List MemPlace} (h : DataW.trod enc Try.prog w base spare held fuel 22 [v] = some x) :
    ∃ (A : Option Addr) (len cap : Nat) (l : List Rw), v = .slice A len cap ∧ len ≤ maxLen ∧ len ≤ cap ∧ RdR w A len l ∧ ∀ r ∈ l, ∀ z ∈ r.zs, (Lit.int .i64 z).wf = true :=
  tr_rows_of Try.underlying22 Try.underlying23 Try.underlying2 (by kernel_rfl) (by kernel_rfl) h
end Go.Proofs.Ytfedkcnofbhlgaa
