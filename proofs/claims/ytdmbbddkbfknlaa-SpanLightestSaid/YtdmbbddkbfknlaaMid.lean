/- A region that draws: the first operations by hand, the rest quiet in a class of worlds, in the order of the text. -/
import Derived.Test.YtdmbbddkbfknlaaBel
import Derived.Deep.RegionWith
namespace Go.Proofs.Ytdmbbddkbfknlaa
open Go.RowKit

theorem wpAny_drop {P : Program} {ops : Array Oper} {C : World → Prop} {Q : Exit → Act → World → Prop} {listed : Array Bool} {a : Act} {w : World} (k n : Nat) (hn : (ops.toList.drop k).length = n) (hs : Region.noSelect ops = true) (hB : Region.lexFrom .any ops n k listed = true) (hC : C w)
    (h : wpQuiet P ops C (fun a' => ∀ w', C w' → Q .normal a' w') (ops.toList.drop k) a) : wpAny P .any ops Q n listed a w := by
  subst hn
  exact wpAny_of_quiet (Q := fun a' => ∀ w', C w' → Q .normal a' w') (fun _ w' hw' h => h w' hw') _ _ _ _ hC (wpAnyQ_lex (C := C) (md := .any) hs _ k listed a (fun j => by rw [List.getElem?_drop, Array.getElem?_toList]) hB h)
end Go.Proofs.Ytdmbbddkbfknlaa
