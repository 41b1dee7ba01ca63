/- A region that draws its order, makes memory and calls, in a round of a range over a function: by the laws of an ordinary walk (wpAnyH). And append onto a slice without room. -/
import Derived.Test.YteadceghjfaekaaDoorLast
import Derived.Deep.RegionHeld3
import Derived.Deep.RegionLawGrows
namespace Go.Proofs.YteadceghjfaekaaDoor
open Go.RowKit

section
variable {n l : Nat} {P : Program} {ops : Array Oper} {Q : Exit → Act → World → Prop} {S : World → Prop}
theorem operIn_of {o : Oper} {a : Act} {w : World} {K : Act → World → Prop} (h : o.wp P a w K Q) : o.wpIn Fence.wide n P a w K Q := by
  refine ⟨fun _ _ => trivial, ?_⟩
  unfold Oper.wp at h
  show o.uponIn Fence.wide n P a K Q ((execOp a.eval o).run P w)
  generalize (execOp a.eval o).run P w = r at *
  cases r with
  | ok x w' =>
    cases x <;> simp only [Oper.upon, Oper.uponIn] at h ⊢ <;>
      first
        | exact h
        | exact ⟨fun h => (by cases h), callsIn_wide.2 h⟩
        | (refine ⟨fun h => (by cases h), fun c cs _ => ?_⟩
           obtain ⟨v, w'', h1, h2⟩ := h c cs
           exact ⟨v, w'', h1, stepsIn_wide.2 h2⟩)
  | halt x w' => cases x <;> simp only [Oper.upon, Oper.uponIn] at h ⊢ <;> exact h
theorem anyIn_of_held (hd : ∀ (j : Nat) (o : Oper), ops[j]? = some o → ∀ c, o.op ≠ .defer c) (hQ : ¬ LetsOut Q) : ∀ (fuel : Nat) (listed : Array Bool) (a : Act) (w : World),
    wpAnyH P .any ops Q S fuel listed a w → wpAnyIn (Fence.wide.inRound l) n P .any ops Q fuel listed a w
  | 0, _, _, _, h => h
  | fuel + 1, listed, a, w, h => ⟨h.1, fun i hi => by
    have h1 := h.2 i hi
    unfold wpOp at h1
    unfold wpOpIn
    split
    · rename_i ho
      rw [ho] at h1
      exact anyIn_of_held hd hQ fuel _ a w h1.2
    · rename_i o ho
      rw [ho] at h1
      dsimp only at h1
      split
      · rename_i hw
        rw [if_pos hw] at h1
        rcases h1 with h1 | h1
        · exact opIn_round (hd i o ho) (operIn_of (Oper.wp_mono (fun a' w' hh => anyIn_of_held hd hQ fuel _ a' w' hh.2) h1))
        · exact absurd h1.2 hQ
      · rename_i hw
        rw [if_neg hw] at h1
        exact ⟨fun _ _ => trivial, anyIn_of_held hd hQ fuel _ _ w h1.2⟩⟩
theorem noDefer {L : List Oper} (h : L.all (fun o => !isDefer o.op) = true) : ∀ (j : Nat) (o : Oper), L.toArray[j]? = some o → ∀ c, o.op ≠ .defer c := fun j o ho => by
  have ho' : L[j]? = some o := by simpa using ho
  have := List.all_eq_true.1 h o (List.mem_of_getElem? ho')
  exact isDefer_no (by simpa using this)
/-- the beginning -/
theorem region_round_held {id : Nat} {L : List Oper} {a : Act} {w : World} (S : World → Prop) (hm : P.follows .mixedOrders = true) (hd : L.all (fun o => !isDefer o.op) = true) (hQ : ¬ LetsOut Q) (hS : S w.drew)
    (h : S w.drew → wpAnyH P .any L.toArray Q S L.toArray.size (Array.replicate L.toArray.size false) a w.drew) : (Code.region id L.toArray true).wpIn (Fence.wide.inRound l) n P Q a w :=
  wpIn_region_any hm (anyIn_of_held (noDefer hd) hQ _ _ _ _ (h hS))
end
/-- append onto a slice without room: a new row -/
theorem step_app_full {P : Program} {ops : Array Oper} {o : Oper} {a : Act} {w : World} {K : Act → World → Prop} {Q : Exit → Act → World → Prop} {E : Prop} {s x : Operand} {t e : TypeId} {z : Value} {size bytes : Nat} (T : TI P t e z size bytes)
    {ao : Option Addr} {n : Nat} {olds : List Value} (ho : Rd w ao n size olds) (hnone : ao = none → n = 0) {A : Addr} {m c : Nat} {news : List Value} (hr : Rd w (some A) m size news) (h1 : ∀ u ∈ news, u.oneCell' = true)
    (hm : 0 < m) (hbytes : (n + m) * bytes ≤ 140737488355328) (h63 : n + m ≤ 9223372036854775807)
    (hop : o.op = .call { callee := .builtin .append, args := #[s, x], argTypes := #[t, t] }) (hgd : o.guard = none) (hs : a.eval s = .slice ao n n) (hx : a.eval x = .slice (some A) m c)
    (h : ∀ v' w', w'.ownsRow w.heap.size e size v' (n + m) (olds ++ news) → w.grownBy w' none → K (a.put o.dst v') w') :
    if Region.wanted o (yielded ops a.tmps) = true then Oper.wp P o a w K Q else E := by
  obtain ⟨i, hi, hz, hsize, hby⟩ := T.hi
  have cells : ∀ {A' : Option Addr} {k : Nat} {xs : List Value}, Rd w A' k size xs → ∀ b, A' = some b → ∀ j u, xs[j]? = some u → w.cell? (b.add j) = some u := by
    intro A' k xs hr b hb j u hu
    rcases Nat.eq_zero_or_pos k with h0 | h0
    · subst h0
      obtain rfl : xs = [] := List.eq_nil_of_length_eq_zero (by simpa using hr.1)
      simp at hu
    · obtain ⟨b', o', h', _, hc⟩ := hr.2 h0
      rw [hb] at h'
      injection h' with h'
      subst h'
      have hj : j < k * size := by rw [← hr.1]; exact (List.getElem?_eq_some_iff.1 hu).1
      rw [show (⟨b', o', none⟩ : Addr).add j = ⟨b', o' + j, none⟩ by unfold Addr.add; by_cases h : j = 0 <;> simp [h]]
      exact (hc j hj).trans hu
  exact step_append_grows hgd s x t hop e i z size bytes T.ht hi hz hsize hby T.hzs T.hsz ao n n olds hs (fun h => ⟨hnone h, hnone h⟩) ho.1 (cells ho) A m c news hx hr.1 (cells hr A rfl) h1 (by omega) h63 hbytes h
end Go.Proofs.YteadceghjfaekaaDoor
