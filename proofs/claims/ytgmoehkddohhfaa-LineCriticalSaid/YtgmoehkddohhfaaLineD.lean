/- Kahn's order: the plain law; the walk of line.Order. -/
import Derived.Test.YtgmoehkddohhfaaLineC
namespace Go.Proofs.Ytgmoehkddohhfaa
open Go.RowKit

def dOf (l : List Int) : Int → Option Int := fun k => if hasB l k then some 1 else none
def rdy (js : List Jb) (l : List Int) (i : Nat) : Bool := !hasB l i && okJ (dOf l) (jat js i)
def nx (js : List Jb) (l : List Int) : Int := match (List.range js.length).find? (rdy js l) with | some k => k | none => -1
def kahn (js : List Jb) : Nat → List Int → Option (List Int)
  | 0, l => some l
  | f + 1, l => if nx js l < 0 then none else kahn js f (l ++ [nx js l])
theorem hasB_snoc (l : List Int) (x y : Int) : hasB (l ++ [x]) y = (hasB l y || y == x) := by simp [hasB, List.any_append]
theorem notD_dOf (l : List Int) (k : Int) : notD (dOf l) k = !hasB l k := by unfold notD dOf; cases hasB l k <;> rfl
theorem upd_dOf (l : List Int) (k : Int) : updI (dOf l) k 1 = dOf (l ++ [k]) := by
  funext j
  unfold updI dOf
  rw [hasB_snoc]
  by_cases h : j = k
  · subst h; simp
  · simp [h]
theorem nx_none {js : List Jb} {l : List Int} (h : ∀ j, j < js.length → rdy js l j = false) : nx js l = -1 := by
  unfold nx
  rw [List.find?_eq_none.2 (by intro x hx; simpa using h x (by simpa using hx))]
theorem nx_some {js : List Jb} {l : List Int} {k : Nat} (hk : k < js.length) (hr : rdy js l k = true) (h : ∀ j, j < k → rdy js l j = false) : nx js l = k := by
  unfold nx
  rw [List.find?_range_eq_some.2 ⟨hr, by simpa using hk, fun j hj => by simpa using h j hj⟩]
theorem nx_cases (js : List Jb) (l : List Int) : (nx js l = -1 ∧ ∀ j, j < js.length → rdy js l j = false) ∨ ∃ k : Nat, nx js l = k ∧ k < js.length ∧ rdy js l k = true := by
  unfold nx
  cases h : (List.range js.length).find? (rdy js l) with
  | none => exact .inl ⟨rfl, fun j hj => by simpa using List.find?_eq_none.1 h j (by simpa using hj)⟩
  | some k =>
    obtain ⟨h1, h2, _⟩ := List.find?_range_eq_some.1 h
    exact .inr ⟨k, rfl, by simpa using h2, h1⟩
/-- where the inner loop stands: the first place whose job may be done, or is done, behind all that may not be -/
def At (js : List Jb) (l : List Int) (r : Int) : Prop :=
  (r = -1 ∧ ∀ j, j < js.length → rdy js l j = false) ∨ ∃ k : Nat, r = k ∧ k < js.length ∧ okJ (dOf l) (jat js k) = true ∧ ∀ j, j < k → rdy js l j = false
theorem rdy_not_ok {js : List Jb} {l : List Int} {j : Nat} (h : okJ (dOf l) (jat js j) = false) : rdy js l j = false := by simp [rdy, h]
theorem At.start {js : List Jb} {l : List Int} {r : Int} (h : NextIs (dOf l) js 0 r) : At js l r := by
  rcases h with ⟨h1, h2⟩ | ⟨k, h1, _, h2, h3, h4⟩
  · exact .inl ⟨h1, fun j hj => rdy_not_ok (h2 j (Nat.zero_le _) hj)⟩
  · exact .inr ⟨k, h1, h2, h3, fun j hj => rdy_not_ok (h4 j (Nat.zero_le _) hj)⟩
theorem At.step {js : List Jb} {l : List Int} {k : Nat} {r : Int} (hno : ∀ j, j < k → rdy js l j = false) (hd : hasB l k = true) (h : NextIs (dOf l) js (k + 1) r) : At js l r := by
  have hb : ∀ j, j < k + 1 → rdy js l j = false := fun j hj => by
    rcases Nat.lt_or_ge j k with h1 | h1
    · exact hno j h1
    · obtain rfl : j = k := by omega
      simp [rdy, hd]
  rcases h with ⟨h1, h2⟩ | ⟨m, h1, h0, h2, h3, h4⟩
  · exact .inl ⟨h1, fun j hj => by
      rcases Nat.lt_or_ge j (k + 1) with h | h
      · exact hb j h
      · exact rdy_not_ok (h2 j h hj)⟩
  · exact .inr ⟨m, h1, h2, h3, fun j hj => by
      rcases Nat.lt_or_ge j (k + 1) with h | h
      · exact hb j h
      · exact rdy_not_ok (h4 j h hj)⟩
theorem at_nx {js : List Jb} {l : List Int} {k : Nat} (hk : k < js.length) (h : okJ (dOf l) (jat js k) = true) (hno : ∀ j, j < k → rdy js l j = false) (hd : hasB l k = false) : nx js l = k :=
  nx_some hk (by simp [rdy, h, hd]) hno
def OrdPost (js : List Jb) (w : World) (e : Ending) (w' : World) : Prop :=
  Below w.heap.size w w' ∧ ((kahn js js.length [] = none ∧ e = .returned (.tuple #[.slice none 0 0, .int .i64 5])) ∨
    ∃ l v, kahn js js.length [] = some l ∧ e = .returned (.tuple #[v, .int .i64 0]) ∧ w'.ownsRow w.heap.size 3 1 v l.length (ints .i64 l))
def ErrPost (c : Int) (w : World) (e : Ending) (w' : World) : Prop := e = .returned (.tuple #[.slice none 0 0, .int .i64 c]) ∧ Below w.heap.size w w'
theorem order_bad (A : Option Addr) (len cap : Nat) (l : List Jb) (w : World) (hr : RdJ w A len l) (hl : len ≤ 9223372036854775807) (hc : jchk l ≠ 0) :
    Calls Try.prog 5 #[.slice A len cap] w (ErrPost (jchk l) w) := by
  have HC := Lib.hid (lineCheck_any A len cap l w hr hl)
  have hcb : (jchk l != 0) = true := by simpa using hc
  clear hr hc
  go_enter Try.func5, Try.ntmps5
  go_wp2_with fail
  refine HC.out.mono ?_
  rintro e w1 ⟨rfl, hb⟩
  go_wp2
  go_ret2
  exact ⟨rfl, hb⟩
theorem jchk_len {l : List Jb} (h : jchk l = 0) : l.length ≤ 10 := by
  unfold jchk at h
  split at h
  · omega
  · omega
def sliceLen : Value → Nat
  | .slice _ n _ => n
  | _ => 0
theorem own_len {w : World} {b e s n : Nat} {v : Value} {xs : List Value} (h : w.ownsRow b e s v n xs) : sliceLen v = n := by
  obtain ⟨A, c, rfl⟩ := own_slice h; rfl
theorem tiI : TI Try.prog 23 3 (.int .i64 0) 1 8 := TI.mk' Try.underlying23 (by kernel_rfl) rfl (by decide)
theorem own_not_map {P : Program} {k e ee : TypeId} {q : IntKind} {w : World} {b n base s m : Nat} {f : Int → Option Int} {v : Value} {xs : List Value} (h : IMap P k e q w b n f) (ho : w.ownsRow base ee s v m xs) : v.ownBlock ≠ some b := by
  obtain ⟨D, ⟨es, clock, h1, _⟩, _⟩ := h
  rcases ho.2 with ⟨rfl, _⟩ | ⟨g, cap, cur, rfl, _, h2, _⟩
  · simp [Value.ownBlock]
  · intro hh
    simp only [Value.ownBlock, Option.some.injEq] at hh
    subst hh
    rw [h1] at h2
    cases h2
end Go.Proofs.Ytgmoehkddohhfaa
