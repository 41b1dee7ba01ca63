/- bonds: the maker in memory: the words of near, and what was asked before. -/
import Derived.Test.YtcjokjfiikkpfaaDoorKMap
import Derived.Test.YtcjokjfiikkpfaaDoorBondLaw
import Derived.Test.YtcjokjfiikkpfaaDoorDistLaw
import Derived.Test.YtcjokjfiikkpfaaDoorMarks
import Derived.Test.YtcjokjfiikkpfaaDoorCalm
import Derived.Test.YtcjokjfiikkpfaaDoorBlk
namespace Go.Proofs.YtcjokjfiikkpfaaDoor
open Go.RowKit Go.Maps

theorem wf_u32k {n : Nat} (h : n < 1024) : (Lit.int .u32 (n : Int)).wf = true := by
  have : IntKind.u32.min ≤ (n : Int) ∧ (n : Int) ≤ IntKind.u32.max := by
    rw [show IntKind.u32.min = 0 from rfl, show IntKind.u32.max = 4294967295 from rfl]
    omega
  simpa [Lit.wf] using this
theorem wf_i64n {n : Nat} (h : n < 1024) : (Lit.int .i64 (n : Int)).wf = true := by
  have : IntKind.i64.min ≤ (n : Int) ∧ (n : Int) ≤ IntKind.i64.max := by
    rw [show IntKind.i64.min = -9223372036854775808 from rfl, show IntKind.i64.max = 9223372036854775807 from rfl]
    omega
  simpa [Lit.wf] using this
theorem zeroI (w : World) : (zeroValue 3).run Tryd.prog w = .ok (.int .i64 0) w := by go_simp
def kw (x : Nat) : Value := .int .u32 (x : Int)
theorem kw_inj (a c : Nat) (h : kw a = kw c) : a = c := by
  unfold kw at h
  injection h with _ h; omega
/-- how many words below 1024 have been asked -/
def cardO (f : Nat → Option Int) : Nat := (List.range 1024).countP fun x => (f x).isSome
theorem cardO_le (f : Nat → Option Int) : cardO f ≤ 1024 := by
  have := List.countP_le_length (p := fun x => (f x).isSome) (l := List.range 1024)
  simpa [cardO] using this
theorem cardO_upd {f : Nat → Option Int} {k : Nat} {c : Int} (hk : k < 1024) (h : f k = none) : cardO (updK f k c) = cardO f + 1 := by
  have : ∀ N, (List.range N).countP (fun x => (updK f k c x).isSome) = (List.range N).countP (fun x => (f x).isSome) + if k < N then 1 else 0 := fun N => by
    induction N with
    | zero => simp
    | succ N ih =>
      simp only [List.range_succ, List.countP_append, List.countP_cons, List.countP_nil, Nat.zero_add, ih]
      by_cases e : N = k
      · subst e
        have h1 : updK f N c N = some c := by simp [updK]
        rw [h1, h, if_neg (show ¬ N < N by omega), if_pos (show N < N + 1 by omega)]; simp
      · have h1 : updK f k c N = f N := by simp [updK, e]
        rw [h1]
        by_cases e2 : k < N
        · rw [if_pos e2, if_pos (show k < N + 1 by omega)]; omega
        · rw [if_neg e2, if_neg (show ¬ k < N + 1 by omega)]; omega
  have := this 1024
  rw [if_pos hk] at this
  exact this
def MMap (w : World) (b : Nat) (f : Nat → Option Int) : Prop := KMap Tryd.prog 26 3 .i64 kw w b (cardO f) f
section
variable {w w' : World} {b : Nat} {f : Nat → Option Int}
theorem MMap.look (h : MMap w b f) {i : Nat} (hi : i < 1024) : (Instr.lookup 42 (.map (some b)) (.int .u32 (i : Int)) true).run Tryd.prog w = .ok (.tuple #[.int .i64 ((f i).getD 0), .bool (f i).isSome]) w :=
  KMap.lookup_ok (i := i) h (int_keyed Tryd.underlying26) Tryd.underlying42 Tryd.underlying3 zeroI (keyOf_int_mk Tryd.underlying26 (wf_u32k hi))
theorem MMap.made (w : World) : MMap (w.alloc (.map #[] 0)) w.heap.size fun _ => none :=
  (KMap.made w).mono (Nat.zero_le _)
end
/-- the maker at p: its words at A, its map at B -/
structure BK (es : List (Int × Int × Int)) (ns : List Nat) (n p B cn : Nat) (A : Option Addr) (W : World) (f : Nat → Option Int) : Prop where
  bk : Blk W p 44 #[.slice A n cn, .map (some B)]
  rn : Rd W A n 1 (wds ns)
  mp : MMap W B f
  ne : ∀ b o, A = some ⟨b, o, none⟩ → b ≠ B
  np : p ≠ B
  ok : ∀ x c, f x = some c → ∃ m : Nat, c = m ∧ IsMM es (fun k => x.testBit k) m
section
variable {es : List (Int × Int × Int)} {ns : List Nat} {n p B cn : Nat} {A : Option Addr} {W W' : World} {f : Nat → Option Int}
theorem BK.grown {row : Option Nat} (h : BK es ns n p B cn A W f) (hg : W.grownBy W' row) (h1 : some p ≠ row) (h2 : ∀ b o, A = some ⟨b, o, none⟩ → some b ≠ row) (h3 : some B ≠ row) : BK es ns n p B cn A W' f :=
  ⟨h.bk.kept hg h1, h.rn.grown hg (fun b o e => (h2 b o e).symm), h.mp.kept hg h3, h.ne, h.np, h.ok⟩
theorem BK.drewN (h : BK es ns n p B cn A W f) (k : Nat) : BK es ns n p B cn A (W.drewN k) f := ⟨h.bk, h.rn.drewN k, h.mp, h.ne, h.np, h.ok⟩
theorem BK.drew (h : BK es ns n p B cn A W f) : BK es ns n p B cn A W.drew f := ⟨h.bk, h.rn.drew, h.mp, h.ne, h.np, h.ok⟩
theorem BK.later (h : BK es ns n p B cn A W f) (hb : Below W.heap.size W W') : BK es ns n p B cn A W' f :=
  ⟨h.bk.below hb h.bk.lt, h.rn.later hb, h.mp.later hb, h.ne, h.np, h.ok⟩
end
/-- what many answers -/
def MnPost (es : List (Int × Int × Int)) (ns : List Nat) (n p B cn : Nat) (A : Option Addr) (f : Nat → Option Int) (x : Nat) (w : World) (e : Ending) (w' : World) : Prop :=
  w.grownBy w' (some B) ∧ ∃ (m : Nat) (f' : Nat → Option Int), e = .returned (.int .i64 m) ∧ IsMM es (fun k => x.testBit k) m ∧ BK es ns n p B cn A w' f' ∧ ∀ k, x < k → f k = none → f' k = none
theorem MnPost.zero {es : List (Int × Int × Int)} : IsMM es (fun k => (0 : Nat).testBit k) 0 := IsMM.none fun k => Nat.zero_testBit k
/-- no more pairs than half of the nodes: a bound -/
theorem Bd.small {es : List (Int × Int × Int)} {P : VS} {c : Nat} (h : Bd es P c) : c ≤ es.length := by
  induction h with
  | nil => exact Nat.le_refl _
  | skip _ ih => simp; omega
  | take _ _ _ _ ih => simp; omega
end Go.Proofs.YtcjokjfiikkpfaaDoor
