/- span: when a graph is a tree. Plain. -/
import Derived.Test.YtdmbbddkbfknlaaDoorPruferC
import Derived.Test.YtdmbbddkbfknlaaDoorSpreadLaw
import Derived.Test.YtdmbbddkbfknlaaDoorNearGr
import Derived.Test.YtdmbbddkbfknlaaDoorWarsh
namespace Go.Proofs.YtdmbbddkbfknlaaDoor
open Go.RowKit

/-- what the code asks of a graph -/
def Tcond (n : Nat) (es : List E) : Prop := 2 ≤ n ∧ es.length + 1 = n ∧ ∀ v, v < n → Go (adj es) 0 v
theorem adj_nb {n : Nat} {es : List E} (h : gchk n es = 0) (x y : Nat) : nb (nearW n es) x y = adj es x y := by
  have g := nearGr h
  obtain ⟨_, _, _, hok, _⟩ := gchk_ok h
  rw [Int.toNat_natCast] at hok
  by_cases hx : x < n
  · unfold nb; exact nearW_bit es hok x y hx
  · have h1 : nb (nearW n es) x y = false := by
      cases hh : nb (nearW n es) x y
      · rfl
      · exact absurd (g.ok x y hh).1 hx
    have h2 : adj es x y = false := by
      cases hh : adj es x y
      · rfl
      · rw [adj_prs hok, adjP_iff] at hh
        have hL := (prs_ok (gchk_iff.1 h).2).1
        rcases hh with hh | hh
        · exact absurd (List.mem_range.1 (hL _ hh).1) hx
        · exact absurd (List.mem_range.1 (hL _ hh).2.1) hx
    rw [h1, h2]
theorem Go.symm {r : Nat → Nat → Bool} (hs : ∀ x y, r x y = true → r y x = true) {a b : Nat} (h : Go r a b) : Go r b a := by
  induction h with
  | refl => exact .refl
  | step _ h2 ih => exact Go.trans (.step .refl (hs _ _ h2)) ih
theorem Tcond.tre {n : Nat} {es : List E} (h : gchk n es = 0) (ht : Tcond n es) : Tre (List.range n) (adj es) := by
  have g := nearGr h
  have hL := (gchk_iff.1 h).2
  obtain ⟨hp1, hp2⟩ := prs_ok hL
  have hok := hL.ok
  have hsy : ∀ x y, adj es x y = true → adj es y x = true := fun x y hxy => by rw [adj_symm]; exact hxy
  refine ⟨List.nodup_range, fun x => ?_, hsy, fun x y hxy => ?_, fun u hu v hv => ?_, ?_⟩
  · cases hh : adj es x x
    · rfl
    · rw [← adj_nb h] at hh; exact absurd rfl (g.ok x x hh).2.2.2
  · rw [← adj_nb h] at hxy; exact List.mem_range.2 (g.ok x y hxy).1
  · exact Go.trans (Go.symm hsy (ht.2.2 u (List.mem_range.1 hu))) (ht.2.2 v (List.mem_range.1 hv))
  · have e : adj es = adjP (prs es) := by funext x y; exact adj_prs hok x y
    have hl : (prs es).length = es.length := by simp [prs]
    have := ht.2.1
    rw [e, hands List.nodup_range hp1 hp2, hl, List.length_range]; omega
/-- all that is come to from 0 -/
theorem spread_all {n : Nat} {es : List E} (h : gchk n es = 0) {R : Nat} (hR : R < 2 ^ n) (hs : IsSpread (nearW n es) (2 ^ n - 1) 1 R) : R = 2 ^ n - 1 ↔ ∀ v, v < n → Go (adj es) 0 v := by
  have g := nearGr h
  have one : ∀ m, (1 : Nat).testBit m = true ↔ m = 0 := fun m => by
    rw [show (1 : Nat) = 2 ^ 0 from rfl, Nat.testBit_two_pow]; simp; exact ⟨Eq.symm, Eq.symm⟩
  have h1 : ∀ m, R.testBit m = true → Go (adj es) 0 m := hs.least (fun m => Go (adj es) 0 m) (fun m hm => by rw [(one m).1 hm]; exact .refl) (fun j m hj hjm _ => .step hj (by rw [← adj_nb h]; exact hjm))
  have h2 : ∀ m, Go (adj es) 0 m → R.testBit m = true := fun m hm => by
    induction hm with
    | refl => exact hs.sub 0 ((one 0).2 rfl)
    | @step b x _ hbx ih =>
      rw [← adj_nb h] at hbx
      refine hs.cl b x ih hbx ?_
      rw [Nat.testBit_two_pow_sub_one]
      exact decide_eq_true (g.ok b x hbx).2.1
  constructor
  · intro e v hv
    refine h1 v ?_
    rw [e, Nat.testBit_two_pow_sub_one]; exact decide_eq_true hv
  · intro hall
    apply Nat.eq_of_testBit_eq
    intro m
    rw [Nat.testBit_two_pow_sub_one]
    by_cases hm : m < n
    · rw [h2 m (hall m hm), decide_eq_true hm]
    · rw [decide_eq_false hm]
      exact Nat.testBit_lt_two_pow (Nat.lt_of_lt_of_le hR (Nat.pow_le_pow_right (by omega) (by omega)))
theorem dist_all {n : Nat} {es : List E} (h : gchk n es = 0) (v : Nat) : 0 ≤ dW es n 0 v ↔ Go (adj es) 0 v := by
  have g := nearGr h
  constructor
  · exact cn_least (R := Go (adj es)) (fun _ => .refl) (fun _ _ _ h1 h2 => h1.trans h2) (fun i j hij => .step .refl hij) n 0 v
  · intro hg
    show cn es n 0 v
    induction hg with
    | refl => exact cn_refl es n 0
    | @step b x _ hbx ih =>
      have hb : b < n := by
        have := hbx
        rw [← adj_nb h] at this
        exact (g.ok b x this).1
      exact cn_trans es n b hb 0 x ih (cn_adj hbx n)
/-- the tree of a code is one -/
theorem DR.tree {n : Nat} {c : List Nat} {ps : List (Nat × Nat)} (hn : n ≤ 10) (h : DR (List.range n) c ps) : gchk n (toE ps) = 0 ∧ Tcond n (toE ps) ∧ PR (List.range n) (adj (toE ps)) c := by
  have hl := h.len
  rw [List.length_range] at hl
  have hOK := toE_ok h.in_ (h.once List.nodup_range)
  have hlE : (toE ps).length = ps.length := by simp [toE]
  have hg : gchk n (toE ps) = 0 := gchk_iff.2 ⟨by simp [glarge, hlE]; omega, hOK⟩
  have e : adj (toE ps) = adjP ps := by funext x y; rw [adj_prs hOK.ok, prs_toE]
  have hp := h.pr List.nodup_range
  refine ⟨hg, ⟨by omega, by omega, fun v hv => ?_⟩, by rw [e]; exact hp⟩
  rw [e]
  exact hp.conn 0 (List.mem_range.2 (by omega)) v (List.mem_range.2 hv)
/-- the code of a tree makes it again -/
theorem back_same {n : Nat} {es : List E} {c : List Nat} {ps : List (Nat × Nat)} (hn : n ≤ 10) (h : PR (List.range n) (adj es) c) (hd : DR (List.range n) c ps) (x y : Nat) (hxy : adj es x y = true) : adj (toE ps) x y = true :=
  (h.one List.nodup_range (hd.tree hn).2.2 x y).1 hxy
end Go.Proofs.YtdmbbddkbfknlaaDoor
