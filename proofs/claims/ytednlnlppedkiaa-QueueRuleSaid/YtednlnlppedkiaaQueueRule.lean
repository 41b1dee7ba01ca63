/- QueueRule: JOHNSON's order ends as early as can be. -/
import Derived.Test.YtednlnlppedkiaaJohnson
namespace Go.Proofs.Ytednlnlppedkiaa
open Go.RowKit

set_option maxHeartbeats 1600000 in
theorem queueRule_any (A : Option Addr) (len cap : Nat) (fs : List Int) (A2 : Option Addr) (len2 cap2 : Nat) (ss : List Int) (w : World) (hr : Rd w A len 1 (ints .i64 fs)) (hl : len ≤ maxLen) (_ : len ≤ cap) (_ : ∀ z ∈ fs, (Lit.int .i64 z).wf = true)
    (hr2 : Rd w A2 len2 1 (ints .i64 ss)) (hl2 : len2 ≤ maxLen) (_ : len2 ≤ cap2) (_ : ∀ z ∈ ss, (Lit.int .i64 z).wf = true) :
    Calls Try.prog 4 #[.slice A len cap, .slice A2 len2 cap2] w fun e w' => e = .returned (.bool true) ∧ Below w.heap.size w w' := by
  unfold maxLen at hl hl2
  have hel : fs.length = len := by simpa [ints] using hr.1
  have hel2 : ss.length = len2 := by simpa [ints] using hr2.1
  by_cases hok : tchk fs ss = 0
  · obtain ⟨h7, hle, hbf, hbs⟩ := tchk_zero hok
    obtain rfl : len = len2 := by omega
    rw [hel] at h7
    have HT := Lib.hid (two_ok A A2 len cap cap2 fs ss w hr hr2 hok)
    have HC := Lib.hid (fun W (h : Below w.heap.size w W) => twoCheck_any A A2 len cap len cap2 fs ss W (hr.later h) (hr2.later h) (by omega) (by omega))
    rw [hok] at HC
    have HJ := Lib.hid (fun W (h : Below w.heap.size w W) => johnson_any A A2 len cap cap2 fs ss W (hr.later h) (hr2.later h) h7)
    have HF := Lib.hid (fun W (h : Below w.heap.size w W) A' m c zs (hR : Rd W A' m 1 (ints .i64 zs)) h1 h2 => twoEnd_any A A2 A' len cap len cap2 m c fs ss zs W (hr.later h) (hr2.later h) hR (by omega) rfl h1 hbf hbs h2)
    clear hr hr2
    go_enter Try.func4, Try.ntmps4
    go_wp2_with fail
    refine HT.out.mono ?_
    rintro _ w1 ⟨x, g, c, rfl, hp, hown, hmin, hb⟩
    have hbH := Lib.hid hb
    have HC1 := Lib.hid (HC.out w1 hb)
    have HJ1 := Lib.hid (HJ.out w1 hb)
    have hpH := Lib.hid hp; have hminH := Lib.hid hmin
    have hs1 := hb.size
    clear hp hown hmin hb hbf hbs hok hel hel2
    go_wp2_with fail
    refine HC1.out.mono ?_
    rintro _ w2 ⟨rfl, rfl⟩
    go_wp2_with fail
    refine HJ1.out.mono ?_
    rintro _ w2 ⟨A', c', o, rfl, hown2, hpo, hpw, hb2⟩
    have hb3 := hbH.out.trans (hb2.mono hs1)
    have HF1 := Lib.hid (HF.out w2 hb3 A' len c' (natI o) (Rd.of_own hown2) h7 (natI_getD hpo))
    have heq := Int.le_antisymm (hminH.out o hpo) (tend_best hpw (hpH.out.trans hpo.symm))
    rw [← heq] at HF1
    have hb3H := Lib.hid hb3
    clear heq hown2 hpo hpw hb2 hb3
    generalize tend fs ss (natI x) = v at *
    go_wp2_with fail
    refine HF1.out.mono ?_
    rintro _ w3 ⟨rfl, rfl⟩
    go_wp2
    go_ret
    exact ⟨rfl, hb3H.out⟩
  · have HT := Lib.hid (two_bad A A2 len cap len2 cap2 fs ss w hr hr2 (by omega) (by omega) hok)
    have HC := Lib.hid (fun W (h : Below w.heap.size w W) => twoCheck_any A A2 len cap len2 cap2 fs ss W (hr.later h) (hr2.later h) (by omega) (by omega))
    have hne : (tchk fs ss != 0) = true := by simpa using hok
    clear hr hr2 hok hel hel2
    generalize tchk fs ss = y at *
    go_enter Try.func4, Try.ntmps4
    go_wp2_with fail
    refine HT.out.mono ?_
    rintro _ w1 ⟨z, rfl, hz, hb⟩
    have hz' : (z != 0) = true := by simpa using hz
    have HC1 := Lib.hid (HC.out w1 hb)
    have hbH := Lib.hid hb
    clear hz hb
    go_wp2_with fail
    refine HC1.out.mono ?_
    rintro _ w2 ⟨rfl, rfl⟩
    go_wp2
    go_ret
    exact ⟨rfl, hbH.out⟩
end Go.Proofs.Ytednlnlppedkiaa
