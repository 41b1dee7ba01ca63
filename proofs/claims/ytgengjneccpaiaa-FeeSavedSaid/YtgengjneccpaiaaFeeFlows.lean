/- ref: Flows. -/
import Derived.Test.YtgengjneccpaiaaFlowA
import Derived.Laws.BitsAllLaws
namespace Go.Proofs.Ytgengjneccpaiaa
open Go.RowKit Go.Shelf

def exP (l : List Arc) (f : Nat → Int) (k u : Nat) : Int := sm k fun j => (if u = fr l j then f j else 0) - if u = tn l j then f j else 0
theorem exP_zero (l : List Arc) (f : Nat → Int) (u : Nat) : exP l f 0 u = 0 := rfl
theorem exPk_bd {l : List Arc} {f : Nat → Int} : ∀ (k : Nat), (∀ j, j < k → 0 ≤ f j ∧ f j ≤ 1048576) → ∀ u, -(k * 1048576) ≤ exP l f k u ∧ exP l f k u ≤ k * 1048576
  | 0, _, _ => by simp [exP, sm]
  | k + 1, h, u => by
    have ih := exPk_bd (l := l) k (fun j hj => h j (by omega)) u
    have ha := h k (by omega)
    unfold exP at *
    rw [sm]
    split <;> split <;> omega
theorem exP_step {l : List Arc} {f : Nat → Int} {k : Nat} (hne : fr l k ≠ tn l k) : exP l f (k + 1) = fun i => if i = tn l k then exP l f k (tn l k) - f k else if i = fr l k then exP l f k (fr l k) + f k else exP l f k i := by
  funext u
  show sm _ _ = _
  unfold exP
  rw [sm]
  by_cases h1 : u = fr l k
  · subst h1
    rw [if_pos rfl, if_neg hne, if_neg hne, if_pos rfl]; omega
  · rw [if_neg h1]
    by_cases h2 : u = tn l k
    · subst h2
      rw [if_pos rfl, if_pos rfl]; omega
    · rw [if_neg h2, if_neg h2, if_neg h1]; omega
def FlowsPost (N len lg s t : Nat) (l : List Arc) (gs : List Int) (w : World) (e : Ending) (w' : World) : Prop :=
  Below w.heap.size w w' ∧ ∃ (v : Int) (b : Bool), e = .returned (.tuple #[.int .i64 v, .bool b]) ∧ (b = true → lg = len ∧ FL N l s t (fun k => gs.getD k 0) v) ∧ (b = false → ¬ (lg = len ∧ ∃ v, FL N l s t (fun k => gs.getD k 0) v))
set_option maxHeartbeats 3200000 in
set_option maxRecDepth 100000 in
theorem flows_any (N : Nat) (A B : Option Addr) (len cap lg cg : Nat) (l : List Arc) (gs : List Int) (s t : Nat) (w : World) (hr : Rd w A len 4 (arcs l)) (hrg : Rd w B lg 1 (ints .i64 gs)) (hn : NOk N l) (hN : N ≤ 10) (hl : len ≤ 30) (hlg : lg ≤ 9223372036854775807) (hs : s < N) (ht : t < N) :
    Calls Try.prog 7 #[.agg #[.int .i64 N, .slice A len cap], .slice B lg cg, .int .i64 s, .int .i64 t] w (FlowsPost N len lg s t l gs w) := by
  have helH := Lib.hid (arcs_len hr)
  have hK := Blk.new w 24 #[.int .i64 N, .slice A len cap]
  have k0 := hK.cell (j := 0) rfl
  have k1 := hK.cell (j := 1) rfl
  have lk := hK.lt
  have hb0 := (Below.refl _ w).alloc (Nat.le_refl _) (.cells #[.int .i64 N, .slice A len cap] 24)
  by_cases hne : lg = len
  · subst hne
    have hmk := fun W => run_mkL (m := N) (by omega) W
    have hrH := Lib.hid hr; have hrgH := Lib.hid hrg; have hnH := Lib.hid hn; have hb0H := Lib.hid hb0; have hKH := Lib.hid hK
    have e0 : ((lg : Int) != lg) = false := by simp
    clear hr hrg hn hK hb0
    go_enter Try.func7, Try.ntmps7
    go_wp2
    obtain ⟨f, hf⟩ : ∃ f : Nat → Int, f = fun k => gs.getD k 0 := ⟨_, rfl⟩
    have hs1 : (w.alloc (.cells #[.int .i64 N, .slice A lg cap] 24)).heap.size = w.heap.size + 1 := by simp
    have how := World.ownsRow_lit (base := w.heap.size + 1) (e := 2) (size := 1) (w.alloc (.cells #[.int .i64 N, .slice A lg cap] 24)) (row N fun _ => 0).toArray N (by omega) (by unfold maxLen; omega) (by simp [row])
    rw [hs1] at how
    have hK2 := hKH.out.alloc (.cells (row N fun _ => 0).toArray 2)
    have hb2 := hb0H.out.alloc (by omega) (.cells (row N fun _ => 0).toArray 2)
    generalize (w.alloc (.cells #[.int .i64 N, .slice A lg cap] 24)).alloc (.cells (row N fun _ => 0).toArray 2) = w2 at *
    have howH := Lib.hid (show w2.ownsRow (w.heap.size + 1) 2 1 (.slice (some ⟨w.heap.size + 1, 0, none⟩) N N) N (row N (exP l f 0)) from how)
    have hK2H := Lib.hid hK2; have hb2H := Lib.hid hb2
    have hfH := Lib.hid hf
    have post := Lib.hid (fun (h : ¬ ∃ v, FL N l s t f v) (W : World) (hb : Below w.heap.size w W) => show FlowsPost N lg lg s t l gs w (.returned (.tuple #[.int .i64 0, .bool false])) W from
      ⟨hb, 0, false, rfl, fun h => (by cases h), fun _ h2 => h (by rw [hf]; exact h2.2)⟩)
    clear how hK2 hb2 hKH hb0H k0 k1 hs1 hf
    go_loopw [11, 12, 26] (fun _ _ i wr => ∃ k : Nat, k ≤ lg ∧ i = .int .i64 k ∧ (∀ j, j < k → 0 ≤ f j ∧ f j ≤ mo l j) ∧ wr.ownsRow (w.heap.size + 1) 2 1 (.slice (some ⟨w.heap.size + 1, 0, none⟩) N N) N (row N (exP l f k)) ∧ Blk wr w.heap.size 24 #[.int .i64 N, .slice A lg cap] ∧ Below w.heap.size w wr) (fun _ _ i _ => lg - (intOf i).toNat)
    case atStart => exact ⟨0, Nat.zero_le _, rfl, fun j hj => absurd hj (by omega), howH.out, hK2H.out, hb2H.out⟩
    case round =>
      obtain ⟨k, hk, rfl, hok, hown, hKw, hb⟩ := hrel
      have hokH := Lib.hid hok; have hownH := Lib.hid hown; have hKwH := Lib.hid hKw; have hbH := Lib.hid hb
      clear hok hown hKw hb howH hK2H hb2H
      by_cases hlt : k < lg
      · have hkl : k < l.length := by rw [helH.out]; exact hlt
        obtain ⟨bb, oo, rfl, hab, a0, a1, a2, a3⟩ := (hrH.out.later hbH.out).arc hlt
        obtain ⟨b2, o2, rfl, hab2, c0⟩ := (hrgH.out.later hbH.out).int hlt
        have hb2l : b2 < w.heap.size := by
          obtain ⟨_, _, he, hl0, _⟩ := hrgH.out.2 (show 0 < lg by omega)
          cases he; exact hl0
        have hb2n : ¬ b2 = w.heap.size + 1 := by omega
        obtain ⟨hfr, htn, hnft, hm0, hm1, e0', e1⟩ := hnH.out.at hkl
        rw [e0'] at a0; rw [e1] at a1
        have emo : (aat l k).2.2.1 = mo l k := rfl
        rw [emo] at a2
        generalize (aat l k).2.2.2 = fee at *
        have hgk : gs.getD k 0 = f k := by rw [hfH.out]
        rw [hgk] at c0
        have hkI : (k : Int) < lg := by omega
        have hkz : (0 : Int) ≤ k := by omega
        have hKn := Blk.new wr 53 #[.int .i64 (fr l k : Nat), .int .i64 (tn l k : Nat), .int .i64 (mo l k), .int .i64 fee]
        have z0 := hKn.cell (j := 0) rfl
        have z1 := hKn.cell (j := 1) rfl
        have z2 := hKn.cell (j := 2) rfl
        have hbn := Lib.hid (hbH.out.alloc hbH.out.size (.cells #[.int .i64 (fr l k : Nat), .int .i64 (tn l k : Nat), .int .i64 (mo l k), .int .i64 fee] 53))
        have hx := Lib.hid (fun (h : ¬ (0 ≤ f k ∧ f k ≤ mo l k)) => show ¬ ∃ v, FL N l s t f v from fun ⟨_, h2⟩ => h (h2.ok k hkl))
        clear hKn
        by_cases hneg : f k < 0
        · have hx2 := Lib.hid (post.out (hx.out (by omega)))
          have hnd : decide (f k < 0) = true := decide_eq_true hneg
          clear hx post
          generalize f k = gk at *
          go_wp2
          go_quiet (fail)
          go_wp2
          go_ret2
          exact hx2.out _ (below_drewN hbn.out _)
        · have hnd : decide (f k < 0) = false := decide_eq_false hneg
          by_cases hbig : mo l k < f k
          · have hx2 := Lib.hid (post.out (hx.out (by omega)))
            have hnb : decide (mo l k < f k) = true := decide_eq_true hbig
            clear hx post
            generalize f k = gk at *
            generalize mo l k = mk at *
            go_wp2
            go_quiet (fail)
            go_wp2
            go_ret2
            exact hx2.out _ (below_drewN hbn.out _)
          · have hnb : decide (mo l k < f k) = false := decide_eq_false hbig
            have hst := exP_step (f := f) hnft
            have hok2 := Lib.hid (show ∀ j, j < k + 1 → 0 ≤ f j ∧ f j ≤ mo l j from fun j hj => by
              rcases Nat.lt_or_ge j k with h | h
              · exact hokH.out j h
              · obtain rfl : j = k := by omega
                omega)
            have hE := fun u => exPk_bd (l := l) (f := f) k (fun j hj => by have h1 := hokH.out j hj; have h2 := hnH.out.at (show j < l.length by omega); omega) u
            have hEf := hE (fr l k)
            have hEt := hE (tn l k)
            clear hE
            generalize hEE : exP l f k = E at *
            have hstH := Lib.hid hst
            clear hst hx hEE
            generalize hgke : f k = gk at *
            generalize mo l k = mk at *
            generalize fr l k = fk at *
            generalize tn l k = tk at *
            have hw1 : IntKind.i64.wrap (E fk + gk) = E fk + gk := IntWalk.i64_in _ (by omega)
            have hw2 : IntKind.i64.wrap (E tk - gk) = E tk - gk := IntWalk.i64_in _ (by omega)
            have hfI : (fk : Int) < N := by omega
            have htI : (tk : Int) < N := by omega
            have hf0 : (0 : Int) ≤ fk := by omega
            have ht0 : (0 : Int) ≤ tk := by omega
            have hown1 := hownH.out.alloc (.cells #[.int .i64 (fk : Nat), .int .i64 (tk : Nat), .int .i64 mk, .int .i64 fee] 53)
            have o1 := hown1.cellAt fk (by omega)
            rw [row_get hfr] at o1
            have o2 := hown1.cellAt tk (by omega)
            rw [row_get htn] at o2
            have f1 := hown1.frozenAt fk; have f2 := hown1.frozenAt tk
            have lg1 := (hown1.lt _ rfl).2
            have lg0 : w.heap.size + 1 < wr.heap.size := (hownH.out.lt (w.heap.size + 1) rfl).2
            have hwn : ¬ wr.heap.size = w.heap.size + 1 := by omega
            have hftn : ¬ fk = tk := hnft
            have hst1 := (hown1.stored fk (.int .i64 (E fk + gk))).1
            rw [row_set] at hst1
            have hst2 := (hst1.stored tk (.int .i64 (E tk - gk))).1
            rw [row_set, ← hstH.out] at hst2
            have hst2H := Lib.hid hst2
            have hKF := Lib.hid (((hKwH.out.alloc (.cells #[.int .i64 (fk : Nat), .int .i64 (tk : Nat), .int .i64 mk, .int .i64 fee] 53)).other (a := ⟨w.heap.size + 1, fk, none⟩) (show w.heap.size ≠ w.heap.size + 1 by omega) (.int .i64 (E fk + gk))).other (a := ⟨w.heap.size + 1, tk, none⟩) (show w.heap.size ≠ w.heap.size + 1 by omega) (.int .i64 (E tk - gk)))
            have hbF := Lib.hid ((hbn.out.setCell (p := ⟨w.heap.size + 1, fk, none⟩) (show w.heap.size ≤ w.heap.size + 1 by omega) (.int .i64 (E fk + gk))).setCell (p := ⟨w.heap.size + 1, tk, none⟩) (show w.heap.size ≤ w.heap.size + 1 by omega) (.int .i64 (E tk - gk)))
            clear hown1 hst1 hst2
            go_wp2
            go_quiet (fail)
            go_wp2
            go_region
            go_wp2
            go_region
            go_wp2
            go_roundw
            case rel => exact ⟨k + 1, by omega, by go_num, hok2.out, hst2H.out, hKF.out, ⟨hbF.out.os, hbF.out.tape, hbF.out.output, hbF.out.size, hbF.out.block⟩⟩
            case measure => simp [intOf]; omega
      · obtain rfl : k = lg := by omega
        have hexE : exP l f k = ex l f := by funext u; unfold exP ex; rw [helH.out]
        rw [hexE] at hownH
        have hokF : FOk l f := fun j hj => hokH.out j (by rw [← helH.out]; exact hj)
        have hokFH := Lib.hid hokF
        have hKw := hKwH.out
        have q0 := hKw.cell (j := 0) rfl
        have lw := hKw.lt
        have oc := fun (i : Nat) (hi : i < N) => (show wr.cell? ⟨w.heap.size + 1, i, none⟩ = some (.int .i64 (ex l f i)) from (hownH.out.cellAt i (by omega)).trans (row_get hi))
        have ocH := Lib.hid oc
        have osl := oc s hs
        clear hokH hokF hKw oc
        go_wp2
        go_loop [13] (fun i => ∃ u : Nat, u ≤ N ∧ i = .int .i64 u ∧ ∀ j, j < u → j ≠ s → j ≠ t → ex l f j = 0) (fun i => N - (intOf i).toNat)
        case atStart => exact ⟨0, Nat.zero_le _, rfl, fun j hj => absurd hj (by omega)⟩
        case round =>
          obtain ⟨u, hu, rfl, hall⟩ := hrel
          by_cases hlu : u < N
          · have ou := ocH.out u hlu
            have huI : (u : Int) < N := by omega
            have hu0 : (0 : Int) ≤ u := by omega
            have skip := Lib.hid (fun (h : u = s ∨ u = t ∨ ex l f u = 0) => show ∀ j, j < u + 1 → j ≠ s → j ≠ t → ex l f j = 0 from fun j hj h1 h2 => by
              rcases Nat.lt_or_ge j u with h3 | h3
              · exact hall j h3 h1 h2
              · obtain rfl : j = u := by omega
                rcases h with h | h | h
                · exact absurd h h1
                · exact absurd h h2
                · exact h)
            clear hall
            by_cases h1 : u = s
            · have e1 : ((u : Int) != s) = false := by simp [h1]
              have sk := Lib.hid (skip.out (.inl h1))
              clear skip h1
              go_wp2
              go_round
              case rel => exact ⟨u + 1, by omega, by go_num, sk.out⟩
              case measure => simp [intOf]; omega
            · have e1 : ((u : Int) != s) = true := by simp; omega
              by_cases h2 : u = t
              · have e2 : ((u : Int) != t) = false := by simp [h2]
                have sk := Lib.hid (skip.out (.inr (.inl h2)))
                clear skip h1 h2
                go_wp2
                go_round
                case rel => exact ⟨u + 1, by omega, by go_num, sk.out⟩
                case measure => simp [intOf]; omega
              · have e2 : ((u : Int) != t) = true := by simp; omega
                by_cases h3 : ex l f u = 0
                · have e3 : (ex l f u != 0) = false := by simp [h3]
                  have sk := Lib.hid (skip.out (.inr (.inr h3)))
                  clear skip h1 h2 h3
                  go_wp2
                  go_round
                  case rel => exact ⟨u + 1, by omega, by go_num, sk.out⟩
                  case measure => simp [intOf]; omega
                · have e3 : (ex l f u != 0) = true := by simpa using h3
                  have hx := Lib.hid (post.out (fun ⟨_, h⟩ => h3 (h.kp u hlu h1 h2)))
                  clear skip h1 h2 h3 post
                  go_wp2
                  go_ret2
                  exact hx.out _ hbH.out
          · obtain rfl : u = N := by omega
            have hfl : FL u l s t f (ex l f s) := ⟨hokFH.out, hall, rfl⟩
            have hfin := Lib.hid (show FlowsPost u k k s t l gs w (.returned (.tuple #[.int .i64 (ex l f s), .bool true])) wr from
              ⟨hbH.out, _, true, rfl, fun _ => ⟨rfl, by rw [← hfH.out]; exact hfl⟩, fun h => (by cases h)⟩)
            have hsI : (s : Int) < u := by omega
            have hs0 : (0 : Int) ≤ s := by omega
            clear hall hfl post
            go_wp2
            go_ret2
            exact hfin.out
  · have hbH := Lib.hid hb0
    have e0 : ((lg : Int) != len) = true := by simp; omega
    have hneH := Lib.hid hne
    clear hr hrg hn hK hb0 hne
    go_enter Try.func7, Try.ntmps7
    go_wp2
    go_ret2
    exact ⟨hbH.out, 0, false, rfl, fun h => (by cases h), fun _ h => hneH.out h.1⟩
end Go.Proofs.Ytgengjneccpaiaa
