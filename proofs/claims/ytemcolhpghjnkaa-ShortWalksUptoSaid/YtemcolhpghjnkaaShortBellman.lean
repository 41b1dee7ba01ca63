/- ShortBellman: the walk. -/
import Derived.Test.YtemcolhpghjnkaaShortE
import Derived.Test.YtemcolhpghjnkaaShortC
import Derived.Test.YtemcolhpghjnkaaNetOpen
namespace Go.Proofs.Ytemcolhpghjnkaa
open Go.RowKit

theorem sweep_bd {M : Int} : ∀ {l : List Arc} {S : BS}, (∀ a ∈ l, -1048576 ≤ aW a ∧ aW a ≤ 1048576) → Bd M S → Bd (M + l.length * 1048576) (sweep S l) := by
  intro l
  induction l generalizing M with
  | nil => intro S _ h; simpa [sweep] using h
  | cons a r ih =>
    intro S hl h
    have := ih (M := M + 1048576) (fun b hb => hl b (List.mem_cons_of_mem _ hb)) (h.relax (a := a) (hl a (by simp)).1 (hl a (by simp)).2)
    exact this.mono (by simp; omega)
theorem bfRun_bd {l : List Arc} (hl : ∀ a ∈ l, -1048576 ≤ aW a ∧ aW a ≤ 1048576) (h30 : l.length ≤ 30) : ∀ (k : Nat) {M : Int} {S : BS}, Bd M S → Bd (M + k * 31457280) (bfRun l k S).1
  | 0, M, S, h => h.mono (by omega)
  | k + 1, M, S, h => by
    have h1 : Bd (M + 31457280) (sweep (begun S) l) := (sweep_bd (S := begun S) hl h).mono (by omega)
    rw [bfRun]
    split
    · exact (bfRun_bd hl h30 k h1).mono (by omega)
    · exact h1.mono (by omega)
theorem far_bd {N s : Nat} {l : List Arc} (hN : N ≤ 10) (hl : ∀ a ∈ l, AOk N a) (h30 : l.length ≤ 30) (i : Nat) : -400000000 ≤ (bfRun l (N + 1) (bfInit s)).1.F i ∧ (bfRun l (N + 1) (bfInit s)).1.F i ≤ 400000000 := by
  have := bfRun_bd (fun a ha => ⟨(hl a ha).w0, (hl a ha).w1⟩) h30 (N + 1) (M := 0) (S := bfInit s) (fun i => by simp [bfInit]) i
  omega
theorem netB_swrong (n : Int) (l : List Arc) (s : Int) : netB n l s = decide (swrong n l [s] = 0) := by
  unfold netB swrong
  rw [insideB_one]
  by_cases h : nchk n l = 0
  · simp [h]
  · simp [h]
theorem swrong_ok {n s : Int} {l : List Arc} (h : swrong n l [s] = 0) : nchk n l = 0 ∧ 0 ≤ s ∧ s < n := by
  have := netB_swrong n l s
  rw [h] at this
  unfold netB at this
  simp at this
  exact ⟨this.1.1, this.1.2, this.2⟩
def made (F : Nat → Int) (T : Nat → Bool) (t : Nat) (a : Arc) : Bool := decide (aT a = t) && (T (aF a) && decide (F t = F (aF a) + aW a))
def madeB (F : Nat → Int) (T : Nat → Bool) (s t : Nat) (l : List Arc) : Bool := (decide (t = s) || !T t) || l.any (made F T t)
theorem madeB_snoc {F : Nat → Int} {T : Nat → Bool} {s t : Nat} {l : List Arc} {a : Arc} : madeB F T s t (l ++ [a]) = (madeB F T s t l || made F T t a) := by simp [madeB, Bool.or_assoc]
theorem madeB_all {l : List Arc} {s N : Nat} (hne : ∀ a ∈ l, aF a ≠ aT a) (h : (bfRun l (N + 1) (bfInit s)).2 = true) (t : Nat) : madeB (bfRun l (N + 1) (bfInit s)).1.F (bfRun l (N + 1) (bfInit s)).1.T s t l = true := by
  have h1 := (Sup.run (s := s) hne (N + 1)).2.2 t
  have h2 := bfRun_still (N + 1) h
  unfold madeB
  cases hT : (bfRun l (N + 1) (bfInit s)).1.T t
  · simp
  · rcases h1 hT with rfl | ⟨a, ha, h3, h4, h5⟩
    · simp
    · have h6 := (h2 a ha h4).2
      rw [h3] at h6
      rw [Bool.or_eq_true]
      refine .inr (List.any_eq_true.2 ⟨a, ha, ?_⟩)
      unfold made
      rw [h4]
      simp [h3]
      omega
theorem row_cell {w : World} {g n : Nat} {F : Nat → Int} {j : Nat} (h : Rd w (some ⟨g, 0, none⟩) n 1 (row n F)) (hj : j < n) : w.cell? ⟨g, j, none⟩ = some (.int .i64 (F j)) := by
  obtain ⟨b, o, h1, _, h2⟩ := h.row hj
  injection h1 with h1; injection h1 with h1 h3 _
  subst h1; subst h3
  rwa [Nat.zero_add] at h2
theorem brow_cell {w : World} {g n : Nat} {T : Nat → Bool} {j : Nat} (h : Rd w (some ⟨g, 0, none⟩) n 1 (brow n T)) (hj : j < n) : w.cell? ⟨g, j, none⟩ = some (.bool (T j)) := by
  obtain ⟨b, o, h1, _, h2⟩ := h.brow hj
  injection h1 with h1; injection h1 with h1 h3 _
  subst h1; subst h3
  rwa [Nat.zero_add] at h2
theorem row_lt {w : World} {g n : Nat} {xs : List Value} {j : Nat} (h : Rd w (some ⟨g, 0, none⟩) n 1 xs) (hj : j < n) : g < w.heap.size := by
  obtain ⟨b, o, h1, h2, _⟩ := h.2 (by omega)
  injection h1 with h1; injection h1 with h1
  omega
theorem bellman_bad (n s : Int) (A : Option Addr) (len cap : Nat) (l : List Arc) (w : World) (hr : Rd w A len 4 (arcs l)) (hlen : len ≤ 9223372036854775807) (hc : swrong n l [s] ≠ 0) :
    Calls Try.prog 3 #[.agg #[.int .i64 n, .slice A len cap], .int .i64 s] w fun e w' => e = .returned (.bool true) ∧ Below w.heap.size w w' := by
  have hcb : (swrong n l [s] != 0) = true := by simpa using hc
  have hnB := Lib.hid (show netB n l s = false by rw [netB_swrong]; simpa using hc)
  have HF := Lib.hid (far_bad n s A len cap l _ (hr.alloc (.cells #[.int .i64 n, .slice A len cap] 24)) hlen hc)
  have hrH := Lib.hid hr
  have hcbH := Lib.hid hcb
  clear hr hc hcb
  have g0 : (w.alloc (Obj.cells #[Value.int IntKind.i64 n, Value.slice A len cap] 24)).cell? ⟨w.heap.size, 0, none⟩ = some (.int .i64 n) := by go_simp
  have g1 : (w.alloc (Obj.cells #[Value.int IntKind.i64 n, Value.slice A len cap] 24)).cell? ⟨w.heap.size, 1, none⟩ = some (.slice A len cap) := by go_simp
  go_enter Try.func3, Try.ntmps3
  go_wp2_with fail
  refine HF.out.mono ?_
  rintro e w1 ⟨rfl, hb⟩
  have hbw := ((Below.refl w.heap.size w).alloc (Nat.le_refl _) (.cells #[.int .i64 n, .slice A len cap] 24)).trans (hb.mono (by simp))
  have q0 : w1.cell? ⟨w.heap.size, 0, none⟩ = some (.int .i64 n) := below_cell hb (by simp) g0
  have q1 : w1.cell? ⟨w.heap.size, 1, none⟩ = some (.slice A len cap) := below_cell hb (by simp) g1
  have HN := Lib.hid (net_any n s A len cap l w1 (hrH.out.later hbw) hlen)
  rw [hnB.out] at HN
  have hcb := hcbH.out
  unfold nil3
  go_wp2_with fail
  refine HN.out.mono ?_
  rintro e w2 ⟨rfl, hb2⟩
  go_wp2
  go_ret
  exact ⟨rfl, hbw.trans (hb2.mono hbw.size)⟩
set_option maxHeartbeats 3200000 in
set_option maxRecDepth 100000 in
theorem bellman_ok (N s : Nat) (A : Option Addr) (len cap : Nat) (l : List Arc) (w : World) (hr : Rd w A len 4 (arcs l)) (hN : N ≤ 10) (hl : len ≤ 30) (hs : s < N) (hok : ∀ a ∈ l, AOk N a) (hc : swrong N l [(s : Int)] = 0) :
    Calls Try.prog 3 #[.agg #[.int .i64 N, .slice A len cap], .int .i64 s] w fun e w' => e = .returned (.bool true) ∧ Below w.heap.size w w' := by
  have hel := arcs_len hr
  have hnB := Lib.hid (show netB N l s = true by rw [netB_swrong]; simpa using hc)
  have HF := Lib.hid (far_ok N s A len cap l _ (hr.alloc (.cells #[.int .i64 N, .slice A len cap] 24)) hN hl hs hok hc)
  have hbd := Lib.hid (far_bd (s := s) hN hok (by omega))
  have hne : ∀ a ∈ l, aF a ≠ aT a := fun a ha => by
    obtain ⟨f, t, m, e, rfl, _, _, h, _⟩ := aok_split (hok a ha)
    exact h
  have hneH := Lib.hid hne
  have hsk : (bfRun l (N + 1) (bfInit s)).2 = false → ∃ i, i < N ∧ reach l s N i ≠ reach l s (N + 1) i := fun h => sinks (fun a ha => by
    obtain ⟨f, t, m, e, rfl, h1, h2, _, _, _, h3, h4⟩ := aok_split (hok a ha)
    exact ⟨⟨h3, h4⟩, h1, h2⟩) hN h
  have hskH := Lib.hid hsk
  have hrH := Lib.hid hr; have hokH := Lib.hid hok; have helH := Lib.hid hel
  clear hr hc hok hel hne hsk
  have g0 : (w.alloc (Obj.cells #[Value.int IntKind.i64 (N : Int), Value.slice A len cap] 24)).cell? ⟨w.heap.size, 0, none⟩ = some (.int .i64 N) := by go_simp
  have g1 : (w.alloc (Obj.cells #[Value.int IntKind.i64 (N : Int), Value.slice A len cap] 24)).cell? ⟨w.heap.size, 1, none⟩ = some (.slice A len cap) := by go_simp
  go_enter Try.func3, Try.ntmps3
  go_wp2_with fail
  refine HF.out.mono ?_
  rintro e w1 ⟨hb, hcase⟩
  have hbw := ((Below.refl w.heap.size w).alloc (Nat.le_refl _) (.cells #[.int .i64 N, .slice A len cap] 24)).trans (hb.mono (by simp))
  have q0 : w1.cell? ⟨w.heap.size, 0, none⟩ = some (.int .i64 N) := below_cell hb (by simp) g0
  have q1 : w1.cell? ⟨w.heap.size, 1, none⟩ = some (.slice A len cap) := below_cell hb (by simp) g1
  have hS1 : w.heap.size < w1.heap.size := by have := hb.size; simp at this; omega
  have HN := Lib.hid (net_any N s A len cap l w1 (hrH.out.later hbw) (by omega))
  rw [hnB.out] at HN
  clear g0 g1 hb HF
  rcases hcase with ⟨hq, rfl⟩ | ⟨hq, bf, bh, rfl, rf, rh⟩
  · have HS := Lib.hid (fun W (h : Below w1.heap.size w1 W) => sinks_any N s A len cap l W ((hrH.out.later hbw).later h) hN hl hs hokH.out (hskH.out hq))
    clear hq
    unfold nil3
    go_wp2_with fail
    refine HN.out.mono ?_
    rintro e w2 ⟨rfl, hb2⟩
    have q0 := below_cell hb2 hS1 q0
    have q1 := below_cell hb2 hS1 q1
    have hS2 := hb2.size
    go_wp2_with fail
    refine (HS.out w2 hb2).mono ?_
    rintro e w3 ⟨rfl, hb3⟩
    go_wp2
    go_ret
    exact ⟨rfl, (hbw.trans (hb2.mono hbw.size)).trans (hb3.mono (by omega))⟩
  · have hst := Lib.hid (bfRun_still (N + 1) hq)
    have hf0 := Lib.hid (far_zero hneH.out hq)
    have hTs := Lib.hid (Sup.run (s := s) hneH.out (N + 1)).1
    have hall := Lib.hid (madeB_all hneH.out hq)
    clear hq
    generalize (bfRun l (N + 1) (bfInit s)).1 = S at *
    obtain ⟨F, T, bb0⟩ := S
    simp only at *
    have rfH := Lib.hid rf; have rhH := Lib.hid rh
    clear rf rh
    go_wp2_with fail
    refine HN.out.mono ?_
    rintro e w2 ⟨rfl, hb2⟩
    have q0 := below_cell hb2 hS1 q0
    have q1 := below_cell hb2 hS1 q1
    have hS2 := hb2.size
    have hbe := hbw.trans (hb2.mono hbw.size)
    have rf2 := Lib.hid (Rd.of_own (own_below rfH.out hb2))
    have rh2 := Lib.hid (Rd.of_own (own_below rhH.out hb2))
    have hr2 := Lib.hid (hrH.out.later hbe)
    have ks : w2.cell? ⟨bf, s, none⟩ = some (.int .i64 0) := by
      obtain ⟨b, o, h1, _, h2⟩ := rf2.out.row hs
      injection h1 with h1; injection h1 with h1 h3 _
      subst h1; subst h3
      rw [Nat.zero_add] at h2
      rw [h2, hf0.out]
    have kh : w2.cell? ⟨bh, s, none⟩ = some (.bool true) := by
      obtain ⟨b, o, h1, _, h2⟩ := rh2.out.brow hs
      injection h1 with h1; injection h1 with h1 h3 _
      subst h1; subst h3
      rw [Nat.zero_add] at h2
      rw [h2, hTs.out]
    have hsi : (s : Int) < N := by omega
    have hSw : w.heap.size < w2.heap.size := by omega
    clear rfH rhH HN hrH hnB hb2 hbw hS1 hS2
    have hbeH := Lib.hid hbe
    clear hbe
    go_wp2
    have e0 := Below.refl w2.heap.size w2
    have Q0 := Lib.hid q0
    have Q1 := Lib.hid q1
    go_loopw [9, 65] (fun _ i wr => ∃ m : Nat, m ≤ len ∧ i = .int .i64 m ∧ Below w2.heap.size w2 wr) (fun _ i _ => len - (intOf i).toNat)
    case atStart => exact ⟨0, Nat.zero_le _, rfl, e0⟩
    case round =>
      clear ks kh
      obtain ⟨m, hm, rfl, hb⟩ := hrel
      have hSr := hb.size
      by_cases hlt : m < len
      · obtain ⟨bb, oo, rfl, hab, hc1, hc2, hc3, hc4⟩ := (hr2.out.later hb).arc hlt
        have hml : m < l.length := by rw [helH.out]; exact hlt
        obtain ⟨f, t, mo, e, hat, hf, ht, hne, hm0, hm1, he0, he1⟩ := aok_split (hokH.out _ (aat_mem hml))
        have hstm := hst.out _ (aat_mem hml)
        rw [hat] at hc1 hc2 hc3 hc4 hstm
        dsimp only at hc1 hc2 hc3 hc4
        simp only [show aF ((f : Int), (t : Int), mo, e) = f from rfl, show aT ((f : Int), (t : Int), mo, e) = t from rfl, show aW ((f : Int), (t : Int), mo, e) = e from rfl] at hstm
        have kf := row_cell (rf2.out.later hb) hf
        have kt := row_cell (rf2.out.later hb) ht
        have kp := brow_cell (rh2.out.later hb) hf
        have kr := brow_cell (rh2.out.later hb) ht
        have sf := row_lt (rf2.out.later hb) hf
        have sh := row_lt (rh2.out.later hb) hf
        have hxb := hbd.out f
        have hfi : (f : Int) < N := by omega
        have hti : (t : Int) < N := by omega
        clear hat hml
        generalize F f = x at *
        generalize F t = y at *
        obtain ⟨hx0, hx1⟩ := hxb
        cases hp : T f
        · rw [hp] at kp
          clear hstm hp
          generalize T t = r at *
          go_wp2
          go_quiet (fail)
          go_wp2
          go_roundw
          case rel => exact ⟨m + 1, by omega, by go_num, below_drewN (hb.alloc hSr _) _⟩
          case measure => simp [intOf]; omega
        · obtain ⟨hr1, hle⟩ := hstm hp
          rw [hp] at kp
          rw [hr1] at kr
          clear hstm hp hr1
          go_wp2
          go_quiet (fail)
          go_wp2
          go_roundw
          case rel => exact ⟨m + 1, by omega, by go_num, below_drewN (hb.alloc hSr _) _⟩
          case measure => simp [intOf]; omega
      · obtain rfl : len = m := by omega
        have q0 := below_cell hb hSw Q0.out
        have q1 := below_cell hb hSw Q1.out
        go_wp2
        obtain ⟨wo, hwo⟩ : ∃ wo : World, wo = wr := ⟨_, rfl⟩
        clear hwo
        go_loopw [10, 11, 13, 116, 117, 118] (fun i _ _ _ _ _ wr => ∃ t : Nat, t ≤ N ∧ i = .int .i64 t ∧ Below w2.heap.size w2 wr) (fun i _ _ _ _ _ _ => N - (intOf i).toNat)
        case atStart => exact ⟨0, Nat.zero_le _, rfl, hb⟩
        case round =>
          clear hb hSr q0 q1
          obtain ⟨t, ht, rfl, hb⟩ := hrel
          have q0 := below_cell hb hSw Q0.out
          have q1 := below_cell hb hSw Q1.out
          have hSr := hb.size
          have hSwr : w.heap.size < wr.heap.size := by omega
          by_cases htN : t < N
          · have kt := brow_cell (rh2.out.later hb) htN
            have sh := row_lt (rh2.out.later hb) htN
            have hallt := Lib.hid (hall.out t)
            have hti : (t : Int) < N := by omega
            have hbH := Lib.hid hb
            have hm0 := Lib.hid (show madeB F T s t (l.take 0) = (decide (t = s) || !T t) by simp [madeB])
            have hcase : ((t : Int) == (s : Int)) = true ∧ madeB F T s t (l.take 0) = true ∨ ((t : Int) == (s : Int)) = false ∧ T t = false ∧ madeB F T s t (l.take 0) = true ∨ ((t : Int) == (s : Int)) = false ∧ T t = true ∧ madeB F T s t (l.take 0) = false := by
              rw [hm0.out]
              by_cases hts : t = s
              · exact .inl ⟨by simp [hts], by simp [hts]⟩
              · have : ¬ (t : Int) = (s : Int) := by omega
                cases hT : T t
                · exact .inr (.inl ⟨by simpa using this, rfl, by simp⟩)
                · exact .inr (.inr ⟨by simpa using this, rfl, by simp [hts]⟩)
            clear hm0 hb
            obtain ⟨b0, hb0, hgo⟩ : ∃ b0 : Bool, madeB F T s t (l.take 0) = b0 ∧ True := ⟨_, rfl, trivial⟩
            have hb0H := Lib.hid hb0
            rcases hcase with ⟨hts, hm⟩ | ⟨hts, hT, hm⟩ | ⟨hts, hT, hm⟩
            all_goals
              rw [hb0] at hm
              subst hm
              first | rw [hT] at kt | skip
              clear hb0
              go_wp2
              obtain ⟨wo2, hwo2⟩ : ∃ wo : World, wo = wr := ⟨_, rfl⟩
              clear hwo2
              go_loopw [11, 13, 118] (fun b _ i wr => ∃ m : Nat, m ≤ len ∧ i = .int .i64 m ∧ b = .bool (madeB F T s t (l.take m)) ∧ Below w2.heap.size w2 wr) (fun _ _ i _ => len - (intOf i).toNat)
              case atStart => exact ⟨0, Nat.zero_le _, rfl, by rw [hb0H.out], hbH.out⟩
              case round =>
                clear q0 q1 kt sh hSr hSwr
                obtain ⟨m, hm, rfl, rfl, hb⟩ := hrel
                have hSr := hb.size
                by_cases hlt : m < len
                · obtain ⟨bb, oo, rfl, hab, hc1, hc2, hc3, hc4⟩ := (hr2.out.later hb).arc hlt
                  have hml : m < l.length := by rw [helH.out]; exact hlt
                  obtain ⟨f, t2, mo, e, hat, hf, ht, hne, hm0, hm1, he0, he1⟩ := aok_split (hokH.out _ (aat_mem hml))
                  rw [hat] at hc1 hc2 hc3 hc4
                  dsimp only at hc1 hc2 hc3 hc4
                  have hsn := Lib.hid (show madeB F T s t (l.take (m + 1)) = (madeB F T s t (l.take m) || (decide (t2 = t) && (T f && decide (F t = F f + e)))) by rw [atake_succ hml, madeB_snoc, hat]; rfl)
                  have kf := row_cell (rf2.out.later hb) hf
                  have kt := row_cell (rf2.out.later hb) htN
                  have kp := brow_cell (rh2.out.later hb) hf
                  have sf := row_lt (rf2.out.later hb) hf
                  have sh := row_lt (rh2.out.later hb) hf
                  have hxb := hbd.out f
                  have hfi : (f : Int) < N := by omega
                  clear hat hml
                  generalize F f = x at *
                  generalize F t = y at *
                  generalize T f = p at *
                  obtain ⟨hx0, hx1⟩ := hxb
                  generalize madeB F T s t (l.take m) = mb at *
                  cases mb
                  · cases hq : ((t2 : Int) == (t : Int))
                    · have hz := Lib.hid (show madeB F T s t (l.take (m + 1)) = false by rw [hsn.out, show decide (t2 = t) = false by simp at hq; simp; omega]; rfl)
                      go_wp2
                      go_quiet (fail)
                      go_wp2
                      go_roundw
                      case rel => exact ⟨m + 1, by omega, by go_num, by rw [hz.out], below_drewN (hb.alloc hSr _) _⟩
                      case measure => simp [intOf]; omega
                    · have hq1 : decide (t2 = t) = true := by simp at hq; simp; omega
                      cases p
                      · have hz := Lib.hid (show madeB F T s t (l.take (m + 1)) = false by rw [hsn.out]; simp)
                        clear hq1
                        go_wp2
                        go_quiet (fail)
                        go_wp2
                        go_roundw
                        case rel => exact ⟨m + 1, by omega, by go_num, by rw [hz.out], below_drewN (hb.alloc hSr _) _⟩
                        case measure => simp [intOf]; omega
                      · cases hxy : (y == x + e)
                        · have hz := Lib.hid (show madeB F T s t (l.take (m + 1)) = false by rw [hsn.out, show decide (y = x + e) = false by simpa using hxy]; simp)
                          clear hq1
                          go_wp2
                          go_quiet (fail)
                          go_wp2
                          go_roundw
                          case rel => exact ⟨m + 1, by omega, by go_num, by rw [hz.out], below_drewN (hb.alloc hSr _) _⟩
                          case measure => simp [intOf]; omega
                        · have hz := Lib.hid (show madeB F T s t (l.take (m + 1)) = true by rw [hsn.out, hq1, show decide (y = x + e) = true by simpa using hxy]; rfl)
                          clear hq1
                          go_wp2
                          go_quiet (fail)
                          go_wp2
                          go_roundw
                          case rel => exact ⟨m + 1, by omega, by go_num, by rw [hz.out], below_drewN (hb.alloc hSr _) _⟩
                          case measure => simp [intOf]; omega
                  · have hz := Lib.hid (show madeB F T s t (l.take (m + 1)) = true by rw [hsn.out]; rfl)
                    go_wp2
                    go_quiet (fail)
                    go_wp2
                    go_roundw
                    case rel => exact ⟨m + 1, by omega, by go_num, by rw [hz.out], below_drewN (hb.alloc hSr _) _⟩
                    case measure => simp [intOf]; omega
                · obtain rfl : len = m := by omega
                  have hz := Lib.hid (show madeB F T s t (l.take len) = true by rw [List.take_of_length_le (by rw [helH.out]; omega)]; exact hallt.out)
                  rw [hz.out]
                  go_wp2
                  go_roundw
                  case rel => exact ⟨t + 1, by omega, by go_num, hb⟩
                  case measure => simp [intOf]; omega
          · go_wp2
            go_ret
            exact ⟨rfl, hbeH.out.trans (hb.mono hbeH.out.size)⟩
theorem shortBellman_any (n : Int) (A : Option Addr) (len cap : Nat) (l : List Arc) (s : Int) (w : World) (_ : (Lit.int .i64 n).wf = true) (hr : Rd w A len 4 (arcs l)) (hlen : len ≤ maxLen) (_ : len ≤ cap) (_ : ∀ a ∈ l, AWf a) (_ : (Lit.int .i64 s).wf = true) :
    Calls Try.prog 3 #[.agg #[.int .i64 n, .slice A len cap], .int .i64 s] w fun e w' => e = .returned (.bool true) ∧ Below w.heap.size w w' := by
  unfold maxLen at hlen
  by_cases hc : swrong n l [s] = 0
  · obtain ⟨h1, h2, h3⟩ := swrong_ok hc
    obtain ⟨h4, h5, h6, h7⟩ := nchk_ok h1
    rw [arcs_len hr] at h6
    obtain ⟨N, rfl⟩ := Int.eq_ofNat_of_zero_le h4
    obtain ⟨S, rfl⟩ := Int.eq_ofNat_of_zero_le h2
    exact bellman_ok N S A len cap l w hr (by omega) h6 (by omega) h7 hc
  · exact bellman_bad n s A len cap l w hr hlen hc
end Go.Proofs.Ytemcolhpghjnkaa
