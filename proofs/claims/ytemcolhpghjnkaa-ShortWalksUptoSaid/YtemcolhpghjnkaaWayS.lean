/- short.Way. -/
import Derived.Test.YtemcolhpghjnkaaWalkK
import Derived.Test.YtemcolhpghjnkaaKeyMap
import Derived.Test.YtemcolhpghjnkaaShortBellman
import Derived.Carry
import Derived.Deep.RegionLaw
namespace Go.Proofs.Ytemcolhpghjnkaa
open Go.RowKit

def fK (l : List Arc) (t k : Nat) (G : Nat → Option Int) : Int × Int → Option Int := fun p =>
  if 0 ≤ p.1 ∧ 0 ≤ p.2 then (if p.2.toNat < k then Bst l t p.2.toNat p.1.toNat else if p.2.toNat = k then G p.1.toNat else none) else none
theorem fK_lt {l : List Arc} {t k : Nat} {G : Nat → Option Int} {i m : Nat} (h : m < k) : fK l t k G ((i : Int), (m : Int)) = Bst l t m i := by
  unfold fK
  rw [if_pos ⟨by simp, by simp⟩]
  simp [h]
theorem fK_eq {l : List Arc} {t k : Nat} {G : Nat → Option Int} {i : Nat} : fK l t k G ((i : Int), (k : Int)) = G i := by
  unfold fK
  rw [if_pos ⟨by simp, by simp⟩]
  simp
theorem fK_upd {l : List Arc} {t k : Nat} {G : Nat → Option Int} {i : Nat} {c : Int} : updY (fK l t k G) ((i : Int), (k : Int)) c = fK l t k (upd G i (some c)) := by
  funext p
  obtain ⟨a, b⟩ := p
  unfold updY
  by_cases h : (a, b) = ((i : Int), (k : Int))
  · rw [if_pos h]
    injection h with h1 h2
    subst h1; subst h2
    rw [fK_eq, upd_same]
  · rw [if_neg h]
    unfold fK
    by_cases hp : 0 ≤ a ∧ 0 ≤ b
    · rw [if_pos hp, if_pos hp]
      dsimp only
      split
      · rfl
      · split
        · rename_i e
          have : a.toNat ≠ i := fun e2 => h (by rw [show a = (i : Int) by omega, show b = (k : Int) by omega])
          rw [upd_other _ _ this]
        · rfl
    · rw [if_neg hp, if_neg hp]
theorem fK_next {l : List Arc} {t k : Nat} : fK l t k (Bst l t k) = fK l t (k + 1) fun _ => none := by
  funext p
  unfold fK
  split
  · by_cases h1 : p.2.toNat < k
    · rw [if_pos h1, if_pos (by omega)]
    · rw [if_neg h1]
      by_cases h2 : p.2.toNat = k
      · rw [if_pos h2, if_pos (by omega), h2]
      · rw [if_neg h2, if_neg (by omega)]
        split <;> rfl
  · rfl
theorem fK_init {l : List Arc} {t : Nat} : updY (fun _ => none) ((t : Int), 0) 0 = fK l t 1 fun _ => none := by
  rw [← fK_next]
  have : (fun _ => none : Int × Int → Option Int) = fK l t 0 fun _ => none := by
    funext p
    unfold fK
    split
    · split
      · omega
      · split <;> rfl
    · rfl
  rw [this]
  have h := fK_upd (l := l) (t := t) (k := 0) (G := fun _ => none) (i := t) (c := 0)
  rw [show (((0 : Nat)) : Int) = 0 from rfl] at h
  rw [h]
  congr 1
theorem Wk.bd {l : List Arc} (hl : ∀ a ∈ l, -1048576 ≤ aW a ∧ aW a ≤ 1048576) {t i k : Nat} {x : Int} (h : Wk l t i k x) : -(k * 1048576 : Int) ≤ x ∧ x ≤ k * 1048576 := by
  induction h with
  | nil => simp
  | cons ha _ ih => have := hl _ ha; omega
theorem Bst_bd {l : List Arc} (hl : ∀ a ∈ l, -1048576 ≤ aW a ∧ aW a ≤ 1048576) {t i k : Nat} {x : Int} (h : Bst l t k i = some x) : -(k * 1048576 : Int) ≤ x ∧ x ≤ k * 1048576 := (Bst_walk h).bd hl
theorem grown_tr {a b c : World} {r : Option Nat} (h : a.grownBy b r) (h' : b.grownBy c r) : a.grownBy c r :=
  ⟨h'.os.trans h.os, h'.tape.trans h.tape, h'.output.trans h.output, Nat.le_trans h.size h'.size, fun k hk hr => (h'.block k (Nat.lt_of_lt_of_le hk h.size) hr).trans (h.block k hk hr)⟩
def partB (l : List Arc) (t q j : Nat) : Nat → Option Int := (l.take j).foldl (stepG (Bst l t q)) fun _ => none
theorem partB_succ {l : List Arc} {t q j : Nat} (h : j < l.length) : partB l t q (j + 1) = stepG (Bst l t q) (partB l t q j) (aat l j) := by
  unfold partB
  rw [atake_succ h, List.foldl_append]; rfl
theorem partB_all {l : List Arc} {t q j : Nat} (h : l.length ≤ j) : partB l t q j = Bst l t (q + 1) := by
  unfold partB
  rw [List.take_of_length_le h]; rfl
theorem own_blkne {W : World} {b e s n B : Nat} {t : TypeId} {cs : Array Value} {v : Value} {xs : List Value} (h : W.ownsRow b e s v n xs) (hB : Blk W B t cs) (hne : e ≠ t) : v.ownBlock ≠ some B := fun hh => by
  rcases h.2 with ⟨rfl, _⟩ | ⟨g, c, cur, rfl, _, h1, _⟩
  · cases hh
  · cases hh
    unfold Blk at hB
    rw [h1] at hB
    cases hB
    exact hne rfl
theorem tiW : TI Try.prog 37 3 (.int .i64 0) 1 8 := TI.mk' Try.underlying37 (by kernel_rfl) rfl (by decide)
/-- what Way tells -/
def WayPost (N s t : Nat) (l : List Arc) (w : World) (e : Ending) (w' : World) : Prop :=
  Below w.heap.size w w' ∧ ((((bfRun l (N + 1) (bfInit s)).2 = false ∨ (bfRun l (N + 1) (bfInit s)).1.T t = false) ∧ e = .returned (.tuple #[.slice none 0 0, .int .i64 5])) ∨
    ((bfRun l (N + 1) (bfInit s)).2 = true ∧ (bfRun l (N + 1) (bfInit s)).1.T t = true ∧ ∃ (A : Option Addr) (n c : Nat) (zs : List Int), e = .returned (.tuple #[.slice A n c, .int .i64 0]) ∧ n ≤ 10 ∧ Rd w' A n 1 (ints .i64 zs) ∧ wgo l s 0 zs = some ((bfRun l (N + 1) (bfInit s)).1.F t, (t : Int))))
set_option maxRecDepth 100000 in
set_option maxHeartbeats 800000 in
theorem way_bad (n s t : Int) (A : Option Addr) (len cap : Nat) (l : List Arc) (w : World) (hr : Rd w A len 4 (arcs l)) (hlen : len ≤ 9223372036854775807) (hc : swrong n l [s, t] ≠ 0) :
    Calls Try.prog 10 #[.agg #[.int .i64 n, .slice A len cap], .int .i64 s, .int .i64 t] w fun e w' => e = .returned (.tuple #[.slice none 0 0, .int .i64 (swrong n l [s, t])]) ∧ Below w.heap.size w w' := by
  have hcb : (swrong n l [s, t] != 0) = true := by simpa using hc
  have hrd : Rd ((w.alloc (.cells #[.int .i64 n, .slice A len cap] 24)).alloc (.cells #[.int .i64 s, .int .i64 t] 3)) (some ⟨w.heap.size + 1, 0, none⟩) 2 1 (ints .i64 [s, t]) := by
    have := rd_lit (w.alloc (.cells #[.int .i64 n, .slice A len cap] 24)) [.int .i64 s, .int .i64 t] 3 2 1 rfl
    rwa [World.size_alloc] at this
  have HW := Lib.hid (wrong_any n A len cap l (some ⟨w.heap.size + 1, 0, none⟩) 2 2 [s, t] _ ((hr.alloc (.cells #[.int .i64 n, .slice A len cap] 24)).alloc (.cells #[.int .i64 s, .int .i64 t] 3)) hlen hrd (by omega))
  clear hr hc hrd
  go_enter Try.func10, Try.ntmps10
  go_wp2_with fail
  refine HW.out.mono ?_
  rintro e w1 ⟨rfl, hb⟩
  go_wp2
  go_ret2
  exact ⟨rfl, (((Below.refl _ _).alloc (Nat.le_refl _) _).alloc (by simp) _).trans (hb.mono (by simp; omega))⟩
set_option maxRecDepth 100000 in
set_option maxHeartbeats 6400000 in
theorem way_ok (N s t : Nat) (A : Option Addr) (len cap : Nat) (l : List Arc) (w : World) (hr : Rd w A len 4 (arcs l)) (hN : N ≤ 10) (hl : len ≤ 30) (hs : s < N) (ht : t < N) (hok : ∀ a ∈ l, AOk N a) (hnk : nchk N l = 0) :
    Calls Try.prog 10 #[.agg #[.int .i64 N, .slice A len cap], .int .i64 s, .int .i64 t] w (WayPost N s t l w) := by
  have hc0 : swrong N l [(s : Int), (t : Int)] = 0 := by unfold swrong; rw [if_neg (by simpa using hnk)]; simp [insideB, inB, hs, ht]
  have hcs : swrong N l [(s : Int)] = 0 := by unfold swrong; rw [if_neg (by simpa using hnk)]; simp [insideB, inB, hs]
  have gb := ((Below.refl _ w).alloc (Nat.le_refl _) (.cells #[.int .i64 N, .slice A len cap] 24)).alloc (by simp) (.cells #[.int .i64 s, .int .i64 t] 3)
  have bG := (Blk.new w 24 #[.int .i64 N, .slice A len cap]).alloc (.cells #[.int .i64 s, .int .i64 t] 3)
  have hrd : Rd ((w.alloc (.cells #[.int .i64 N, .slice A len cap] 24)).alloc (.cells #[.int .i64 s, .int .i64 t] 3)) (some ⟨w.heap.size + 1, 0, none⟩) 2 1 (ints .i64 [(s : Int), (t : Int)]) := by
    have := rd_lit (w.alloc (.cells #[.int .i64 N, .slice A len cap] 24)) [.int .i64 s, .int .i64 t] 3 2 1 rfl
    rwa [World.size_alloc] at this
  have HW := Lib.hid (wrong_any N A len cap l (some ⟨w.heap.size + 1, 0, none⟩) 2 2 [(s : Int), (t : Int)] _ (hr.later gb) (by omega) hrd (by omega))
  rw [hc0] at HW
  have HF := Lib.hid (fun W (hb : Below w.heap.size w W) => far_ok N s A len cap l W (hr.later hb) hN hl hs hok hcs)
  have hsz : ((w.alloc (.cells #[.int .i64 N, .slice A len cap] 24)).alloc (.cells #[.int .i64 s, .int .i64 t] 3)).heap.size = w.heap.size + 2 := by simp
  have helH := Lib.hid (arcs_len hr)
  have hne : ∀ a ∈ l, aF a ≠ aT a := fun a ha => by
    obtain ⟨f, t, m, e, rfl, _, _, h, _⟩ := aok_split (hok a ha)
    exact h
  have hwb : ∀ a ∈ l, -1048576 ≤ aW a ∧ aW a ≤ 1048576 := fun a ha => ⟨(hok a ha).w0, (hok a ha).w1⟩
  have hfN : ∀ a ∈ l, aF a < N := fun a ha => by
    obtain ⟨f, t, m, e, rfl, h, _⟩ := aok_split (hok a ha)
    exact h
  have hfacts := Lib.hid (fun (h : (bfRun l (N + 1) (bfInit s)).2 = true) => show (bfRun l (N + 1) (bfInit s)).1.F s = 0 ∧ (bfRun l (N + 1) (bfInit s)).1.T s = true ∧ ((bfRun l (N + 1) (bfInit s)).1.T t = true → ∃ k, k < N ∧ Bst l t k s = some ((bfRun l (N + 1) (bfInit s)).1.F t)) from
    have h0 := far_zero hne h
    have hS := (Sup.run (s := s) hne (N + 1)).1
    ⟨h0, hS, fun hT => bst_found hfN ht (bfRun_still (N + 1) h) (Walked.run l s (N + 1)) hS h0 hT⟩)
  have hrH := Lib.hid hr; have hokH := Lib.hid hok; have gbH := Lib.hid gb; have bGH := Lib.hid bG; have hwbH := Lib.hid hwb
  clear hr hok hrd hc0 hcs gb bG hne hwb hfN hnk
  obtain ⟨S, hS⟩ : ∃ S, bfRun l (N + 1) (bfInit s) = S := ⟨_, rfl⟩
  have hpost : ∀ e w', WayPost N s t l w e w' ↔ (Below w.heap.size w w' ∧ (((S.2 = false ∨ S.1.T t = false) ∧ e = .returned (.tuple #[.slice none 0 0, .int .i64 5])) ∨
    (S.2 = true ∧ S.1.T t = true ∧ ∃ (A : Option Addr) (n c : Nat) (zs : List Int), e = .returned (.tuple #[.slice A n c, .int .i64 0]) ∧ n ≤ 10 ∧ Rd w' A n 1 (ints .i64 zs) ∧ wgo l s 0 zs = some (S.1.F t, (t : Int))))) := fun e w' => by unfold WayPost; rw [hS]
  have hpostH := Lib.hid hpost
  have HF : Hid (∀ W (hb : Below w.heap.size w W), Calls Try.prog 6 #[.agg #[.int .i64 N, .slice A len cap], .int .i64 s] W fun e w' => Below W.heap.size W w' ∧ ((S.2 = false ∧ e = nil3 5) ∨ (S.2 = true ∧
    ∃ bf bh, e = .returned (.tuple #[.slice (some ⟨bf, 0, none⟩) N N, .slice (some ⟨bh, 0, none⟩) N N, .int .i64 0]) ∧
      w'.ownsRow W.heap.size 2 1 (.slice (some ⟨bf, 0, none⟩) N N) N (row N S.1.F) ∧ w'.ownsRow W.heap.size 4 1 (.slice (some ⟨bh, 0, none⟩) N N) N (brow N S.1.T)))) := Lib.hid (fun W hb => by
      have := HF.out W hb
      unfold FarPost at this
      rwa [hS] at this)
  rw [hS] at hfacts
  clear hpost hS
  go_enter Try.func10, Try.ntmps10
  go_wp2_with fail
  refine HW.out.mono ?_
  rintro _ w1 ⟨rfl, hb⟩
  have b1 := bGH.out.below hb (by omega)
  have c0 := b1.cell (j := 0) (v := .int .i64 N) rfl; have c1 := b1.cell (j := 1) (v := .slice A len cap) rfl
  have hb1 := gbH.out.trans (hb.mono gbH.out.size)
  have HF1 := Lib.hid (HF.out w1 hb1)
  have hs1 := hb.size
  have hb1H := Lib.hid hb1; have b1H := Lib.hid b1
  clear hb hb1 b1 HF HW
  by_cases hst : s = t
  · subst hst
    have hsb : ((s : Int) == (s : Int)) = true := by simp
    have hNp : decide ((0 : Int) < N) = true := decide_eq_true (by omega)
    go_wp2_with fail
    refine HF1.out.mono ?_
    rintro _ w2 ⟨hb2, hcase⟩
    have hfin := Lib.hid (hb1H.out.trans (hb2.mono hb1H.out.size))
    rcases hcase with ⟨h2, rfl⟩ | ⟨h2, bf, bh, rfl, rf, rh⟩
    · have h2H := Lib.hid h2
      unfold nil3
      clear hb2 h2 HF1
      go_wp2
      go_ret2
      exact (hpostH.out _ _).2 ⟨hfin.out, .inl ⟨.inl h2H.out, rfl⟩⟩
    · have h2H := Lib.hid h2
      obtain ⟨h0, hTs, _⟩ := hfacts.out h2
      have hend := Lib.hid (show wgo l s 0 [] = some (S.1.F s, (s : Int)) by rw [h0]; rfl)
      have hTsH := Lib.hid hTs
      clear hb2 h2 HF1 rf rh h0 hTs
      go_wp2
      go_ret2
      exact (hpostH.out _ _).2 ⟨hfin.out, .inr ⟨h2H.out, hTsH.out, none, 0, 0, [], rfl, by omega, ⟨rfl, fun h => by omega⟩, hend.out⟩⟩
  · have hsb : ((s : Int) == (t : Int)) = false := by rw [beq_eq_false_iff_ne]; omega
    go_wp2_with fail
    refine HF1.out.mono ?_
    rintro _ w2 ⟨hb2, hcase⟩
    have hb2' := hb1H.out.trans (hb2.mono hb1H.out.size)
    have hfin := Lib.hid hb2'
    rcases hcase with ⟨h2, rfl⟩ | ⟨h2, bf, bh, rfl, rf, rh⟩
    · have h2H := Lib.hid h2
      unfold nil3
      clear hb2 hb2' h2 HF1
      go_wp2
      go_ret2
      exact (hpostH.out _ _).2 ⟨hfin.out, .inl ⟨.inl h2H.out, rfl⟩⟩
    · have h2H := Lib.hid h2
      have hbhT : w2.cell? ⟨bh, t, none⟩ = some (.bool (S.1.T t)) := brow_cell (Rd.of_own rh) ht
      have ht0 : (0 : Int) ≤ t := by omega
      have htN : (t : Int) < N := by omega
      have hfx := Lib.hid (hfacts.out h2)
      cases hT : S.1.T t
      · rw [hT] at hbhT
        have hTH := Lib.hid hT
        clear hb2 hb2' h2 HF1 rf rh hT
        go_wp2
        go_ret2
        exact (hpostH.out _ _).2 ⟨hfin.out, .inl ⟨.inr hTH.out, rfl⟩⟩
      · rw [hT] at hbhT
        have hTH := Lib.hid hT
        have bG2 := b1H.out.below hb2 (by omega)
        have hs2 := hb2.size
        have hbfF : w2.cell? ⟨bf, t, none⟩ = some (.int .i64 (S.1.F t)) := row_cell (Rd.of_own rf) ht
        have hbfl : bf < w2.heap.size := row_lt (Rd.of_own rf) ht
        have hfound := Lib.hid (hfx.out.2.2 hT)
        generalize S.1.F t = Ft at *
        have bG2H := Lib.hid bG2
        have hbfH := Lib.hid hbfF
        clear hb2 hb2' h2 HF1 rf rh hT bG2 hbfF
        have hY0 := YMap.made w2
        have hmm := @run_makeMap Try.prog
        go_wp2_with (refine wp_ymap (c := ((t : Int), 0)) rfl (.tmp 76) (.tmp 78) (.const (.int .i64 0)) (.inr rfl) rfl hY0 rfl rfl ?_)
        intro w3 hY1 hg3
        rw [fK_init (l := l)] at hY1
        have hgr : (w2.alloc (.map #[] 0)).grownBy w3 (some w2.heap.size) := hg3
        obtain ⟨Mb, hMb⟩ : ∃ Mb, Mb = w2.heap.size := ⟨_, rfl⟩
        have hKeep := Lib.hid (show ∀ b, b < Mb → w3.heap[b]? = w2.heap[b]? from fun b hb => by
          rw [hMb] at hb
          exact (hg3.block b (by simp; omega) (by simp; omega)).trans (Below.heap_alloc _ _ _ hb))
        have hs3 : Mb < w3.heap.size := by have := hg3.size; simp at this; omega
        have hbe3 : Below w.heap.size w w3 := (hfin.out.alloc hfin.out.size (.map #[] 0)).grown hg3 (by simp; have := hfin.out.size; omega) (fun r e => by cases e; exact hfin.out.size)
        have hwM : w.heap.size + 2 ≤ Mb := by omega
        have hbfM : bf < Mb := by omega
        rw [← hMb] at hY1 ⊢
        have bG3 : Blk w3 w.heap.size 24 #[.int .i64 N, .slice A len cap] := (hKeep.out _ (by omega)).trans bG2H.out
        have hbf3 : w3.cell? ⟨bf, t, none⟩ = some (.int .i64 Ft) := by
          have := hbfH.out
          unfold World.cell? at this ⊢
          rw [hKeep.out bf hbfM]; exact this
        have hr3H := Lib.hid (hrH.out.below (Nat.le_refl _) hbe3)
        have hrM := Lib.hid (fun b o (e : A = some ⟨b, o, none⟩) (h0 : 0 < len) => show b < Mb by
          obtain ⟨b', o', e', hlt, _⟩ := hrH.out.2 h0
          rw [e] at e'; cases e'; omega)
        have hY1H := Lib.hid hY1; have hbe3H := Lib.hid hbe3; have bG3H := Lib.hid bG3; have hbf3H := Lib.hid hbf3
        have hBs0 := Lib.hid (show Bst l t 0 s = none by unfold Bst; rw [if_neg hst])
        clear hY0 hg3 hgr hKeep bG2H hbfH hMb hs2 hbfl hmm hY1 hbe3 bG3 hbf3 hbhT
        go_wp2
        go_loopw [16, 17] (fun sz kv wr => ∃ q : Nat, q + 1 ≤ N ∧ kv = .int .i64 ((q : Int) + 1) ∧ sz = .int .i64 0 ∧ YMap wr Mb (fK l t (q + 1) fun _ => none) ∧ w3.grownBy wr (some Mb) ∧ Hid (∀ m, m ≤ q → Bst l t m s ≠ some Ft)) (fun _ kv _ => N - (intOf kv).toNat)
        case atStart => exact ⟨0, by omega, by go_num, rfl, hY1H.out, World.grownBy.refl _ _, Lib.hid fun m hm => by rw [show m = 0 by omega, hBs0.out]; simp⟩
        case round =>
          obtain ⟨q, hqN, rfl, rfl, hY, hg, hno⟩ := hrel
          obtain ⟨w4, rfl⟩ : ∃ w4 : World, w4 = wr := ⟨_, rfl⟩
          have hYH := Lib.hid hY; have hgH := Lib.hid hg
          have bG4 := bG3H.out.kept hg (by simp; omega)
          have c0 := bG4.cell (j := 0) (v := .int .i64 N) rfl; have c1 := bG4.cell (j := 1) (v := .slice A len cap) rfl
          by_cases hqlt : q + 1 < N
          · have hqI : (q : Int) + 1 < N := by omega
            clear hY hg bG4
            go_wp2
            go_loopw [89] (fun jv wx => ∃ j : Nat, j ≤ len ∧ jv = .int .i64 j ∧ YMap wx Mb (fK l t (q + 1) (partB l t q j)) ∧ w4.grownBy wx (some Mb)) (fun jv _ => len - (intOf jv).toNat)
            case atStart => exact ⟨0, Nat.zero_le _, rfl, hYH.out, World.grownBy.refl _ _⟩
            case round =>
              clear c0 c1
              obtain ⟨j, hj, rfl, hYj, hgj⟩ := hrel
              obtain ⟨w5, rfl⟩ : ∃ w5 : World, w5 = wr := ⟨_, rfl⟩
              have hgw := grown_tr hgH.out hgj
              have hgwH := Lib.hid hgw
              have hgjH := Lib.hid hgj; have hYjH := Lib.hid hYj
              by_cases hjlt : j < len
              · obtain ⟨bb, oo, rfl, hab, a0, a1, a2, a3⟩ := (hr3H.out.grown hgw (fun b o e h => by have := hrM.out b o e (by omega); cases h; omega)).arc hjlt
                have hmem := aat_mem (l := l) (k := j) (by rw [helH.out]; exact hjlt)
                have hsn := partB_succ (l := l) (t := t) (q := q) (j := j) (by rw [helH.out]; exact hjlt)
                have hwbe := hwbH.out _ hmem
                obtain ⟨f, tt, mo, e, he, hfN, htN', _, _, _, _, _⟩ := aok_split (hokH.out _ hmem)
                rw [he] at a0 a1 a2 a3 hsn hwbe
                dsimp only at a0 a1 a2 a3
                have eT : aT ((f : Int), (tt : Int), mo, e) = tt := rfl
                have eF : aF ((f : Int), (tt : Int), mo, e) = f := rfl
                have eW : aW ((f : Int), (tt : Int), mo, e) = e := rfl
                rw [eW] at hwbe
                have hYa := hYj.alloc (.cells #[.int .i64 f, .int .i64 tt, .int .i64 mo, .int .i64 e] 32)
                have hga := grown_tr hgj (World.grownBy_alloc w5 (.cells #[.int .i64 f, .int .i64 tt, .int .i64 mo, .int .i64 e] 32) (some Mb))
                have hlk := hYa.look ((tt : Int), (q : Int))
                rw [fK_lt (by omega)] at hlk
                unfold kk at hlk
                dsimp only at hlk
                have hYaH := Lib.hid hYa; have hgaH := Lib.hid hga
                clear hmem he hYj hgj hgw hYa hga
                cases hx : Bst l t q tt with
                | none =>
                  rw [stepG_none (by rw [eT]; exact hx)] at hsn
                  rw [hx] at hlk
                  simp only [Option.getD_none, Option.isSome_none] at hlk
                  have hsnH := Lib.hid hsn
                  clear hsn hx eT eF eW
                  go_wp2
                  go_roundw
                  case rel => exact ⟨j + 1, by omega, by go_num, by rw [hsnH.out]; exact hYaH.out, hgaH.out⟩
                  case measure => simp [intOf]; omega
                | some x =>
                  have hxb := Bst_bd hwbH.out hx
                  rw [stepG_some (by rw [eT]; exact hx), eF, eW] at hsn
                  rw [hx] at hlk
                  simp only [Option.getD_some, Option.isSome_some] at hlk
                  have hlk2 := hYaH.out.look ((f : Int), ((q + 1 : Nat) : Int))
                  rw [fK_eq] at hlk2
                  unfold kk at hlk2
                  dsimp only at hlk2
                  rw [show ((q + 1 : Nat) : Int) = (q : Int) + 1 by omega] at hlk2
                  have hup := Lib.hid (fun c => fK_upd (l := l) (t := t) (k := q + 1) (G := partB l t q j) (i := f) (c := c))
                  rw [show ((q + 1 : Nat) : Int) = (q : Int) + 1 by omega] at hup
                  clear hx eT eF eW
                  cases hy : partB l t q j f with
                  | none =>
                    rw [hy] at hsn hlk2
                    rw [show bettG none (x + e) = true from rfl, if_pos rfl] at hsn
                    simp only [Option.getD_none, Option.isSome_none] at hlk2
                    have hsnH := Lib.hid hsn
                    clear hsn hy
                    go_wp2_with (refine wp_ymap (c := ((f : Int), (q : Int) + 1)) (y := x + e) rfl (.tmp 123) (.tmp 127) (.tmp 131) (.inl rfl) rfl hYaH.out rfl rfl ?_)
                    intro w6 hY6 hg6
                    rw [hup.out, ← hsnH.out] at hY6
                    have hY6H := Lib.hid hY6
                    have hg6H := Lib.hid (grown_tr hgaH.out hg6)
                    clear hY6 hg6 hlk hlk2
                    go_wp2
                    go_roundw
                    case rel => exact ⟨j + 1, by omega, by go_num, hY6H.out, hg6H.out⟩
                    case measure => simp [intOf]; omega
                  | some y =>
                    rw [hy] at hsn hlk2
                    simp only [Option.getD_some, Option.isSome_some] at hlk2
                    by_cases hlt2 : x + e < y
                    · have hd : decide (x + e < y) = true := decide_eq_true hlt2
                      rw [show bettG (some y) (x + e) = true from hd, if_pos rfl] at hsn
                      have hsnH := Lib.hid hsn
                      clear hsn hy
                      go_wp2_with (refine wp_ymap (c := ((f : Int), (q : Int) + 1)) (y := x + e) rfl (.tmp 123) (.tmp 127) (.tmp 131) (.inl rfl) rfl hYaH.out rfl rfl ?_)
                      intro w6 hY6 hg6
                      rw [hup.out, ← hsnH.out] at hY6
                      have hY6H := Lib.hid hY6
                      have hg6H := Lib.hid (grown_tr hgaH.out hg6)
                      clear hY6 hg6 hlk hlk2
                      go_wp2
                      go_roundw
                      case rel => exact ⟨j + 1, by omega, by go_num, hY6H.out, hg6H.out⟩
                      case measure => simp [intOf]; omega
                    · have hd : decide (x + e < y) = false := decide_eq_false hlt2
                      rw [show bettG (some y) (x + e) = false from hd, if_neg (by simp)] at hsn
                      have hsnH := Lib.hid hsn
                      clear hsn hy
                      go_wp2
                      go_roundw
                      case rel => exact ⟨j + 1, by omega, by go_num, by rw [hsnH.out]; exact hYaH.out, hgaH.out⟩
                      case measure => simp [intOf]; omega
              · obtain rfl : j = len := by omega
                rw [partB_all (by rw [helH.out]; exact Nat.le_refl _)] at hYj
                have bG5 := bG3H.out.kept hgw (by simp; omega)
                have c0 := bG5.cell (j := 0) (v := .int .i64 N) rfl; have c1 := bG5.cell (j := 1) (v := .slice A j cap) rfl
                have hf5 := grown_cell hgw (by omega) (by simp; omega) hbf3H.out
                have hlk := hYj.look ((s : Int), ((q + 1 : Nat) : Int))
                rw [fK_eq] at hlk
                unfold kk at hlk
                dsimp only at hlk
                rw [show ((q + 1 : Nat) : Int) = (q : Int) + 1 by omega] at hlk
                have hYj2 := Lib.hid hYj
                have hYn := Lib.hid (by rw [fK_next] at hYj; exact hYj)
                have hnx := Lib.hid (show Bst l t (q + 1) s ≠ some Ft → ∀ m, m ≤ q + 1 → Bst l t m s ≠ some Ft from fun h m hm => by
                  by_cases e : m = q + 1
                  · rw [e]; exact h
                  · exact hno.out m (by omega))
                have hbe5 := Lib.hid (hbe3H.out.grown hgw (by have := hbe3H.out.size; omega) (fun r e => by cases e; omega))
                have hr5H := Lib.hid (show Rd w5 A j 4 (arcs l) from by
                  rcases Nat.eq_zero_or_pos j with h0 | h0
                  · exact ⟨hr3H.out.1, fun h => by omega⟩
                  · exact hr3H.out.grown hgw (fun b o e h => by have := hrM.out b o e h0; cases h; omega))
                clear hYj hgj hgw bG5
                cases hz : Bst l t (q + 1) s with
                | none =>
                  rw [hz] at hlk hnx
                  simp only [Option.getD_none, Option.isSome_none] at hlk
                  have hn2 := Lib.hid (hnx.out (by simp))
                  clear hz hnx
                  go_wp2
                  go_roundw
                  case rel => exact ⟨q + 1, by omega, by go_num, rfl, hYn.out, hgwH.out, hn2⟩
                  case measure => simp [intOf]; omega
                | some z =>
                  rw [hz] at hlk hnx
                  simp only [Option.getD_some, Option.isSome_some] at hlk
                  by_cases hzF : z = Ft
                  · have hzb : (z == Ft) = true := by rw [hzF]; simp
                    have hzH := Lib.hid hz
                    have hzFH := Lib.hid hzF
                    have hw5 := hgwH.out.size
                    have hinit := Lib.hid (show (∀ r, wgo l s 0 ([] ++ r) = wgo l s 0 r) ∧ ∃ y, Bst l t (q + 1) s = some y ∧ 0 + y = Ft from ⟨fun r => rfl, z, hz, by rw [hzF]; omega⟩)
                    have hc1H := Lib.hid c1
                    clear hnx hz hzF
                    go_wp2
                    clear hlk hf5 c0 c1
                    go_loopw [26, 27, 28] (fun lv at_ lf wx => ∃ (left i : Nat) (x : Int) (zs : List Int), left ≤ q + 1 ∧ lf = .int .i64 left ∧ at_ = .int .i64 i ∧ wx.ownsRow w5.heap.size 3 1 lv zs.length (ints .i64 zs) ∧ zs.length + left = q + 1 ∧ Hid ((∀ r, wgo l s 0 (zs ++ r) = wgo l i x r) ∧ ∃ y, Bst l t left i = some y ∧ x + y = Ft) ∧ Below w5.heap.size w5 wx) (fun _ _ lf _ => (intOf lf).toNat)
                    case atStart => exact ⟨q + 1, s, 0, [], Nat.le_refl _, by go_num, rfl, World.ownsRow_nil _ _ _ _, by simp, hinit, Below.refl _ _⟩
                    case round =>
                      clear hinit
                      obtain ⟨left, i, x, zs, hleft, rfl, rfl, hown, hzl, hW, hb6⟩ := hrel
                      obtain ⟨Ao, co, rfl⟩ := own_slice hown
                      obtain ⟨w6, rfl⟩ : ∃ w6 : World, w6 = wr := ⟨_, rfl⟩
                      have hownH := Lib.hid hown; have hb6H := Lib.hid hb6
                      have c1 := below_cell hb6 (by omega) hc1H.out
                      cases left with
                      | zero =>
                        have hdone := Lib.hid (show wgo l s 0 zs = some (Ft, (t : Int)) by
                          obtain ⟨h1, y, h2, h3⟩ := hW.out
                          unfold Bst at h2
                          split at h2
                          · rename_i e
                            have := h1 []
                            rw [List.append_nil] at this
                            rw [this]
                            unfold wgo
                            cases h2
                            rw [e]
                            congr 2
                            omega
                          · cases h2)
                        have hfb := Lib.hid (hbe5.out.trans (hb6.mono hbe5.out.size))
                        clear hown hb6
                        go_wp2
                        go_ret2
                        exact (hpostH.out _ _).2 ⟨hfb.out, .inr ⟨h2H.out, hTH.out, Ao, zs.length, co, zs, rfl, by omega, Rd.of_own hownH.out, hdone.out⟩⟩
                      | succ p =>
                        have hp0 : decide ((0 : Int) < ((p + 1 : Nat) : Int)) = true := decide_eq_true (by omega)
                        have hlI : ((p + 1 : Nat) : Int) = (p : Int) + 1 := by omega
                        obtain ⟨y, hy, hxy⟩ := hW.out.2
                        have hex := Lib.hid (show ∃ j', j' < j ∧ aF (aat l j') = i ∧ ∃ x0, Bst l t p (aT (aat l j')) = some x0 ∧ y = x0 + aW (aat l j') by
                          obtain ⟨a, ha, h1, h2⟩ := Bst_src hy
                          obtain ⟨j', hj', rfl⟩ := List.getElem_of_mem ha
                          have e : aat l j' = l[j'] := by simp [aat, List.getD, hj']
                          exact ⟨j', by rw [← helH.out]; exact hj', by rw [e]; exact h1, by rw [e]; exact h2⟩)
                        have hyH := Lib.hid hy; have hxyH := Lib.hid hxy
                        rw [hlI]
                        clear hown hb6 hy hxy
                        go_wp2
                        go_loopw [26, 27, 29, 160] (fun lv at_ _ jv wx => ∃ j' : Nat, j' ≤ j ∧ jv = .int .i64 j' ∧ lv = .slice Ao zs.length co ∧ at_ = .int .i64 i ∧ Below w6.heap.size w6 wx ∧ Hid (∀ m, m < j' → ¬ (aF (aat l m) = i ∧ ∃ x0, Bst l t p (aT (aat l m)) = some x0 ∧ y = x0 + aW (aat l m)))) (fun _ _ _ jv _ => j - (intOf jv).toNat)
                        case atStart => exact ⟨0, Nat.zero_le _, rfl, rfl, rfl, Below.refl _ _, Lib.hid fun m hm => by omega⟩
                        case round =>
                          clear c1
                          obtain ⟨j', hj', rfl, rfl, rfl, hb7, hnone⟩ := hrel
                          obtain ⟨w7, rfl⟩ : ∃ w7 : World, w7 = wr := ⟨_, rfl⟩
                          have hb7H := Lib.hid hb7
                          by_cases hjl : j' < j
                          · have hbe7 := hb6H.out.trans (hb7.mono hb6H.out.size)
                            obtain ⟨bb, oo, rfl, hab, a0, a1, a2, a3⟩ := (hr5H.out.later hbe7).arc hjl
                            have hmem := aat_mem (l := l) (k := j') (by rw [helH.out]; exact hjl)
                            have hwbe := hwbH.out _ hmem
                            obtain ⟨f, tt, mo, e, he, hfN, htN', _, _, _, _, _⟩ := aok_split (hokH.out _ hmem)
                            have hgood := Lib.hid (fun (x0 : Int) (h1 : f = i) (h2 : Bst l t p tt = some x0) (h3 : x0 + e = y) (r : List Int) => show wgo l s 0 ((zs ++ [(j' : Int)]) ++ r) = wgo l (tt : Int) (x + e) r by
                              rw [List.append_assoc, hW.out.1, List.singleton_append, wgo_good (by omega) (by rw [helH.out]; omega) (by rw [Int.toNat_natCast, he]; dsimp only; omega), Int.toNat_natCast, he])
                            have hbad := Lib.hid (fun (h : ¬ (f = i ∧ ∃ x0, Bst l t p tt = some x0 ∧ y = x0 + e)) => show ∀ m, m < j' + 1 → ¬ (aF (aat l m) = i ∧ ∃ x0, Bst l t p (aT (aat l m)) = some x0 ∧ y = x0 + aW (aat l m)) from fun m hm => by
                              by_cases hmj : m = j'
                              · subst hmj; rw [he]; exact h
                              · exact hnone.out m (by omega))
                            rw [he] at a0 a1 a2 a3 hwbe
                            dsimp only at a0 a1 a2 a3
                            have eW : aW ((f : Int), (tt : Int), mo, e) = e := rfl
                            rw [eW] at hwbe
                            have hY7 := (hYj2.out.later hbe7).alloc (.cells #[.int .i64 f, .int .i64 tt, .int .i64 mo, .int .i64 e] 32)
                            have hlk := hY7.look ((tt : Int), (p : Int))
                            rw [fK_lt (by omega)] at hlk
                            have hlk2 := hY7.look1 ((i : Int), ((p + 1 : Nat) : Int))
                            have hval : fK l t (q + 1) (Bst l t (q + 1)) ((i : Int), ((p + 1 : Nat) : Int)) = some y := by
                              by_cases hpq : p + 1 < q + 1
                              · rw [fK_lt hpq]; exact hyH.out
                              · have : p = q := by omega
                                rw [this, fK_eq, ← this]; exact hyH.out
                            rw [hval, hlI] at hlk2
                            simp only [Option.getD_some] at hlk2
                            unfold kk at hlk hlk2
                            dsimp only at hlk hlk2
                            have hyb := Bst_bd hwbH.out hyH.out
                            have hba := hb7.alloc hb7.size (.cells #[.int .i64 f, .int .i64 tt, .int .i64 mo, .int .i64 e] 32)
                            have hbaH := Lib.hid hba
                            have hownA := Lib.hid ((own_below hownH.out hb7).alloc (.cells #[.int .i64 f, .int .i64 tt, .int .i64 mo, .int .i64 e] 32))
                            have bA := Lib.hid (Blk.new w7 32 #[.int .i64 f, .int .i64 tt, .int .i64 mo, .int .i64 e])
                            have hs7 : w5.heap.size ≤ w7.heap.size := hbe7.size
                            clear hmem he eW hb7 hbe7 hY7 hba hval
                            by_cases hfi : f = i
                            · have hfb : ((f : Int) == (i : Int)) = true := by rw [hfi]; simp
                              cases hx0 : Bst l t p tt with
                              | none =>
                                rw [hx0] at hlk
                                simp only [Option.getD_none, Option.isSome_none] at hlk
                                have hnn := Lib.hid (hbad.out fun h => by obtain ⟨_, x0, h1, _⟩ := h; rw [hx0] at h1; cases h1)
                                clear hx0 hfi
                                go_wp2
                                go_roundw
                                case rel => exact ⟨j' + 1, by omega, by go_num, rfl, rfl, hbaH.out, hnn⟩
                                case measure => simp [intOf]; omega
                              | some x0 =>
                                have hxb := Bst_bd hwbH.out hx0
                                rw [hx0] at hlk
                                simp only [Option.getD_some, Option.isSome_some] at hlk
                                by_cases hxy : x0 + e = y
                                · have hxyb : (x0 + e == y) = true := by rw [hxy]; simp
                                  have hgo := Lib.hid (hgood.out x0 hfi hx0 hxy)
                                  have hx0H := Lib.hid hx0; have hxyE := Lib.hid hxy
                                  clear hx0 hfi hxy
                                  have hxb2 := hxb
                                  go_upto_region 39 with fail
                                  have hsA : (w7.alloc (.cells #[.int .i64 f, .int .i64 tt, .int .i64 mo, .int .i64 e] 32)).heap.size = w7.heap.size + 1 := by simp
                                  generalize w7.alloc (.cells #[.int .i64 f, .int .i64 tt, .int .i64 mo, .int .i64 e] 32) = wa at *
                                  have ea1 := bA.out.cell (j := 1) (v := .int .i64 tt) rfl
                                  have hrd := (rd_new1 wa (.int .i64 (j' : Int)) 3).drew
                                  rw [hsA] at hrd
                                  have hrdH := Lib.hid hrd
                                  clear hrd
                                  have hzl10 : zs.length ≤ 10 := by omega
                                  clear hlk hlk2 a0 a1 a2 a3
                                  go_region_law (
                                    refine step_app (s := .tmp 195) (x := .tmp 197) _ tiW (own_drew (hownA.out.alloc _)) hrdH.out (ints_one (l := [(j' : Int)])) (by omega) (by omega) (by simp; omega) rfl rfl rfl rfl ?_
                                    intro v' w8 hown8 hg8 hat8
                                    obtain ⟨g8, c8, rfl⟩ := ownsRow_succ hown8
                                    have bA8 : Blk w8 w7.heap.size 32 #[.int .i64 f, .int .i64 tt, .int .i64 mo, .int .i64 e] := (show Blk (wa.alloc (.cells #[.int .i64 (j' : Int)] 3)).drew w7.heap.size 32 #[.int .i64 f, .int .i64 tt, .int .i64 mo, .int .i64 e] from bA.out.alloc (.cells #[.int .i64 (j' : Int)] 3)).kept hg8 (fun h => own_blkne hownA.out bA.out (by decide) h.symm)
                                    have ea8 := bA8.cell (j := 1) (v := .int .i64 tt) rfl
                                    have hbe8 := (((hb6H.out.trans (hbaH.out.mono hb6H.out.size)).alloc (by omega) (.cells #[.int .i64 (j' : Int)] 3)).drew).grown hg8 (by simp; omega) (fun r h => (hownA.out.lt r h).1)
                                    have hown8H := Lib.hid hown8; have hbe8H := Lib.hid hbe8
                                    clear hown8 hg8 hat8 hbe8 bA8)
                                  all_goals
                                    go_wp2
                                    go_roundw
                                    case rel => exact ⟨p, tt, x + e, zs ++ [(j' : Int)], by omega, by go_num, rfl, by rw [List.length_append]; simpa [ints] using hown8H.out, by simp; omega, Lib.hid ⟨hgo.out, x0, hx0H.out, by have := hxyE.out; have := hxyH.out; omega⟩, hbe8H.out⟩
                                    case measure => simp [intOf]
                                · have hxyb : (x0 + e == y) = false := by rw [beq_eq_false_iff_ne]; exact hxy
                                  have hnn := Lib.hid (hbad.out fun h => by
                                    obtain ⟨_, x1, h1, h2⟩ := h
                                    rw [hx0] at h1; cases h1; exact hxy h2.symm)
                                  clear hx0 hfi hxy
                                  go_wp2
                                  go_roundw
                                  case rel => exact ⟨j' + 1, by omega, by go_num, rfl, rfl, hbaH.out, hnn⟩
                                  case measure => simp [intOf]; omega
                            · have hfb : ((f : Int) == (i : Int)) = false := by rw [beq_eq_false_iff_ne]; omega
                              have hnn := Lib.hid (hbad.out fun h => hfi h.1)
                              clear hfi
                              go_wp2
                              go_roundw
                              case rel => exact ⟨j' + 1, by omega, by go_num, rfl, rfl, hbaH.out, hnn⟩
                              case measure => simp [intOf]; omega
                          · exact absurd hnone.out (fun hnone => by
                              obtain ⟨m, hm, h⟩ := hex.out
                              exact hnone m (by omega) h)
                  · have hzb : (z == Ft) = false := by rw [beq_eq_false_iff_ne]; exact hzF
                    have hn2 := Lib.hid (hnx.out (by simpa using hzF))
                    clear hz hnx hzF
                    go_wp2
                    go_roundw
                    case rel => exact ⟨q + 1, by omega, by go_num, rfl, hYn.out, hgwH.out, hn2⟩
                    case measure => simp [intOf]; omega
          · exact absurd hno.out (fun hno => by
              obtain ⟨k, hk, hkF⟩ := hfound.out
              exact hno k (by omega) hkF)
