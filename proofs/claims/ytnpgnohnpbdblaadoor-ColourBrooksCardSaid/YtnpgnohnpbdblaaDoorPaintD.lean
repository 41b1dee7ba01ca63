/- colour.Least: by as few colours as can be. -/
import Derived.Test.YtnpgnohnpbdblaaDoorPaintB
import Derived.Test.YtnpgnohnpbdblaaDoorPaintC
import Derived.Test.YtnpgnohnpbdblaaDoorNearGr
namespace Go.Proofs.YtnpgnohnpbdblaaDoor
open Go.RowKit Go.Shelf

/-- a colouring by k colours -/
def Col (ns : List Nat) (n k : Nat) (M : Nat → Int) : Prop := ∀ j, j < n → 0 ≤ M j ∧ M j < k ∧ ∀ m, nb ns j m = true → M m ≠ M j
theorem col_ext {ns : List Nat} {n k : Nat} {L M : Nat → Int} (g : Gr n ns) : Ext ns n k 0 L M ↔ Col ns n k M := by
  constructor
  · rintro ⟨_, h⟩ j hj
    refine ⟨(h j (by omega) hj).1, (h j (by omega) hj).2.1, fun m hm => ?_⟩
    obtain ⟨_, hmn, hs, hne⟩ := g.ok j m hm
    rcases Nat.lt_or_ge m j with hlt | hge
    · exact (h j (by omega) hj).2.2 m hlt hm
    · exact fun e => (h m (by omega) hmn).2.2 j (by omega) hs e.symm
  · intro h
    exact ⟨fun j hj => absurd hj (by omega), fun j _ hj => ⟨(h j hj).1, (h j hj).2.1, fun m _ hm => (h j hj).2.2 m hm⟩⟩
theorem col_all {ns : List Nat} {n : Nat} (g : Gr n ns) : Col ns n n fun j => (j : Int) := fun j hj => by
  refine ⟨?_, ?_, fun m hm => ?_⟩ <;> dsimp only
  · omega
  · omega
  · have := (g.ok j m hm).2.2.2; omega
theorem col_mono {ns : List Nat} {n k k' : Nat} {M : Nat → Int} (h : Col ns n k M) (hk : k ≤ k') : Col ns n k' M := fun j hj => ⟨(h j hj).1, by have := (h j hj).2.1; omega, (h j hj).2.2⟩
theorem col_congr {ns : List Nat} {n k : Nat} {M M' : Nat → Int} (g : Gr n ns) (h : Col ns n k M) (he : ∀ j, j < n → M j = M' j) : Col ns n k M' := fun j hj => by
  rw [← he j hj]
  exact ⟨(h j hj).1, (h j hj).2.1, fun m hm => by rw [← he m (g.ok j m hm).2.1]; exact (h j hj).2.2 m hm⟩
/-- the least number of colours -/
def IsChi (ns : List Nat) (n k : Nat) : Prop := (∃ M, Col ns n k M) ∧ ∀ k', k' < k → ∀ M, ¬ Col ns n k' M
theorem isChi_le {ns : List Nat} {n k k' : Nat} (h : IsChi ns n k) {M : Nat → Int} (hM : Col ns n k' M) : k ≤ k' := Nat.le_of_not_lt fun hlt => h.2 k' hlt M hM
def LeastPost (N : Nat) (ns : List Nat) (w : World) (e : Ending) (w' : World) : Prop :=
  ∃ (k gl : Nat) (L : Nat → Int), e = .returned (.tuple #[.int .i64 k, .slice (some ⟨gl, 0, none⟩) N N, .int .i64 0]) ∧ w'.ownsRow w.heap.size 3 1 (.slice (some ⟨gl, 0, none⟩) N N) N (row N L) ∧
    Col ns N k L ∧ IsChi ns N k ∧ k ≤ N ∧ Below w.heap.size w w'
theorem least_bad (N : Int) (A : Option Addr) (len cap : Nat) (es : List E) (w : World) (hr : Rd w A len 3 (ps3 .i64 .i64 .i64 es)) (hlen : len ≤ 9223372036854775807) (hbad : (gchk N es == 0) = false) :
    Calls Tryd.prog 20 #[.agg #[.int .i64 N, .slice A len cap]] w fun e w' => ∃ z, e = .returned (.tuple #[.int .i64 0, .slice none 0 0, .int .i64 z]) ∧ (z != 0) = true ∧ Below w.heap.size w w' := by
  have gb := (Below.refl _ w).alloc (Nat.le_refl _) (.cells #[.int .i64 N, .slice A len cap] 24)
  have HC := Lib.hid (check_any N A len cap es _ (hr.later gb) hlen)
  have hne : (gchk N es != 0) = true := by simpa using hbad
  clear hr hbad
  generalize gchk N es = z at *
  go_enter Tryd.func20, Tryd.ntmps20
  go_wp2_with fail
  refine HC.out.mono ?_
  rintro _ w1 ⟨rfl, hb1⟩
  go_wp2
  go_ret3
  exact ⟨z, rfl, hne, gb.trans (hb1.mono (by simp))⟩
set_option maxHeartbeats 1600000 in
theorem least_ok (N : Nat) (A : Option Addr) (len cap : Nat) (es : List E) (w : World) (hr : Rd w A len 3 (ps3 .i64 .i64 .i64 es)) (hl : len ≤ 45) (hok : gchk N es = 0) (htb : Tb w) (hg : 0 < w.heap.size) :
    Calls Tryd.prog 20 #[.agg #[.int .i64 N, .slice A len cap]] w (LeastPost N (nearW N es) w) := by
  obtain ⟨_, h10, _, hokE, _⟩ := gchk_ok hok
  rw [Int.toNat_natCast] at hokE
  have hN : N ≤ 10 := by omega
  have g := nearGr hok
  have gb := (Below.refl _ w).alloc (Nat.le_refl _) (.cells #[.int .i64 N, .slice A len cap] 24)
  have g0 : (w.alloc (.cells #[.int .i64 N, .slice A len cap] 24)).cell? ⟨w.heap.size, 0, none⟩ = some (.int .i64 N) := by go_simp
  have g1 : (w.alloc (.cells #[.int .i64 N, .slice A len cap] 24)).cell? ⟨w.heap.size, 1, none⟩ = some (.slice A len cap) := by go_simp
  have HC := Lib.hid (check_any N A len cap es _ (hr.later gb) (by omega))
  rw [hok] at HC
  have hrH := Lib.hid hr; have hokH := Lib.hid hokE; have htbH := Lib.hid htb
  clear hr hok hokE htb
  go_enter Tryd.func20, Tryd.ntmps20
  go_wp2_with fail
  refine HC.out.mono ?_
  rintro _ w1 ⟨rfl, hb1⟩
  have q0 := below_cell hb1 (by simp) g0
  have q1 := below_cell hb1 (by simp) g1
  have hbw := gb.trans (hb1.mono (by simp))
  have hS1 : w.heap.size < w1.heap.size := by have := hb1.size; simp at this; omega
  clear g0 g1 gb hb1
  go_wp2
  go_loopw [6, 7] (fun i _ wr => ∃ k : Nat, k ≤ N ∧ i = .int .i64 k ∧ (∀ k', k' < k → ∀ M, ¬ Col (nearW N es) N k' M) ∧ Below w.heap.size w wr ∧ w.heap.size < wr.heap.size ∧ wr.cell? ⟨w.heap.size, 0, none⟩ = some (.int .i64 N) ∧ wr.cell? ⟨w.heap.size, 1, none⟩ = some (.slice A len cap)) (fun i _ _ => N - (intOf i).toNat)
  case atStart => exact ⟨0, Nat.zero_le _, rfl, fun k' hk => absurd hk (by omega), hbw, hS1, q0, q1⟩
  case round =>
    clear hbw hS1 q0 q1
    obtain ⟨k, hk, rfl, hno, hb, hS, q0, q1⟩ := hrel
    have hnoH := Lib.hid hno
    have HF := Lib.hid (fresh_any N A len cap es wr (hrH.out.later hb) hN hl hokH.out)
    clear hno
    go_wp2_with fail
    refine HF.out.mono ?_
    rintro _ w2 ⟨p, ga, gl, rfl, hP, hb2⟩
    have hs2 := hb2.size
    have q0 := below_cell hb2 hS q0
    have q1 := below_cell hb2 hS q1
    have hb3 := hb.trans (hb2.mono (by omega))
    have hgl := hP.gl_lt
    have HPt := Lib.hid (paint_any wr.heap.size N (nearW N es) p ga gl k g (by omega) (by omega) N 0 (by omega) w2 (fun _ => -1) hP (htbH.out.below hg hb3) hs2 ⟨fun j hj => absurd hj (by omega), fun _ _ => rfl⟩)
    clear HF hP hb2
    go_wp2_with fail
    refine HPt.out.mono ?_
    rintro _ w3 ⟨hgr, hcase⟩
    have hs3 := hgr.size
    have q0 := hgr.cell q0 (ne' (by simp; omega))
    have q1 := hgr.cell q1 (ne' (by simp; omega))
    have hb4 : Below w.heap.size w w3 := hb3.grown hgr (by omega) (fun k e => by cases e; omega)
    rcases hcase with ⟨L', rfl, hP, hext, _⟩ | ⟨rfl, hP, hnx⟩
    · have c1 := hP.cl; have pl := hP.lt
      have hcol := (col_ext g).1 hext
      have hrow := own_base (b' := w.heap.size) (by omega) hP.ol
      have hb4H := Lib.hid hb4; have hrowH := Lib.hid hrow; have hcolH := Lib.hid hcol
      clear hP hext hgr hb4 hrow hcol
      go_wp2
      go_quiet (fail)
      go_wp2
      go_ret3
      exact ⟨k, gl, L', rfl, own_drewN hrowH.out nq, hcolH.out, ⟨⟨L', hcolH.out⟩, hnoH.out⟩, hk, below_drewN hb4H.out nq⟩
    · have hkN : k < N := Nat.lt_of_not_le fun hle => by
        obtain rfl : k = N := by omega
        exact hnx _ ((col_ext g).2 (col_all g))
      have hno2 := Lib.hid (fun k' (hk' : k' < k + 1) M => show ¬ Col (nearW N es) N k' M from by
        rcases Nat.lt_or_ge k' k with h | h
        · exact hnoH.out k' h M
        · obtain rfl : k' = k := by omega
          exact fun hc => hnx M ((col_ext g).2 hc))
      clear hnx hP hgr
      go_wp2
      go_roundw
      case rel => exact ⟨k + 1, by omega, by go_num, hno2.out, hb4, by omega, q0, q1⟩
      case measure => simp [intOf]; omega
end Go.Proofs.YtnpgnohnpbdblaaDoor
