/- FeeRises: the law, and the walk. -/
import Derived.Test.YtgengjneccpaiaaFeeLeast
import Derived.Test.YtgengjneccpaiaaFeeFlows
namespace Go.Proofs.Ytgengjneccpaiaa
open Go.RowKit Go.Shelf

theorem LeastPost.v {N m : Nat} {l : List Arc} {s t : Nat} {value : Int} {w w' : World} {e : Ending} (h : LeastPost N m l s t value w e w') :
    Below w.heap.size w w' ∧ ∃ (c : Int) (sl : Value) (er : Int), e = .returned (.tuple #[.int .i64 c, sl, .int .i64 er]) ∧ ((er = 5 ∧ sl = .slice none 0 0 ∧ c = 0 ∧ ∀ g u, FL N l s t g u → u < value) ∨ (er = 0 ∧ ∃ (f : Nat → Int) (gl cp : Nat), c = costF l f ∧ sl = .slice (some ⟨gl, 0, none⟩) m cp ∧ w'.ownsRow w.heap.size 2 1 (.slice (some ⟨gl, 0, none⟩) m cp) m (row m f) ∧ Chp N l s t f value)) := by
  obtain ⟨hb, ⟨rfl, h⟩ | ⟨f, gl, c, rfl, h1, h2⟩⟩ := h
  · exact ⟨hb, 0, _, 5, rfl, .inl ⟨rfl, rfl, rfl, h⟩⟩
  · exact ⟨hb, _, _, 0, rfl, .inr ⟨rfl, f, gl, c, rfl, rfl, h1, h2⟩⟩
theorem FL.congrF {N : Nat} {l : List Arc} {s t : Nat} {f g : Nat → Int} {v : Int} (h : FL N l s t f v) (hg : ∀ k, k < l.length → g k = f k) : FL N l s t g v := by
  have he : ∀ u, ex l g u = ex l f u := fun u => by
    unfold ex
    exact sm_congr fun k hk => by rw [hg k hk]
  exact ⟨fun k hk => by rw [hg k hk]; exact h.ok k hk, fun u hu a b => by rw [he]; exact h.kp u hu a b, by rw [he]; exact h.vl⟩
def rowLF (m : Nat) (f : Nat → Int) : List Int := (List.range m).map f
theorem rowLF_ints (m : Nat) (f : Nat → Int) : row m f = ints .i64 (rowLF m f) := by simp [row, ints, rowLF]
theorem rowLF_get {m : Nat} {f : Nat → Int} {k : Nat} (h : k < m) : (rowLF m f).getD k 0 = f k := by simp [rowLF, List.getD, h]
/-- each one more costs no less than the one ahead -/
theorem rises {N : Nat} {l : List Arc} {s t : Nat} {f g h : Nat → Int} {v : Int} (hn : NOk N l) (hs : s < N) (ht : t < N) (hst : s ≠ t) (hf : Chp N l s t f v) (hg : Chp N l s t g (v + 1)) (hh : Chp N l s t h (v + 2)) :
    costF l f ≤ costF l g ∧ costF l g - costF l f ≤ costF l h - costF l g := by
  obtain ⟨q, hq, _⟩ := hg.pt
  obtain ⟨q2, hq2, h0⟩ := hf.pt
  have h1 := hq.least hn hs ht hst hg.fl hf.fl
  have h2 := hq.least hn hs ht hst hg.fl hh.fl
  have h3 := hq2.least hn hs ht hst hf.fl hg.fl
  rw [show v - (v + 1) = -1 by omega, Int.neg_mul, Int.one_mul] at h1
  rw [show v + 2 - (v + 1) = 1 by omega, Int.one_mul] at h2
  rw [show v + 1 - v = 1 by omega, Int.one_mul] at h3
  omega
theorem rises_n {N : Nat} {l : List Arc} {s t : Nat} {g : Nat → Int} {v : Int} (hg : Chp N l s t g (v + 1)) (h : ∀ g u, FL N l s t g u → u < v) : False := by
  have := h g _ hg.fl; omega
section
variable (n : Int) (A : Option Addr) (len cap : Nat) (l : List Arc) (s t value : Int) (w : World)
set_option maxHeartbeats 3200000 in
theorem feeRises_early (hr : Rd w A len 4 (arcs l)) (hlen : len ≤ 9223372036854775807) (hv : -9223372036854775808 ≤ value ∧ value ≤ 9223372036854775807) (h : value < 0 ∨ 1048576 < value ∨ echk n l s t ≠ 0) :
    Calls Try.prog 3 #[.agg #[.int .i64 n, .slice A len cap], .int .i64 s, .int .i64 t, .int .i64 value] w fun e w' => e = .returned (.bool true) ∧ Below w.heap.size w w' := by
  have hb0 := (Below.refl _ w).alloc (Nat.le_refl _) (.cells #[.int .i64 n, .slice A len cap] 24)
  have hr0 := hr.later hb0
  have hK := Blk.new w 24 #[.int .i64 n, .slice A len cap]
  have k0 := hK.cell (j := 0) rfl
  have k1 := hK.cell (j := 1) rfl
  have HL : Calls Try.prog 5 #[.agg #[.int .i64 n, .slice A len cap], .int .i64 s, .int .i64 t, .int .i64 value] (w.alloc (.cells #[.int .i64 n, .slice A len cap] 24)) fun e w' => Below (w.alloc (.cells #[.int .i64 n, .slice A len cap] 24)).heap.size (w.alloc (.cells #[.int .i64 n, .slice A len cap] 24)) w' ∧ ∃ (c : Int) (sl : Value) (er : Int), e = .returned (.tuple #[.int .i64 c, sl, .int .i64 er]) ∧ (value < 0 ∨ echk n l s t ≠ 0 → er ≠ 0) := by
    by_cases hf : fwr n l s t value = 0
    · obtain ⟨h1, h2, h3⟩ := fwr_ok hf
      obtain ⟨h4, h5, h6, h7, h8, h9⟩ := echk_ok h1
      obtain ⟨g1, g2, g3, g4⟩ := nchk_ok h4
      obtain ⟨N, rfl⟩ := Int.eq_ofNat_of_zero_le g1
      obtain ⟨sN, rfl⟩ := Int.eq_ofNat_of_zero_le h5
      obtain ⟨tN, rfl⟩ := Int.eq_ofNat_of_zero_le h7
      refine (least_ok N A len cap l sN tN value _ hr0 hf hv.2).mono ?_
      intro e w' hp
      obtain ⟨hb, c, sl, er, he, _⟩ := hp.v
      exact ⟨hb, c, sl, er, he, fun h => by omega⟩
    · refine (least_bad n A len cap l s t value _ hr0 hlen hf).mono ?_
      rintro e w' ⟨rfl, hb⟩
      exact ⟨hb, _, _, _, rfl, fun _ => hf⟩
  have HLH := Lib.hid HL; have hrH := Lib.hid hr; have hb0H := Lib.hid hb0; have hKH := Lib.hid hK
  clear HL hr hr0 hb0 hK
  go_enter Try.func3, Try.ntmps3
  go_wp2_with fail
  refine HLH.out.mono ?_
  rintro e w1 ⟨hb1, c, sl, er, rfl, her⟩
  have hbb := Lib.hid (hb0H.out.trans (hb1.mono hb0H.out.size))
  have hK1 := hKH.out.below hb1 hKH.out.lt
  have k0 := hK1.cell (j := 0) rfl
  have k1 := hK1.cell (j := 1) rfl
  have herH := Lib.hid her
  have HE := Lib.hid (endsCheck_any n A len cap l s t w1 (hrH.out.later hbb.out) hlen)
  clear hb1 hK1 HLH hKH her
  by_cases h1 : value < 0
  · have e1 : decide (value < 0) = true := decide_eq_true h1
    have e2 : (er != 0) = true := by simpa using herH.out (.inl h1)
    go_wp2
    go_ret
    exact ⟨rfl, hbb.out⟩
  · have e1 : decide (value < 0) = false := decide_eq_false h1
    by_cases h2 : 1048576 < value
    · have e2 : decide (1048576 < value) = true := decide_eq_true h2
      cases e3 : (er != 0)
      · go_wp2
        go_ret
        exact ⟨rfl, hbb.out⟩
      · go_wp2
        go_ret
        exact ⟨rfl, hbb.out⟩
    · have e2 : decide (1048576 < value) = false := decide_eq_false h2
      have h3 : echk n l s t ≠ 0 := by omega
      have e3 : (er != 0) = true := by simpa using herH.out (.inr h3)
      have e4 : (echk n l s t != 0) = true := by simpa using h3
      clear h h3
      generalize echk n l s t = q at *
      go_wp2_with fail
      refine HE.out.mono ?_
      rintro _ w2 ⟨rfl, hb2⟩
      have hbF := hbb.out.trans (hb2.mono hbb.out.size)
      go_wp2
      go_ret
      exact ⟨rfl, hbF⟩
set_option maxHeartbeats 3200000 in
theorem feeRises_neg (hr : Rd w A len 4 (arcs l)) (hlen : len ≤ 9223372036854775807) (hv : 0 ≤ value) (hv2 : value ≤ 1048576) (he : echk n l s t = 0) (hneg : l.any negA = true) :
    Calls Try.prog 3 #[.agg #[.int .i64 n, .slice A len cap], .int .i64 s, .int .i64 t, .int .i64 value] w fun e w' => e = .returned (.bool true) ∧ Below w.heap.size w w' := by
  have hb0 := (Below.refl _ w).alloc (Nat.le_refl _) (.cells #[.int .i64 n, .slice A len cap] 24)
  have hK := Blk.new w 24 #[.int .i64 n, .slice A len cap]
  have k0 := hK.cell (j := 0) rfl
  have k1 := hK.cell (j := 1) rfl
  have hw : ∀ v, fwr n l s t v = 4 := fun v => by unfold fwr; rw [if_neg (by omega), if_pos (.inr hneg)]
  have HL := Lib.hid (fun (v : Int) W (hW : Rd W A len 4 (arcs l)) => least_bad n A len cap l s t v W hW hlen (by rw [hw]; omega))
  simp only [hw] at HL
  have hrH := Lib.hid hr; have hb0H := Lib.hid hb0; have hKH := Lib.hid hK; have heH := Lib.hid he
  have e1 : decide (value < 0) = false := decide_eq_false (by omega)
  have e2 : decide (1048576 < value) = false := decide_eq_false (by omega)
  have hw1 : IntKind.i64.wrap (value + 1) = value + 1 := IntWalk.i64_in _ (by omega)
  have hw2 : IntKind.i64.wrap (value + 2) = value + 2 := IntWalk.i64_in _ (by omega)
  clear hr hb0 hK hw hneg he
  go_enter Try.func3, Try.ntmps3
  go_wp2_with fail
  refine (HL.out _ _ (hrH.out.later hb0H.out)).mono ?_
  rintro e w1 ⟨rfl, hb1⟩
  have hbb := Lib.hid (hb0H.out.trans (hb1.mono hb0H.out.size))
  have hK1 := Lib.hid (hKH.out.below hb1 hKH.out.lt)
  have k0 := hK1.out.cell (j := 0) rfl
  have k1 := hK1.out.cell (j := 1) rfl
  have HE := Lib.hid (endsCheck_any n A len cap l s t w1 (hrH.out.later hbb.out) hlen)
  rw [heH.out] at HE
  clear hb1
  go_wp2_with fail
  refine HE.out.mono ?_
  rintro _ w2 ⟨rfl, hb2⟩
  have hbb2 := Lib.hid (hbb.out.trans (hb2.mono hbb.out.size))
  have hK2 := Lib.hid (hK1.out.below hb2 hK1.out.lt)
  have k0 := hK2.out.cell (j := 0) rfl
  have k1 := hK2.out.cell (j := 1) rfl
  clear hb2
  go_wp2_with fail
  refine (HL.out _ _ (hrH.out.later hbb2.out)).mono ?_
  rintro e w3 ⟨rfl, hb3⟩
  have hbb3 := Lib.hid (hbb2.out.trans (hb3.mono hbb2.out.size))
  have hK3 := Lib.hid (hK2.out.below hb3 hK2.out.lt)
  have k0 := hK3.out.cell (j := 0) rfl
  have k1 := hK3.out.cell (j := 1) rfl
  clear hb3
  go_wp2_with fail
  refine (HL.out _ _ (hrH.out.later hbb3.out)).mono ?_
  rintro e w4 ⟨rfl, hb4⟩
  have hbF := hbb3.out.trans (hb4.mono hbb3.out.size)
  go_wp2
  go_ret
  exact ⟨rfl, hbF⟩
end
set_option maxHeartbeats 3200000 in
theorem feeRises_ok (N : Nat) (A : Option Addr) (len cap : Nat) (l : List Arc) (s t : Nat) (value : Int) (w : World) (hr : Rd w A len 4 (arcs l)) (hlen : len ≤ 9223372036854775807) (hv : 0 ≤ value) (hv2 : value ≤ 1048576) (he : echk N l s t = 0) (hneg : l.any negA = false) :
    Calls Try.prog 3 #[.agg #[.int .i64 N, .slice A len cap], .int .i64 s, .int .i64 t, .int .i64 value] w fun e w' => e = .returned (.bool true) ∧ Below w.heap.size w w' := by
  have hel := arcs_len hr
  have hb0 := (Below.refl _ w).alloc (Nat.le_refl _) (.cells #[.int .i64 N, .slice A len cap] 24)
  have hK := Blk.new w 24 #[.int .i64 N, .slice A len cap]
  have k0 := hK.cell (j := 0) rfl
  have k1 := hK.cell (j := 1) rfl
  have hw : ∀ v, 0 ≤ v → fwr N l s t v = 0 := fun v h => by unfold fwr; rw [if_neg (by omega), if_neg (by rw [hneg]; rintro (h | h); omega; cases h)]
  have HL := Lib.hid (fun (v : Int) W (hW : Rd W A len 4 (arcs l)) h0 h1 => least_ok N A len cap l s t v W hW (hw v h0) h1)
  obtain ⟨h4, h5, h6, h7, h8, h9⟩ := echk_ok he
  obtain ⟨g1, g2, g3, g4⟩ := nchk_ok h4
  have hn := Lib.hid (⟨g4⟩ : NOk N l)
  have hrH := Lib.hid hr; have hb0H := Lib.hid hb0; have hKH := Lib.hid hK; have heH := Lib.hid he; have helH := Lib.hid hel
  have e1 : decide (value < 0) = false := decide_eq_false (by omega)
  have e2 : decide (1048576 < value) = false := decide_eq_false (by omega)
  have hw1 : IntKind.i64.wrap (value + 1) = value + 1 := IntWalk.i64_in _ (by omega)
  have hw2 : IntKind.i64.wrap (value + 2) = value + 2 := IntWalk.i64_in _ (by omega)
  clear hr hb0 hK hw hneg he hel h4 h5 h7 g1 g4
  go_enter Try.func3, Try.ntmps3
  go_wp2_with fail
  refine (HL.out _ _ (hrH.out.later hb0H.out) hv (by omega)).mono ?_
  rintro e w1 hp
  obtain ⟨hb1, ca, sa, ea, rfl, ha⟩ := hp.v
  have haH := Lib.hid ha
  have hbb := Lib.hid (hb0H.out.trans (hb1.mono hb0H.out.size))
  have hK1 := Lib.hid (hKH.out.below hb1 hKH.out.lt)
  have k0 := hK1.out.cell (j := 0) rfl
  have k1 := hK1.out.cell (j := 1) rfl
  have HE := Lib.hid (endsCheck_any N A len cap l s t w1 (hrH.out.later hbb.out) hlen)
  rw [heH.out] at HE
  clear hb1 hp ha
  go_wp2_with fail
  refine HE.out.mono ?_
  rintro _ w2 ⟨rfl, hb2⟩
  have hbb2 := Lib.hid (hbb.out.trans (hb2.mono hbb.out.size))
  have hK2 := Lib.hid (hK1.out.below hb2 hK1.out.lt)
  have k0 := hK2.out.cell (j := 0) rfl
  have k1 := hK2.out.cell (j := 1) rfl
  clear hb2
  go_wp2_with fail
  refine (HL.out _ _ (hrH.out.later hbb2.out) (by omega) (by omega)).mono ?_
  rintro e w3 hp
  obtain ⟨hb3, cb, sb, eb, rfl, hbv⟩ := hp.v
  have hbvH := Lib.hid hbv
  have hbb3 := Lib.hid (hbb2.out.trans (hb3.mono hbb2.out.size))
  have hK3 := Lib.hid (hK2.out.below hb3 hK2.out.lt)
  have k0 := hK3.out.cell (j := 0) rfl
  have k1 := hK3.out.cell (j := 1) rfl
  clear hb3 hp hbv
  go_wp2_with fail
  refine (HL.out _ _ (hrH.out.later hbb3.out) (by omega) (by omega)).mono ?_
  rintro e w4 hp
  obtain ⟨hb4, cc, sc, ec, rfl, hcv⟩ := hp.v
  have hbF := Lib.hid (hbb3.out.trans (hb4.mono hbb3.out.size))
  have hK4 := Lib.hid (hK3.out.below hb4 hK3.out.lt)
  have k0 := hK4.out.cell (j := 0) rfl
  have k1 := hK4.out.cell (j := 1) rfl
  have hb4H := Lib.hid hb4; have hcvH := Lib.hid hcv
  clear hb4 hp hcv
  rcases hbvH.out with ⟨rfl, _⟩ | ⟨rfl, fb, glb, cpb, rfl, rfl, hownb, hCb⟩
  · clear hbvH haH hcvH
    go_wp2
    go_ret
    exact ⟨rfl, hbF.out⟩
  · have hea : ea = 0 := by
      rcases haH.out with ⟨_, _, _, hno⟩ | ⟨h, _⟩
      · exact (rises_n hCb hno).elim
      · exact h
    subst hea
    have hCbH := Lib.hid hCb; have hownbH := Lib.hid hownb
    clear hCb hownb hbvH
    rcases hcvH.out with ⟨rfl, _⟩ | ⟨rfl, fc, glc, cpc, rfl, rfl, _, hCc⟩
    · clear hcvH haH
      go_wp2
      go_ret
      exact ⟨rfl, hbF.out⟩
    · rcases haH.out with ⟨h, _⟩ | ⟨_, fa, gla, cpa, rfl, rfl, _, hCa⟩
      · cases h
      · have hrs := rises hn.out (by omega) (by omega) (by omega) hCa hCbH.out hCc
        have ba := costF_bd hn.out hCa.fl.ok
        have bb := costF_bd hn.out hCbH.out.fl.ok
        have bc := costF_bd hn.out hCc.fl.ok
        have hfl : FL N l s t (fun k => (rowLF len fb).getD k 0) (value + 1) := hCbH.out.fl.congrF fun k hk => rowLF_get (by rw [← helH.out]; exact hk)
        have hrf := (Rd.of_own hownbH.out).later hb4H.out
        rw [rowLF_ints] at hrf
        have HF := Lib.hid (flows_any N A (some ⟨glb, 0, none⟩) len cap len cpb l (rowLF len fb) s t w4 (hrH.out.later hbF.out) hrf hn.out (by omega) (by rw [← helH.out]; omega) hlen (by omega) (by omega))
        have hflH := Lib.hid hfl
        clear hCc hCa hfl hrf hcvH haH
        generalize costF l fa = xa at *
        generalize costF l fb = xb at *
        generalize costF l fc = xc at *
        have hw3 : IntKind.i64.wrap (xc - xb) = xc - xb := IntWalk.i64_in _ (by omega)
        have hw4 : IntKind.i64.wrap (xb - xa) = xb - xa := IntWalk.i64_in _ (by omega)
        have d1 : decide (xb - xa ≤ xc - xb) = true := decide_eq_true hrs.2
        have d2 : decide (xa ≤ xb) = true := decide_eq_true hrs.1
        clear ba bb bc
        go_wp2_with fail
        refine HF.out.mono ?_
        rintro _ w5 ⟨hb5, v5, ok5, rfl, hy5, hn5⟩
        obtain rfl : ok5 = true := by
          cases ok5
          · exact absurd ⟨rfl, _, hflH.out⟩ (hn5 rfl)
          · rfl
        have hv5 : v5 = value + 1 := by
          have h1 := (hy5 rfl).2.vl
          rw [hflH.out.vl] at h1; exact h1.symm
        have hv5b : (v5 == value + 1) = true := by simpa using hv5
        have hbG := hbF.out.trans (hb5.mono hbF.out.size)
        clear hy5 hn5 hv5
        go_wp2
        go_ret
        exact ⟨rfl, hbG⟩
theorem feeRises_any (n : Int) (A : Option Addr) (len cap : Nat) (l : List Arc) (s t value : Int) (w : World) (hr : Rd w A len 4 (arcs l)) (hlen : len ≤ 9223372036854775807) (hv : -9223372036854775808 ≤ value ∧ value ≤ 9223372036854775807) :
    Calls Try.prog 3 #[.agg #[.int .i64 n, .slice A len cap], .int .i64 s, .int .i64 t, .int .i64 value] w fun e w' => e = .returned (.bool true) ∧ Below w.heap.size w w' := by
  by_cases h : value < 0 ∨ 1048576 < value ∨ echk n l s t ≠ 0
  · exact feeRises_early n A len cap l s t value w hr hlen hv h
  · have he : echk n l s t = 0 := by omega
    cases hng : l.any negA
    · obtain ⟨h4, h5, h6, h7, h8, h9⟩ := echk_ok he
      obtain ⟨g1, g2, g3, g4⟩ := nchk_ok h4
      obtain ⟨N, rfl⟩ := Int.eq_ofNat_of_zero_le g1
      obtain ⟨sN, rfl⟩ := Int.eq_ofNat_of_zero_le h5
      obtain ⟨tN, rfl⟩ := Int.eq_ofNat_of_zero_le h7
      exact feeRises_ok N A len cap l sN tN value w hr hlen (by omega) (by omega) he hng
    · exact feeRises_neg n A len cap l s t value w hr hlen (by omega) (by omega) he hng
end Go.Proofs.Ytgengjneccpaiaa
