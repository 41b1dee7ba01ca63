/- chord.Ring. -/
import Derived.Test.YtcbmbofbiodhmaaDoorHoleOnB
import Derived.Test.YtcbmbofbiodhmaaDoorIsRing
import Derived.Test.YtcbmbofbiodhmaaDoorNearGr
import Derived.Test.YtcbmbofbiodhmaaDoorGood
namespace Go.Proofs.YtcbmbofbiodhmaaDoor
open Go.RowKit Go.Shelf
attribute [local go_sem] Oper.semAt_some

theorem ring_of_hole {N : Nat} {es : List E} (hok : ∀ e ∈ es, okE N e) (g : Gr N (nearW N es)) {R : List Nat} (h : Hole (Nb (nearW N es)) R.length (fun k => R.getD k 0)) : RingZ N es (natI R) := by
  obtain ⟨h4, h1, h2⟩ := h
  have hadj : ∀ a b, nb (nearW N es) a b = true → adj es a b = true := fun a b h => by
    have ha := (g.ok a b h).1
    unfold nb at h; rwa [nearW_bit es hok a b ha] at h
  have hlen : (natI R).length = R.length := by simp [natI]
  refine ⟨fun k hk => ?_, by rw [hlen]; omega⟩
  rw [hlen] at hk
  have hnext : nb (nearW N es) (R.getD k 0) (R.getD ((k + 1) % R.length) 0) = true := by
    rcases Nat.lt_or_ge (k + 1) R.length with h' | h'
    · rw [Nat.mod_eq_of_lt h']; exact (h2 k (k + 1) hk h').2 (.inl rfl)
    · rw [show k + 1 = R.length by omega, Nat.mod_self]; exact (h2 k 0 hk (by omega)).2 (by omega)
  refine ⟨R.getD k 0, R.getD ((k + 1) % R.length) 0, natI_at hk, ?_, (g.ok _ _ hnext).1, ?_, hadj _ _ hnext⟩
  · rw [hlen]; exact natI_at (Nat.mod_lt _ (by omega))
  · unfold hasB
    rw [List.any_eq_false]
    intro y hy
    obtain ⟨j, hj, rfl⟩ := List.mem_take_iff_getElem.1 hy
    have hjk : j < k := by omega
    rw [natI_at hk]
    simp only [natI, List.getElem_map, beq_iff_eq]
    intro e
    have hjl : j < R.length := by omega
    have e' : R.getD j 0 = R.getD k 0 := by
      have : R.getD j 0 = R[j] := by simp [List.getD, hjl]
      rw [this]; omega
    have := h1 j k hjl hk e'
    omega
def RgPost (N : Nat) (es : List E) (w : World) (e : Ending) (w' : World) : Prop :=
  Below w.heap.size w w' ∧ ((∃ (A' : Option Addr) (c' : Nat) (L : List Nat), e = .returned (.tuple #[.slice A' L.length c', .int .i64 0]) ∧ Rd w' A' L.length 1 (ints .i64 (natI L)) ∧ L.length ≤ c' ∧ 4 ≤ L.length ∧ L.length ≤ 10 ∧ RingZ N es (natI L) ∧ ∃ m c, Hole (Nb (nearW N es)) m c) ∨ (e = .returned (.tuple #[.slice none 0 0, .int .i64 5]) ∧ noHole (nearW N es) N))
theorem ring_bad (N : Int) (A : Option Addr) (len cap : Nat) (es : List E) (w : World) (hr : Rd w A len 3 (ps3 .i64 .i64 .i64 es)) (hlen : len ≤ 9223372036854775807) (h : gchk N es ≠ 0) :
    Calls Tryd.prog 5 #[.agg #[.int .i64 N, .slice A len cap]] w fun e w' => e = .returned (.tuple #[.slice none 0 0, .int .i64 (gchk N es)]) ∧ Below w.heap.size w w' := by
  have gb := (Below.refl _ w).alloc (Nat.le_refl _) (.cells #[.int .i64 N, .slice A len cap] 24)
  have bG := Blk.new w 24 #[.int .i64 N, .slice A len cap]
  have g0 := bG.cell (j := 0) rfl; have g1 := bG.cell (j := 1) rfl
  have HC := Lib.hid (check_any N A len cap es _ (hr.later gb) hlen)
  have hne : (gchk N es != 0) = true := bne_iff_ne.2 h
  have gbH := Lib.hid gb
  generalize gchk N es = z at *
  clear hr h bG gb
  go_enter Tryd.func5, Tryd.ntmps5
  go_wp2_with fail
  refine HC.out.mono ?_
  rintro _ w1 ⟨rfl, hb⟩
  go_wp2
  go_ret2
  exact ⟨rfl, gbH.out.trans (hb.mono gbH.out.size)⟩
set_option maxHeartbeats 3200000 in
set_option maxRecDepth 100000 in
theorem ring_ok (N : Nat) (A : Option Addr) (len cap : Nat) (es : List E) (w : World) (hr : Rd w A len 3 (ps3 .i64 .i64 .i64 es)) (hlen : len ≤ 9223372036854775807) (htb : Tb w) (h : gchk N es = 0) :
    Calls Tryd.prog 5 #[.agg #[.int .i64 N, .slice A len cap]] w (RgPost N es w) := by
  have gb := (Below.refl _ w).alloc (Nat.le_refl _) (.cells #[.int .i64 N, .slice A len cap] 24)
  have bG := Blk.new w 24 #[.int .i64 N, .slice A len cap]
  have HC := Lib.hid (check_any N A len cap es _ (hr.later gb) hlen)
  have hgr := nearGr h
  rw [h] at HC
  obtain ⟨_, h10, hl45, hokE, _⟩ := gchk_ok h
  rw [Int.toNat_natCast] at hokE
  have h10 : N ≤ 10 := by omega
  have hel := ps3_len hr
  rw [hel] at hl45
  have hsz : (w.alloc (.cells #[.int .i64 N, .slice A len cap] 24)).heap.size = w.heap.size + 1 := by simp
  have htl : 0 < w.heap.size := World.block_lt_of_cell? w _ (htb 0 (by decide))
  have gbH := Lib.hid gb; have bGH := Lib.hid bG; have hrH := Lib.hid hr; have hokH := Lib.hid hokE; have htbH := Lib.hid htb; have hgrH := Lib.hid hgr
  clear hr h gb hokE hel htb hgr
  have g0 := bG.cell (j := 0) rfl; have g1 := bG.cell (j := 1) rfl
  clear bG
  go_enter Tryd.func5, Tryd.ntmps5
  go_wp2_with fail
  refine HC.out.mono ?_
  rintro _ w1 ⟨rfl, hb⟩
  clear HC
  have bG1 := bGH.out.below hb (by omega)
  have hb1 := gbH.out.trans (hb.mono gbH.out.size)
  have hs1 := hb.size
  have HN := Lib.hid (near_any N A len cap es w1 (hrH.out.later hb1) h10 hl45 hokH.out)
  have c0 := bG1.cell (j := 0) rfl; have c1 := bG1.cell (j := 1) rfl
  have bG1H := Lib.hid bG1; have hb1H := Lib.hid hb1
  clear bG1 hb hb1 gbH bGH g0 g1
  go_wp2_with fail
  refine HN.out.mono ?_
  rintro _ w2 ⟨g, rfl, hown, hb2⟩
  clear HN
  have bG2 := bG1H.out.below hb2 bG1H.out.lt
  have hb2' := hb1H.out.trans (hb2.mono hb1H.out.size)
  have hs2 := hb2.size
  have hrd := Rd.of_own hown
  have hgl := hown.lt g rfl
  have hN0 : (0 : Int) ≤ N := by omega
  have hN32 : (N : Int) < 32 := by omega
  have hp10 : 2 ^ N ≤ 2 ^ 10 := Nat.pow_le_pow_right (by omega) h10
  have hpp := Nat.two_pow_pos N
  have hpw : (2 : Int) ^ N % 4294967296 - 1 = ((2 ^ N - 1 : Nat) : Int) := by
    rw [two_pow_u32 N (by omega)]
    omega
  have bG2H := Lib.hid bG2; have hrdH := Lib.hid hrd; have hb2H := Lib.hid hb2'
  clear bG2 hrd hown hb2 hb2' bG1H hb1H c0 c1
  go_wp2
  go_loopw [6] (fun sv wr => ∃ k : Nat, k ≤ 7 ∧ sv = .int .i64 ((k + 4 : Nat) : Int) ∧ (∀ k', k' < k → ∀ i M, i < N → M.length + 1 = k' + 4 → ¬ Ext (nearW N es) (k' + 4) [i] (delB (2 ^ N - 1) i) M) ∧ Below w2.heap.size w2 wr) (fun sv _ => 20 - (intOf sv).toNat)
  case atStart => exact ⟨0, by omega, rfl, fun k' hk' => absurd hk' (by omega), Below.refl _ _⟩
  case round =>
    obtain ⟨k, hk, rfl, hno, hb⟩ := hrel
    obtain ⟨wk, rfl⟩ : ∃ wk : World, wk = wr := ⟨_, rfl⟩
    have bGk := bG2H.out.below hb bG2H.out.lt
    have g0 := bGk.cell (j := 0) (v := .int .i64 (N : Int)) rfl
    obtain ⟨sz, hsz⟩ : ∃ sz, k + 4 = sz := ⟨_, rfl⟩
    have hszH := Lib.hid hsz
    rw [hsz]
    have hsz23 : sz ≤ 13 := by omega
    have hsz3 : 4 ≤ sz := by omega
    clear hsz
    by_cases hsN : sz ≤ N
    · have hsN' : (sz : Int) ≤ N := by omega
      have hnoH := Lib.hid hno; have hbH := Lib.hid hb
      have hszk := hb.size
      clear hno hb bGk
      go_wp2
      go_loopw [24] (fun iv wr => ∃ i : Nat, i ≤ N ∧ iv = .int .i64 i ∧ (∀ i', i' < i → ∀ M, M.length = sz - 1 → ¬ Ext (nearW N es) sz [i'] (delB (2 ^ N - 1) i') M) ∧ Below w2.heap.size w2 wr) (fun iv _ => N - (intOf iv).toNat)
      case atStart => exact ⟨0, by omega, rfl, fun i' hi' => absurd hi' (by omega), hbH.out⟩
      case round =>
        clear hbH
        obtain ⟨i, hi, rfl, hno, hb⟩ := hrel
        obtain ⟨wi, rfl⟩ : ∃ wi : World, wi = wr := ⟨_, rfl⟩
        have hszi := hb.size
        by_cases hiN : i < N
        · have hiN' : (i : Int) < N := by omega
          have hi0 : (0 : Int) ≤ i := by omega
          have hi32 : (i : Int) < 32 := by omega
          have hrow : (wi.alloc (.cells #[.int .i64 (i : Int)] 3)).ownsRow wi.heap.size 3 1 (.slice (some ⟨wi.heap.size, 0, none⟩) 1 1) 1 [.int .i64 (i : Int)] := World.ownsRow_lit wi #[.int .i64 (i : Int)] 1 (Nat.le_refl _) (by unfold maxLen; omega) rfl
          have hrow2 := hrow.alloc (.cells #[.slice (some ⟨g, 0, none⟩) N N, .slice (some ⟨wi.heap.size, 0, none⟩) 1 1, .int .i64 (sz : Int)] 46)
          have bk := Blk.new (wi.alloc (.cells #[.int .i64 (i : Int)] 3)) 46 #[.slice (some ⟨g, 0, none⟩) N N, .slice (some ⟨wi.heap.size, 0, none⟩) 1 1, .int .i64 (sz : Int)]
          rw [World.size_alloc] at bk
          have hbA := (hb.alloc hb.size (.cells #[.int .i64 (i : Int)] 3)).alloc (by simp; omega) (.cells #[.slice (some ⟨g, 0, none⟩) N N, .slice (some ⟨wi.heap.size, 0, none⟩) 1 1, .int .i64 (sz : Int)] 46)
          have hrdA := hrdH.out.below (Nat.le_refl _) hbA
          have hSS : SS (nearW N es) N (wi.heap.size + 1) sz N wi.heap.size (some ⟨g, 0, none⟩) ((wi.alloc (.cells #[.int .i64 (i : Int)] 3)).alloc (.cells #[.slice (some ⟨g, 0, none⟩) N N, .slice (some ⟨wi.heap.size, 0, none⟩) 1 1, .int .i64 (sz : Int)] 46)) (.slice (some ⟨wi.heap.size, 0, none⟩) 1 1) [i] :=
            ⟨bk, hrdA, hrow2, fun b o e => by cases e; omega, fun e => by have e' : wi.heap.size = wi.heap.size + 1 := Option.some.inj e; omega⟩
          have hszA : ((wi.alloc (.cells #[.int .i64 (i : Int)] 3)).alloc (.cells #[.slice (some ⟨g, 0, none⟩) N N, .slice (some ⟨wi.heap.size, 0, none⟩) 1 1, .int .i64 (sz : Int)] 46)).heap.size = wi.heap.size + 2 := by simp
          have bGA := bG2H.out.below hbA bG2H.out.lt
          have htA := htbH.out.below htl (hb2H.out.trans (hbA.mono hb2H.out.size))
          have hbit : delB (2 ^ N - 1) i ≤ 2 ^ N - 1 := delB_le _ _
          have hpi : 2 ^ i < 2 ^ 32 := Nat.pow_lt_pow_right (by omega) (by omega)
          have hdw : bits .andNot .u32 ((2 ^ N - 1 : Nat) : Int) ((2 ^ i : Nat) : Int) = ((delB (2 ^ N - 1) i : Nat) : Int) := u32_andNot_nat (2 ^ N - 1) (2 ^ i) (by omega) (by omega)
          have hpwi : (2 : Int) ^ i % 4294967296 = ((2 ^ i : Nat) : Int) := two_pow_u32 i (by omega)
          obtain ⟨xi, hxi⟩ : ∃ xi, delB (2 ^ N - 1) i = xi := ⟨_, rfl⟩
          rw [hxi] at hdw
          have hxiH := Lib.hid hxi
          have hdwF := Lib.hid (show bits .andNot .u32 (((2 : Int) ^ N % 4294967296 - 1) % 4294967296) ((2 : Int) ^ i % 4294967296) = (xi : Int) by
            rw [hpw, hpwi, Int.emod_eq_of_lt (by omega) (by omega)]; exact hdw)
          clear hdw hpwi
          have htAH := Lib.hid htA
          have gA := bGA.cell (j := 0) (v := .int .i64 (N : Int)) rfl
          have hnoH2 := Lib.hid hno; have hbAH := Lib.hid hbA; have hSSH := Lib.hid hSS; have bGAH := Lib.hid bGA
          clear hno hb hrow hrow2 bk hbA hrdA hSS bGA htA hxi g0
          go_upto_region 12 with fail
          generalize (wi.alloc (.cells #[.int .i64 (i : Int)] 3)).alloc (.cells #[.slice (some ⟨g, 0, none⟩) N N, .slice (some ⟨wi.heap.size, 0, none⟩) 1 1, .int .i64 (sz : Int)] 46) = wS at *
          have HO := on_any (nearW N es) N (wi.heap.size + 1) sz N wi.heap.size (some ⟨g, 0, none⟩) hgrH.out (by omega) (by omega) (by omega) (sz - 1) i (delB (2 ^ N - 1) i) [i] 0 (.slice (some ⟨wi.heap.size, 0, none⟩) 1 1) wS.drew rfl rfl (by omega) (fun q hq => by rw [List.mem_singleton] at hq; omega) (by omega) hSSH.out.drew htAH.out
          rw [hxiH.out] at HO
          have HOH := Lib.hid HO
          have gD : wS.drew.cell? ⟨w.heap.size, 0, none⟩ = some (.int .i64 (N : Int)) := gA
          have hsD : wS.drew.heap.size = wi.heap.size + 2 := hszA
          clear HO gA
          go_still_tail 8, (by kernel_rfl)
          change wpList _ _ _ _ _ wS.drew
          have hbD := Lib.hid hbAH.out.drew
          generalize wS.drew = wd at *
          clear gD
          go_wp2_with fail
          rw [hdwF.out]
          refine HOH.out.mono ?_
          rintro e w5 ⟨hG, v', _, hcase⟩
          clear HOH
          have hbG : Below wi.heap.size wd w5 := hG.below (by omega) (by omega) (fun r e => by have e' : wi.heap.size = r := Option.some.inj e; omega)
          have hb5 := hbD.out.trans (hbG.mono hszi)
          have hs5 := hG.size
          rcases hcase with ⟨rfl, M, hM, hE, hS5⟩ | ⟨rfl, hnoM, hS5⟩
          · obtain ⟨Al, cl, hv⟩ := own_slice hS5.ow
            subst hv
            have hcl : ([i] ++ M).length ≤ cl := by
              rcases hS5.ow.2 with ⟨e, h⟩ | ⟨_, c', _, e, _, _, h, _⟩
              · injection e with _ _ e; omega
              · injection e with _ _ e; omega
            have hhole := ext_hole hgrH.out hiN (by omega) (show M.length + 1 = sz by omega) (by rw [hxiH.out]; exact hE)
            have hrz := ring_of_hole (R := [i] ++ M) hokH.out hgrH.out (by rw [show ([i] ++ M).length = sz by simp [hM]; omega]; exact hhole)
            have hlen : ([i] ++ M).length = sz := by simp [hM]; omega
            have hnn := Lib.hid (show ∃ m c, Hole (Nb (nearW N es)) m c from ⟨_, _, hhole⟩)
            have hrd5 := Rd.of_own hS5.ow
            have k1 := hS5.bk.cell (j := 1) (v := .slice Al ([i] ++ M).length cl) rfl
            have kl := hS5.bk.lt
            have hrzH := Lib.hid hrz; have hrd5H := Lib.hid hrd5; have hb5H := Lib.hid hb5
            have hlenH := Lib.hid hlen
            clear hS5 hE hG hbG hb5 hrz hrd5 hM hlen hhole
            go_wp2
            go_ret2
            refine ⟨hb2H.out.trans (hb5H.out.mono hb2H.out.size), .inl ⟨Al, cl, [i] ++ M, rfl, hrd5H.out, hcl, ?_, ?_, hrzH.out, hnn.out⟩⟩
            · rw [hlenH.out]; omega
            · rw [hlenH.out]; omega
          · have hno2 := Lib.hid (show ∀ i', i' < i + 1 → ∀ M, M.length = sz - 1 → ¬ Ext (nearW N es) sz [i'] (delB (2 ^ N - 1) i') M from fun i' hi' M hM => by
              by_cases e : i' = i
              · subst e; rw [hxiH.out]; exact hnoM M hM
              · exact hnoH2.out i' (by omega) M hM)
            have hb5H := Lib.hid hb5
            clear hS5 hG hbG hb5 hnoM
            go_wp2
            go_roundw
            case rel => exact ⟨i + 1, by omega, by go_num, hno2.out, hb5H.out⟩
            case measure => simp [intOf]; omega
        · obtain rfl : i = N := by omega
          have hno2 := Lib.hid (show ∀ k', k' < k + 1 → ∀ i' M, i' < i → M.length + 1 = k' + 4 → ¬ Ext (nearW i es) (k' + 4) [i'] (delB (2 ^ i - 1) i') M from fun k' hk' i' M hi' hM => by
            by_cases e : k' = k
            · subst e; rw [hszH.out]; exact hno i' hi' M (by rw [← hszH.out]; omega)
            · exact hnoH.out k' (by omega) i' M hi' hM)
          have hbH := Lib.hid hb
          clear hb hno
          go_wp2
          go_roundw
          case rel => exact ⟨k + 1, by have := hszH.out; omega, by have := hszH.out; go_num, fun q1 q2 q3 q4 q5 q6 => hno2.out q1 q2 q3 q4 q5 (by omega), hbH.out⟩
          case measure => simp [intOf]; omega
    · have hno2 := Lib.hid (show noHole (nearW N es) N from fun size i M h4 hle hi hM => by
        have hs4 : size = (size - 4) + 4 := by omega
        rw [hs4]
        exact hno (size - 4) (by have := hszH.out; omega) i M hi (by omega))
      have hbH := Lib.hid hb
      clear hb hno bGk
      go_wp2
      go_ret2
      exact ⟨hb2H.out.trans (hbH.out.mono hb2H.out.size), .inr ⟨rfl, hno2.out⟩⟩
end Go.Proofs.YtcbmbofbiodhmaaDoor
