/- Crews: as many as can be have a place when all is placed anew. No program in sight. -/
import Derived.Test.YticffbcbfgboeaaMaxCut
import Derived.Test.YticffbcbfgboeaaCrewD
namespace Go.Proofs.Yticffbcbfgboeaa
open Go.RowKit Go.Shelf

theorem PD.maxpl (d : PD) (hr : ∀ j, j < d.nw → 0 ≤ d.room j ∧ d.room j ≤ 1048576) : ∃ K, MaxPl d K := by
  obtain ⟨f, v, S, hf, h1, h2, h3⟩ := maxcut (s := d.nw + d.nt) (t := d.nw + d.nt + 1) (d.ok hr) (by omega) (by omega)
  exact ⟨v, fill_place hr hf h1 h2 h3⟩
theorem least {p : Nat → Prop} : ∀ {n : Nat}, (∃ j, j < n ∧ p j) → ∃ j, j < n ∧ p j ∧ ∀ i, i < j → ¬ p i
  | 0, ⟨j, hj, _⟩ => by omega
  | n + 1, ⟨j, hj, hp⟩ => by
    by_cases h : ∃ j, j < n ∧ p j
    · obtain ⟨i, hi, hpi, hl⟩ := least h
      exact ⟨i, by omega, hpi, hl⟩
    · refine ⟨j, hj, hp, fun i hi hpi => h ⟨i, by omega, hpi⟩⟩
theorem Gr.exists {d : PD} (hr : ∀ j, j < d.nw → 0 ≤ d.room j ∧ d.room j ≤ 1048576) : ∀ i, i ≤ d.nt → ∃ room t l, Gr d i room t l
  | 0, _ => by
    obtain ⟨K, hK⟩ := d.maxpl hr
    exact ⟨_, K, [], .start hK⟩
  | i + 1, hi => by
    obtain ⟨room, t, l, h⟩ := Gr.exists hr i (by omega)
    obtain ⟨K, hK⟩ := d.maxpl hr
    have hp := h.pgi hK (fun j hj => (hr j hj).1) (by omega)
    have hb : ∀ j, j < d.nw → room j ≠ 0 → ∃ b, MaxPl (d.from (i + 1) (subR room j)) b := fun j hj h0 => by
      refine PD.maxpl _ fun q hq => ?_
      have h1 := hp.room_bd (j := q) hq
      have h2 := hr q hq
      show 0 ≤ subR room j q ∧ subR room j q ≤ 1048576
      unfold subR
      by_cases e : q = j
      · subst e; rw [if_pos rfl]; omega
      · rw [if_neg e]; omega
    by_cases hs : ∃ j, j < d.nw ∧ (d.may i j = true ∧ room j ≠ 0 ∧ ∃ b, MaxPl (d.from (i + 1) (subR room j)) b ∧ 1 + b = t)
    · obtain ⟨j, hj, ⟨h1, h2, b, h3, h4⟩, hl⟩ := least hs
      refine ⟨_, b, _, .take h (fun j' hj' hm hr0 => ?_) hj h1 h2 h3 h4⟩
      obtain ⟨b', hb'⟩ := hb j' (by omega) hr0
      exact ⟨b', hb', fun e => hl j' hj' ⟨hm, hr0, b', hb', e⟩⟩
    · refine ⟨room, t, _, .left h fun j hj hm hr0 => ?_⟩
      obtain ⟨b', hb'⟩ := hb j hj hr0
      exact ⟨b', hb', fun e => hs ⟨j, hj, hm, hr0, b', hb', e⟩⟩
theorem Gr.mostK {d : PD} {room : Nat → Int} {t : Int} {l : List Int} (hr : ∀ j, j < d.nw → 0 ≤ d.room j ∧ d.room j ≤ 1048576) (h : Gr d d.nt room t l) : MaxPl d (cntL l d.nt) ∧ l.length = d.nt := by
  obtain ⟨K, hK⟩ := d.maxpl hr
  have hp := h.pgi hK (fun j hj => (hr j hj).1) (Nat.le_refl _)
  rw [hp.done.2]
  exact ⟨hK, hp.ll⟩
/-- how many have a place -/
def nnL (l : List Int) : Nat := (l.filter fun j => !decide (j < 0)).length
theorem nnL_app (a b : List Int) : nnL (a ++ b) = nnL a + nnL b := by simp [nnL]
theorem cntL_nn : ∀ (l : List Int) (i : Nat), i ≤ l.length → cntL l i = nnL (l.take i)
  | l, 0, _ => by simp [cntL, cntPl, sm, nnL]
  | l, i + 1, h => by
    have ih := cntL_nn l i (by omega)
    unfold cntL cntPl at ih ⊢
    rw [sm, ih, List.take_add_one, List.getElem?_eq_getElem (show i < l.length by omega), nnL_app]
    simp only [List.getD, List.getElem?_eq_getElem (show i < l.length by omega), Option.getD_some, Option.toList_some]
    by_cases h0 : 0 ≤ l[i]
    · rw [if_pos h0]
      have : nnL [l[i]] = 1 := by
        unfold nnL
        rw [List.filter_cons_of_pos (by simp; omega)]; rfl
      rw [this]; omega
    · rw [if_neg h0]
      have : nnL [l[i]] = 0 := by
        unfold nnL
        rw [List.filter_cons_of_neg (by simp; omega)]; rfl
      rw [this]; omega
def plc (ns : Nat) (s : CS) : Int := sumTo (fun k => ((s.tasks.getD k []).length : Int)) ns
theorem deal_sum (wants l : List Int) (h0 : ∀ j, j < wants.length → 0 ≤ wants.getD j 0) : ∀ k, k ≤ wants.length → sumTo (fun k => (((deal wants l).getD k []).length : Int)) k = nnL (l.take (sumTo (fun j => wants.getD j 0) k).toNat)
  | 0, _ => by simp [sumTo, nnL]
  | k + 1, hk => by
    have ih := deal_sum wants l h0 k (by omega)
    have h1 := h0 k (by omega)
    have h2 : 0 ≤ sumTo (fun j => wants.getD j 0) k := sumTo_nonneg fun j hj => h0 j (by omega)
    rw [sumTo, ih, deal_get wants l k (by omega) h0, sumTo]
    have e : (sumTo (fun j => wants.getD j 0) k + wants.getD k 0).toNat = (sumTo (fun j => wants.getD j 0) k).toNat + (wants.getD k 0).toNat := by omega
    rw [e, List.take_add, nnL_app]
    unfold deal1 nnL
    omega
theorem tick_max {pl : List (Int × Int) → List Nat → List Int} (hpl : ∀ (ws : List (Int × Int)) (ts : List Nat) (n : Nat) (room : Nat → Int) (t : Int) (l : List Int), n = ts.length → Gr (PDm ws ts (rms ws)) n room t l → l = pl ws ts)
    {nw ns : Nat} {ws : List (Int × Int)} {ss : List Nat} {s : CS} (hs : OkS nw ns s) (hrm : ∀ j, j < ws.length → 0 ≤ (wat ws j).1 ∧ (wat ws j).1 ≤ 12) :
    MaxPl (PDm (nowW ws s.inn) (wantT ss s.wants) (rms (nowW ws s.inn))) (plc ns (tickF pl ws ss s)) := by
  have hr : ∀ j, j < (PDm (nowW ws s.inn) (wantT ss s.wants) (rms (nowW ws s.inn))).nw → 0 ≤ (PDm (nowW ws s.inn) (wantT ss s.wants) (rms (nowW ws s.inn))).room j ∧ (PDm (nowW ws s.inn) (wantT ss s.wants) (rms (nowW ws s.inn))).room j ≤ 1048576 := fun j hj => by
    have h1 := nowW_ok (inn := s.inn) hrm (wat (nowW ws s.inn) j) (wat_mem hj)
    show 0 ≤ rms (nowW ws s.inn) j ∧ rms (nowW ws s.inn) j ≤ 1048576
    unfold rms
    omega
  obtain ⟨room, t, l, h⟩ := Gr.exists hr _ (Nat.le_refl _)
  have hl := hpl (nowW ws s.inn) (wantT ss s.wants) _ room t l rfl h
  obtain ⟨h1, h2⟩ := h.mostK hr
  have hnt : (PDm (nowW ws s.inn) (wantT ss s.wants) (rms (nowW ws s.inn))).nt = (wantT ss s.wants).length := rfl
  rw [hnt] at h1 h2
  have e : plc ns (tickF pl ws ss s) = cntL l (wantT ss s.wants).length := by
    unfold plc tickF
    have hd := deal_sum s.wants l (by rw [hs.wl]; exact hs.w0) ns (by rw [hs.wl]; exact Nat.le_refl _)
    rw [← hl, hd, cntL_nn l _ (by omega)]
    have hw : ((wantT ss s.wants).length : Int) = sumTo (fun j => s.wants.getD j 0) ns := by
      unfold wantT
      rw [hs.wl]
      exact wantTo_length ss s.wants ns hs.w0
    rw [← hw, Int.toNat_natCast]
  rw [e]
  exact h1
theorem tick_same {pl : List (Int × Int) → List Nat → List Int} {ws : List (Int × Int)} {ss : List Nat} {s s' : CS} (h1 : s.inn = s'.inn) (h2 : s.wants = s'.wants) : tickF pl ws ss s = tickF pl ws ss s' := by
  unfold tickF; rw [h1, h2]
/-- one more in: no fewer have a place -/
theorem tick_more {pl : List (Int × Int) → List Nat → List Int} (hpl : ∀ (ws : List (Int × Int)) (ts : List Nat) (n : Nat) (room : Nat → Int) (t : Int) (l : List Int), n = ts.length → Gr (PDm ws ts (rms ws)) n room t l → l = pl ws ts)
    {nw ns : Nat} {ws : List (Int × Int)} {ss : List Nat} {s s' : CS} (hs : OkS nw ns s) (hs' : OkS nw ns s') (hrm : ∀ j, j < ws.length → 0 ≤ (wat ws j).1 ∧ (wat ws j).1 ≤ 12) (hw : s.wants = s'.wants) (hi : ∀ j, s.inn.testBit j = true → s'.inn.testBit j = true) :
    plc ns (tickF pl ws ss s) ≤ plc ns (tickF pl ws ss s') := by
  obtain ⟨⟨P, hP, hc⟩, _⟩ := tick_max (ss := ss) hpl hs hrm
  have h2 := (tick_max (ss := ss) hpl hs' hrm).2
  rw [← hc, hw]
  refine h2 P ?_
  have hat : ∀ inn j, j < ws.length → wat (nowW ws inn) j = if inn.testBit j then ws.getD j (0, 0) else (0, (ws.getD j (0, 0)).2) := fun inn j hj => by
    unfold wat nowW
    simp only [List.getD, List.getElem?_map, List.getElem?_range hj, Option.map_some, Option.getD_some]
  have hl : ∀ inn, (nowW ws inn).length = ws.length := fun inn => nowW_length ws inn
  refine ⟨fun i hi0 => ?_, fun j hj => ?_⟩
  · rw [hw] at hP
    rcases hP.rg i hi0 with h | ⟨h1, h3, h4⟩
    · exact .inl h
    · have h3' : P i < ((nowW ws s.inn).length : Nat) := h3
      rw [hl] at h3'
      refine .inr ⟨h1, by show P i < ((nowW ws s'.inn).length : Nat); rw [hl]; exact h3', ?_⟩
      have h4' : mayI (wat (nowW ws s.inn) (P i).toNat).2 ((wantT ss s'.wants).getD i 0 : Nat) = true := h4
      show mayI (wat (nowW ws s'.inn) (P i).toNat).2 ((wantT ss s'.wants).getD i 0 : Nat) = true
      rw [hat _ _ (by omega)] at h4' ⊢
      have e : ∀ b : Bool, (if b = true then ws.getD (P i).toNat (0, 0) else (0, (ws.getD (P i).toNat (0, 0)).2)).2 = (ws.getD (P i).toNat (0, 0)).2 := fun b => by cases b <;> rfl
      rw [e] at h4' ⊢
      exact h4'
  · have hj' : j < ws.length := by
      have : j < (nowW ws s'.inn).length := hj
      rw [hl] at this; exact this
    rw [hw] at hP
    have h3 := hP.rm j (by show j < (nowW ws s.inn).length; rw [hl]; exact hj')
    refine Int.le_trans h3 ?_
    show rms (nowW ws s.inn) j ≤ rms (nowW ws s'.inn) j
    unfold rms
    rw [hat _ _ hj', hat _ _ hj']
    have h0 : 0 ≤ (ws.getD j (0, 0)).1 := (hrm j hj').1
    cases h1 : s.inn.testBit j
    · cases s'.inn.testBit j
      · exact Int.le_refl _
      · exact h0
    · rw [hi j h1]; exact Int.le_refl _
end Go.Proofs.Yticffbcbfgboeaa
