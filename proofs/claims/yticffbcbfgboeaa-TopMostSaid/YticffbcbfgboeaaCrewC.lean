/- One leaves: its tasks go. -/
import Derived.Test.YticffbcbfgboeaaCrewB
import Derived.Test.YticffbcbfgboeaaLastW
namespace Go.Proofs.Yticffbcbfgboeaa
open Go.RowKit Go.Shelf

/-- is it this one? -/
theorem leave1_any (i : Int) (bi : Nat) (a : Int) (W : World) (h : W.cell? ⟨bi, 0, none⟩ = some (.int .i64 i)) :
    Calls Try.prog 33 #[.int .i64 a, .pointer (some ⟨bi, 0, none⟩)] W fun e w' => e = .returned (.bool (decide (a = i))) ∧ W = w' := by
  go_enter Try.func33, Try.ntmps33
  go_wp2
  go_ret
  exact ⟨by congr 2, rfl⟩
theorem tick1_any (a : Int) (W : World) :
    Calls Try.prog 32 #[.int .i64 a] W fun e w' => e = .returned (.bool (decide (a < 0))) ∧ W = w' := by
  go_enter Try.func32, Try.ntmps32
  go_wp2
  go_ret
  exact ⟨rfl, rfl⟩
set_option maxHeartbeats 800000 in
set_option maxRecDepth 100000 in
set_option linter.unusedSimpArgs false in
theorem leave_any (cb nw ns i : Nat) (vw vs : Value) (s : CS) (cs : List Int) (vC vW vT : Value) (tv : List Value) (W : World) (h : CM cb ns vw vs s cs vC vW vT tv W) (hs : OkS nw ns s) (hi : i < nw) (hn : nw ≤ 6) (h12 : ns ≤ 12) :
    Calls Try.prog 25 #[.pointer (some ⟨cb, 0, none⟩), .int .i64 (i : Int)] W fun e w' => (∃ x, e = .returned x) ∧ (∃ tv', CM cb ns vw vs (leaveF s i) cs vC vW vT tv' w') ∧ Below cb W w' := by
  have hin : s.inn < 64 := Nat.lt_of_lt_of_le hs.inn (Nat.pow_le_pow_right (n := 2) (by omega) hn)
  have hpi : 2 ^ i ≤ 2 ^ 6 := Nat.pow_le_pow_right (by omega) (by omega)
  have hpw : IntKind.u32.wrap ((2 : Int) ^ i) = ((2 ^ i : Nat) : Int) := by rw [IntKind.wrap_u32']; exact two_pow_u32 i (by omega)
  have hand := u32_andNot_nat s.inn (2 ^ i) (by omega) (by omega)
  have hi0 : (0 : Int) ≤ i := by omega
  have hi1 : (i : Int) < 32 := by omega
  obtain ⟨x, hx⟩ : ∃ x, s.inn &&& (4294967295 - 2 ^ i) = x := ⟨_, rfl⟩
  rw [hx] at hand
  have hand2 : bits .andNot .u32 (s.inn : Int) ((2 : Int) ^ i) = (x : Int) := by rw [show ((2 : Int) ^ i) = ((2 ^ i : Nat) : Int) by simp]; exact hand
  clear hand
  have hlf : leaveF s i = ⟨x, s.wants, s.tasks.map fun l => filN (fun j => decide (j = (i : Int))) l⟩ := by unfold leaveF filN; rw [hx]
  rw [hlf]
  have hxH := Lib.hid hx
  have hsH := Lib.hid hs; have hlfH := Lib.hid hlf
  clear hs hx hlf
  have h1 := h.later ((Below.refl _ W).alloc (Nat.le_refl _) (.cells #[.int .i64 (i : Int)] 3))
  have bi1 := Boxed.new W 3 (.int .i64 (i : Int))
  have hb1 := (Below.refl cb W).alloc (Nat.le_of_lt h.lt) (.cells #[.int .i64 (i : Int)] 3)
  have hlt := h.lt
  have hqI := Lib.hid (fun j (hj : j < ns) q (hq : (tv.getD j undef).ownBlock = some q) => ((h.tk j hj).lt q hq).2)
  have hsz : (W.alloc (.cells #[.int .i64 (i : Int)] 3)).heap.size = W.heap.size + 1 := by simp
  clear h
  go_enter Try.func25, Try.ntmps25
  go_upto_region 1 with fail
  generalize W.alloc (.cells #[.int .i64 (i : Int)] 3) = w1 at *
  generalize hbI : W.heap.size = bI at *
  have c3 := h1.bk.cell (j := 3) rfl
  have cI := bi1.cell
  refine region_last (fun w' => w'.cell? ⟨cb, 3, none⟩ = some (.int .u32 (s.inn : Int)) ∧ w'.cell? ⟨bI, 0, none⟩ = some (.int .i64 (i : Int))) (by kernel_rfl) rfl (by kernel_rfl) ⟨c3, cI⟩ (fun hHeld => ?_)
  dsimp only [List.dropLast]
  (refine wpAnyH_take (i := 0) (v := ?_) rfl (by kernel_rfl) (by kernel_rfl) (by kernel_rfl) (fun _ _ _ h => h) (Or.inl ⟨by rfl, ?_⟩) hHeld ?_; rotate_left; first | (intro w' hSw; go_simp; done) | (intro w' hSw; go_simp; with_reducible rfl))
  simp only [Act.put, List.getElem_toArray, List.getElem_cons_zero, List.getElem_cons_succ, List.setIfInBounds_toArray, List.set_cons_zero, List.set_cons_succ]
  (refine wpAnyH_take (i := 1) (v := ?_) rfl (by kernel_rfl) (by kernel_rfl) (by kernel_rfl) (fun _ _ _ h => h) (Or.inl ⟨by rfl, ?_⟩) hHeld ?_; rotate_left; first | (intro w' hSw; go_simp; done) | (intro w' hSw; go_simp; with_reducible rfl))
  simp only [Act.put, List.getElem_toArray, List.getElem_cons_zero, List.getElem_cons_succ, List.setIfInBounds_toArray, List.set_cons_zero, List.set_cons_succ]
  (refine wpAnyH_take (i := 2) (v := ?_) rfl (by kernel_rfl) (by kernel_rfl) (by kernel_rfl) (fun _ _ _ h => h) (Or.inl ⟨by rfl, ?_⟩) hHeld ?_; rotate_left; first | (intro w' hSw; go_simp; done) | (intro w' hSw; go_simp; with_reducible rfl))
  simp only [Act.put, List.getElem_toArray, List.getElem_cons_zero, List.getElem_cons_succ, List.setIfInBounds_toArray, List.set_cons_zero, List.set_cons_succ]
  (refine wpAnyH_take (i := 3) (v := ?_) rfl (by kernel_rfl) (by kernel_rfl) (by kernel_rfl) (fun _ _ _ h => h) (Or.inl ⟨by rfl, ?_⟩) hHeld ?_; rotate_left; first | (intro w' hSw; go_simp; done) | (intro w' hSw; go_simp; with_reducible rfl))
  simp only [Act.put, List.getElem_toArray, List.getElem_cons_zero, List.getElem_cons_succ, List.setIfInBounds_toArray, List.set_cons_zero, List.set_cons_succ]
  (refine wpAnyH_take (i := 4) (v := ?_) rfl (by kernel_rfl) (by kernel_rfl) (by kernel_rfl) (fun _ _ _ h => h) (Or.inl ⟨by rfl, ?_⟩) hHeld ?_; rotate_left; first | (intro w' hSw; (have hq := hSw.1); go_simp; done) | (intro w' hSw; (have hq := hSw.1); go_simp; with_reducible rfl))
  simp only [Act.put, List.getElem_toArray, List.getElem_cons_zero, List.getElem_cons_succ, List.setIfInBounds_toArray, List.set_cons_zero, List.set_cons_succ]
  (refine wpAnyH_take (i := 5) (v := ?_) rfl (by kernel_rfl) (by kernel_rfl) (by kernel_rfl) (fun _ _ _ h => h) (Or.inl ⟨by rfl, ?_⟩) hHeld ?_; rotate_left; first | (intro w' hSw; (have hq := hSw.2); go_simp; done) | (intro w' hSw; (have hq := hSw.2); go_simp; with_reducible rfl))
  simp only [Act.put, List.getElem_toArray, List.getElem_cons_zero, List.getElem_cons_succ, List.setIfInBounds_toArray, List.set_cons_zero, List.set_cons_succ]
  (refine wpAnyH_take (i := 6) (v := ?_) rfl (by kernel_rfl) (by kernel_rfl) (by kernel_rfl) (fun _ _ _ h => h) (Or.inl ⟨by rfl, ?_⟩) hHeld ?_; rotate_left; first | (intro w' hSw; go_simp; done) | (intro w' hSw; go_simp; with_reducible rfl))
  simp only [Act.put, List.getElem_toArray, List.getElem_cons_zero, List.getElem_cons_succ, List.setIfInBounds_toArray, List.set_cons_zero, List.set_cons_succ]
  (refine wpAnyH_take (i := 7) (v := ?_) rfl (by kernel_rfl) (by kernel_rfl) (by kernel_rfl) (fun _ _ _ h => h) (Or.inl ⟨by rfl, ?_⟩) hHeld ?_; rotate_left; first | (intro w' hSw; go_simp; done) | (intro w' hSw; go_simp; with_reducible rfl))
  simp only [Act.put, List.getElem_toArray, List.getElem_cons_zero, List.getElem_cons_succ, List.setIfInBounds_toArray, List.set_cons_zero, List.set_cons_succ]
  (refine wpAnyH_take (i := 8) (v := ?_) rfl (by kernel_rfl) (by kernel_rfl) (by kernel_rfl) (fun _ _ _ h => h) (Or.inl ⟨by rfl, ?_⟩) hHeld ?_; rotate_left; first | (intro w' hSw; go_simp; done) | (intro w' hSw; go_simp; with_reducible rfl))
  simp only [Act.put, List.getElem_toArray, List.getElem_cons_zero, List.getElem_cons_succ, List.setIfInBounds_toArray, List.set_cons_zero, List.set_cons_succ]
  (refine wpAnyH_take (i := 9) (v := ?_) rfl (by kernel_rfl) (by kernel_rfl) (by kernel_rfl) (fun _ _ _ h => h) (Or.inl ⟨by rfl, ?_⟩) hHeld ?_; rotate_left; first | (intro w' hSw; go_simp; done) | (intro w' hSw; go_simp; with_reducible rfl))
  simp only [Act.put, List.getElem_toArray, List.getElem_cons_zero, List.getElem_cons_succ, List.setIfInBounds_toArray, List.set_cons_zero, List.set_cons_succ]
  (refine wpAnyH_take (i := 10) (v := ?_) rfl (by kernel_rfl) (by kernel_rfl) (by kernel_rfl) (fun _ _ _ h => h) (Or.inl ⟨by rfl, ?_⟩) hHeld ?_; rotate_left; first | (intro w' hSw; go_simp; done) | (intro w' hSw; go_simp; with_reducible rfl))
  simp only [Act.put, List.getElem_toArray, List.getElem_cons_zero, List.getElem_cons_succ, List.setIfInBounds_toArray, List.set_cons_zero, List.set_cons_succ]
  refine wpAnyH_done (by kernel_rfl) ?_ _
  have h2 := h1.later ((Below.refl _ w1).drew)
  have bi2 : Boxed w1.drew bI 3 (.int .i64 (i : Int)) := bi1
  have hb2 : Below cb W w1.drew := hb1.drew
  have hsz2 : w1.drew.heap.size = bI + 1 := hsz
  clear h1 bi1 hb1 hsz c3 cI hHeld
  generalize w1.drew = w2 at *
  have c3 := h2.bk.cell (j := 3) rfl; have f3 := h2.bk.frozen 3; have l3 := h2.lt
  have h3 := h2.setIn x
  have bi3 := bi2.kept (grown_setA w2 cb 3 (.int .u32 (x : Int))) (by simp; omega)
  have hb3 := hb2.setCell (p := ⟨cb, 3, none⟩) (Nat.le_refl _) (.int .u32 (x : Int))
  have hsz3 : (w2.setCell ⟨cb, 3, none⟩ (.int .u32 (x : Int))).heap.size = bI + 1 := by simp [hsz2]
  have h3H := Lib.hid h3; have bi3H := Lib.hid bi3; have hb3H := Lib.hid hb3
  clear h2 bi2 hb2 hsz2 h3 bi3 hb3
  obtain ⟨AT, cT, rfl⟩ := own_slice h3H.out.ta
  have c5 := h3H.out.bk.cell (j := 5) rfl
  show Oper.wp _ _ _ _ _ _
  go_simp
  generalize w2.setCell ⟨cb, 3, none⟩ (.int .u32 (x : Int)) = w3 at *
  go_wp2
  clear hand2 hpw c3 f3 l3 c5
  have hb3' : Below cb W w3 := hb3H.out
  have hfl := Lib.hid (fun k (hk : k < ns) => show (s.tasks.getD k []).length ≤ 12 from hsH.out.t12 k hk)
  go_loopw [4, 5, 23, 25, 26, 27, 28, 29, 30, 31, 32, 33, 34, 35, 36, 37, 38] (fun _ _ i4 _ _ _ _ _ _ _ _ _ _ _ _ _ _ wr => ∃ (k : Nat) (tk : List (List Int)) (tv' : List Value), k ≤ ns ∧ i4 = .int .i64 k ∧ tk.length = ns ∧ (∀ j, j < ns → tk.getD j [] = if j < k then filN (fun a => decide (a = (i : Int))) (s.tasks.getD j []) else s.tasks.getD j []) ∧ CM cb ns vw vs ⟨x, s.wants, tk⟩ cs vC vW (.slice AT ns cT) tv' wr ∧ Boxed wr bI 3 (.int .i64 (i : Int)) ∧ (∀ j, j < ns → ∀ q, (tv'.getD j undef).ownBlock = some q → q < bI) ∧ Below cb W wr) (fun _ _ i4 _ _ _ _ _ _ _ _ _ _ _ _ _ _ _ => ns - (intOf i4).toNat)
  case atStart => exact ⟨0, s.tasks, tv, Nat.zero_le _, rfl, hsH.out.tl, fun j _ => by rw [if_neg (by omega)], h3H.out, bi3H.out, hqI.out, hb3'⟩
  case round =>
    obtain ⟨wo, rfl⟩ : ∃ wo : World, wo = wr := ⟨_, rfl⟩
    obtain ⟨k, tk, tv', hk, rfl, htl, htk, hM, hbI2, hqq, hb⟩ := hrel
    by_cases hlt : k < ns
    · obtain ⟨gT, c', eT, hgb, hgl⟩ := own_form1 hM.ta (by omega)
      injection eT with eA _ eC
      subst eA; subst eC
      have htvl : tv'.length = ns := by have := hM.ta.1; omega
      obtain ⟨v, hv⟩ : ∃ v, tv'.getD k undef = v := ⟨_, rfl⟩
      have hcv : wo.cell? ⟨gT, k, none⟩ = some v := by
        rw [hM.ta.cellAt k (by omega), ← hv]
        simp only [List.getD, List.getElem?_eq_getElem (show k < tv'.length by omega), Option.getD_some]
      have hM2 := hM.later ((Below.refl _ wo).drew)
      have bI2 : Boxed wo.drew bI 3 (.int .i64 (i : Int)) := hbI2
      have hb2 : Below cb W wo.drew := hb.drew
      have ho := hM2.tk k hlt
      rw [hv] at ho
      have hx12 : (tk.getD k []).length ≤ 12 := by
        rw [htk k hlt]
        have := hfl.out k hlt
        split
        · exact Nat.le_trans (List.length_filter_le _ _) this
        · exact this
      have hxk : tk.getD k [] = s.tasks.getD k [] := by rw [htk k hlt, if_neg (by omega)]
      have hne : v.ownBlock ≠ some bI := fun e => by
        have := hqq k hlt bI (by rw [hv]; exact e)
        omega
      have HD := Lib.hid (delI (cb + 1) _ v (tk.getD k []) 33 #[.pointer (some ⟨bI, 0, none⟩)] (fun a => decide (a = (i : Int))) wo.drew ho (by show (tk.getD k []).length ≤ 65536; omega) (enters_of Try.func33 (by kernel_rfl) rfl)
        (fun a W' hg' => leave1_any i bI a W' (Boxed.cell (Boxed.kept bI2 hg' (Ne.symm hne)))))
      have c5 := hM.bk.cell (j := 5) rfl
      have hMH := Lib.hid hM2; have bIH := Lib.hid bI2; have hb2H := Lib.hid hb2; have hqH := Lib.hid hqq; have htkH := Lib.hid htk; have hvH := Lib.hid hv; have hxkH := Lib.hid hxk; have htlH := Lib.hid htl
      clear hM hM2 bI2 hb2 hb hbI2 hqq htk hv ho hxk hne htl
      have hkn : (k : Int) < ns := by omega
      have hk0 : (0 : Int) ≤ k := by omega
      go_upto_region 5 with fail
      refine region_last (fun w' => w'.cell? ⟨cb, 5, none⟩ = some (.slice (some ⟨gT, 0, none⟩) ns cT)) (by kernel_rfl) rfl (by kernel_rfl) c5 (fun hHeld => ?_)
      dsimp only [List.dropLast]
      (refine wpAnyH_take (i := 0) (v := ?_) rfl (by kernel_rfl) (by kernel_rfl) (by kernel_rfl) (fun _ _ _ h => h) (Or.inl ⟨by rfl, ?_⟩) hHeld ?_; rotate_left; first | (intro w' hSw; go_simp; done) | (intro w' hSw; go_simp; with_reducible rfl))
      simp only [Act.put, List.getElem_toArray, List.getElem_cons_zero, List.getElem_cons_succ, List.setIfInBounds_toArray, List.set_cons_zero, List.set_cons_succ]
      (refine wpAnyH_take (i := 1) (v := ?_) rfl (by kernel_rfl) (by kernel_rfl) (by kernel_rfl) (fun _ _ _ h => h) (Or.inl ⟨by rfl, ?_⟩) hHeld ?_; rotate_left; first | (intro w' hSw; go_simp; done) | (intro w' hSw; go_simp; with_reducible rfl))
      simp only [Act.put, List.getElem_toArray, List.getElem_cons_zero, List.getElem_cons_succ, List.setIfInBounds_toArray, List.set_cons_zero, List.set_cons_succ]
      (refine wpAnyH_take (i := 2) (v := ?_) rfl (by kernel_rfl) (by kernel_rfl) (by kernel_rfl) (fun _ _ _ h => h) (Or.inl ⟨by rfl, ?_⟩) hHeld ?_; rotate_left; first | (intro w' hSw; go_simp; done) | (intro w' hSw; go_simp; with_reducible rfl))
      simp only [Act.put, List.getElem_toArray, List.getElem_cons_zero, List.getElem_cons_succ, List.setIfInBounds_toArray, List.set_cons_zero, List.set_cons_succ]
      (refine wpAnyH_take (i := 3) (v := ?_) rfl (by kernel_rfl) (by kernel_rfl) (by kernel_rfl) (fun _ _ _ h => h) (Or.inl ⟨by rfl, ?_⟩) hHeld ?_; rotate_left; first | (intro w' hSw; go_simp; done) | (intro w' hSw; go_simp; with_reducible rfl))
      simp only [Act.put, List.getElem_toArray, List.getElem_cons_zero, List.getElem_cons_succ, List.setIfInBounds_toArray, List.set_cons_zero, List.set_cons_succ]
      (refine wpAnyH_take (i := 4) (v := ?_) rfl (by kernel_rfl) (by kernel_rfl) (by kernel_rfl) (fun _ _ _ h => h) (Or.inl ⟨by rfl, ?_⟩) hHeld ?_; rotate_left; first | (intro w' hSw; (have hq := hSw); go_simp; done) | (intro w' hSw; (have hq := hSw); go_simp; with_reducible rfl))
      simp only [Act.put, List.getElem_toArray, List.getElem_cons_zero, List.getElem_cons_succ, List.setIfInBounds_toArray, List.set_cons_zero, List.set_cons_succ]
      (refine wpAnyH_take (i := 5) (v := ?_) rfl (by kernel_rfl) (by kernel_rfl) (by kernel_rfl) (fun _ _ _ h => h) (Or.inl ⟨by rfl, ?_⟩) hHeld ?_; rotate_left; first | (intro w' hSw; go_simp; done) | (intro w' hSw; go_simp; with_reducible rfl))
      simp only [Act.put, List.getElem_toArray, List.getElem_cons_zero, List.getElem_cons_succ, List.setIfInBounds_toArray, List.set_cons_zero, List.set_cons_succ]
      (refine wpAnyH_take (i := 6) (v := ?_) rfl (by kernel_rfl) (by kernel_rfl) (by kernel_rfl) (fun _ _ _ h => h) (Or.inl ⟨by rfl, ?_⟩) hHeld ?_; rotate_left; first | (intro w' hSw; go_simp; done) | (intro w' hSw; go_simp; with_reducible rfl))
      simp only [Act.put, List.getElem_toArray, List.getElem_cons_zero, List.getElem_cons_succ, List.setIfInBounds_toArray, List.set_cons_zero, List.set_cons_succ]
      (refine wpAnyH_take (i := 7) (v := ?_) rfl (by kernel_rfl) (by kernel_rfl) (by kernel_rfl) (fun _ _ _ h => h) (Or.inl ⟨by rfl, ?_⟩) hHeld ?_; rotate_left; first | (intro w' hSw; go_simp; done) | (intro w' hSw; go_simp; with_reducible rfl))
      simp only [Act.put, List.getElem_toArray, List.getElem_cons_zero, List.getElem_cons_succ, List.setIfInBounds_toArray, List.set_cons_zero, List.set_cons_succ]
      refine wpAnyH_ready (rs := [8]) (by kernel_rfl) (by simp) ?_
      refine AllReadyH.cons rfl (fun K hK => ?_) AllReadyH.nil
      go_simp
      refine HD.out.mono ?_
      rintro e w5 ⟨v', rfl, hown5, hblk5, hg5⟩
      obtain ⟨A5, cp5, rfl⟩ := own_slice hown5
      obtain ⟨L5, hL5⟩ : ∃ L5, (filN (fun a => decide (a = (i : Int))) (tk.getD k [])).length = L5 := ⟨_, rfl⟩
      rw [hL5] at hown5 hblk5 ⊢
      have hvk := hMH.out.tk k hlt
      rw [hvH.out] at hvk
      have hcne : some cb ≠ v.ownBlock := fun e => by have := (hvk.lt cb e.symm).1; omega
      have S5 := (hMH.out.bk.kept hg5 hcne).cell (j := 5) rfl
      refine hK.out _ _ S5 (fun hHeld => ?_)
      clear hK K HD
      (try simp only [Act.put, List.getElem_toArray, List.getElem_cons_zero, List.getElem_cons_succ, List.setIfInBounds_toArray, List.set_cons_zero, List.set_cons_succ])
      (refine wpAnyH_take (i := 9) (v := ?_) rfl (by kernel_rfl) (by kernel_rfl) (by kernel_rfl) (fun _ _ _ h => h) (Or.inl ⟨by rfl, ?_⟩) hHeld ?_; rotate_left; first | (intro w' hSw; go_simp; done) | (intro w' hSw; go_simp; with_reducible rfl))
      simp only [Act.put, List.getElem_toArray, List.getElem_cons_zero, List.getElem_cons_succ, List.setIfInBounds_toArray, List.set_cons_zero, List.set_cons_succ]
      refine wpAnyH_done (by kernel_rfl) ?_ _
      have t5 := own_apart hMH.out.ta hg5 (fun q hq e => own_types hMH.out.ta hvk (by decide) hq e)
      have ct5 := t5.cellAt k (by omega)
      have hxx : tv'[k]? = some v := by rw [List.getElem?_eq_getElem (show k < tv'.length by omega), ← hvH.out]; simp [List.getD, List.getElem?_eq_getElem (show k < tv'.length by omega)]
      rw [hxx] at ct5
      have ft5 := t5.frozenAt k
      have lt5 := (t5.lt gT rfl).2
      have hput := hMH.out.putT (xs' := filN (fun a => decide (a = (i : Int))) (tk.getD k [])) (v' := .slice A5 L5 cp5) htlH.out hlt rfl hg5 (.inr (by rw [hvH.out])) (by rw [hL5]; exact hown5) (fun q hq => .inl (by rw [hvH.out, ← hblk5]; exact hq))
      have hb5 := (hb2H.out.grown hg5 (Nat.le_of_lt hMH.out.lt) (fun q hq => by have := (hvk.lt q hq).1; omega)).setCell (p := ⟨gT, k, none⟩) (by show cb ≤ gT; omega) (.slice A5 L5 cp5)
      have hbI5 := (bIH.out.kept hg5 (fun e => by have := hqH.out k hlt bI (by rw [hvH.out]; exact e.symm); omega)).kept (grown_setA w5 gT k (.slice A5 L5 cp5)) (fun e => by
        cases e
        have h1 := hMH.out.ta.2
        rcases h1 with ⟨h1, _⟩ | ⟨g2, c2, cur2, h1, _, h2, _⟩
        · cases h1
        · cases h1
          have h3 : wo.drew.heap[bI]? = some (.cells #[.int .i64 (i : Int)] 3) := bIH.out
          rw [h3] at h2
          cases h2)
      have hq5 : ∀ j, j < ns → ∀ q, ((tv'.set k (.slice A5 L5 cp5)).getD j undef).ownBlock = some q → q < bI := fun j hj q hq => by
        rw [getD_set _ _ _ _ _ (by omega)] at hq
        by_cases e : j = k
        · rw [if_pos e, hblk5] at hq
          exact hqH.out k hlt q (by rw [hvH.out]; exact hq)
        · rw [if_neg e] at hq
          exact hqH.out j hj q hq
      have htk5 : ∀ j, j < ns → (tk.set k (filN (fun a => decide (a = (i : Int))) (tk.getD k []))).getD j [] = if j < k + 1 then filN (fun a => decide (a = (i : Int))) (s.tasks.getD j []) else s.tasks.getD j [] := fun j hj => by
        rw [getD_set _ _ _ _ _ (by rw [htlH.out]; exact hlt)]
        by_cases e : j = k
        · rw [if_pos e, hxkH.out, e, if_pos (by omega)]
        · rw [if_neg e, htkH.out j hj]
          by_cases e2 : j < k
          · rw [if_pos e2, if_pos (by omega)]
          · rw [if_neg e2, if_neg (by omega)]
      have hfin := Lib.hid (And.intro (show (tk.set k (filN (fun a => decide (a = (i : Int))) (tk.getD k []))).length = ns by rw [List.length_set]; exact htlH.out) (And.intro htk5 (And.intro hput (And.intro hbI5 (And.intro hq5 hb5)))))
      have hk1 : IntKind.i64.wrap ((k : Int) + 1) = ((k + 1 : Nat) : Int) := by rw [IntWalk.i64_in _ (by omega)]; omega
      clear hput hb5 hbI5 hq5 htk5 hown5 hblk5 hg5 hMH bIH hb2H hqH htkH hvH hxkH htlH S5 hcne hvk t5 hxx hHeld
      show Oper.wp _ _ _ _ _ _
      go_simp
      go_wp2
      go_roundw
      case rel => exact ⟨k + 1, _, _, by omega, by go_num, hfin.out.1, hfin.out.2.1, hfin.out.2.2.1, hfin.out.2.2.2.1, hfin.out.2.2.2.2.1, hfin.out.2.2.2.2.2⟩
      case measure => simp [intOf]; omega
    · obtain rfl : k = ns := by omega
      have he : tk = s.tasks.map fun l => filN (fun a => decide (a = (i : Int))) l := by
        refine List.ext_getElem? fun j => ?_
        rcases Nat.lt_or_ge j k with h | h
        · have h1 := htk j h
          have h2 : j < s.tasks.length := by rw [hsH.out.tl]; exact h
          rw [if_pos h] at h1
          rw [List.getElem?_map, List.getElem?_eq_getElem h2, List.getElem?_eq_getElem (show j < tk.length by omega)]
          simp only [List.getD, List.getElem?_eq_getElem h2, List.getElem?_eq_getElem (show j < tk.length by omega), Option.getD_some] at h1
          rw [h1]; rfl
        · rw [List.getElem?_eq_none (by omega), List.getElem?_eq_none (by rw [List.length_map, hsH.out.tl]; exact h)]
      subst he
      have hfin := Lib.hid (And.intro hM hb)
      clear hM hb htk htl
      go_wp2
      go_end0
      exact ⟨⟨_, rfl⟩, ⟨_, hfin.out.1⟩, hfin.out.2⟩
end Go.Proofs.Yticffbcbfgboeaa
