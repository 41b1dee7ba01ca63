/- beats.list, whole. -/
import Derived.Test.YtnlgmjigadgneaaDoorList
namespace Go.Proofs.YtnlgmjigadgneaaDoor
open Go.RowKit Go.Shelf
attribute [local go_sem] Oper.semAt_some

theorem lt_bitN {x n j : Nat} (h : x < 2 ^ n) (hj : x.testBit j = true) : j < n := Nat.lt_of_not_le fun hle => by
  rw [Nat.testBit_lt_two_pow (Nat.lt_of_lt_of_le h (Nat.pow_le_pow_right (by omega) hle))] at hj; cases hj
theorem grown_of_below' {a b : World} (r : Option Nat) (h : Below a.heap.size a b) : a.grownBy b r := ⟨h.os, h.tape, h.output, h.size, fun k hk _ => h.block k hk⟩
theorem bitsL_none {x : Nat} (hx : x < 2 ^ 32) (h : (bitsL x).length = 0) : x = 0 := by
  rcases Nat.eq_zero_or_pos x with h0 | h0
  · exact h0
  · obtain ⟨i, hi⟩ := Nat.exists_testBit_of_ne_zero (show x ≠ 0 by omega)
    have : i ∈ bitsL x := mem_bitsL.2 ⟨lt_bitN hx hi, hi⟩
    rw [List.eq_nil_of_length_eq_zero h] at this
    cases this
set_option maxHeartbeats 6400000 in
set_option maxRecDepth 100000 in
set_option linter.unusedSimpArgs false in
theorem list_any (ts : List Nat) (hlt : ∀ i, i < ts.length → ts.getD i 0 < 2 ^ ts.length) (hl8 : ts.length ≤ 8) (ring : Bool) (At : Option Addr) (ct : Nat) : ∀ (d : Nat) (l : List Nat) (x : Nat), (bitsL x).length = d → l.length + d ≤ 8 → (∀ a ∈ l, a < ts.length) → x < 2 ^ ts.length →
    (ring = true → l ≠ [] ∨ x ≠ 0) → ∀ (Al : Option Addr) (cl : Nat) (w : World), Rd w At ts.length 1 (wds ts) → Rd w Al l.length 1 (ints .i64 (natI l)) → l.length ≤ cl → Tb w → 0 < w.heap.size →
    Calls Tryd.prog 17 #[.slice At ts.length ct, .slice Al l.length cl, .int .u32 (x : Int), .bool ring] w (LPost ts ring l x Al w) := by
  have hp8 : 2 ^ ts.length ≤ 2 ^ 8 := Nat.pow_le_pow_right (by omega) hl8
  intro d
  induction d with
  | zero =>
    intro l x hd hld hlb hx hne Al cl w hrt hrl hcl _ _
    obtain rfl := bitsL_none (show x < 2 ^ 32 by omega) hd
    exact list_zero ts (fun i hi => by have := hlt i hi; omega) ring l (by omega) hl8 hlb (fun h => (hne h).resolve_right (by omega)) At Al ct cl w hrt hrl hcl
  | succ d ih =>
    intro l x hd hld hlb hx hne Al cl w hrt hrl hcl htb hgw
    have hx32 : x < 2 ^ 32 := by omega
    have hx0 : x ≠ 0 := fun e => by subst e; simp [show bitsL 0 = [] by decide] at hd
    have hb1 := (((((Below.refl _ w).alloc (Nat.le_refl _) (.cells #[.slice At ts.length ct] 22)).alloc (by simp) (.cells #[.slice Al l.length cl] 31)).alloc (by simp; omega) (.cells #[.int .u32 (x : Int)] 23)).alloc (by simp; omega) (.cells #[.bool ring] 4)).alloc (by simp; omega) (.cells #[.slice none 0 0] 31)
    have b0 := ((((Boxed.new w 22 (.slice At ts.length ct)).alloc (.cells #[.slice Al l.length cl] 31)).alloc (.cells #[.int .u32 (x : Int)] 23)).alloc (.cells #[.bool ring] 4)).alloc (.cells #[.slice none 0 0] 31)
    have b1 := (((Boxed.new (w.alloc (.cells #[.slice At ts.length ct] 22)) 31 (.slice Al l.length cl)).alloc (.cells #[.int .u32 (x : Int)] 23)).alloc (.cells #[.bool ring] 4)).alloc (.cells #[.slice none 0 0] 31)
    have b2 := ((Boxed.new ((w.alloc (.cells #[.slice At ts.length ct] 22)).alloc (.cells #[.slice Al l.length cl] 31)) 23 (.int .u32 (x : Int))).alloc (.cells #[.bool ring] 4)).alloc (.cells #[.slice none 0 0] 31)
    have b3 := (Boxed.new (((w.alloc (.cells #[.slice At ts.length ct] 22)).alloc (.cells #[.slice Al l.length cl] 31)).alloc (.cells #[.int .u32 (x : Int)] 23)) 4 (.bool ring)).alloc (.cells #[.slice none 0 0] 31)
    have b4 := Boxed.new ((((w.alloc (.cells #[.slice At ts.length ct] 22)).alloc (.cells #[.slice Al l.length cl] 31)).alloc (.cells #[.int .u32 (x : Int)] 23)).alloc (.cells #[.bool ring] 4)) 31 (.slice none 0 0)
    have hsz : (((((w.alloc (.cells #[.slice At ts.length ct] 22)).alloc (.cells #[.slice Al l.length cl] 31)).alloc (.cells #[.int .u32 (x : Int)] 23)).alloc (.cells #[.bool ring] 4)).alloc (.cells #[.slice none 0 0] 31)).heap.size = w.heap.size + 5 := by simp
    simp only [World.size_alloc, Nat.add_assoc, Nat.reduceAdd] at b1 b2 b3 b4
    have hrtH := Lib.hid hrt; have hrlH := Lib.hid hrl; have htbH := Lib.hid htb; have hneH := Lib.hid hne
    have hx0b : ((x : Int) == 0) = false := by simp; omega
    have hlbH := Lib.hid hlb
    clear hrt hrl htb hne hlb
    refine calls_of_wp_calm 4 Tryd.func17 rfl ?_
    simp only [Tryd.ntmps17, List.size_toArray, List.length_cons, List.length_nil, Nat.reduceAdd, Nat.reduceSub, Array.replicate_succ, Array.replicate_zero, List.push_toArray, List.append_toArray, List.nil_append, List.cons_append]
    go_upto_region 1 with fail
    simp only [Nat.add_assoc, Nat.reduceAdd]
    generalize (((((w.alloc (.cells #[.slice At ts.length ct] 22)).alloc (.cells #[.slice Al l.length cl] 31)).alloc (.cells #[.int .u32 (x : Int)] 23)).alloc (.cells #[.bool ring] 4)).alloc (.cells #[.slice none 0 0] 31)) = wB at *
    have c0 := b0.cell; have c1 := b1.cell; have c2 := b2.cell
    have b0H := Lib.hid b0; have b1H := Lib.hid b1; have b2H := Lib.hid b2; have b3H := Lib.hid b3; have b4H := Lib.hid b4
    have hb1H := Lib.hid hb1
    clear b0 b1 b2 b3 b4 hb1
    rcases Nat.eq_zero_or_pos l.length with h0 | h0
    have hn0 : nextW ts l x = x := by rw [List.eq_nil_of_length_eq_zero h0]; rfl
    have h0n : ¬ 0 < l.length := by omega
    have h0l : ¬ (0 : Int) < l.length := by omega
    have hn0H := Lib.hid hn0
    clear h0 hn0
    go_wp2_with fail
    obtain ⟨kq, hkq⟩ : ∃ kq, wB = wB.drewN kq := ⟨0, rfl⟩
    rw [hkq]
    clear hkq h0n h0l
    rw [← hn0H.out]
    clear hn0H
    rotate_left
    obtain ⟨m, hm⟩ : ∃ m, l.length = m + 1 := ⟨l.length - 1, by omega⟩
    obtain ⟨hla, _⟩ := last_get hm
    have hma : l.getD m 0 ∈ l := by rw [List.getD, List.getElem?_eq_getElem (show m < l.length by omega)]; exact List.getElem_mem _
    have haN := hlbH.out _ hma
    obtain ⟨gl, ol, hAl, hgl, hcm⟩ := (hrlH.out.later hb1H.out).int (show m < l.length by omega)
    rw [natI_get] at hcm
    obtain ⟨gt, ot, hAt, hgt, hct⟩ := (hrtH.out.later hb1H.out).wd haN
    rw [hAl] at c1
    rw [hAt] at c0
    clear hAl hAt
    have hy32 := hlt _ haN
    have hnx : nextW ts l x = x &&& ts.getD (l.getD m 0) 0 := by unfold nextW; rw [hla]
    have hand := u32_and_nat x (ts.getD (l.getD m 0) 0) (by omega) (by omega)
    rw [← hnx] at hand
    have hmi : IntKind.i64.wrap ((l.length : Int) - 1) = (m : Int) := by rw [hm, IntWalk.i64_in _ (by omega)]; omega
    have hml : (m : Int) < l.length := by omega
    have h0l : (0 : Int) < l.length := by omega
    have h0n : 0 < l.length := by omega
    clear hla hma hnx hm h0
    generalize ts.getD (l.getD m 0) 0 = y at *
    generalize l.getD m 0 = a at *
    have haI : (a : Int) < ts.length := by omega
    have ha0 : (0 : Int) ≤ a := by omega
    go_wp2_with fail
    go_quiet (fail)
    obtain ⟨kq, hkq⟩ : ∃ kq, kq = nq := ⟨_, rfl⟩
    rw [← hkq]
    clear hkq
    go_wp2_with fail
    clear hand hmi hml h0l h0n haI ha0 hct hcm
    all_goals
      have b0q : Boxed (wB.drewN kq) w.heap.size 22 (.slice At ts.length ct) := b0H.out
      have b1q : Boxed (wB.drewN kq) (w.heap.size + 1) 31 (.slice Al l.length cl) := b1H.out
      have b2q : Boxed (wB.drewN kq) (w.heap.size + 2) 23 (.int .u32 (x : Int)) := b2H.out
      have b3q : Boxed (wB.drewN kq) (w.heap.size + 3) 4 (.bool ring) := b3H.out
      have b4q : Boxed (wB.drewN kq) (w.heap.size + 4) 31 (.slice none 0 0) := b4H.out
      have hbq := below_drewN hb1H.out kq
      have hsq : (wB.drewN kq).heap.size = w.heap.size + 5 := hsz
      clear b0H b1H b2H b3H b4H hb1H c0 c1 c2
      generalize wB.drewN kq = wq at *
      have hzl := nextW_le ts l x
      obtain ⟨z, hze⟩ : ∃ z, nextW ts l x = z := ⟨_, rfl⟩
      rw [hze] at hzl
      simp only [hze]
      have hzH := Lib.hid hze
      clear hze
      go_wp2_with fail
      refine (each_any z _).mono ?_
      rintro e w6 ⟨rfl, rfl⟩
      have hbw := hbq.alloc (by omega) (.cells #[.int .u32 (z : Int)] 23)
      have bE := Boxed.new wq 23 (.int .u32 (z : Int))
      have h0I : LI ts ring l x At Al ct cl w.heap.size (wq.heap.size + 1) w ([] : List (Bt z)) (wq.alloc (.cells #[.int .u32 (z : Int)] 23)) :=
        ⟨Boxed.alloc b0q _, Boxed.alloc b1q _, Boxed.alloc b2q _, Boxed.alloc b3q _, Boxed.alloc b4q _, hbw, by simp, fun c hc => by cases hc⟩
      have htw := htbH.out.below hgw hbw
      have hszw : (wq.alloc (.cells #[.int .u32 (z : Int)] 23)).heap.size = wq.heap.size + 1 := by simp
      have hsqH := Lib.hid hsq
      clear b0q b1q b2q b3q b4q hbq hsq
      go_wp2
      refine (wpIn_wide (n := 4)).1 ?_
      generalize wq.alloc (.cells #[.int .u32 (z : Int)] 23) = wC at *
      generalize hss : w.heap.size = s at *
      generalize hs1' : wq.heap.size = s1 at *
      have hsq := hsqH.out
      refine' rangeFunc_box (n := 4) (α := Bt z) (gf := 19) (lb := #[.pointer (some ⟨s1, 0, none⟩)]) (by omega) rfl (enters_of Tryd.func19 (by kernel_rfl) rfl)
        (each_stops 3 (by omega) s1 s z (by omega) wC htw hgw (by omega) bE (by omega)) (by omega) (fun h h' => KpE.trans h h') (kpE_b (by omega) (by omega)) (Below.refl _ _) (fun _ => rfl)
        (LI ts ring l x At Al ct cl s (s1 + 1) w) (LX ts ring l x s (s1 + 1) w) ?hI ?hIb ?hX ?hXb h0I _ ?assign ?body ?done ?stop
      case hI => exact fun pre A C row h hg hr => h.abides (by omega) hg (fun r e => by have := hr r e; omega)
      case hIb => exact fun pre A C row h hg hr => h.abides (by omega) hg (fun r e => by have := hr r e; omega)
      case hX => exact fun c pre A C row h hg hr => h.abides (by have := h.2.1.size; omega) hg (fun r e => by have := hr r e; omega) (.inl fun k e => (hr k e).2)
      case hXb => exact fun c pre A C row h hg hr => h.abides (by have := h.2.1.size; omega) hg (fun r e => by have := hr r e; omega) (.inr fun k e => by have := hr k e; omega)
      case assign =>
        intro l0 y W K hK
        gi_wp2
        exact hK
      case body =>
        rintro l0 pre y W ⟨b0, b1, b2, b3, b4, hbW, htW0, hno⟩ _
        have hyz : (nextW ts l x).testBit y.1 = true := by rw [hzH.out]; exact y.2.2
        have hsn := unA_snoc pre y
        obtain ⟨c, hcy⟩ : ∃ c, y.1 = c := ⟨_, rfl⟩
        rw [hcy] at hyz hsn
        simp only [hcy]
        clear hcy
        have hsnH := Lib.hid hsn
        clear hsn
        have hyx := (nextW_bit.1 hyz).1
        have hcn : c < ts.length := lt_bitN hx hyx
        have hc32 : c < 32 := by omega
        have hpc : 2 ^ c < 2 ^ 32 := Nat.pow_lt_pow_right (by omega) hc32
        have hpw : IntKind.u32.wrap ((2 : Int) ^ c) = ((2 ^ c : Nat) : Int) := by rw [IntKind.wrap_u32']; exact two_pow_u32 c (by omega)
        have hdw : bits .andNot .u32 (x : Int) ((2 ^ c : Nat) : Int) = ((del x c : Nat) : Int) := u32_andNot_nat x (2 ^ c) (by omega) (by omega)
        have hdw2 : bits .andNot .u32 (x : Int) ((2 : Int) ^ c) = ((del x c : Nat) : Int) := by rw [show ((2 : Int) ^ c) = ((2 ^ c : Nat) : Int) by simp]; exact hdw
        have hdl := del_le x c
        have hperm := bitsL_sub hx32 hyx
        have hdd : (bitsL (del x c)).length = d := by have := hperm.length_eq; rw [hd] at this; simpa using this
        have hbt := fun (X : World) (h : Below W.heap.size W X) => hbW.trans (h.mono (by have := hbW.size; omega))
        have hC := fun (Al' : Option Addr) (cl' : Nat) (X : World) (h : Below W.heap.size W X) (hr : Rd X Al' (l ++ [c]).length 1 (ints .i64 (natI (l ++ [c])))) (hcl' : (l ++ [c]).length ≤ cl') =>
          ih (l ++ [c]) (del x c) hdd (by simp; omega) (fun a ha => by
            rcases List.mem_append.1 ha with h | h
            · exact hlbH.out a h
            · obtain rfl : a = c := by simpa using h
              exact hcn) (by omega) (fun _ => .inl (by simp)) Al' cl' X (hrtH.out.later (by rw [hss]; exact hbt X h)) hr hcl' (htbH.out.below hgw (hbt X h)) (by have := (hbt X h).size; omega)
        have hrlW : Rd W Al l.length 1 (ints .i64 (natI l)) := hrlH.out.later (by rw [hss]; exact hbW)
        simp only [natI_snoc, List.length_append, List.length_singleton] at hC
        have hstep := fun R => @Whole.of_step ts l R ring x c hx32 hyz
        have hCH := Lib.hid hC; have hnoH := Lib.hid hno; have hbWH := Lib.hid hbW; have hrlWH := Lib.hid hrlW; have hstepH := Lib.hid hstep; have hbtH := Lib.hid hbt
        have b0H := Lib.hid b0; have b1H := Lib.hid b1; have b2H := Lib.hid b2; have b3H := Lib.hid b3; have b4H := Lib.hid b4
        have c0 := b0.cell; have c1 := b1.cell; have c2 := b2.cell; have c3 := b3.cell
        have c0l := b0.lt; have c1l := b1.lt; have c2l := b2.lt; have c3l := b3.lt
        clear hC hno hbW hrlW hstep hbt b0 b1 b2 b3 b4 hperm hdd
        gi_wp2
        refine region_round_held (fun w' => Below W.heap.size W w') (by kernel_rfl) (by kernel_rfl) (by rintro ⟨a, w, h⟩; exact h) ((Below.refl _ W).drew) (fun hHeld => ?_)
        refine wpAnyH_take (i := 0) (v := .slice At ts.length ct) rfl (by kernel_rfl) (by kernel_rfl) (by kernel_rfl) (fun _ _ _ h => h) (Or.inl ⟨by rfl, fun w' hSw => by have k := below_cell hSw c0l c0; go_simp⟩) hHeld ?_
        simp only [Act.put, List.setIfInBounds_toArray, List.set_cons_zero, List.set_cons_succ]
        refine wpAnyH_take (i := 1) (v := .slice Al l.length cl) rfl (by kernel_rfl) (by kernel_rfl) (by kernel_rfl) (fun _ _ _ h => h) (Or.inl ⟨by rfl, fun w' hSw => by have k := below_cell hSw c1l c1; go_simp⟩) hHeld ?_
        simp only [Act.put, List.setIfInBounds_toArray, List.set_cons_zero, List.set_cons_succ]
        refine wpAnyH_take (i := 2) (v := .slice Al l.length cl) rfl (by kernel_rfl) (by kernel_rfl) (by kernel_rfl) (fun _ _ _ h => h) (Or.inl ⟨by rfl, fun w' hSw => by have k := below_cell hSw c1l c1; go_simp⟩) hHeld ?_
        simp only [Act.put, List.setIfInBounds_toArray, List.set_cons_zero, List.set_cons_succ]
        refine wpAnyH_take (i := 3) (v := .int .i64 (l.length : Int)) rfl (by kernel_rfl) (by kernel_rfl) (by kernel_rfl) (fun _ _ _ h => h) (Or.inl ⟨by rfl, fun w' hSw => by go_simp⟩) hHeld ?_
        simp only [Act.put, List.setIfInBounds_toArray, List.set_cons_zero, List.set_cons_succ]
        refine wpAnyH_take (i := 4) (v := .slice Al l.length cl) rfl (by kernel_rfl) (by kernel_rfl) (by kernel_rfl) (fun _ _ _ h => h) (Or.inl ⟨by rfl, fun w' hSw => by have k := below_cell hSw c1l c1; go_simp⟩) hHeld ?_
        simp only [Act.put, List.setIfInBounds_toArray, List.set_cons_zero, List.set_cons_succ]
        refine wpAnyH_take (i := 5) (v := .int .i64 (l.length : Int)) rfl (by kernel_rfl) (by kernel_rfl) (by kernel_rfl) (fun _ _ _ h => h) (Or.inl ⟨by rfl, fun w' hSw => by go_simp⟩) hHeld ?_
        simp only [Act.put, List.setIfInBounds_toArray, List.set_cons_zero, List.set_cons_succ]
        refine wpAnyH_take (i := 6) (v := .slice Al l.length l.length) rfl (by kernel_rfl) (by kernel_rfl) (by kernel_rfl) (fun _ _ _ h => h) (Or.inl ⟨by rfl, fun w' hSw => by go_simp⟩) hHeld ?_
        simp only [Act.put, List.setIfInBounds_toArray, List.set_cons_zero, List.set_cons_succ]
        refine wpAnyH_take (i := 7) (v := .int .i64 (c : Int)) rfl (by kernel_rfl) (by kernel_rfl) (by kernel_rfl) (fun _ _ _ h => h) (Or.inl ⟨by rfl, fun w' hSw => by go_simp⟩) hHeld ?_
        simp only [Act.put, List.setIfInBounds_toArray, List.set_cons_zero, List.set_cons_succ]
        refine wpAnyH_take (i := 10) (v := .int .u32 (x : Int)) rfl (by kernel_rfl) (by kernel_rfl) (by kernel_rfl) (fun _ _ _ h => h) (Or.inl ⟨by rfl, fun w' hSw => by have k := below_cell hSw c2l c2; go_simp⟩) hHeld ?_
        simp only [Act.put, List.setIfInBounds_toArray, List.set_cons_zero, List.set_cons_succ]
        refine wpAnyH_take (i := 11) (v := .int .i64 (c : Int)) rfl (by kernel_rfl) (by kernel_rfl) (by kernel_rfl) (fun _ _ _ h => h) (Or.inl ⟨by rfl, fun w' hSw => by go_simp⟩) hHeld ?_
        simp only [Act.put, List.setIfInBounds_toArray, List.set_cons_zero, List.set_cons_succ]
        refine wpAnyH_take (i := 12) (v := .int .u32 ((2 ^ c : Nat) : Int)) rfl (by kernel_rfl) (by kernel_rfl) (by kernel_rfl) (fun _ _ _ h => h) (Or.inl ⟨by rfl, fun w' hSw => by go_simp⟩) hHeld ?_
        simp only [Act.put, List.setIfInBounds_toArray, List.set_cons_zero, List.set_cons_succ]
        refine wpAnyH_take (i := 13) (v := .int .u32 ((del x c : Nat) : Int)) rfl (by kernel_rfl) (by kernel_rfl) (by kernel_rfl) (fun _ _ _ h => h) (Or.inl ⟨by rfl, fun w' hSw => by go_simp⟩) hHeld ?_
        simp only [Act.put, List.setIfInBounds_toArray, List.set_cons_zero, List.set_cons_succ]
        refine wpAnyH_take (i := 14) (v := .bool ring) rfl (by kernel_rfl) (by kernel_rfl) (by kernel_rfl) (fun _ _ _ h => h) (Or.inl ⟨by rfl, fun w' hSw => by have k := below_cell hSw c3l c3; go_simp⟩) hHeld ?_
        simp only [Act.put, List.setIfInBounds_toArray, List.set_cons_zero, List.set_cons_succ]
        refine wpAnyH_ready (rs := [8]) (by kernel_rfl) (by simp) ?_
        refine AllReadyH.cons rfl (fun K hK => ?_) AllReadyH.nil
        go_simp
        have hb1 : Below W.heap.size W (W.drew.alloc (.cells #[.int .i64 (c : Int)] 3)) := ((Below.refl _ W).drew).alloc (Nat.le_refl _) _
        refine hK.out _ _ hb1 (fun _ => ?_)
        clear hK K
        refine wpAnyH_ready (rs := [9]) (by kernel_rfl) (by simp) ?_
        refine AllReadyH.cons rfl (fun K hK => ?_) AllReadyH.nil
        refine step_app_full (s := .tmp 57) (x := .tmp 59) tiI ((hrlWH.out.drew).alloc _) (fun h => ?_) (rd_new1 W.drew (.int .i64 (c : Int)) 3) (ints_one (l := [(c : Int)])) (by omega) (by omega) (by omega) rfl rfl rfl rfl ?_
        · rcases Nat.eq_zero_or_pos l.length with h0 | h0
          · exact h0
          · obtain ⟨b, o, hA, _⟩ := hrlWH.out.2 h0
            rw [hA] at h; cases h
        intro v' wA ownA gA
        have hb2 := hb1.grown gA (by simp) (fun k e => by cases e)
        obtain ⟨A', cA, rfl⟩ := own_slice ownA
        have hrA := Rd.of_own ownA
        have hAb := fun k e => ownA.lt k e
        have hcA : l.length + 1 ≤ cA := by
          rcases ownA.2 with ⟨h, _⟩ | ⟨g, cap, cur, h, _, _, h2, _⟩
          · cases h
          · cases h; exact h2
        refine hK.out _ _ hb2 (fun _ => ?_)
        have HC := Lib.hid (hCH.out A' cA wA hb2 (by simpa [ints] using hrA) hcA)
        clear hK K hb1 ownA gA hcA hrA
        simp only [Act.put, List.setIfInBounds_toArray, List.set_cons_zero, List.set_cons_succ]
        refine wpAnyH_ready (rs := [15]) (by kernel_rfl) (by simp) ?_
        refine AllReadyH.cons rfl (fun K hK => ?_) AllReadyH.nil
        go_simp
        refine HC.out.mono ?_
        rintro e wD ⟨hbD, ⟨A2, c2', R, rfl, hR, hRc, hA2, hWh⟩ | ⟨rfl, hno2⟩⟩
        · have hRp : 0 < R.length := by obtain ⟨M, rfl, _⟩ := hWh; simp; omega
          obtain ⟨bR, oR, rfl, hbR, _⟩ := hR.2 hRp
          have hlo : s1 + 1 ≤ bR := by
            rcases hA2 with h | h
            · have := hAb bR (by rw [← h]; rfl)
              simp at this; omega
            · have := h bR oR rfl
              have := hb2.size; omega
          have hbWD := hb2.trans (hbD.mono hb2.size)
          refine hK.out _ _ hbWD (fun hHeld => ?_)
          clear hK K
          refine wpAnyH_take (i := 16) (v := .slice (some ⟨bR, oR, none⟩) R.length c2') rfl (by kernel_rfl) (by kernel_rfl) (by kernel_rfl) (fun _ _ _ h => h) (Or.inl ⟨by rfl, fun w' hSw => by go_simp⟩) hHeld ?_
          simp only [Act.put, List.setIfInBounds_toArray, List.set_cons_zero, List.set_cons_succ]
          refine wpAnyH_done (by kernel_rfl) ?_ _
          have b4D : Boxed wD (s + 4) 31 (.slice none 0 0) := (hbWD.block _ b4H.out.lt).trans b4H.out
          have c4 := b4D.cell; have f4 := b4D.frozen; have l4 := b4D.lt
          have hgs := grownBy_setCell' wD (s + 4) (.slice (some ⟨bR, oR, none⟩) R.length c2')
          have hX : LX ts ring l x s (s1 + 1) w .ret (pre ++ [y]) (wD.setCell ⟨s + 4, 0, none⟩ (.slice (some ⟨bR, oR, none⟩) R.length c2')) :=
            ⟨rfl, below_row (hbtH.out wD hbWD) hgs (by omega) (fun r e => by cases e; omega), _, c2', R, b4D.set _, hR.grown hgs (fun b o e he => by cases e; cases he; omega), hRc, (fun b o e => by cases e; exact hlo), hstepH.out R hWh⟩
          have hKF : KeepsFrom wC.heap.size W (wD.setCell ⟨s + 4, 0, none⟩ (.slice (some ⟨bR, oR, none⟩) R.length c2')) :=
            (KeepsFrom.of_grownBy (grown_of_below' none hbWD) (fun j e => by cases e)).trans ((KeepsOthers.setCell _ _ _).from _)
          clear hgs b4D hR hbD hbWD hWh hA2 hAb hb2
          gi_wp2
          exact ⟨hKF, hX⟩
        · have hbWD := hb2.trans (hbD.mono hb2.size)
          refine hK.out _ _ hbWD (fun hHeld => ?_)
          clear hK K
          refine wpAnyH_take (i := 16) (v := .slice none 0 0) rfl (by kernel_rfl) (by kernel_rfl) (by kernel_rfl) (fun _ _ _ h => h) (Or.inl ⟨by rfl, fun w' hSw => by go_simp⟩) hHeld ?_
          simp only [Act.put, List.setIfInBounds_toArray, List.set_cons_zero, List.set_cons_succ]
          refine wpAnyH_done (by kernel_rfl) ?_ _
          have mv : ∀ {k : Nat} {T : Nat} {v : Value}, Boxed W k T v → Boxed wD k T v := fun b => (hbWD.block _ b.lt).trans b
          have hI : LI ts ring l x At Al ct cl s (s1 + 1) w (pre ++ [y]) wD := ⟨mv b0H.out, mv b1H.out, mv b2H.out, mv b3H.out, mv b4H.out, hbtH.out wD hbWD, by have := hbWD.size; omega, fun c' hc' => by
            rw [hsnH.out] at hc'
            rcases List.mem_append.1 hc' with hc' | hc'
            · exact hnoH.out c' hc'
            · obtain rfl : c' = c := by simpa using hc'
              exact hno2⟩
          have hKF : KeepsFrom wC.heap.size W wD := KeepsFrom.of_grownBy (grown_of_below' none hbWD) (fun j e => by cases e)
          have hKp : KpE s s1 W wD := ⟨hbWD.mono (by omega), hbWD.block s1 (by omega)⟩
          clear mv hbD hbWD hb2 hAb hno2
          gi_wp2
          exact ⟨hKF, hKp, hI⟩
      case done =>
        rintro D ys W hD hys ⟨b0, b1, b2, b3, b4, hbW, htW0, hno⟩ hK
        have hys' : unA ys = bitsL z := hys
        have hno2 : ∀ R, ¬ Whole ts ring l x R := fun R hR => by
          obtain ⟨c, hc, hR2⟩ := hR.to_step hx32 hx0
          rw [hzH.out] at hc
          have : c < 32 := lt_bitN (show z < 2 ^ 32 by omega) hc
          exact hno c (by rw [hys']; exact mem_bitsL.2 ⟨by omega, hc⟩) R hR2
        have c4 := b4.cell; have f4 := b4.frozen; have l4 := b4.lt
        have hgs := grownBy_setCell' W (s + 4) (.slice none 0 0)
        have bf := b4.set (.slice none 0 0)
        have hb2 := below_row hbW hgs (by omega) (fun r e => by cases e; omega)
        have hDl : (W.setCell ⟨s + 4, 0, none⟩ (.slice none 0 0)).heap[D]? = some (.deferred (some [])) := (hgs.block D (Array.getElem?_eq_some_iff.1 hK).1 (by simp; omega)).trans hK
        have bfH := Lib.hid bf; have hb2H := Lib.hid hb2; have hDH := Lib.hid hDl; have hnoH := Lib.hid hno2
        clear b0 b1 b2 b3 b4 hbW hno hys hys' hgs bf hb2 hK hDl hno2
        go_wp2
        refine leaves_marksJ (B := s1) (J := fun W' => Boxed W' (s + 4) 31 (.slice none 0 0) ∧ Below s w W' ∧ s ≤ W'.heap.size) (Marks.push (T := s1) (ds := []) trivial (by omega) (by omega) hDH.out) ⟨bfH.out, hb2H.out, by have := hb2H.out.size; omega⟩
          (fun V r o' hV _ hr => ⟨hV.1.kept (grownBy_putObj' V r o') (by simp; omega), below_row hV.2.1 (grownBy_putObj' V r o') hV.2.2 (fun r' e => by cases e; omega), by have := (grownBy_putObj' V r o').size; omega⟩)
          fun w' hw' => ⟨.slice none 0 0, by have k6 := hw'.1.cell; simp [results, Tryd.results17, go_sem, k6], by rw [← hss] at hw'; exact hw'.2.1, .inr ⟨rfl, hnoH.out⟩⟩
      case stop =>
        rintro D c pre W hD _ ⟨rfl, hbW, A, k, R, b4, hR, hRk, hA, hWh⟩ hK
        have bH := Lib.hid b4; have hbH := Lib.hid hbW; have hRH := Lib.hid hR; have hAH := Lib.hid hA; have hWH := Lib.hid hWh; have hDH := Lib.hid hK
        have hsW : s ≤ W.heap.size := by have := b4.lt; omega
        clear b4 hbW hR hA hWh hK
        gi_wp2
        refine leaves_marksJ (B := s1) (J := fun W' => Boxed W' (s + 4) 31 (.slice A R.length k) ∧ Below s w W' ∧ s ≤ W'.heap.size ∧ Rd W' A R.length 1 (ints .i64 (natI R))) (Marks.push (T := s1) (ds := []) trivial (by omega) (by omega) hDH.out) ⟨bH.out, hbH.out, hsW, hRH.out⟩
          (fun V r o' hV hd hr => ⟨hV.1.kept (grownBy_putObj' V r o') (by simp; omega), below_row hV.2.1 (grownBy_putObj' V r o') hV.2.2.1 (fun r' e => by cases e; omega), by have := (grownBy_putObj' V r o').size; omega, hV.2.2.2.off (by omega) (grownBy_putObj' V r o') (fun q e => by cases e; exact ⟨_, hd, rfl⟩)⟩)
          fun w' hw' => ⟨.slice A R.length k, by have k6 := hw'.1.cell; simp [results, Tryd.results17, go_sem, k6], by rw [← hss] at hw'; exact hw'.2.1, .inl ⟨A, k, R, rfl, hw'.2.2.2, hRk, .inr (fun b o e => by have := hAH.out b o e; omega), hWH.out⟩⟩
end Go.Proofs.YtnlgmjigadgneaaDoor
