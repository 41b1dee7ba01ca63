/- teamsterkeep.forest: is a list of places a forest? -/
import Derived.Test.YtdmbbddkbfknlaaSome
import Derived.Test.YtdmbbddkbfknlaaForest
import Derived.Test.YtdmbbddkbfknlaaUnlike
import Derived.Test.YtdmbbddkbfknlaaRefParts
import Derived.Test.YtdmbbddkbfknlaaInside
import Derived.Test.YtdmbbddkbfknlaaOnce
import Derived.Test.YtdmbbddkbfknlaaIntsEq
import Derived.Test.YtdmbbddkbfknlaaMid
namespace Go.Proofs.Ytdmbbddkbfknlaa
open Go.RowKit
attribute [local go_sem] Oper.semAt_some

theorem natI_of_in {n : Nat} : ∀ {zs : List Int}, insideB n zs = true → ∃ l : List Nat, zs = natI l ∧ ∀ i ∈ l, i < n
  | [], _ => ⟨[], rfl, by simp⟩
  | z :: zs, h => by
    unfold insideB at h
    rw [List.all_cons, Bool.and_eq_true] at h
    obtain ⟨l, rfl, hl⟩ := natI_of_in (zs := zs) h.2
    have h1 := h.1
    unfold inB at h1
    rw [Bool.and_eq_true, decide_eq_true_eq, decide_eq_true_eq] at h1
    refine ⟨z.toNat :: l, ?_, fun i hi => ?_⟩
    · unfold natI; rw [List.map_cons]; congr 1; omega
    · rcases List.mem_cons.1 hi with rfl | hi
      · omega
      · exact hl i hi
theorem in_of_natI {n : Nat} {l : List Nat} (h : ∀ i ∈ l, i < n) : insideB n (natI l) = true := by
  unfold insideB natI
  rw [List.all_eq_true]
  intro z hz
  obtain ⟨i, hi, rfl⟩ := List.mem_map.1 hz
  have := h i hi
  unfold inB
  rw [decide_eq_true (by omega), decide_eq_true (by omega)]; rfl
theorem natI_inj {l m : List Nat} (h : natI l = natI m) : l = m := by
  unfold natI at h
  exact (List.map_inj_right (fun a b e => by exact Int.ofNat.inj e)).1 h
theorem once_nodup {l : List Nat} : onceB (natI l) = true ↔ l.Nodup := by
  unfold onceB
  rw [List.all_eq_true, List.nodup_iff_pairwise_ne, List.pairwise_iff_getElem]
  have hl : (natI l).length = l.length := by simp [natI]
  constructor
  · intro h i j hi hj hij e
    have := h j (by rw [List.mem_range, hl]; exact hj)
    rw [Bool.not_eq_true', hasB, List.any_eq_false] at this
    refine this (l[i] : Int) ?_ ?_
    · rw [List.mem_take_iff_getElem]
      exact ⟨i, by rw [hl]; omega, by simp [natI]⟩
    · simp [natI, List.getD, hj, e]
  · intro h k hk
    rw [List.mem_range, hl] at hk
    rw [Bool.not_eq_true', hasB, List.any_eq_false]
    intro y hy
    obtain ⟨i, hi, rfl⟩ := List.mem_take_iff_getElem.1 hy
    rw [hl] at hi
    have := h i k (by omega) hk (by omega)
    simp [natI, List.getD, hk]
    omega
theorem nodup_len {n : Nat} {l : List Nat} (h : l.Nodup) (hin : ∀ i ∈ l, i < n) : l.length ≤ n := by
  have := h.length_le_of_subset (l₂ := List.range n) fun x hx => List.mem_range.2 (hin x hx)
  simpa using this
theorem part_row {N : Nat} {es : List E} (hok : ∀ e ∈ es, okE N e) {p : Nat → Nat} (hp : ∀ i, i < N → IsPart es N i (p i)) : (List.range N).map (fun i => (p i : Int)) = (List.range N).map fun i => ((lab es i : Nat) : Int) :=
  List.map_congr_left fun i hi => by rw [isPart_lab hok (List.mem_range.1 hi) (hp i (List.mem_range.1 hi))]
theorem row_ints (N : Nat) (F : Nat → Int) : row N F = ints .i64 ((List.range N).map F) := by simp [row, ints]
set_option maxHeartbeats 3200000 in
set_option maxRecDepth 100000 in
theorem forest_any (N : Nat) (A L : Option Addr) (len cap ll cl : Nat) (es : List E) (zs : List Int) (w : World) (hr : Rd w A len 3 (ps3 .i64 .i64 .i64 es)) (hrl : Rd w L ll 1 (ints .i64 zs)) (hN : N ≤ 10) (hl : len ≤ 45) (hok : ∀ e ∈ es, okE N e) (hll : ll ≤ 9223372036854775807) (hcl : ll ≤ cl) :
    Calls Try.prog 7 #[.agg #[.int .i64 N, .slice A len cap], .slice L ll cl] w fun e w' => ∃ b : Bool, e = .returned (.bool b) ∧ (b = true ↔ ∃ l, zs = natI l ∧ IsFor es N l) ∧ Below w.heap.size w w' := by
  have hel : es.length = len := ps3_len hr
  have gb := (Below.refl _ w).alloc (Nat.le_refl _) (.cells #[.int .i64 N, .slice A len cap] 24)
  have hK := Blk.new w 24 #[.int .i64 N, .slice A len cap]
  have HI := Lib.hid (inside_any len L ll cl zs _ (hrl.later gb) hll)
  have HO := Lib.hid (once_any L ll cl zs _ (hrl.later gb) hll hcl)
  have hzl : zs.length = ll := by simpa [ints] using hrl.1
  have hg1 := hK.cell (j := 1) (v := .slice A len cap) rfl
  have hrH := Lib.hid hr; have hrlH := Lib.hid hrl; have gbH := Lib.hid gb; have hKH := Lib.hid hK; have hokH := Lib.hid hok
  have hlen2 : len ≤ 9223372036854775807 := by omega
  clear hr hrl gb hK hok
  cases hin : insideB len zs with
  | false =>
    have hno := Lib.hid (show false = true ↔ ∃ l, zs = natI l ∧ IsFor es N l from ⟨fun h => Bool.noConfusion h, fun ⟨l, e, h⟩ => (by
      rw [e, ← hel, in_of_natI h.ins] at hin
      cases hin)⟩)
    rw [hin] at HI
    clear hel hin HO
    go_enter Try.func7, Try.ntmps7
    go_wp2_with fail
    refine HI.out.mono ?_
    rintro _ _ ⟨rfl, rfl⟩
    go_wp2
    go_ret
    exact ⟨false, rfl, hno.out, gbH.out⟩
  | true =>
    obtain ⟨l, rfl, hins⟩ := natI_of_in hin
    rw [hin] at HI
    cases hon : onceB (natI l) with
    | false =>
      have hno := Lib.hid (show false = true ↔ ∃ l2, natI l = natI l2 ∧ IsFor es N l2 from ⟨fun h => Bool.noConfusion h, fun ⟨l2, e, h⟩ => (by
        rw [e, once_nodup.2 h.one] at hon
        cases hon)⟩)
      rw [hon] at HO
      clear hel hin hon hins hzl
      go_enter Try.func7, Try.ntmps7
      go_wp2_with fail
      refine HI.out.mono ?_
      rintro _ _ ⟨rfl, rfl⟩
      go_wp2_with fail
      refine HO.out.mono ?_
      rintro _ _ ⟨rfl, rfl⟩
      go_wp2
      go_ret
      exact ⟨false, rfl, hno.out, gbH.out⟩
    | true =>
      rw [hon] at HO
      have hnd := once_nodup.1 hon
      have hll2 : l.length = ll := by simpa [natI] using hzl
      have hle := nodup_len hnd hins
      have hrt : rts N es ≤ N := by unfold rts cntB; exact Nat.le_trans (List.length_filter_le _ _) (by simp)
      have hres := Lib.hid (show ∀ b1 b2 : Bool, b1 = decide ((List.range N).map (fun i => ((lab (l.map (eAt es)) i : Nat) : Int)) = (List.range N).map fun i => ((lab es i : Nat) : Int)) → b2 = decide ((ll : Int) = (N : Int) - (rts N es : Int)) → ((b1 && b2) = true ↔ ∃ l2, natI l = natI l2 ∧ IsFor es N l2) from fun b1 b2 e1 e2 => by
        subst e1; subst e2
        rw [Bool.and_eq_true, decide_eq_true_eq, decide_eq_true_eq]
        constructor
        · rintro ⟨h1, h2⟩
          refine ⟨l, rfl, ⟨by rw [hel]; exact hins, hnd, fun i hi => ?_, by omega⟩⟩
          have := List.map_inj_left.1 h1 i (List.mem_range.2 hi)
          omega
        · rintro ⟨l2, e, h⟩
          obtain rfl := natI_inj e
          refine ⟨List.map_congr_left fun i hi => by rw [h.par i (List.mem_range.1 hi)], ?_⟩
          have := h.cnt
          omega)
      have HP := Lib.hid (fun W (h : Below w.heap.size w W) => refParts_any N A len cap es W (hrH.out.later h) hN hl hokH.out)
      have HS := Lib.hid (fun W (h : Below w.heap.size w W) => some_any N A L len cap ll cl es l W (hrH.out.later h) (hrlH.out.later h) (by rw [hel]; exact hins) (by omega))
      have hokS : ∀ e ∈ l.map (eAt es), okE N e := fun e he => by
        obtain ⟨i, hi, rfl⟩ := List.mem_map.1 he
        have := hins i hi
        refine hokH.out _ ?_
        unfold eAt; rw [List.getD, List.getElem?_eq_getElem (by omega)]; exact List.getElem_mem _
      have hokSH := Lib.hid hokS
      have hSl : (l.map (eAt es)).length ≤ 45 := by rw [List.length_map]; omega
      have hSlH := Lib.hid hSl
      have hllN : (ll : Int) ≤ 9223372036854775807 := by omega
      clear hel hin hon hins hzl hokS hSl hnd hle hll2
      generalize l.map (eAt es) = fs at *
      go_enter Try.func7, Try.ntmps7
      go_wp2_with fail
      refine HI.out.mono ?_
      rintro _ _ ⟨rfl, rfl⟩
      go_wp2_with fail
      refine HO.out.mono ?_
      rintro _ _ ⟨rfl, rfl⟩
      clear HI HO
      have hg0 := hKH.out.cell (j := 0) (v := .int .i64 (N : Int)) rfl
      go_wp2_with fail
      refine (HP.out _ gbH.out).mono ?_
      rintro _ w1 ⟨v1, p1, rfl, hown1, hp1, hb1⟩
      have hb1w := gbH.out.trans (hb1.mono gbH.out.size)
      have hK1 := hKH.out.below hb1 hKH.out.lt
      have g10 := hK1.cell (j := 0) (v := .int .i64 (N : Int)) rfl
      have g11 := hK1.cell (j := 1) (v := .slice A len cap) rfl
      obtain ⟨A1, c1, rfl⟩ := own_slice hown1
      have hown1' := hown1
      rw [row_ints, part_row hokH.out hp1] at hown1
      have hrd1 := Rd.of_own hown1
      have hcp1 := own_capS hown1
      have hb1H := Lib.hid hb1w; have hrd1H := Lib.hid hrd1; have hK1H := Lib.hid hK1
      clear hown1 hown1' hp1 hb1 hb1w hK1 hrd1 hg0 hg1
      go_upto_region 4 with fail
      refine wp_region_any (by kernel_rfl) ?_
      change wpAny _ _ _ _ _ _ _ (World.drew _)
      have hbd := hb1H.out.drew
      have hrdd : Rd w1.drew A1 N 1 _ := hrd1H.out.drew
      have hKd : Blk w1.drew _ _ _ := hK1H.out
      have gd0 := hKd.cell (j := 0) (v := .int .i64 (N : Int)) rfl
      have gd1 := hKd.cell (j := 1) (v := .slice A len cap) rfl
      clear g10 g11 hb1H hrd1H hK1H
      generalize w1.drew = wd at *
      (refine wpAny_take (i := 1) (v := ?_) rfl (by kernel_rfl) (by kernel_rfl) (by kernel_rfl) (fun _ _ _ h => h) (Or.inl ⟨by rfl, ?_⟩) ?_; rotate_left; first | (intro w; go_simp; done) | (intro w; go_simp; with_reducible rfl))
      (refine wpAny_take (i := 4) (v := ?_) rfl (by kernel_rfl) (by kernel_rfl) (by kernel_rfl) (fun _ _ _ h => h) (Or.inl ⟨by rfl, ?_⟩) ?_; rotate_left; first | (intro w; go_simp; done) | (intro w; go_simp; with_reducible rfl))
      (refine wpAny_ready (rs := [0]) (by kernel_rfl) (by simp) ?_; refine AllReady.cons rfl (fun K hK => ?_) AllReady.nil; go_simp)
      refine hK _ _ ?_
      clear hK K
      (refine wpAny_ready (rs := [2]) (by kernel_rfl) (by simp) ?_; refine AllReady.cons rfl (fun K hK => ?_) AllReady.nil; go_simp)
      refine (HS.out _ hbd).mono ?_
      rintro _ w2 ⟨A2, c2, rfl, hrd2, hcp2, hb2⟩
      have hSl2 := hSlH.out
      obtain ⟨m, hm⟩ : ∃ m, fs.length = m := ⟨_, rfl⟩
      rw [hm] at hrd2 hSl2 ⊢
      refine hK _ _ ?_
      clear hK K
      (refine wpAny_ready (rs := [3]) (by kernel_rfl) (by simp) ?_; refine AllReady.cons rfl (fun K hK => ?_) AllReady.nil; go_simp)
      refine (refParts_any N A2 m c2 fs w2 hrd2 hN hSl2 hokSH.out).mono ?_
      rintro _ w3 ⟨v3, p3, rfl, hown3, hp3, hb3⟩
      obtain ⟨A3, c3, rfl⟩ := own_slice hown3
      rw [row_ints, part_row hokSH.out hp3] at hown3
      have hrd3 := Rd.of_own hown3
      have hb23 := hb2.trans (hb3.mono hb2.size)
      have hb3w := hbd.trans (hb23.mono hbd.size)
      refine hK _ _ ?_
      clear hK K
      (refine wpAny_ready (rs := [5]) (by kernel_rfl) (by simp) ?_; refine AllReady.cons rfl (fun K hK => ?_) AllReady.nil; go_simp)
      have hIe := ints_any A3 N c3 _ A1 N c1 _ w3 hrd3 (by omega) (hrdd.later hb23)
      have hres2 := Lib.hid (hres.out _ (decide ((ll : Int) = (N : Int) - (rts N es : Int))) rfl rfl)
      generalize decide ((List.range N).map (fun i => ((lab fs i : Nat) : Int)) = (List.range N).map fun i => ((lab es i : Nat) : Int)) = b1 at *
      refine hIe.mono ?_
      rintro _ w4 ⟨rfl, hb4⟩
      refine hK _ _ ?_
      clear hK K
      (refine wpAny_take (i := 6) (v := ?_) rfl (by kernel_rfl) (by kernel_rfl) (by kernel_rfl) (fun _ _ _ h => h) (Or.inl ⟨by rfl, ?_⟩) ?_; rotate_left; first | (intro w; go_simp; done) | (intro w; go_simp; with_reducible rfl))
      have hb24 := hb23.trans (hb4.mono hb23.size)
      have hb4w := hbd.trans (hb24.mono hbd.size)
      have hrd4 := hrdd.later hb24
      have hK4 := hKd.below hb24 hKd.lt
      have g40 := hK4.cell (j := 0) (v := .int .i64 (N : Int)) rfl
      have HU := Lib.hid (fun p : BW w4 => unlike_any A1 N c1 _ p.w' (hrd4.later p.hb) (by omega) (by exact hcp1))
      rw [unl_lab] at HU
      have hb4H := Lib.hid hb4w
      have hrtI : IntKind.i64.wrap ((N : Int) - (rts N es : Int)) = (N : Int) - (rts N es : Int) := IntWalk.i64_in _ (by omega)
      clear hIe hres hrd2 hcp2 hb2 hown3 hp3 hrd3 hb23 hb3w hb3 hb4 hbd hb4w hb24 hrd4 hrdd hKd hokSH hSlH HP HS hSl2 hm
      refine wpAny_drop (C := fun w' => ∃ p : BW w4, w' = p.w') 7 10 (by rfl) (by kernel_rfl) (by kernel_rfl) ⟨⟨_, Below.refl _ _⟩, rfl⟩ ?_
      simp only [List.drop_succ_cons, List.drop_zero]
      go_simp
      cases b1
      · repeat (go_big_quiet_step (first | rfl | fail))
        refine wpQuiet_nil ?_
        rintro ⟨wB, bB⟩
        dsimp only
        have hfin := Lib.hid (hb4H.out.trans (bB.mono hb4H.out.size))
        clear bB
        go_wp2
        go_ret
        exact ⟨false, rfl, hres2.out, hfin.out⟩
      · have gp0 := BW.cell (w := w4) g40
        repeat (go_big_quiet_step (first | rfl | (with_reducible refine Calls.bel0 (HU.out _))))
        refine wpQuiet_nil ?_
        rintro ⟨wB, bB⟩
        dsimp only
        have hfin := Lib.hid (hb4H.out.trans (bB.mono hb4H.out.size))
        clear bB
        go_wp2
        go_ret
        exact ⟨_, rfl, hres2.out, hfin.out⟩
end Go.Proofs.Ytdmbbddkbfknlaa
