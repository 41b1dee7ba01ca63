/- FlowMore: the law, and the walk. -/
import Derived.Test.YtmoengnlimonkaaFlowE
import Derived.Deep.RegionHeld3
namespace Go.Proofs.Ytmoengnlimonkaa
open Go.RowKit Go.Shelf

/-- so much more may go by an arc -/
def bump (i : Nat) (b : Int) (l : List Arc) : List Arc := l.set i ((aat l i).1, (aat l i).2.1, (aat l i).2.2.1 + b, (aat l i).2.2.2)
theorem bump_len (i : Nat) (b : Int) (l : List Arc) : (bump i b l).length = l.length := by simp [bump]
theorem bump_at {i : Nat} {b : Int} {l : List Arc} (hi : i < l.length) (k : Nat) : aat (bump i b l) k = if k = i then ((aat l i).1, (aat l i).2.1, (aat l i).2.2.1 + b, (aat l i).2.2.2) else aat l k := by
  unfold bump
  show List.getD _ _ _ = _
  rw [List.getD, List.getElem?_set]
  by_cases h : i = k
  · subst h; simp [hi]
  · rw [if_neg h, if_neg (Ne.symm h)]; rfl
theorem bump_fr {i : Nat} {b : Int} {l : List Arc} (hi : i < l.length) (k : Nat) : fr (bump i b l) k = fr l k ∧ tn (bump i b l) k = tn l k ∧ mo (bump i b l) k = mo l k + if k = i then b else 0 := by
  unfold fr tn mo
  rw [bump_at hi]
  by_cases h : k = i
  · subst h; simp
  · simp [h]
theorem bump_ex {i : Nat} {b : Int} {l : List Arc} (hi : i < l.length) (f : Nat → Int) (u : Nat) : ex (bump i b l) f u = ex l f u := by
  unfold ex
  rw [bump_len]
  exact sm_congr fun k _ => by rw [(bump_fr hi k).1, (bump_fr hi k).2.1]
theorem bump_cap {i : Nat} {b : Int} {l : List Arc} (hi : i < l.length) (hb : 0 ≤ b) (S : Nat → Bool) : capS (bump i b l) S ≤ capS l S + b := by
  unfold capS
  rw [bump_len]
  have h := sm_upd (fun k => if S (fr l k) && !S (tn l k) then mo l k else 0) (fun k => if S (fr (bump i b l) k) && !S (tn (bump i b l) k) then mo (bump i b l) k else 0) i (if S (fr l i) && !S (tn l i) then b else 0) (by
    rw [(bump_fr hi i).1, (bump_fr hi i).2.1, (bump_fr hi i).2.2, if_pos rfl]
    split <;> rfl) (fun k hk => by
    rw [(bump_fr hi k).1, (bump_fr hi k).2.1, (bump_fr hi k).2.2, if_neg hk, Int.add_zero]) l.length
  rw [h, if_pos hi]
  split <;> omega
theorem more_law {N : Nat} {l : List Arc} {s t i : Nat} {b : Int} {f f' : Nat → Int} {v v' : Int} (hn' : NOk N (bump i b l)) (hi : i < l.length) (hb : 0 ≤ b) (hs : s < N) (h : Mxf N l s t f v) (h' : Mxf N (bump i b l) s t f' v') : v ≤ v' ∧ v' ≤ v + b := by
  obtain ⟨S, h1, h2, h3⟩ := h.ct
  obtain ⟨S', g1, g2, g3⟩ := h'.ct
  have hf : FL N (bump i b l) s t f v := ⟨fun k hk => by
    rw [bump_len] at hk
    have := h.fl.ok k hk
    rw [(bump_fr hi k).2.2]
    split <;> omega, fun u hu a c => by rw [bump_ex hi]; exact h.fl.kp u hu a c, by rw [bump_ex hi]; exact h.fl.vl⟩
  refine ⟨by rw [← g3]; exact hf.le hn' g1 g2 hs, ?_⟩
  have := h'.fl.le hn' h1 h2 hs
  have := bump_cap (l := l) hi hb S
  omega
theorem arcs_bump {i : Nat} {b : Int} : ∀ {l : List Arc}, i < l.length → (arcs l).set (i * 4 + 2) (.int .i64 ((aat l i).2.2.1 + b)) = arcs (bump i b l) := by
  induction i with
  | zero =>
    intro l h
    cases l with
    | nil => simp at h
    | cons a l => simp [arcs, bump, aat, av]
  | succ i ih =>
    intro l h
    cases l with
    | nil => simp at h
    | cons a l =>
      have h2 := ih (l := l) (by simpa using h)
      have e : arcs (a :: l) = .int .i64 a.1 :: .int .i64 a.2.1 :: .int .i64 a.2.2.1 :: .int .i64 a.2.2.2 :: arcs l := by simp [arcs, av]
      have e1 : ∀ (p q r t : Value) (s : List Value) (m : Nat) (u : Value), (p :: q :: r :: t :: s).set (m + 4) u = p :: q :: r :: t :: s.set m u := fun _ _ _ _ _ _ _ => rfl
      have e3 : aat (a :: l) (i + 1) = aat l i := by simp [aat]
      rw [e, show (i + 1) * 4 + 2 = (i * 4 + 2) + 4 by omega, e1, e3, h2]
      simp [bump, arcs, av, aat]
theorem nfst_zero {n : Int} : ∀ {l : List Arc}, (∀ a ∈ l, AOk n a) → nfst n l = 0
  | [], _ => rfl
  | a :: r, h => by
    rw [nfst, if_pos]
    · exact nfst_zero fun b hb => h b (List.mem_cons_of_mem _ hb)
    · have := h a List.mem_cons_self
      unfold achk
      obtain ⟨h1, h2, h3, h4, h5, h6, h7, h8, h9⟩ := this
      rw [if_neg (by omega), if_neg h5, if_neg (by omega)]
theorem bump_ok {N : Nat} {l : List Arc} {s t : Int} {i : Nat} {b : Int} (h : echk N l s t = 0) (hi : i < l.length) (hb : 0 ≤ b) (hm : mo l i + b ≤ 1048576) : echk N (bump i b l) s t = 0 := by
  obtain ⟨h1, h2, h3, h4, h5, h6⟩ := echk_ok h
  obtain ⟨g1, g2, g3, g4⟩ := nchk_ok h1
  have hn : nchk N (bump i b l) = 0 := by
    unfold nchk
    rw [if_neg (by unfold nlarge; rw [bump_len]; omega)]
    refine nfst_zero fun a ha => ?_
    obtain ⟨k, hk, rfl⟩ := List.mem_iff_getElem.1 ha
    rw [bump_len] at hk
    have e : (bump i b l)[k] = aat (bump i b l) k := by simp [aat, List.getD, bump_len, hk]
    rw [e, bump_at hi]
    split
    · have h := g4 _ (aat_mem hi)
      exact ⟨h.f0, h.f1, h.t0, h.t1, h.ne, by have := h.m0; show 0 ≤ (aat l i).2.2.1 + b; omega, hm, h.w0, h.w1⟩
    · exact g4 _ (aat_mem hk)
  unfold echk
  rw [hn, if_neg (by simp), if_neg]
  unfold ebad
  omega
theorem tiA' : TI Try.prog 22 32 (.agg #[.int .i64 0, .int .i64 0, .int .i64 0, .int .i64 0]) 4 32 := TI.mk' Try.underlying22 (by kernel_rfl) rfl (by decide)
def MoreCut (W0 : World) (N : Int) (len : Nat) (l : List Arc) (p : Value) (wx : World) : Prop :=
  ∃ (bm g c : Nat), p = .pointer (some ⟨bm, 0, none⟩) ∧ Blk wx bm 24 #[.int .i64 N, .slice (some ⟨g, 0, none⟩) len c] ∧ wx.ownsRow W0.heap.size 32 4 (.slice (some ⟨g, 0, none⟩) len c) len (arcs l) ∧ W0.heap.size ≤ bm ∧ bm ≠ g ∧ Below W0.heap.size W0 wx
set_option maxHeartbeats 3200000 in
set_option maxRecDepth 100000 in
theorem flowMore_any (n : Int) (A : Option Addr) (len cap : Nat) (l : List Arc) (s t k by' : Int) (w : World) (hr : Rd w A len 4 (arcs l)) (hlen : len ≤ 9223372036854775807) (hk : 0 ≤ k ∧ k < 256) (hby : 0 ≤ by' ∧ by' < 65536) :
    Calls Try.prog 3 #[.agg #[.int .i64 n, .slice A len cap], .int .i64 s, .int .i64 t, .int .u8 k, .int .u16 by'] w fun e w' => e = .returned (.bool true) ∧ Below w.heap.size w w' := by
  have hel := arcs_len hr
  have hb0 := (Below.refl _ w).alloc (Nat.le_refl _) (.cells #[.int .i64 n, .slice A len cap] 24)
  have hr0 := hr.later hb0
  have hK := Blk.new w 24 #[.int .i64 n, .slice A len cap]
  have k0 := hK.cell (j := 0) rfl
  have k1 := hK.cell (j := 1) rfl
  by_cases hok : echk n l s t = 0
  · obtain ⟨h1, h2, h3, h4, h5, h6⟩ := echk_ok hok
    obtain ⟨g1, g2, g3, g4⟩ := nchk_ok h1
    obtain ⟨N, rfl⟩ := Int.eq_ofNat_of_zero_le g1
    obtain ⟨sN, rfl⟩ := Int.eq_ofNat_of_zero_le h2
    obtain ⟨tN, rfl⟩ := Int.eq_ofNat_of_zero_le h4
    have HM := Lib.hid (mostF_ok N A len cap l sN tN _ hr0 hok)
    have hrH := Lib.hid hr; have hKH := Lib.hid hK; have hb0H := Lib.hid hb0; have hokH := Lib.hid hok; have hnH := Lib.hid (⟨g4⟩ : NOk N l); have helH := Lib.hid hel
    clear hr hr0 hK hb0 hok g4 h1 g1 h2 h4
    go_enter Try.func3, Try.ntmps3
    go_wp2_with fail
    refine HM.out.mono ?_
    rintro e w1 ⟨f, v, gl, c, rfl, _, hmx, hv0, hb1⟩
    have hbb := hb0H.out.trans (hb1.mono hb0H.out.size)
    have hK1 : Blk w1 w.heap.size 24 #[.int .i64 N, .slice A len cap] := (hb1.block _ hKH.out.lt).trans hKH.out
    have q0 := hK1.cell (j := 0) rfl
    have q1 := hK1.cell (j := 1) rfl
    have HE := Lib.hid (endsCheck_any N A len cap l sN tN w1 (hrH.out.later hbb) hlen)
    rw [hokH.out] at HE
    have hmxH := Lib.hid hmx; have hbH := Lib.hid hbb; have hK1H := Lib.hid hK1
    clear hb1 hbb hK1 k0 k1 HM hmx
    go_wp2_with fail
    refine HE.out.mono ?_
    rintro e w2 ⟨rfl, hb2⟩
    have hbb := hbH.out.trans (hb2.mono hbH.out.size)
    have hK2 : Blk w2 w.heap.size 24 #[.int .i64 N, .slice A len cap] := (hb2.block _ hK1H.out.lt).trans hK1H.out
    have q0 := hK2.cell (j := 0) rfl
    have q1 := hK2.cell (j := 1) rfl
    have lk2 := hK2.lt
    have hK2H := Lib.hid hK2; have hb2H := Lib.hid hbb
    have hr2 := Lib.hid (hrH.out.later hbb)
    clear hb2 hbb hK2 HE hbH
    rcases Nat.eq_zero_or_pos len with hl0 | hl0
    · subst hl0
      have hv1 := hmxH.out.fl.val_le hnH.out (by omega) (by omega)
      rw [helH.out] at hv1
      obtain rfl : v = 0 := by omega
      go_wp2
      go_ret
      exact ⟨rfl, hb2H.out⟩
    · have hl0' : ((len : Int) == 0) = false := by simp; omega
      go_wp2
      go_cut [14] (fun p wx => MoreCut w2 N len l p wx)
      case first =>
        have E1 := Lib.hid (World.ownsRow_lit (base := w2.heap.size) (e := 32) (size := 4) w2.drew #[] 0 (Nat.le_refl _) (Nat.zero_le _) rfl)
        have E2 := Lib.hid (E1.out.alloc (.cells #[.int .i64 0, .slice none 0 0] 24))
        have hs3 : (w2.drew.alloc (.cells #[.int .i64 0, .slice none 0 0] 24)).heap.size = w2.heap.size + 1 := by simp
        have E3' := World.ownsRow_lit (base := w2.heap.size) (e := 32) (size := 4) (w2.drew.alloc (.cells #[.int .i64 0, .slice none 0 0] 24)) #[] 0 (by simp) (Nat.zero_le _) rfl
        rw [hs3] at E3'
        have E3 := Lib.hid E3'
        clear E3' hs3
        have B1 := (Below.refl w2.heap.size w2).drew.alloc (Nat.le_refl _) (.cells #[] 32)
        have B2 := B1.alloc (by simp) (.cells #[.int .i64 0, .slice none 0 0] 24)
        have B3 := ((Below.refl w2.heap.size w2).drew.alloc (Nat.le_refl _) (.cells #[.int .i64 0, .slice none 0 0] 24)).alloc (by simp) (.cells #[] 32)
        have R1 := Lib.hid (hr2.out.later B1)
        have R2 := Lib.hid (hr2.out.later B2)
        have R3 := Lib.hid (hr2.out.later B3)
        have hne0 : ∀ g : Nat, w2.heap.size ≤ g → (some g : Option Nat) ≠ some w.heap.size := fun g h e => by injection e with e; omega
        go_region_held3 (fun w' => w'.cell? ⟨w.heap.size, 0, none⟩ = some (.int .i64 N) ∧ w'.cell? ⟨w.heap.size, 1, none⟩ = some (.slice A len cap)) (first
          | go_keep
          | (have zA := below_cell (hbA) lk2 q0
             have zB := below_cell (hbA) lk2 q1
             first
             | exact ⟨zA, zB⟩
             | exact ⟨alloc_cell (Nat.lt_of_lt_of_le lk2 hbA.size) zA _, alloc_cell (Nat.lt_of_lt_of_le lk2 hbA.size) zB _⟩
             | exact ⟨cell_set_other (by have := hbA.size; omega) (cell_set_other (by have := hbA.size; omega) zA), cell_set_other (by have := hbA.size; omega) (cell_set_other (by have := hbA.size; omega) zB)⟩
             | exact ⟨cell_set_other (by have := hbA.size; omega) (cell_set_other (by have := hbA.size; omega) (alloc_cell (Nat.lt_of_lt_of_le lk2 hbA.size) zA _)), cell_set_other (by have := hbA.size; omega) (cell_set_other (by have := hbA.size; omega) (alloc_cell (Nat.lt_of_lt_of_le lk2 hbA.size) zB _))⟩)
          | fail) ((first
          | (refine step_app (s := .tmp 43) (x := .tmp 45) _ tiA' E1.out R1.out arcs_one (by omega) (by omega) (by simp) rfl rfl rfl rfl ?_
             intro v' wA ownA gA _
             have hbA : Below w2.heap.size w2 wA := B1.grown gA (by simp) (fun r e => by cases e; simp)
             obtain ⟨gg, cA, rfl, hgB, hgS⟩ := ownA.form (by omega)
             rw [Nat.zero_add, List.nil_append] at ownA
             clear gA)
          | (refine step_app (s := .tmp 43) (x := .tmp 45) _ tiA' E2.out R2.out arcs_one (by omega) (by omega) (by simp; omega) rfl rfl rfl rfl ?_
             intro v' wA ownA gA hat
             have hbA : Below w2.heap.size w2 wA := B2.grown gA (by simp; omega) (fun r e => by cases e; simp)
             have hKA : Blk wA (w2.heap.size + 1) 24 #[.int .i64 0, .slice none 0 0] := by
               have := (Blk.new (w2.drew.alloc (.cells #[] 32)) 24 #[.int .i64 0, .slice none 0 0]).kept gA (by simp [Value.ownBlock])
               simpa using this
             have n0 := hKA.cell (j := 0) rfl
             have n1 := hKA.cell (j := 1) rfl
             have nf := hKA.frozen 0
             have nf1 := hKA.frozen 1
             have nl := hKA.lt
             obtain ⟨gg, cA, rfl, hgB, hgS⟩ := ownA.form (by omega)
             rw [Nat.zero_add, List.nil_append] at ownA
             have hgn : ¬ gg = w2.heap.size + 1 := fun e => by rcases hat with h | h <;> (simp [Value.ownBlock] at h; omega)
             clear gA hat)
          | (refine step_app (s := .tmp 43) (x := .tmp 45) _ tiA' E3.out R3.out arcs_one (by omega) (by omega) (by simp; omega) rfl rfl rfl rfl ?_
             intro v' wA ownA gA hat
             have hbA : Below w2.heap.size w2 wA := B3.grown gA (by simp; omega) (fun r e => by cases e; simp)
             have hKA : Blk wA w2.heap.size 24 #[.int .i64 0, .slice none 0 0] := ((Blk.new w2.drew 24 #[.int .i64 0, .slice none 0 0]).alloc _).kept gA (by simp [Value.ownBlock])
             have n0 := hKA.cell (j := 0) rfl
             have n1 := hKA.cell (j := 1) rfl
             have nf := hKA.frozen 0
             have nf1 := hKA.frozen 1
             have nl := hKA.lt
             obtain ⟨gg, cA, rfl, hgB, hgS⟩ := ownA.form (by omega)
             rw [Nat.zero_add, List.nil_append] at ownA
             have hgn : ¬ gg = w2.heap.size := fun e => by rcases hat with h | h <;> (simp [Value.ownBlock] at h; omega)
             clear gA hat)
          | fail))
        all_goals
          go_wp2_with fail
          go_meet
          first
          | exact ⟨_, gg, cA, rfl, Blk.new wA _ _, ownA.alloc _, hbA.size, by omega, hbA.alloc hbA.size _⟩
          | exact ⟨_, gg, cA, rfl, (hKA.set 0 (.int .i64 N)).set 1 (.slice (some ⟨gg, 0, none⟩) len cA), own_set_other (own_set_other ownA (by simp [Value.ownBlock]; exact hgn) _) (by simp [Value.ownBlock]; exact hgn) _, by omega, Ne.symm hgn, (hbA.setCell (p := ⟨w2.heap.size + 1, 0, none⟩) (by simp) _).setCell (p := ⟨w2.heap.size + 1, 1, none⟩) (by simp) _⟩
          | exact ⟨_, gg, cA, rfl, (hKA.set 0 (.int .i64 N)).set 1 (.slice (some ⟨gg, 0, none⟩) len cA), own_set_other (own_set_other ownA (by simp [Value.ownBlock]; exact hgn) _) (by simp [Value.ownBlock]; exact hgn) _, by omega, Ne.symm hgn, (hbA.setCell (p := ⟨w2.heap.size, 0, none⟩) (by simp) _).setCell (p := ⟨w2.heap.size, 1, none⟩) (by simp) _⟩
      case rest =>
        obtain ⟨bm, gg, cA, rfl, hKm, hownm, hbm, hbg, hbc⟩ := hcut
        obtain ⟨kN, rfl⟩ := Int.eq_ofNat_of_zero_le hk.1
        obtain ⟨i, hi⟩ : ∃ i : Nat, kN % len = i := ⟨_, rfl⟩
        have hilt : i < len := by rw [← hi]; exact Nat.mod_lt _ hl0
        have hrem : Int.tmod (kN : Int) len = i := by rw [Int.tmod_eq_emod_of_nonneg (by omega)]; omega
        have hil : i < l.length := by rw [helH.out]; exact hilt
        obtain ⟨bb, oo, he, hab, a0, a1, a2, a3⟩ := (Rd.of_own hownm).arc hilt
        cases he
        rw [Nat.zero_add] at a0 a1 a2 a3
        have hmo := (hnH.out.at hil).2.2.2.1
        have hmo2 := (hnH.out.at hil).2.2.2.2.1
        have hmo' : (aat l i).2.2.1 = mo l i := rfl
        rw [hmo'] at a2
        have fz := hownm.frozenAt (i * 4 + 2)
        have m0 := hKm.cell (j := 0) rfl
        have m1 := hKm.cell (j := 1) rfl
        have ml := hKm.lt
        have hst := hownm.stored (i * 4 + 2) (.int .i64 (mo l i + by'))
        rw [show mo l i = (aat l i).2.2.1 from rfl, arcs_bump hil] at hst
        rw [hmo'] at hst
        have hw1 : IntKind.i64.wrap (mo l i + by') = mo l i + by' := IntWalk.i64_in _ (by omega)
        have hKs := hKm.other (a := ⟨gg, i * 4 + 2, none⟩) hbg (.int .i64 (mo l i + by'))
        have hggB := (hownm.lt gg rfl).1
        have hbs := hbc.setCell (p := ⟨gg, i * 4 + 2, none⟩) hggB (.int .i64 (mo l i + by'))
        have hii : (i : Int) < len := by omega
        have hi0 : (0 : Int) ≤ i := by omega
        have hlz : ((len : Int) == 0) = false := hl0'
        have hln : ¬ (len : Int) = 0 := by omega
        have hKsH := Lib.hid hKs; have hbsH := Lib.hid hbs; have hstH := Lib.hid hst.1; have hKmH := Lib.hid hKm
        clear hKs hbs hst hownm hKm hbc
        go_wp2
        go_region
        obtain ⟨W5, hW5⟩ : ∃ W5, (wc.setCell ⟨gg, i * 4 + 2, none⟩ (.int .i64 (mo l i + by'))).drew = W5 := ⟨_, rfl⟩
        have hK5 : Blk W5 bm 24 #[.int .i64 N, .slice (some ⟨gg, 0, none⟩) len cA] := by rw [← hW5]; exact hKsH.out
        have hb5 : Below w2.heap.size w2 W5 := by rw [← hW5]; exact hbsH.out.drew
        have ho5 : W5.ownsRow w2.heap.size 32 4 (.slice (some ⟨gg, 0, none⟩) len cA) len (arcs (bump i by' l)) := by rw [← hW5]; exact hstH.out.drew
        rw [hW5]
        have hr5 := Rd.of_own ho5
        have m0 := hK5.cell (j := 0) rfl
        have m1 := hK5.cell (j := 1) rfl
        have hb6 := hb2H.out.trans (hb5.mono hb2H.out.size)
        have hel2 : (bump i by' l).length = len := by rw [bump_len]; exact helH.out
        obtain ⟨bb, oo, he, hab, b0, b1, b2, b3⟩ := hr5.arc hilt
        cases he
        rw [Nat.zero_add] at b0 b1 b2 b3
        have hmoB : (aat (bump i by' l) i).2.2.1 = mo l i + by' := by rw [bump_at hil, if_pos rfl]; rfl
        rw [hmoB] at b2
        generalize aat (bump i by' l) i = ab at *
        have hK5H := Lib.hid hK5; have hb6H := Lib.hid hb6; have hr5H := Lib.hid hr5
        clear hW5 hKsH hbsH hstH hKmH hK5 hb5 ho5 hr5 hb6 a0 a1 a2 a3 fz hmoB
        by_cases hok2 : echk N (bump i by' l) sN tN = 0
        · have HM2 := Lib.hid (mostF_ok N (some ⟨gg, 0, none⟩) len cA (bump i by' l) sN tN W5 hr5H.out hok2)
          have hn2 : NOk N (bump i by' l) := ⟨(nchk_ok (echk_ok hok2).1).2.2.2⟩
          have hle : ¬ (1048576 : Int) < mo l i + by' := by
            have := (hn2.at (k := i) (by rw [bump_len]; exact hil)).2.2.2.2.1
            rw [(bump_fr hil i).2.2, if_pos rfl] at this
            omega
          have hled : decide ((1048576 : Int) < mo l i + by') = false := decide_eq_false hle
          have hn2H := Lib.hid hn2
          clear hok2 hn2
          go_wp2_with fail
          refine HM2.out.mono ?_
          rintro e w6 ⟨f2, v2, gl2, c2, rfl, _, hmx2, hv2, hb7⟩
          have hlaw := more_law hn2H.out hil hby.1 (by omega) hmxH.out hmx2
          have hK6 : Blk w6 bm 24 #[.int .i64 N, .slice (some ⟨gg, 0, none⟩) len cA] := (hb7.block _ hK5H.out.lt).trans hK5H.out
          have m0 := hK6.cell (j := 0) rfl
          have m1 := hK6.cell (j := 1) rfl
          have b0 := below_cell hb7 hab b0
          have b1 := below_cell hb7 hab b1
          have b2 := below_cell hb7 hab b2
          have b3 := below_cell hb7 hab b3
          have hbF := Lib.hid (hb6H.out.trans (hb7.mono hb6H.out.size))
          have hvl2 := hmx2.fl.val_le hn2H.out (by omega) (by omega)
          have hvl := hmxH.out.fl.val_le hnH.out (by omega) (by omega)
          rw [hel2] at hvl2
          rw [helH.out] at hvl
          obtain ⟨hl1, hl2⟩ := hlaw
          have hwv : IntKind.i64.wrap (v + by') = v + by' := IntWalk.i64_in _ (by omega)
          clear hb7 hK6 HM2 hmx2 hvl2 hvl
          go_wp2
          go_ret
          exact ⟨rfl, hbF.out⟩
        · have HM2 := Lib.hid (mostF_bad N (some ⟨gg, 0, none⟩) len cA (bump i by' l) sN tN W5 hr5H.out hlen hok2)
          have hgt : (1048576 : Int) < mo l i + by' := Int.lt_of_not_ge fun hle => hok2 (bump_ok hokH.out hil hby.1 hle)
          have e1 : (echk N (bump i by' l) sN tN != 0) = true := by simpa using hok2
          clear hok2
          generalize echk N (bump i by' l) sN tN = cc at *
          go_wp2_with fail
          refine HM2.out.mono ?_
          rintro e w6 ⟨rfl, hb7⟩
          have hK6 : Blk w6 bm 24 #[.int .i64 N, .slice (some ⟨gg, 0, none⟩) len cA] := (hb7.block _ hK5H.out.lt).trans hK5H.out
          have m0 := hK6.cell (j := 0) rfl
          have m1 := hK6.cell (j := 1) rfl
          have b0 := below_cell hb7 hab b0
          have b1 := below_cell hb7 hab b1
          have b2 := below_cell hb7 hab b2
          have b3 := below_cell hb7 hab b3
          have hbF := Lib.hid (hb6H.out.trans (hb7.mono hb6H.out.size))
          clear hb7 hK6 HM2
          go_wp2
          go_ret
          exact ⟨rfl, hbF.out⟩
  · have HM := Lib.hid (mostF_bad n A len cap l s t _ hr0 hlen hok)
    have e1 : (echk n l s t != 0) = true := by simpa using hok
    have hrH := Lib.hid hr; have hKH := Lib.hid hK; have hb0H := Lib.hid hb0
    clear hr hr0 hK hb0 hok
    go_enter Try.func3, Try.ntmps3
    go_wp2_with fail
    refine HM.out.mono ?_
    rintro e w1 ⟨rfl, hb1⟩
    have hbb := hb0H.out.trans (hb1.mono hb0H.out.size)
    have hK1 : Blk w1 w.heap.size 24 #[.int .i64 n, .slice A len cap] := (hb1.block _ hKH.out.lt).trans hKH.out
    have q0 := hK1.cell (j := 0) rfl
    have q1 := hK1.cell (j := 1) rfl
    have HE := Lib.hid (endsCheck_any n A len cap l s t w1 (hrH.out.later hbb) hlen)
    have hbH := Lib.hid hbb
    clear hb1 hbb hK1 k0 k1 HM
    go_wp2_with fail
    refine HE.out.mono ?_
    rintro e w2 ⟨rfl, hb2⟩
    have hbb := hbH.out.trans (hb2.mono hbH.out.size)
    go_wp2
    go_ret
    exact ⟨rfl, hbb⟩
end Go.Proofs.Ytmoengnlimonkaa
