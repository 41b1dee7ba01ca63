/- colour.Greedy: in an order. -/
import Derived.Test.YtnpgnohnpbdblaaDoorGreedyLaw
import Derived.Test.YtnpgnohnpbdblaaDoorNMap
namespace Go.Proofs.YtnpgnohnpbdblaaDoor
open Go.RowKit Go.Shelf

theorem zero_intG (w : World) : (zeroValue 3).run Tryd.prog w = .ok (.int .i64 0) w := by kernel_rfl
abbrev SMap (w : World) (b m : Nat) (f : Int → Option Int) : Prop := NMap Tryd.prog 3 3 .i64 w b m f
/-- how many of the numbers below n are there -/
def seenN (n : Nat) (zs : List Int) (k : Nat) : Nat := cntB n fun j => (zs.take k).contains (j : Int)
structure SeenF (n : Nat) (zs : List Int) (k : Nat) (f : Int → Option Int) : Prop where
  is : ∀ x : Int, (f x).isSome = (decide (0 ≤ x) && decide (x < n) && (zs.take k).contains x)
  bd : ∀ x c, f x = some c → 0 ≤ c ∧ c ≤ k
theorem seenN_out {n : Nat} {zs : List Int} {k : Nat} (hk : k < zs.length) (h : ¬ (0 ≤ zs.getD k 0 ∧ zs.getD k 0 < n)) : seenN n zs (k + 1) = seenN n zs k := by
  unfold seenN cntB
  congr 1
  refine List.filter_congr fun j hj => ?_
  have hj : j < n := by simpa using hj
  rw [take_succ_getD' zs 0 k hk]
  have : ((j : Int) == zs.getD k 0) = false := by generalize zs.getD k 0 = a at *; simp; omega
  simp only [List.contains_append, List.contains_cons, this, List.contains_nil, Bool.or_false]
theorem seenN_old {n : Nat} {zs : List Int} {k : Nat} (hk : k < zs.length) (h : (zs.take k).contains (zs.getD k 0) = true) : seenN n zs (k + 1) = seenN n zs k := by
  unfold seenN cntB
  congr 1
  refine List.filter_congr fun j _ => ?_
  rw [take_succ_getD' zs 0 k hk, List.contains_append]
  by_cases he : (j : Int) = zs.getD k 0
  · rw [he, h]; simp
  · have : ((j : Int) == zs.getD k 0) = false := by simpa using he
    simp only [List.contains_cons, this, List.contains_nil, Bool.or_false]
theorem filter_one {n j : Nat} (hj : j < n) {p q : Nat → Bool} (hpj : p j = false) (hqj : q j = true) (he : ∀ i, i ≠ j → q i = p i) : ((List.range n).filter q).length = ((List.range n).filter p).length + 1 := by
  induction n with
  | zero => omega
  | succ n ih =>
    rw [List.range_succ, List.filter_append, List.filter_append, List.length_append, List.length_append]
    rcases Nat.lt_or_ge j n with h | h
    · rw [ih h]
      have : q n = p n := he n (by omega)
      simp only [List.filter_cons, List.filter_nil, this]; omega
    · obtain rfl : j = n := by omega
      have e1 : (List.range j).filter q = (List.range j).filter p := List.filter_congr fun i hi => he i (by simp at hi; omega)
      rw [e1]; simp [hpj, hqj]
theorem seenN_new {n : Nat} {zs : List Int} {k : Nat} (hk : k < zs.length) (h0 : 0 ≤ zs.getD k 0) (h1 : zs.getD k 0 < n) (h : (zs.take k).contains (zs.getD k 0) = false) : seenN n zs (k + 1) = seenN n zs k + 1 := by
  obtain ⟨m, hm⟩ := Int.eq_ofNat_of_zero_le h0
  unfold seenN cntB
  refine filter_one (j := m) (by omega) (by rw [← hm]; exact h) (by rw [take_succ_getD' zs 0 k hk, List.contains_append, ← hm]; simp) fun i hi => ?_
  rw [take_succ_getD' zs 0 k hk, List.contains_append]
  have : ((i : Int) == zs.getD k 0) = false := by rw [hm]; simp; omega
  simp only [List.contains_cons, this, List.contains_nil, Bool.or_false]
theorem SeenF.start (n : Nat) (zs : List Int) : SeenF n zs 0 fun _ => none := ⟨fun x => by simp, fun x c h => by cases h⟩
theorem SeenF.skip {n : Nat} {zs : List Int} {k : Nat} {f : Int → Option Int} (h : SeenF n zs k f) (hk : k < zs.length) (hx : ¬ (0 ≤ zs.getD k 0 ∧ zs.getD k 0 < n)) : SeenF n zs (k + 1) f :=
  ⟨fun x => by
    rw [h.is, take_succ_getD' zs 0 k hk, List.contains_append]
    by_cases he : 0 ≤ x ∧ x < n
    · have : (x == zs.getD k 0) = false := by generalize zs.getD k 0 = a at *; simp; rintro rfl; exact hx he
      simp only [List.contains_cons, this, List.contains_nil, Bool.or_false]
    · have : (decide (0 ≤ x) && decide (x < (n : Int))) = false := by simp; omega
      simp [this], fun x c hf => ⟨(h.bd x c hf).1, by have := (h.bd x c hf).2; omega⟩⟩
theorem SeenF.put {n : Nat} {zs : List Int} {k : Nat} {f : Int → Option Int} (h : SeenF n zs k f) (hk : k < zs.length) (h0 : 0 ≤ zs.getD k 0) (h1 : zs.getD k 0 < n) : SeenF n zs (k + 1) (updI f (zs.getD k 0) ((f (zs.getD k 0)).getD 0 + 1)) :=
  ⟨fun x => by
    unfold updI
    rw [take_succ_getD' zs 0 k hk, List.contains_append]
    by_cases he : x = zs.getD k 0
    · subst he
      rw [if_pos rfl]
      generalize zs.getD k 0 = a at *
      simp [h0, h1]
    · rw [if_neg he, h.is]
      have : (x == zs.getD k 0) = false := by simpa using he
      simp only [List.contains_cons, this, List.contains_nil, Bool.or_false], fun x c hf => by
    unfold updI at hf
    split at hf
    · injection hf with hf
      cases hg : f (zs.getD k 0) with
      | none => rw [hg] at hf; simp at hf; omega
      | some d => rw [hg] at hf; have := h.bd _ _ hg; simp at hf; omega
    · have := h.bd x c hf; omega⟩
theorem seen_le (n : Nat) (zs : List Int) (k : Nat) : seenN n zs k ≤ n := by unfold seenN cntB; exact Nat.le_trans (List.length_filter_le _ _) (by simp)
theorem perm_of_subset : ∀ {l₁ l₂ : List Int}, l₁.Nodup → l₁ ⊆ l₂ → l₂.length ≤ l₁.length → l₁.Perm l₂
  | [], l₂, _, _, h => by
    obtain rfl : l₂ = [] := List.eq_nil_of_length_eq_zero (by simpa using h)
    exact List.Perm.refl _
  | a :: l₁, l₂, hn, hs, hl => by
    obtain ⟨s, t, rfl⟩ := List.append_of_mem (hs List.mem_cons_self)
    rw [List.nodup_cons] at hn
    refine (List.Perm.cons a (perm_of_subset hn.2 (fun x hx => ?_) (by simp at hl ⊢; omega))).trans List.perm_middle.symm
    have h1 := hs (List.mem_cons_of_mem a hx)
    simp only [List.mem_append, List.mem_cons] at h1 ⊢
    rcases h1 with h | rfl | h
    · exact .inl h
    · exact absurd hx hn.1
    · exact .inr h
/-- just the orders of all have all -/
theorem seen_all {n : Nat} {zs : List Int} (hl : zs.length = n) : seenN n zs n = n ↔ eachB n zs = true := by
  rw [eachB_iff]
  have hfull : (seenN n zs n = n) ↔ ∀ j, j < n → (j : Int) ∈ zs := by
    unfold seenN cntB
    rw [List.take_of_length_le (by omega)]
    constructor
    · intro h j hj
      have h2 : (List.range n).filter (fun j => zs.contains ((j : Nat) : Int)) = List.range n := (List.filter_sublist).eq_of_length (by simpa using h)
      have := List.mem_filter.1 (h2.symm ▸ List.mem_range.2 hj : j ∈ _)
      simpa using this.2
    · intro h
      rw [List.filter_eq_self.2 fun j hj => by simpa using h j (by simpa using hj)]; simp
  rw [hfull]
  constructor
  · intro h
    have hsub : ((List.range n).map fun (j : Nat) => (j : Int)).Perm zs := by
      refine perm_of_subset ?_ ?_ (by simp; omega)
      · rw [List.Nodup, List.pairwise_map]
        exact List.nodup_range.imp fun h => by omega
      · intro x hx
        obtain ⟨j, hj, rfl⟩ := List.mem_map.1 hx
        exact h j (List.mem_range.1 hj)
    have hz : ∀ x ∈ zs, 0 ≤ x ∧ x < n := by
      intro x hx
      obtain ⟨j, hj, rfl⟩ := List.mem_map.1 (hsub.mem_iff.2 hx)
      have := List.mem_range.1 hj
      omega
    refine ⟨zs.map Int.toNat, ?_, ?_⟩
    · have := hsub.symm.map Int.toNat
      rwa [List.map_map, show (Int.toNat ∘ fun (j : Nat) => (j : Int)) = id from by funext j; simp, List.map_id] at this
    · unfold natI
      rw [List.map_map]
      conv => lhs; rw [← List.map_id zs]
      exact List.map_congr_left fun x hx => by have := hz x hx; simp; omega
  · rintro ⟨x, hp, rfl⟩ j hj
    exact List.mem_map.2 ⟨j, hp.mem_iff.2 (List.mem_range.2 hj), rfl⟩
theorem wf_small {x : Int} (h0 : -1 ≤ x) (h1 : x ≤ 9223372036854775807) : (Lit.int .i64 x).wf = true := by
  simp [Lit.wf, IntKind.min, IntKind.max, IntKind.bits, IntKind.signed]
  omega
def GreedyPost (n : Nat) (ns : List Nat) (zs : List Int) (w : World) (e : Ending) (w' : World) : Prop :=
  Below w.heap.size w w' ∧ ((eachB n zs = false ∧ e = .returned (.tuple #[.slice none 0 0, .int .i64 2])) ∨
    ∃ (y : List Nat) (gl : Nat) (L : Nat → Int), y.Perm (List.range n) ∧ zs = natI y ∧ e = .returned (.tuple #[.slice (some ⟨gl, 0, none⟩) n n, .int .i64 0]) ∧
      w'.ownsRow w.heap.size 3 1 (.slice (some ⟨gl, 0, none⟩) n n) n (row n L) ∧ GrI ns n y n L)
set_option maxHeartbeats 3200000 in
set_option maxRecDepth 100000 in
theorem greedy_ok (N : Nat) (A : Option Addr) (len cap : Nat) (es : List E) (A2 : Option Addr) (len2 cap2 : Nat) (zs : List Int) (w : World) (hr : Rd w A len 3 (ps3 .i64 .i64 .i64 es)) (hl : len ≤ 45) (hok : gchk N es = 0)
    (hr2 : Rd w A2 len2 1 (ints .i64 zs)) (hl2 : len2 ≤ 9223372036854775807) (htb : Tb w) (hg : 0 < w.heap.size) :
    Calls Tryd.prog 16 #[.agg #[.int .i64 N, .slice A len cap], .slice A2 len2 cap2] w (GreedyPost N (nearW N es) zs w) := by
  obtain ⟨_, h10, _, hokE, _⟩ := gchk_ok hok
  rw [Int.toNat_natCast] at hokE
  have hN : N ≤ 10 := by omega
  have g := nearGr hok
  have hel2 : zs.length = len2 := by simpa [ints] using hr2.1
  have gb := (Below.refl _ w).alloc (Nat.le_refl _) (.cells #[.int .i64 N, .slice A len cap] 24)
  have g0 : (w.alloc (.cells #[.int .i64 N, .slice A len cap] 24)).cell? ⟨w.heap.size, 0, none⟩ = some (.int .i64 N) := by go_simp
  have g1 : (w.alloc (.cells #[.int .i64 N, .slice A len cap] 24)).cell? ⟨w.heap.size, 1, none⟩ = some (.slice A len cap) := by go_simp
  have HC := Lib.hid (check_any N A len cap es _ (hr.later gb) (by omega))
  rw [hok] at HC
  have hrH := Lib.hid hr; have hokH := Lib.hid hokE; have htbH := Lib.hid htb; have hr2H := Lib.hid hr2; have hel2H := Lib.hid hel2
  clear hr hok hokE htb hr2 hel2
  have hmm := @run_makeMap Tryd.prog
  go_enter Tryd.func16, Tryd.ntmps16
  go_wp2_with fail
  refine HC.out.mono ?_
  rintro _ w1 ⟨rfl, hb1⟩
  have q0 := below_cell hb1 (by simp) g0
  have q1 := below_cell hb1 (by simp) g1
  have hbw := gb.trans (hb1.mono (by simp))
  have hS1 : w.heap.size < w1.heap.size := by have := hb1.size; simp at this; omega
  clear g0 g1 gb hb1
  have hm0 : SMap (w1.alloc (.map #[] 0)) w1.heap.size 0 fun _ => none := NMap.made w1
  have hbm := hbw.alloc hbw.size (.map #[] 0)
  have q0 := cell_allocx (o := .map #[] 0) hS1 q0
  have q1 := cell_allocx (o := .map #[] 0) hS1 q1
  have hsm : (w1.alloc (.map #[] 0)).heap.size = w1.heap.size + 1 := by simp
  go_wp2
  generalize w1.alloc (.map #[] 0) = w2 at *
  generalize hbm1 : w1.heap.size = bm at *
  go_loopw [9, 21] (fun _ i wr => ∃ k : Nat, k ≤ len2 ∧ i = .int .i64 k ∧ (∃ f, SMap wr bm (seenN N zs k) f ∧ SeenF N zs k f) ∧ Below w.heap.size w wr ∧ w2.heap.size ≤ wr.heap.size ∧ wr.cell? ⟨w.heap.size, 0, none⟩ = some (.int .i64 N) ∧ wr.cell? ⟨w.heap.size, 1, none⟩ = some (.slice A len cap)) (fun _ i _ => len2 - (intOf i).toNat)
  case atStart => exact ⟨0, Nat.zero_le _, rfl, ⟨fun _ => none, by rw [show seenN N zs 0 = 0 by unfold seenN cntB; simp]; exact hm0, SeenF.start N zs⟩, hbm, Nat.le_refl _, q0, q1⟩
  case round =>
    clear hm0 hbm q0 q1
    obtain ⟨k, hk, rfl, ⟨f, hm, hf⟩, hb, hsz, q0, q1⟩ := hrel
    have hfH := Lib.hid hf; have hmH := Lib.hid hm
    have hsle := seen_le N zs k
    clear hf hm
    by_cases hlt : k < len2
    · obtain ⟨b2, o2, rfl, hab2, hz⟩ := (hr2H.out.later hb).int hlt
      have hkz := Lib.hid (show k < zs.length by rw [hel2H.out]; exact hlt)
      by_cases hx : 0 ≤ zs.getD k 0 ∧ zs.getD k 0 < N
      · have hlk := IMap.lookup (t := 62) hmH.out.imap Tryd.underlying3 Tryd.underlying62 Tryd.underlying3 zero_intG (i := zs.getD k 0) (wf_small (by omega) (by omega))
        have hput := Lib.hid (hfH.out.put hkz.out hx.1 hx.2)
        have hcount := Lib.hid (show seenN N zs (k + 1) = if (f (zs.getD k 0)).isSome then seenN N zs k else seenN N zs k + 1 by
          have h1 := hfH.out.is (zs.getD k 0)
          rw [decide_eq_true hx.1, decide_eq_true hx.2] at h1
          rw [h1]
          cases hc : (zs.take k).contains (zs.getD k 0)
          · exact seenN_new hkz.out hx.1 hx.2 hc
          · exact seenN_old hkz.out hc)
        have hbd : 0 ≤ (f (zs.getD k 0)).getD 0 ∧ (f (zs.getD k 0)).getD 0 ≤ k := by
          cases hc : f (zs.getD k 0) with
          | none => simp
          | some c => exact hfH.out.bd _ _ hc
        generalize zs.getD k 0 = a at *
        obtain ⟨hx0, hx1⟩ := hx
        obtain ⟨hc0, hc1⟩ := hbd
        generalize (f a).getD 0 = c at *
        generalize seenN N zs k = m at *
        obtain ⟨m', hm'⟩ : ∃ m', seenN N zs (k + 1) = m' := ⟨_, rfl⟩
        rw [hm'] at hcount
        have hm'e := Lib.hid hm'
        clear hm'
        go_wp2_with (at_mapUpdate; refine wp_nmap_put _ rfl _ _ _ 62 rfl Tryd.underlying3 Tryd.underlying62 Tryd.underlying3 rfl hmH.out (by unfold maxLen; omega) rfl rfl (wf_small (by omega) (by omega)) (wf_small (by omega) (by omega)) hcount.out ?_)
        intro w4 hm4 ht4
        have hg4 := ht4.grown
        have hb4 := hb.grown hg4 hb.size (fun g hg => by injection hg with hg; omega)
        have q0 := hg4.cell q0 (ne' (by simp; omega))
        have q1 := hg4.cell q1 (ne' (by simp; omega))
        have hs4 := hg4.size
        have hm5 := Lib.hid hm4
        clear hm4 ht4 hg4
        go_wp2
        go_roundw
        case rel => exact ⟨k + 1, by omega, by go_num, ⟨_, by rw [hm'e.out]; exact hm5.out, hput.out⟩, hb4, by omega, q0, q1⟩
        case measure => simp [intOf]; omega
      · have hnx := Lib.hid (seenN_out hkz.out hx)
        have hskip := Lib.hid (hfH.out.skip hkz.out hx)
        have hm5 := Lib.hid (show SMap wr bm (seenN N zs (k + 1)) f by rw [hnx.out]; exact hmH.out)
        generalize zs.getD k 0 = a at *
        go_wp2
        all_goals first
          | (exfalso; omega)
          | (go_roundw
             case rel => exact ⟨k + 1, by omega, by go_num, ⟨f, hm5.out, hskip.out⟩, hb, hsz, q0, q1⟩
             case measure => simp [intOf]; omega)
    · obtain rfl : k = len2 := by omega
      have hln := hmH.out.len (t := 62) Tryd.underlying62 3
      have hbH := Lib.hid hb
      cases hkN : ((k : Int) != (N : Int))
      · obtain rfl : k = N := by simp at hkN; omega
        have hall := seen_all (n := k) (zs := zs) hel2H.out
        cases hsN : (((seenN k zs k : Nat) : Int) != (k : Int))
        · have hE := hall.1 (by simp at hsN; omega)
          obtain ⟨y, hpy, hzy⟩ := (eachB_iff k zs).1 hE
          have HF := Lib.hid (fresh_any k A len cap es wr (hrH.out.later hb) hN hl hokH.out)
          have hyl : y.length = k := by simpa using hpy.length_eq
          have hpyH := Lib.hid hpy; have hzyH := Lib.hid hzy; have hylH := Lib.hid hyl
          have hS2 : w.heap.size < wr.heap.size := by omega
          clear hall hE hb hpy hzy hyl
          generalize seenN k zs k = sk at *
          go_wp2_with fail
          refine HF.out.mono ?_
          rintro _ w3 ⟨p, ga, gl, rfl, hP, hb3⟩
          have q0 := below_cell hb3 hS2 q0
          have q1 := below_cell hb3 hS2 q1
          have hs3 := hb3.size
          have hbw3 := hbH.out.trans (hb3.mono (by omega))
          have hglt := hP.gl_lt
          have hplt := hP.lt
          clear hb3 HF
          generalize hBz : wr.heap.size = Bz at *
          go_wp2
          go_loopw [12, 54] (fun _ i wx => ∃ j : Nat, j ≤ k ∧ i = .int .i64 j ∧ (∃ L, PS Bz k (nearW k es) p ga gl wx L ∧ GrI (nearW k es) k y j L) ∧ Below w.heap.size w wx ∧ w3.heap.size ≤ wx.heap.size ∧ wx.cell? ⟨w.heap.size, 0, none⟩ = some (.int .i64 k)) (fun _ i _ => k - (intOf i).toNat)
          case atStart => exact ⟨0, Nat.zero_le _, rfl, ⟨_, hP, GrI.start _ _ _⟩, hbw3, Nat.le_refl _, q0⟩
          case round =>
            clear hP hbw3 q0 q1
            obtain ⟨j, hj, rfl, ⟨L, hP, hG⟩, hb, hsx, q0⟩ := hrel
            have hGH := Lib.hid hG
            by_cases hjk : j < k
            · obtain ⟨b3, o3, rfl, hab3, hz⟩ := (hr2H.out.later hb).int hjk
              obtain ⟨hin, _⟩ := perm_at hpyH.out hjk
              have hzi : zs.getD j 0 = ((y.getD j 0 : Nat) : Int) := by rw [hzyH.out]; exact natI_at (by rw [hylH.out]; exact hjk)
              rw [hzi] at hz
              have hfree := free_colour g hG hin
              have hst := Lib.hid (fun c => @GrI.step (nearW k es) k j y L g hpyH.out hjk hG c)
              have hL12 : ∀ m, -1 ≤ L m ∧ L m < 12 := fun m => by rcases hG.all m with h | h <;> omega
              clear hzi hG
              generalize y.getD j 0 = i at *
              have HM := Lib.hid (fun W (hPW : PS Bz k (nearW k es) p ga gl W L) (hbW : Below w.heap.size w W) => may_any Bz k (nearW k es) p ga gl i k W L hPW g hin (by omega) hL12 (htbH.out.below hg hbW) (Nat.lt_of_lt_of_le hg hbW.size))
              have hx32 : mayW (nearW k es) L i k < 4294967296 := Nat.lt_of_lt_of_le (mayW_lt _ L i k) (Nat.le_trans (Nat.pow_le_pow_right (by omega) (show k ≤ 10 by omega)) (by decide))
              obtain ⟨hb1, hb2, _⟩ := low_bits _ hfree hx32
              have hst2 := Lib.hid (hst.out _ hb1 hb2)
              obtain ⟨_, hlt32⟩ := Lib.lowest_bit 32 _ hfree hx32
              have HT := Lib.hid (fun W (hbW : Below w.heap.size w W) => tz_any _ hx32 hfree W (htbH.out.below hg hbW))
              generalize Lib.ctz 32 (mayW (nearW k es) L i k) = c at *
              generalize mayW (nearW k es) L i k = x at *
              have c1 := hP.cl
              have pl := hP.lt
              obtain ⟨hgl2, hcg⟩ := row_at' hP.ol hin
              have hfz := hP.ol.frozenAt i
              have hii : (i : Int) < k := by omega
              have hi0 : (0 : Int) ≤ i := by omega
              have hPH := Lib.hid hP; have hbXH := Lib.hid hb
              have hPd : PS Bz k (nearW k es) p ga gl wr.drew L := ⟨hP.cn, hP.cl, hP.rn, hP.ol, hP.ne, hP.la⟩
              have hbd := hb.drew
              have hgp : p ≠ gl := fun e => hP.ne.1 e.symm
              have hgw : w.heap.size ≠ gl := by omega
              have hlw : w.heap.size < wr.drew.heap.size := by simp; omega
              clear hst hfree hb1 hb2 hP hb hL12
              go_wp2_with fail
              go_region_held3 (fun w' => w'.cell? ⟨w.heap.size, 0, none⟩ = some (.int .i64 k) ∧ w'.cell? ⟨p, 1, none⟩ = some (.slice (some ⟨gl, 0, none⟩) k k)) (first | go_keep | assumption | exact ⟨qA, cA⟩ | exact ⟨sA, tA⟩ | fail) ((first
                | (go_at_call 40
                   (with_reducible refine (HM.out _ hPd hbd).mono ?_)
                   rintro e wA ⟨rfl, bA⟩
                   have hbA := hbd.trans (bA.mono (by simp; omega))
                   have hPA := hPd.later bA
                   have cA := hPA.cl
                   have plA := hPA.lt
                   have qA := below_cell bA hlw q0
                   have sA := cell_set_other (j := i) (v := .int .i64 (c : Int)) hgw qA
                   have tA := cell_set_other (j := i) (v := .int .i64 (c : Int)) hgp cA
                   obtain ⟨lgA, cgA⟩ := row_at' hPA.ol hin
                   have fgA := hPA.ol.frozenAt i)
                | (go_at_call 39
                   (with_reducible refine (HT.out _ hbA).mono ?_)
                   rintro e wB ⟨rfl, rfl⟩)
                | fail))
              all_goals
                have hPs := hPA.set i (c : Int)
                have hg5 := grown_set wA gl i (.int .i64 (c : Int))
                have hbs := hbA.grown hg5 (by have := hbA.size; omega) (fun k e => by cases e; omega)
                have hss : wA.heap.size ≤ (wA.setCell ⟨gl, i, none⟩ (.int .i64 (c : Int))).heap.size := by simp
                have hsA : wr.heap.size ≤ wA.heap.size := by have := bA.size; simpa using this
                go_wp2_with fail
                go_roundw
                case rel => exact ⟨j + 1, by omega, by go_num, ⟨_, hPs, hst2.out⟩, hbs, by omega, sA⟩
                case measure => simp [intOf]; omega
            · obtain rfl : j = k := by omega
              have c1 := hP.cl
              have pl := hP.lt
              have hown := own_base (b' := w.heap.size) (by omega) hP.ol
              have hownH := Lib.hid hown; have hbXH := Lib.hid hb
              clear hP hb hG hown
              go_wp2
              go_ret2
              exact ⟨hbXH.out, .inr ⟨y, gl, L, hpyH.out, hzyH.out, rfl, hownH.out, hGH.out⟩⟩
        · have hE := Lib.hid (show eachB k zs = false by
            cases he : eachB k zs
            · rfl
            · have := hall.2 he; rw [this] at hsN; simp at hsN)
          clear hall
          generalize seenN k zs k = sk at *
          go_wp2
          go_ret2
          exact ⟨hbH.out, .inl ⟨hE.out, rfl⟩⟩
      · have hE := Lib.hid (show eachB N zs = false by
          unfold eachB
          rw [hel2H.out, show decide ((k : Int) = N) = false by simpa using hkN, Bool.and_false])
        generalize seenN N zs k = sk at *
        go_wp2
        go_ret2
        exact ⟨hbH.out, .inl ⟨hE.out, rfl⟩⟩
theorem greedy_bad (N : Int) (A : Option Addr) (len cap : Nat) (es : List E) (A2 : Option Addr) (len2 cap2 : Nat) (w : World) (hr : Rd w A len 3 (ps3 .i64 .i64 .i64 es)) (hlen : len ≤ 9223372036854775807) (hbad : (gchk N es == 0) = false) :
    Calls Tryd.prog 16 #[.agg #[.int .i64 N, .slice A len cap], .slice A2 len2 cap2] w fun e w' => ∃ z, e = .returned (.tuple #[.slice none 0 0, .int .i64 z]) ∧ (z != 0) = true ∧ Below w.heap.size w w' := by
  have gb := (Below.refl _ w).alloc (Nat.le_refl _) (.cells #[.int .i64 N, .slice A len cap] 24)
  have HC := Lib.hid (check_any N A len cap es _ (hr.later gb) hlen)
  have hne : (gchk N es != 0) = true := by simpa using hbad
  clear hr hbad
  generalize gchk N es = z at *
  go_enter Tryd.func16, Tryd.ntmps16
  go_wp2_with fail
  refine HC.out.mono ?_
  rintro _ w1 ⟨rfl, hb1⟩
  go_wp2
  go_ret2
  exact ⟨z, rfl, hne, gb.trans (hb1.mono (by simp))⟩
end Go.Proofs.YtnpgnohnpbdblaaDoor
