/- CrowdColours: for any graph: it needs no fewer colours than the largest crowd has members; and each colour has no more nodes than the largest set without an edge. -/
import Derived.Test.YtnpgnohnpbdblaaDoorPaintD
import Derived.Test.YtnpgnohnpbdblaaDoorMost
import Derived.Test.YtnpgnohnpbdblaaDoorCrowdLaw
import Derived.Test.YtnpgnohnpbdblaaDoorLinkLaw
import Derived.Test.YtnpgnohnpbdblaaDoorCard
import Derived.Test.YtnpgnohnpbdblaaDoorRefBit
namespace Go.Proofs.YtnpgnohnpbdblaaDoor
open Go.RowKit Go.Shelf

theorem nodup_len_lt {k : Nat} {l : List Nat} (hn : l.Nodup) (h : ∀ a ∈ l, a < k) : l.length ≤ k := by
  have : l.length ≤ (List.range k).length := List.Nodup.length_le_of_subset hn (fun a ha => List.mem_range.2 (h a ha))
  simpa using this
/-- the crowd's members have as many colours -/
theorem crowd_colours {N k c : Nat} {es : List E} {L : Nat → Int} (hok : ∀ e ∈ es, okE N e) (hc : Col (nearW N es) N k L) (hm : MaxCl (nearW N es) N c) : popc 10 c ≤ k := by
  have hcl := (isCl_near hok hm.2.1).1 hm.1
  have hcN : ∀ i, c.testBit i = true → i < N := fun i hi => lt_bit hm.2.1 hi
  have hnd : (((List.range 10).filter fun i => c.testBit i).map fun i => (L i).toNat).Nodup := by
    rw [List.Nodup, List.pairwise_map]
    refine List.Pairwise.imp_of_mem ?_ (List.nodup_range.filter _)
    intro a b ha hb hab he
    simp only [List.mem_filter] at ha hb
    have haN := hcN a ha.2
    have hbN := hcN b hb.2
    have ca := hc a haN
    have cb := hc b hbN
    have hadj : nb (nearW N es) a b = true := by
      show ((nearW N es).getD a 0).testBit b = true
      rw [nearW_bit es hok a b haN]
      rcases Nat.lt_or_ge b a with h | h
      · exact hcl a b h ha.2 hb.2
      · rw [adj_symm]; exact hcl b a (by omega) hb.2 ha.2
    have := ca.2.2 b hadj
    omega
  have := nodup_len_lt (k := k) hnd (fun a ha => by
    obtain ⟨i, hi, rfl⟩ := List.mem_map.1 ha
    simp only [List.mem_filter] at hi
    have := hc i (hcN i hi.2)
    omega)
  simpa [popc] using this
theorem popc_word {N : Nat} (p : Nat → Bool) (hN : N ≤ 10) : popc 10 (wordOf N p) = cntB N p := by
  have h : ∀ d, popc (N + d) (wordOf N p) = cntB N p := by
    intro d
    induction d with
    | zero =>
      unfold popc cntB
      congr 1
      exact List.filter_congr fun i hi => by rw [wordOf_bit]; simp at hi; simp [hi]
    | succ d ih =>
      have h1 := popc_next (N + d) (wordOf N p)
      rw [show N + (d + 1) = N + d + 1 by omega, h1, ih, wordOf_bit, show decide (N + d < N) = false by simp]
      simp
  have := h (10 - N)
  rwa [show N + (10 - N) = 10 by omega] at this
/-- all colours' nodes together are all nodes -/
theorem classes_sum {k : Nat} (L : Nat → Int) : ∀ N, (∀ j, j < N → 0 ≤ L j ∧ L j < k) → ((List.range k).map fun (c : Nat) => cntB N fun j => L j == (c : Int)).sum = N
  | 0, _ => by
    have : ∀ l : List Nat, (l.map fun (c : Nat) => cntB 0 fun j => L j == (c : Int)).sum = 0 := fun l => by
      induction l with
      | nil => rfl
      | cons a l ih => simp only [List.map_cons, List.sum_cons, ih]; rfl
    exact this _
  | N + 1, h => by
    have ih := classes_sum L N fun j hj => h j (by omega)
    have hsum : ∀ l : List Nat, (l.map fun (c : Nat) => cntB (N + 1) fun j => L j == (c : Int)).sum = (l.map fun (c : Nat) => cntB N fun j => L j == (c : Int)).sum + (l.filter fun c => L N == ((c : Nat) : Int)).length := fun l => by
      induction l with
      | nil => rfl
      | cons a l ih2 =>
        simp only [List.map_cons, List.sum_cons, ih2, cntB_succ N fun j => L j == ((a : Nat) : Int), List.filter_cons]
        split <;> simp <;> omega
    rw [hsum, ih]
    obtain ⟨h0, h1⟩ := h N (by omega)
    obtain ⟨c, hc⟩ := Int.eq_ofNat_of_zero_le h0
    have : ((List.range k).filter fun x => L N == ((x : Nat) : Int)) = [c] := by
      have hck : c < k := by omega
      rw [hc]
      have : ∀ m, (List.range m).filter (fun x => (c : Int) == ((x : Nat) : Int)) = if c < m then [c] else [] := by
        intro m
        induction m with
        | zero => simp
        | succ m ihm =>
          rw [List.range_succ, List.filter_append, ihm]
          by_cases h1 : c < m
          · rw [if_pos h1, if_pos (by omega)]; simp; omega
          · rw [if_neg h1]
            by_cases h2 : c = m
            · subst h2; simp
            · rw [if_neg (by omega)]; simp; omega
      rw [this, if_pos hck]
    rw [this]; rfl
theorem sum_le_mul {l : List Nat} {m : Nat} (f : Nat → Nat) (h : ∀ a ∈ l, f a ≤ m) : (l.map f).sum ≤ l.length * m := by
  induction l with
  | nil => simp
  | cons a l ih =>
    have h1 := h a (by simp)
    have h2 := ih fun b hb => h b (by simp [hb])
    simp only [List.map_cons, List.sum_cons, List.length_cons, Nat.succ_mul]
    omega
theorem apart_colours {N k a : Nat} {es : List E} {L : Nat → Int} (hN : N ≤ 10) (hok : ∀ e ∈ es, okE N e) (hc : Col (nearW N es) N k L) (hm : MaxCl (othW N es) N a) : N ≤ k * popc 10 a := by
  have h1 := classes_sum (k := k) L N fun j hj => ⟨(hc j hj).1, (hc j hj).2.1⟩
  have h2 := sum_le_mul (l := List.range k) (m := popc 10 a) (fun (c : Nat) => cntB N fun j => L j == (c : Int)) (fun c _ => by
    rw [← popc_word _ hN]
    refine hm.2.2 _ (wordOf_lt _ _) ((isCl_oth hN hok (wordOf_lt _ _)).2 fun i j hji hi hj => ?_)
    rw [wordOf_bit] at hi hj
    simp only [Bool.and_eq_true, decide_eq_true_eq, beq_iff_eq] at hi hj
    cases had : adj es i j
    · rfl
    · have := (hc i hi.1).2.2 j (by show ((nearW N es).getD i 0).testBit j = true; rw [nearW_bit es hok i j hi.1, had])
      omega)
  rw [h1] at h2
  simpa using h2
set_option maxHeartbeats 1600000 in
theorem crowdColours_walk (N : Int) (A : Option Addr) (len cap : Nat) (es : List E) (w : World) (hr : Rd w A len 3 (ps3 .i64 .i64 .i64 es)) (hlen : len ≤ 9223372036854775807) (hcap : len ≤ cap) (htb : Tb w) (hg : 0 < w.heap.size) :
    Calls Tryd.prog 11 #[.agg #[.int .i64 N, .slice A len cap]] w fun e w' => e = .returned (.bool true) ∧ Below w.heap.size w w' := by
  have gb := (Below.refl _ w).alloc (Nat.le_refl _) (.cells #[.int .i64 N, .slice A len cap] 24)
  have g0 : (w.alloc (.cells #[.int .i64 N, .slice A len cap] 24)).cell? ⟨w.heap.size, 0, none⟩ = some (.int .i64 N) := by go_simp
  have g1 : (w.alloc (.cells #[.int .i64 N, .slice A len cap] 24)).cell? ⟨w.heap.size, 1, none⟩ = some (.slice A len cap) := by go_simp
  have gs : (w.alloc (.cells #[.int .i64 N, .slice A len cap] 24)).heap.size = w.heap.size + 1 := by simp
  have HG := Lib.hid (fun W (h : Below w.heap.size w W) => good_any N A len cap es W (hr.later h) hlen hcap)
  cases hq : gchk N es == 0
  · have hqn : gchk N es ≠ 0 := by simpa using hq
    have hqb : (gchk N es != 0) = true := by simpa using hq
    have HM := Lib.hid (most_bad N A len cap es _ (hr.later gb) hlen hqn)
    have HA := Lib.hid (fun W (h : Below w.heap.size w W) => apart_bad N A len cap es W (hr.later h) hlen hqn)
    have HL := Lib.hid (fun W (h : Below w.heap.size w W) => least_bad N A len cap es W (hr.later h) hlen hq)
    rw [hq] at HG
    clear hr hq htb hqn
    generalize gchk N es = z at *
    go_enter Tryd.func11, Tryd.ntmps11
    go_wp2_with fail
    generalize w.alloc (.cells #[.int .i64 N, .slice A len cap] 24) = wg at *
    refine HM.out.mono ?_
    rintro _ w1 ⟨rfl, hb1⟩
    have q0 := below_cell hb1 (by omega) g0
    have q1 := below_cell hb1 (by omega) g1
    have hs1 := hb1.size
    have hbw := gb.trans (hb1.mono (by omega))
    have HA1 := Lib.hid (HA.out w1 hbw)
    clear hb1 g0 g1 gb
    go_wp2_with fail
    refine HA1.out.mono ?_
    rintro _ w2 ⟨rfl, hb2⟩
    have q0 := below_cell hb2 (by omega) q0
    have q1 := below_cell hb2 (by omega) q1
    have hs2 := hb2.size
    have hbw2 := hbw.trans (hb2.mono hbw.size)
    have HL1 := Lib.hid (HL.out w2 hbw2)
    clear hb2 hbw
    go_wp2_with fail
    refine HL1.out.mono ?_
    rintro _ w3 ⟨z3, rfl, hz3, hb3⟩
    have q0 := below_cell hb3 (by omega) q0
    have q1 := below_cell hb3 (by omega) q1
    have hbw3 := hbw2.trans (hb3.mono hbw2.size)
    have HG1 := Lib.hid (HG.out w3 hbw3)
    clear hb3 hbw2
    go_wp2_with fail
    refine HG1.out.mono ?_
    rintro _ w4 ⟨rfl, hb4⟩
    go_wp2
    go_ret
    exact ⟨rfl, hbw3.trans (hb4.mono hbw3.size)⟩
  · have hok : gchk N es = 0 := by simpa using hq
    obtain ⟨h0, h10, h45, hokE, _⟩ := gchk_ok hok
    obtain ⟨n, rfl⟩ := Int.eq_ofNat_of_zero_le h0
    rw [Int.toNat_natCast] at hokE
    rw [ps3_len hr] at h45
    have hN : n ≤ 10 := by omega
    rw [hq] at HG
    have HM := Lib.hid (most_ok n A len cap es _ (hr.later gb) hN h45 hokE hok)
    have HA := Lib.hid (fun W (h : Below w.heap.size w W) => apart_ok n A len cap es W (hr.later h) hN h45 hokE hok)
    have HL := Lib.hid (fun W (h : Below w.heap.size w W) => least_ok n A len cap es W (hr.later h) h45 hok (htb.below hg h) (Nat.lt_of_lt_of_le hg h.size))
    have hokH := Lib.hid hokE
    clear hr hq htb hok hokE
    go_enter Tryd.func11, Tryd.ntmps11
    go_wp2_with fail
    generalize w.alloc (.cells #[.int .i64 (n : Int), .slice A len cap] 24) = wg at *
    refine HM.out.mono ?_
    rintro _ w1 ⟨c, rfl, hc1024, hmc, hb1⟩
    have q0 := below_cell hb1 (by omega) g0
    have q1 := below_cell hb1 (by omega) g1
    have hs1 := hb1.size
    have hbw := gb.trans (hb1.mono (by omega))
    have HA1 := Lib.hid (HA.out w1 hbw)
    have hmcH := Lib.hid hmc
    clear hb1 g0 g1 gb hmc
    go_wp2_with fail
    refine HA1.out.mono ?_
    rintro _ w2 ⟨a, rfl, ha1024, hma, hb2⟩
    have q0 := below_cell hb2 (by omega) q0
    have q1 := below_cell hb2 (by omega) q1
    have hs2 := hb2.size
    have hbw2 := hbw.trans (hb2.mono hbw.size)
    have HL1 := Lib.hid (HL.out w2 hbw2)
    have hmaH := Lib.hid hma
    clear hb2 hbw hma
    go_wp2_with fail
    refine HL1.out.mono ?_
    rintro _ w3 ⟨k, gl, L, rfl, hown, hcol, hchi, hkN, hb3⟩
    have q0 := below_cell hb3 (by omega) q0
    have q1 := below_cell hb3 (by omega) q1
    have hs3 := hb3.size
    have hbw3 := hbw2.trans (hb3.mono hbw2.size)
    have HG1 := Lib.hid (HG.out w3 hbw3)
    have l1 := crowd_colours hokH.out hcol hmcH.out
    have l2 := apart_colours hN hokH.out hcol hmaH.out
    have hbw3H := Lib.hid hbw3
    clear hb3 hbw2 hown hcol hchi hmcH hmaH hbw3
    go_wp2_with fail
    refine HG1.out.mono ?_
    rintro _ w4 ⟨rfl, hb4⟩
    have q0 := below_cell hb4 (by omega) q0
    have q1 := below_cell hb4 (by omega) q1
    have hbw4 := hbw3H.out.trans (hb4.mono hbw3H.out.size)
    have HS1 := Lib.hid (fun W => size_any c W hc1024)
    have HS2 := Lib.hid (fun W => size_any a W ha1024)
    have hpc := popc_le 10 c
    have hpa := popc_le 10 a
    generalize popc 10 c = pc at *
    generalize popc 10 a = pa at *
    have hkp : k * pa ≤ 100 := Nat.le_trans (Nat.mul_le_mul (show k ≤ 10 by omega) hpa) (by omega)
    have hmul : IntKind.i64.wrap ((k : Int) * (pa : Int)) = ((k * pa : Nat) : Int) := by
      rw [show (k : Int) * (pa : Int) = ((k * pa : Nat) : Int) by simp]
      exact IntWalk.i64_in _ (by omega)
    have hbw4H := Lib.hid hbw4
    clear hb4 hbw4
    go_wp2_with fail
    go_region_held3 (fun w' => w'.cell? ⟨w.heap.size, 0, none⟩ = some (.int .i64 n)) (first | go_keep | assumption | fail) ((first
      | (go_at_call 30
         (with_reducible refine (HS1.out _).mono ?_)
         rintro e wA ⟨rfl, rfl⟩)
      | (go_at_call 30
         (with_reducible refine (HS2.out _).mono ?_)
         rintro e wA ⟨rfl, rfl⟩)
      | fail))
    all_goals
      have hdec : (n : Int) ≤ (k : Int) * (pa : Int) := by
        have : ((n : Nat) : Int) ≤ ((k * pa : Nat) : Int) := by omega
        simpa using this
      go_wp2_with fail
      go_ret
      exact ⟨by simp [hdec], by first | exact hbw4H.out | exact hbw4H.out.drew | exact below_drewN hbw4H.out _⟩
theorem crowdColours_any (N : Int) (A : Option Addr) (len cap : Nat) (es : List E) (w : World) (_ : (Lit.int .i64 N).wf = true) (hr : Rd w A len 3 (ps3 .i64 .i64 .i64 es)) (hlen : len ≤ maxLen) (hcap : len ≤ cap) (_ : ∀ a ∈ es, (Lit.int .i64 a.1).wf = true ∧ (Lit.int .i64 a.2.1).wf = true ∧ (Lit.int .i64 a.2.2).wf = true) (htb : Tb w) (hg : 0 < w.heap.size) :
    Calls Tryd.prog 11 #[.agg #[.int .i64 N, .slice A len cap]] w fun e w' => e = .returned (.bool true) ∧ Below w.heap.size w w' := by
  unfold maxLen at hlen
  exact crowdColours_walk N A len cap es w hr (by omega) hcap htb hg
end Go.Proofs.YtnpgnohnpbdblaaDoor
