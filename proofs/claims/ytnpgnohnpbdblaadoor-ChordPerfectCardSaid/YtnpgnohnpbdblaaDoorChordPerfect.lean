/- ChordPerfect: where all nodes can go, who goes from the last one on needs no more colours than the largest crowd has members. No program in sight. -/
import Derived.Test.YtnpgnohnpbdblaaDoorChordOrd
import Derived.Test.YtnpgnohnpbdblaaDoorGreedyLaw
import Derived.Test.YtnpgnohnpbdblaaDoorMost
import Derived.Test.YtnpgnohnpbdblaaDoorCrowdColours
import Derived.Test.YtnpgnohnpbdblaaDoorColourOrder
namespace Go.Proofs.YtnpgnohnpbdblaaDoor
open Go.RowKit

theorem andN_bitP {a b i : Nat} (ha : a < 4294967296) (hi : i < 32) : (b &&& (4294967295 - a)).testBit i = (b.testBit i && !a.testBit i) := by
  rw [Nat.testBit_and, show 4294967295 - a = 2 ^ 32 - (a + 1) by omega, Nat.testBit_two_pow_sub_succ (by omega)]
  simp [hi]
theorem popc_ge {w : Nat} {l : List Nat} (hn : l.Nodup) (h : ∀ a ∈ l, a < 10 ∧ w.testBit a = true) : l.length ≤ popc 10 w := by
  unfold popc
  exact hn.length_le_of_subset fun a ha => List.mem_filter.2 ⟨List.mem_range.2 (h a ha).1, (h a ha).2⟩
theorem allB_nb {ns : List Nat} {n x a b : Nat} (g : Gr n ns) (hx : x < 2 ^ n) (h : allB ns x = true) (ha : x.testBit a = true) (hb : x.testBit b = true) (hab : b ≠ a) : nb ns a b = true := by
  have hn := g.n10
  have hp10 : 2 ^ n ≤ 2 ^ 10 := Nat.pow_le_pow_right (by omega) hn
  have han := lt_bit hx ha
  have hbn := lt_bit hx hb
  have h1 := List.all_eq_true.1 h a (mem_bitsL.2 ⟨by omega, ha⟩)
  unfold nearAll at h1
  have h2 := congrArg (fun y => y.testBit b) (eq_of_beq h1)
  rw [andN_bitP (by have := g.lt a; omega) (by omega), hb, Nat.testBit_two_pow] at h2
  have h3 : decide (a = b) = false := decide_eq_false (fun e => hab e.symm)
  rw [h3] at h2
  unfold nb
  simpa using h2
theorem allB_no {ns : List Nat} {n x : Nat} (g : Gr n ns) (hx : x < 2 ^ n) (h : allB ns x = false) : ∃ a b, x.testBit a = true ∧ x.testBit b = true ∧ a ≠ b ∧ nb ns a b = false := by
  have hn := g.n10
  have hp10 : 2 ^ n ≤ 2 ^ 10 := Nat.pow_le_pow_right (by omega) hn
  obtain ⟨a, ha, hna⟩ := List.all_eq_false.1 h
  have ha := (mem_bitsL.1 ha).2
  have han := lt_bit hx ha
  refine Classical.byContradiction fun hno => hna ?_
  unfold nearAll
  rw [beq_iff_eq]
  apply Nat.eq_of_testBit_eq
  intro m
  rw [Nat.testBit_two_pow]
  by_cases hm : m < 32
  · rw [andN_bitP (by have := g.lt a; omega) hm]
    by_cases e : a = m
    · subst e
      rw [ha]
      have : (ns.getD a 0).testBit a = false := by
        cases hb : (ns.getD a 0).testBit a
        · rfl
        · exact absurd rfl (g.ok a a hb).2.2.2
      rw [this]; simp
    · rw [decide_eq_false e]
      cases hb : x.testBit m
      · rfl
      · have : nb ns a m = true := Classical.byContradiction fun hh => hno ⟨a, m, ha, hb, e, by simpa using hh⟩
        unfold nb at this
        rw [this]; rfl
  · rw [Nat.testBit_and, Nat.testBit_lt_two_pow (Nat.lt_of_lt_of_le hx (Nat.le_trans hp10 (Nat.pow_le_pow_right (by omega) (by omega)))), decide_eq_false (by omega)]; rfl
/-- where nobody can go there are four nodes, and an edge -/
theorem stuck {ns p : List Nat} {n left : Nat} (g : Gr n ns) (hE : El ns n p left) (h0 : left ≠ 0) (hs : ∀ i, left.testBit i = true → simpB ns left i = false) : 4 ≤ n ∧ ∃ a b, nb ns a b = true := by
  have hn := g.n10
  have two : ∀ i, left.testBit i = true → ∃ a b, left.testBit a = true ∧ left.testBit b = true ∧ nb ns i a = true ∧ nb ns i b = true ∧ a ≠ b ∧ nb ns a b = false := fun i hi => by
    have hl : ns.getD i 0 &&& left < 2 ^ n := Nat.lt_of_le_of_lt Nat.and_le_right hE.lt
    obtain ⟨a, b, h1, h2, h3, h4⟩ := allB_no g hl (hs i hi)
    rw [Nat.testBit_and, Bool.and_eq_true] at h1 h2
    exact ⟨a, b, h1.2, h2.2, h1.1, h2.1, h3, h4⟩
  obtain ⟨i, hi⟩ := Nat.exists_testBit_of_ne_zero h0
  obtain ⟨a, b, ha, hb, hia, hib, hab, hnab⟩ := two i hi
  obtain ⟨u, v, hu, hv, hau, hav, huv, _⟩ := two a ha
  have o1 := g.ok i a hia
  have o2 := g.ok i b hib
  have o3 := g.ok a u hau
  have o4 := g.ok a v hav
  have hub : u ≠ b := fun e => by subst e; rw [hnab] at hau; cases hau
  have hvb : v ≠ b := fun e => by subst e; rw [hnab] at hav; cases hav
  refine ⟨?_, i, a, hia⟩
  have h1 := o1.2.2.2
  have h2 := o2.2.2.2
  have h3 := o3.2.2.2
  have h4 := o4.2.2.2
  omega
theorem crowd_bound {ns p : List Nat} {n b : Nat} {L : Nat → Int} (g : Gr n ns) (hE : El ns n p 0) (hG : GrI ns n p.reverse n L) (hm : MaxCl ns n b) : ∀ i, i < n → 0 ≤ L i ∧ L i < popc 10 b := by
  have hn := g.n10
  have hz : bitsL 0 = [] := by decide
  have hp : p.Perm (List.range n) := by have := hE.perm; rwa [hz, List.append_nil] at this
  have hpl : p.length = n := by simpa using hp.length_eq
  have hrl : p.reverse.length = n := by simp [hpl]
  intro i hi
  have hmem : i ∈ p.reverse.take n := by
    rw [List.take_of_length_le (by omega)]
    exact List.mem_reverse.2 (hp.symm.subset (List.mem_range.2 hi))
  have hb := hG.bd i hmem
  refine ⟨hb.1, ?_⟩
  obtain ⟨d, hd⟩ := Int.eq_ofNat_of_zero_le hb.1
  rw [hd]
  obtain ⟨k, hk, hki⟩ := List.getElem_of_mem (hp.symm.subset (List.mem_range.2 hi))
  have hpk : p.getD k 0 = i := by rw [List.getD, List.getElem?_eq_getElem hk]; exact hki
  have hyj : p.reverse.getD (n - 1 - k) 0 = i := by
    rw [List.getD, List.getElem?_reverse (by omega), show p.length - 1 - (n - 1 - k) = k by omega, List.getElem?_eq_getElem hk]
    exact hki
  obtain ⟨lf, hlf, hsimp, hperm⟩ := hE.step k hk
  rw [hz, List.append_nil] at hperm
  rw [hpk] at hsimp
  have hq : ns.getD i 0 &&& lf < 2 ^ n := Nat.lt_of_le_of_lt Nat.and_le_right hlf
  -- for each lesser colour a neighbour that goes later
  have hwhy : ∀ c, c < d → ∃ m, m < n ∧ nb ns i m = true ∧ lf.testBit m = true ∧ L m = (c : Int) := fun c hc => by
    obtain ⟨j', hj', hnb, hLc⟩ := hG.why (n - 1 - k) (by omega) c (by rw [hyj, hd]; omega)
    rw [hyj] at hnb
    have ej : p.reverse.getD j' 0 = p.getD (n - 1 - j') 0 := by
      rw [List.getD, List.getD, List.getElem?_reverse (by omega), hpl]
    rw [ej] at hnb hLc
    refine ⟨_, (g.ok _ _ hnb).2.1, hnb, ?_, hLc⟩
    have : p.getD (n - 1 - j') 0 ∈ p.drop k := by
      rw [List.getD, List.getElem?_eq_getElem (by omega), Option.getD_some]
      exact List.mem_iff_getElem.2 ⟨n - 1 - j' - k, by simp; omega, by simp [show k + (n - 1 - j' - k) = n - 1 - j' by omega]⟩
    exact (mem_bitsL.1 (hperm.subset this)).2
  obtain ⟨f, hf⟩ : ∃ f : Nat → Nat, ∀ c, c < d → f c < n ∧ nb ns i (f c) = true ∧ lf.testBit (f c) = true ∧ L (f c) = (c : Int) := by
    refine ⟨fun c => if hc : c < d then Classical.choose (hwhy c hc) else 0, fun c hc => ?_⟩
    have := Classical.choose_spec (hwhy c hc)
    simpa [hc] using this
  have hcl : isCl ns ((ns.getD i 0 &&& lf) ||| 2 ^ i) := by
    intro a b hba ha hb'
    rw [Nat.testBit_or, Bool.or_eq_true, Nat.testBit_two_pow, decide_eq_true_iff] at ha hb'
    have key : ∀ m, (ns.getD i 0 &&& lf).testBit m = true → nb ns i m = true := fun m hm => by
      rw [Nat.testBit_and, Bool.and_eq_true] at hm; exact hm.1
    show nb ns a b = true
    rcases ha with ha | rfl
    · rcases hb' with hb' | rfl
      · exact allB_nb g hq hsimp ha hb' (by omega)
      · exact (g.ok _ _ (key a ha)).2.2.1
    · rcases hb' with hb' | rfl
      · exact key b hb'
      · omega
  have hlt : (ns.getD i 0 &&& lf) ||| 2 ^ i < 2 ^ n := Nat.or_lt_two_pow hq (Nat.pow_lt_pow_right (by omega) hi)
  have h1 := hm.2.2 _ hlt hcl
  have h2 : (i :: (List.range d).map f).length ≤ popc 10 ((ns.getD i 0 &&& lf) ||| 2 ^ i) := by
    refine popc_ge ?_ fun a ha => ?_
    · rw [List.nodup_cons]
      refine ⟨fun hmm => ?_, ?_⟩
      · obtain ⟨c, hc, he⟩ := List.mem_map.1 hmm
        have := (hf c (List.mem_range.1 hc)).2.1
        rw [he] at this
        exact (g.ok i i this).2.2.2 rfl
      · rw [List.Nodup, List.pairwise_map]
        refine List.Pairwise.imp_of_mem ?_ List.nodup_range
        intro a b ha hb hab he
        have e1 := (hf a (List.mem_range.1 ha)).2.2.2
        have e2 := (hf b (List.mem_range.1 hb)).2.2.2
        rw [he, e2] at e1
        omega
    · rcases List.mem_cons.1 ha with rfl | ha
      · exact ⟨by omega, by rw [Nat.testBit_or, Nat.testBit_two_pow]; simp⟩
      · obtain ⟨c, hc, rfl⟩ := List.mem_map.1 ha
        have hh := hf c (List.mem_range.1 hc)
        refine ⟨by omega, ?_⟩
        have : (ns.getD i 0 &&& lf).testBit (f c) = true := by rw [Nat.testBit_and, Bool.and_eq_true]; exact ⟨hh.2.1, hh.2.2.1⟩
        rw [Nat.testBit_or, this]; rfl
  simp only [List.length_cons, List.length_map, List.length_range] at h2
  omega
end Go.Proofs.YtnpgnohnpbdblaaDoor

namespace Go.Proofs.YtnpgnohnpbdblaaDoor
open Go.RowKit Go.Shelf

theorem col_two {ns : List Nat} {n k a b : Nat} {M : Nat → Int} (g : Gr n ns) (h : Col ns n k M) (hab : nb ns a b = true) : 2 ≤ k := by
  have o := g.ok a b hab
  have h1 := h a o.1
  have h2 := h b o.2.1
  have := h1.2.2 b hab
  omega
theorem rev_take {p : List Nat} {n q : Nat} (hp : p.length = n) (hq : q < n) : p.reverse.take (q + 1) = p.reverse.take q ++ [p.getD (n - 1 - q) 0] := by
  rw [take_succ_getD' p.reverse 0 q (by simp; omega)]
  congr 2
  rw [List.getD, List.getD, List.getElem?_reverse (by omega), hp]
set_option maxHeartbeats 3200000 in
set_option maxRecDepth 100000 in
theorem perfect_walk (N : Int) (A : Option Addr) (len cap : Nat) (es : List E) (w : World) (hr : Rd w A len 3 (ps3 .i64 .i64 .i64 es)) (hlen : len ≤ 9223372036854775807) (hcap : len ≤ cap) (htb : Tb w) (hg : 0 < w.heap.size) :
    Calls Tryd.prog 12 #[.agg #[.int .i64 N, .slice A len cap]] w fun e w' => e = .returned (.bool true) ∧ Below w.heap.size w w' := by
  have gb := (Below.refl _ w).alloc (Nat.le_refl _) (.cells #[.int .i64 N, .slice A len cap] 24)
  have g0 : (w.alloc (.cells #[.int .i64 N, .slice A len cap] 24)).cell? ⟨w.heap.size, 0, none⟩ = some (.int .i64 N) := by go_simp
  have g1 : (w.alloc (.cells #[.int .i64 N, .slice A len cap] 24)).cell? ⟨w.heap.size, 1, none⟩ = some (.slice A len cap) := by go_simp
  have gs : (w.alloc (.cells #[.int .i64 N, .slice A len cap] 24)).heap.size = w.heap.size + 1 := by simp
  have HG := Lib.hid (fun W (h : Below w.heap.size w W) => good_any N A len cap es W (hr.later h) hlen hcap)
  cases hq : gchk N es == 0
  · have hqn : gchk N es ≠ 0 := by simpa using hq
    have hqb : (gchk N es != 0) = true := by simpa using hq
    have HO := Lib.hid (order_bad N A len cap es _ (hr.later gb) hlen hq)
    have HM := Lib.hid (fun W (h : Below w.heap.size w W) => most_bad N A len cap es W (hr.later h) hlen hqn)
    have HL := Lib.hid (fun W (h : Below w.heap.size w W) => least_bad N A len cap es W (hr.later h) hlen hq)
    rw [hq] at HG
    clear hr hq htb hqn
    generalize gchk N es = z at *
    go_enter Tryd.func12, Tryd.ntmps12
    go_wp2_with fail
    generalize w.alloc (.cells #[.int .i64 N, .slice A len cap] 24) = wg at *
    refine HO.out.mono ?_
    rintro _ w1 ⟨zo, rfl, hzo, hb1⟩
    have q0 := below_cell hb1 (by omega) g0
    have q1 := below_cell hb1 (by omega) g1
    have hbw := gb.trans (hb1.mono (by omega))
    have HM1 := Lib.hid (HM.out w1 hbw)
    clear hb1 g0 g1 gb
    go_wp2_with fail
    refine HM1.out.mono ?_
    rintro _ w2 ⟨rfl, hb2⟩
    have hs1 := hbw.size
    have q0 := below_cell hb2 (by have := World.block_lt_of_cell? _ _ q0; omega) q0
    have q1 := below_cell hb2 (by have := World.block_lt_of_cell? _ _ q1; omega) q1
    have hbw2 := hbw.trans (hb2.mono hbw.size)
    have HL1 := Lib.hid (HL.out w2 hbw2)
    clear hb2 hbw
    go_wp2_with fail
    refine HL1.out.mono ?_
    rintro _ w3 ⟨z2, rfl, hz2, hb3⟩
    have q0 := below_cell hb3 (by have := World.block_lt_of_cell? _ _ q0; omega) q0
    have q1 := below_cell hb3 (by have := World.block_lt_of_cell? _ _ q1; omega) q1
    have hbw3 := hbw2.trans (hb3.mono hbw2.size)
    have HG1 := Lib.hid (HG.out w3 hbw3)
    clear hb3 hbw2
    go_wp2_with fail
    refine HG1.out.mono ?_
    rintro _ w4 ⟨rfl, hb4⟩
    go_wp2
    go_ret
    exact ⟨rfl, hbw3.trans (hb4.mono hbw3.size)⟩
  · have hok : gchk N es = 0 := by simpa using hq
    obtain ⟨h0, h10, h45, hokE, _⟩ := gchk_ok hok
    obtain ⟨n, rfl⟩ := Int.eq_ofNat_of_zero_le h0
    rw [Int.toNat_natCast] at hokE
    rw [ps3_len hr] at h45
    have hN : n ≤ 10 := by omega
    have g := nearGr hok
    rw [hq] at HG
    have HO := Lib.hid (order_ok n A len cap es _ (hr.later gb) h45 hok (htb.below hg gb) (by omega))
    have HM := Lib.hid (fun W (h : Below w.heap.size w W) => most_ok n A len cap es W (hr.later h) hN h45 hokE hok)
    have HL := Lib.hid (fun W (h : Below w.heap.size w W) => least_ok n A len cap es W (hr.later h) h45 hok (htb.below hg h) (Nat.lt_of_lt_of_le hg h.size))
    have HGr := Lib.hid (fun W (h : Below w.heap.size w W) A' m c zs (hR : Rd W A' m 1 (ints .i64 zs)) hm => greedy_ok n A len cap es A' m c zs W (hr.later h) h45 hok hR hm (htb.below hg h) (Nat.lt_of_lt_of_le hg h.size))
    have gH := Lib.hid g; have hokH := Lib.hid hokE
    clear hr hq htb hok hokE g h0 h10
    go_enter Tryd.func12, Tryd.ntmps12
    go_wp2_with fail
    generalize w.alloc (.cells #[.int .i64 (n : Int), .slice A len cap] 24) = wg at *
    refine HO.out.mono ?_
    rintro _ w1 ⟨hb1, hord⟩
    have q0 := below_cell hb1 (by omega) g0
    have q1 := below_cell hb1 (by omega) g1
    have hbw := gb.trans (hb1.mono (by omega))
    have HM1 := Lib.hid (HM.out w1 hbw)
    have hl1 := hb1.size
    clear hb1 g0 g1 gb HO HM
    rcases hord with ⟨Ap, cp, p, rfl, hRp, hcp, hE⟩ | ⟨rfl, p, left, hE, hl0, hst⟩
    · have hRpH := Lib.hid hRp; have hEH := Lib.hid hE
      clear hRp hE
      go_wp2_with fail
      refine HM1.out.mono ?_
      rintro _ w2 ⟨b, rfl, hb1024, hmax, hb2⟩
      have q0 := below_cell hb2 (by omega) q0
      have q1 := below_cell hb2 (by omega) q1
      have hl2 := hb2.size
      have hbw2 := hbw.trans (hb2.mono hbw.size)
      have hRp2 := Lib.hid (hRpH.out.later hb2)
      have HL1 := Lib.hid (HL.out w2 hbw2)
      have hmaxH := Lib.hid hmax
      clear hb2 hbw HL HM1 hmax hRpH
      go_wp2_with fail
      refine HL1.out.mono ?_
      rintro _ w3 ⟨c, gl, L, rfl, hown, hcol, hchi, hcN, hb3⟩
      have q0 := below_cell hb3 (by omega) q0
      have q1 := below_cell hb3 (by omega) q1
      have hl3 := hb3.size
      have hbw3 := hbw2.trans (hb3.mono hbw2.size)
      have hRp3 := Lib.hid (hRp2.out.later hb3)
      have HG1 := Lib.hid (HG.out w3 hbw3)
      have hcolH := Lib.hid hcol; have hchiH := Lib.hid hchi
      clear hb3 hbw2 HL1 hown hcol hchi hRp2 HG
      go_wp2_with fail
      refine HG1.out.mono ?_
      rintro _ w4 ⟨rfl, hb4⟩
      have q0 := below_cell hb4 (by omega) q0
      have q1 := below_cell hb4 (by omega) q1
      have hl4 := hb4.size
      have hbw4 := hbw3.trans (hb4.mono hbw3.size)
      have hRp4 := Lib.hid (hRp3.out.later hb4)
      have hpn : p.length = n := by have := hEH.out.perm.length_eq; simpa [show bitsL 0 = [] by decide] using this
      have hpnH := Lib.hid hpn
      have hw1 : IntKind.i64.wrap ((n : Int) - 1) = (n : Int) - 1 := by rw [IntWalk.i64_in _ (by omega)]
      have hbw4H := Lib.hid hbw4; have q0H := Lib.hid q0; have q1H := Lib.hid q1
      clear hb4 hbw3 HG1 hRp3 hpn q0 q1 hbw4
      go_wp2
      go_loopw [10, 11] (fun v i wr => ∃ q : Nat, q ≤ n ∧ i = .int .i64 ((n : Int) - 1 - q) ∧ wr.ownsRow w4.heap.size 3 1 v q (ints .i64 (natI (p.reverse.take q))) ∧ Below w4.heap.size w4 wr) (fun v _ _ => n - lenOf v)
      case atStart => exact ⟨0, Nat.zero_le _, by simp, World.ownsRow_nil _ _ _ _, Below.refl _ _⟩
      case round =>
        obtain ⟨q, hq, rfl, hown, hb⟩ := hrel
        obtain ⟨A', c', rfl⟩ := own_slice hown
        by_cases hlt : q < n
        · obtain ⟨kq, hkq⟩ : ∃ kq : Nat, (n : Int) - 1 - q = kq := ⟨n - 1 - q, by omega⟩
          have hkn : kq < n := by omega
          have hkN : n - 1 - q = kq := by omega
          obtain ⟨bp, op, rfl, hbp, hcp1⟩ := (hRp4.out.later hb).int hkn
          rw [natI_get] at hcp1
          have htk := rev_take hpnH.out hlt
          rw [hkN] at htk
          have htkH := Lib.hid htk
          generalize p.getD kq 0 = x at *
          rw [hkq]
          have hnx : IntKind.i64.wrap ((kq : Int) - 1) = (n : Int) - 1 - ((q + 1 : Nat) : Int) := by rw [IntWalk.i64_in _ (by omega)]; omega
          have hkI : (kq : Int) < n := by omega
          have hk0 : (0 : Int) ≤ kq := by omega
          have hoh := Lib.hid hown; have hbH := Lib.hid hb
          have hbs := hb.size
          clear hown hb hkq htk
          go_wp2_with (at_builtin; refine wpList_app (s := .tmp 65) (x := .tmp 70) _ tiK (hoh.out.alloc _) (rd_new1 wr (.int .i64 (x : Int)) 3) (ints_one (l := [(x : Int)])) (by omega) (by omega) (by simp; omega) rfl rfl rfl rfl ?_; intro v' wA ownA gA atA)
          obtain ⟨g', cap', rfl⟩ := ownsRow_succ ownA
          have hbA := (hbH.out.alloc (by omega) (.cells #[.int .i64 (x : Int)] 3)).grown gA (by simp; omega) (fun g hg => (hoh.out.lt g hg).1)
          have hoA := Lib.hid ownA; have hbAH := Lib.hid hbA
          clear ownA gA atA hbA
          go_wp2
          go_roundw
          case rel =>
            refine ⟨q + 1, by omega, by first | go_num | (simp; omega), ?_, hbAH.out⟩
            have := hoA.out
            rw [htkH.out]
            have e2 : ints .i64 (natI (p.reverse.take q ++ [x])) = ints .i64 (natI (p.reverse.take q)) ++ [.int .i64 (x : Int)] := by simp [natI, ints]
            rw [e2]; exact this
          case measure => simp [lenOf]; omega
        · obtain rfl : q = n := by omega
          have hT : p.reverse.take q = p.reverse := List.take_of_length_le (by simp [hpnH.out])
          rw [hT] at hown
          have hbT := hbw4H.out.trans (hb.mono hbw4H.out.size)
          have q0 := below_cell hb (by omega) q0H.out
          have q1 := below_cell hb (by omega) q1H.out
          have hz : bitsL 0 = [] := by decide
          have hp : p.reverse.Perm (List.range q) := (List.reverse_perm p).trans (by have := hEH.out.perm; rwa [hz, List.append_nil] at this)
          have HGr1 := Lib.hid (HGr.out wr hbT A' q c' _ (Rd.of_own hown) (by omega))
          have hEb := Lib.hid ((eachB_iff q (natI p.reverse)).2 ⟨_, hp, rfl⟩)
          obtain ⟨i, hi⟩ : ∃ i : Int, (q : Int) - 1 - q = i := ⟨_, rfl⟩
          have hi0 : i < 0 := by omega
          rw [hi]
          have hbTH := Lib.hid hbT
          have hbrs := hb.size
          clear hown hb hbT hi hp hT HGr
          go_wp2_with fail
          refine HGr1.out.mono ?_
          rintro _ w6 ⟨hb6, ⟨hf, _⟩ | ⟨y', gl2, L2, hp2, hy2, rfl, hown2, hG⟩⟩
          · rw [hEb.out] at hf; cases hf
          · have q0 := below_cell hb6 (by omega) q0
            have hyy : y' = p.reverse := by
              have h1 : (natI p.reverse).map Int.toNat = (natI y').map Int.toNat := by rw [hy2]
              have h2 : ∀ z : List Nat, (natI z).map Int.toNat = z := fun z => by simp [natI, Function.comp_def]
              rw [h2, h2] at h1; exact h1.symm
            subst hyy
            have hbd := crowd_bound gH.out hEH.out hG hmaxH.out
            have hcolG := hG.col gH.out hp2
            have hcolB : Col (nearW q es) q (popc 10 b) L2 := fun j hj => ⟨(hbd j hj).1, (hbd j hj).2, (hcolG j hj).2.2⟩
            have hck : c = popc 10 b := Nat.le_antisymm (isChi_le hchiH.out hcolB) (crowd_colours hokH.out hcolH.out hmaxH.out)
            have hall : insideB (c : Int) ((List.range q).map L2) = true := List.all_eq_true.2 fun z hz => by
              obtain ⟨j, hj, rfl⟩ := List.mem_map.1 hz
              have hj := List.mem_range.1 hj
              have h3 := hbd j hj
              unfold inB; simp; omega
            have hR6 := Rd.of_own hown2
            rw [row_intsO] at hR6
            have HI := inside_any (c : Int) (some ⟨gl2, 0, none⟩) q q _ w6 hR6 (by omega)
            rw [hall] at HI
            have HIH := Lib.hid HI
            have HS := Lib.hid (fun W => size_any b W hb1024)
            rw [← hck] at HS
            have hb7 := hbTH.out.trans (hb6.mono hbTH.out.size)
            clear hb6 hp2 hy2 hown2 hG hbd hcolG hcolB hall hR6 HI hck
            go_wp2_with fail
            refine HIH.out.mono ?_
            rintro _ w7 ⟨rfl, rfl⟩
            go_wp2_with fail
            refine (HS.out w6).mono ?_
            rintro _ w8 ⟨rfl, rfl⟩
            go_wp2
            go_ret
            exact ⟨rfl, hb7⟩
    · have hst2 := stuck gH.out hE hl0 hst
      have h4 : (4 : Int) ≤ n := by omega
      have hst2H := Lib.hid hst2.2
      clear hE hl0 hst hst2
      go_wp2_with fail
      refine HM1.out.mono ?_
      rintro _ w2 ⟨b, rfl, hb1024, hmax, hb2⟩
      have q0 := below_cell hb2 (by omega) q0
      have q1 := below_cell hb2 (by omega) q1
      have hl2 := hb2.size
      have hbw2 := hbw.trans (hb2.mono hbw.size)
      have HL1 := Lib.hid (HL.out w2 hbw2)
      clear hb2 hbw HL HM1 hmax
      go_wp2_with fail
      refine HL1.out.mono ?_
      rintro _ w3 ⟨c, gl, L, rfl, hown, hcol, hchi, hcN, hb3⟩
      have q0 := below_cell hb3 (by omega) q0
      have q1 := below_cell hb3 (by omega) q1
      have hl3 := hb3.size
      have hbw3 := hbw2.trans (hb3.mono hbw2.size)
      have HG1 := Lib.hid (HG.out w3 hbw3)
      have hc2 : (2 : Int) ≤ c := by
        obtain ⟨a, a', haa⟩ := hst2H.out
        have := col_two gH.out hcol haa
        omega
      clear hb3 hbw2 HL1 hown hcol hchi HG
      go_wp2_with fail
      refine HG1.out.mono ?_
      rintro _ w4 ⟨rfl, hb4⟩
      have q0 := below_cell hb4 (by omega) q0
      have hbw4 := hbw3.trans (hb4.mono hbw3.size)
      clear hb4 hbw3 HG1
      go_wp2
      go_ret
      exact ⟨rfl, hbw4⟩
theorem chordPerfect_any (N : Int) (A : Option Addr) (len cap : Nat) (es : List E) (w : World) (_ : (Lit.int .i64 N).wf = true) (hr : Rd w A len 3 (ps3 .i64 .i64 .i64 es)) (hlen : len ≤ maxLen) (hcap : len ≤ cap) (_ : ∀ a ∈ es, (Lit.int .i64 a.1).wf = true ∧ (Lit.int .i64 a.2.1).wf = true ∧ (Lit.int .i64 a.2.2).wf = true) (htb : Tb w) (hg : 0 < w.heap.size) :
    Calls Tryd.prog 12 #[.agg #[.int .i64 N, .slice A len cap]] w fun e w' => e = .returned (.bool true) ∧ Below w.heap.size w w' := by
  unfold maxLen at hlen
  exact perfect_walk N A len cap es w hr (by omega) hcap htb hg
end Go.Proofs.YtnpgnohnpbdblaaDoor
