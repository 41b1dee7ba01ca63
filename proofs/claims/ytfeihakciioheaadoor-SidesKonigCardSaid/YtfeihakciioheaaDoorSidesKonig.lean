/- SidesKonig: the walk. -/
import Derived.Test.YtfeihakciioheaaDoorSides
import Derived.Test.YtfeihakciioheaaDoorSideRing
import Derived.Test.YtfeihakciioheaaDoorIsRing
namespace Go.Proofs.YtfeihakciioheaaDoor
open Go.RowKit Go.Shelf
attribute [local go_sem] Oper.semAt_some

theorem nb_mem {N : Nat} {es : List E} (hok : ∀ e ∈ es, okE N e) {e : E} (he : e ∈ es) : nb (nearW N es) e.1.toNat e.2.1.toNat = true := by
  obtain ⟨x, y, hx, hy, hxN, hyN, _⟩ := hok e he
  unfold nb
  rw [hx, hy, Int.toNat_natCast, Int.toNat_natCast, nearW_bit es hok x y hxN]
  refine List.any_eq_true.2 ⟨e, he, ?_⟩
  unfold adjE
  simp [hx, hy]
theorem mem_nb {N : Nat} {es : List E} (hok : ∀ e ∈ es, okE N e) {a b : Nat} (ha : a < N) (h : nb (nearW N es) a b = true) : ∃ e ∈ es, (e.1.toNat = a ∧ e.2.1.toNat = b) ∨ (e.1.toNat = b ∧ e.2.1.toNat = a) := by
  unfold nb at h
  rw [nearW_bit es hok a b ha] at h
  obtain ⟨e, he, hae⟩ := List.any_eq_true.1 h
  refine ⟨e, he, ?_⟩
  unfold adjE at hae
  simp at hae
  omega
theorem same_odd {N : Nat} {es : List E} (h0 : gchk N es = 0) (hok : ∀ e ∈ es, okE N e) (h : es.any (sameSd (nearW N es)) = true) : ¬ noOdd (nearW N es) N := fun hn => by
  obtain ⟨e, he, hs⟩ := List.any_eq_true.1 h
  unfold sameSd at hs
  rw [decide_eq_true_eq] at hs
  unfold sdV at hs
  obtain ⟨k, M, hk, hM, hE⟩ := odd_ring (nearGr h0) (nb_mem hok he) (by omega)
  exact hn k _ M hk ((nearGr h0).ok _ _ (nb_mem hok he)).1 hM hE
theorem diff_even {N : Nat} {es : List E} (h0 : gchk N es = 0) (hok : ∀ e ∈ es, okE N e) (h : es.any (sameSd (nearW N es)) = false) : noOdd (nearW N es) N := fun k i M hk hi hM hE => by
  rw [List.any_eq_false] at h
  have hd : ∀ a b, nb (nearW N es) a b = true → sd (nearW N es) a ≠ sd (nearW N es) b := fun a b hab e => by
    obtain ⟨x, hx, h1⟩ := mem_nb hok ((nearGr h0).ok a b hab).1 hab
    refine h x hx ?_
    unfold sameSd
    rw [decide_eq_true_eq]
    unfold sdV
    rcases h1 with ⟨h1, h2⟩ | ⟨h1, h2⟩ <;> rw [h1, h2, e]
  have := ext_side hd M i _ hE
  have h2 : sd (nearW N es) i < 2 := Nat.mod_lt _ (by omega)
  omega
set_option maxHeartbeats 1600000 in
theorem sidesKonig_any (N : Int) (A : Option Addr) (len cap : Nat) (es : List E) (w : World) (hr : Rd w A len 3 (ps3 .i64 .i64 .i64 es)) (hcap : len ≤ cap) (hlen : len ≤ 9223372036854775807) (htb : Tb w) :
    Calls Tryd.prog 3 #[.agg #[.int .i64 N, .slice A len cap]] w fun e w' => e = .returned (.bool true) ∧ Below w.heap.size w w' := by
  have gb := (Below.refl _ w).alloc (Nat.le_refl _) (.cells #[.int .i64 N, .slice A len cap] 24)
  have bG := Blk.new w 24 #[.int .i64 N, .slice A len cap]
  have hsz : (w.alloc (.cells #[.int .i64 N, .slice A len cap] 24)).heap.size = w.heap.size + 1 := by simp
  have hgw : 0 < w.heap.size := World.block_lt_of_cell? w _ (htb 0 (by decide))
  have hrg := hr.later gb
  have HG := Lib.hid (fun W (h : Below w.heap.size w W) => good_any N A len cap es W (hr.later h) hlen hcap)
  have hel := ps3_len hr
  have g0 := bG.cell (j := 0) rfl; have g1 := bG.cell (j := 1) rfl
  by_cases hok : gchk N es = 0
  case neg =>
    have HS := Lib.hid (sides_bad N A len cap es _ hrg hlen hok)
    have HR := Lib.hid (fun W (h : Below w.heap.size w W) => ring_bad N A len cap es W (hr.later h) hlen hok)
    have hf : (gchk N es == 0) = false := by simpa using hok
    rw [hf] at HG
    have hne : (gchk N es != 0) = true := bne_iff_ne.2 hok
    generalize gchk N es = z at *
    have bGH := Lib.hid bG; have gbH := Lib.hid gb
    clear hr hrg htb hok bG gb
    go_enter Tryd.func3, Tryd.ntmps3
    go_wp2_with fail
    refine HS.out.mono ?_
    rintro _ w1 ⟨rfl, hb1⟩
    have bG1 := bGH.out.below hb1 (by omega)
    have hb1' := gbH.out.trans (hb1.mono gbH.out.size)
    have q0 := bG1.cell (j := 0) (v := .int .i64 N) rfl; have q1 := bG1.cell (j := 1) (v := .slice A len cap) rfl
    have HR1 := Lib.hid (HR.out w1 hb1')
    have hb1H := Lib.hid hb1'; have bG1H := Lib.hid bG1
    clear hb1 hb1' HS HR g0 g1 bG1
    go_wp2_with fail
    refine HR1.out.mono ?_
    rintro _ w2 ⟨rfl, hb2⟩
    have bG2 := bG1H.out.below hb2 bG1H.out.lt
    have hb2' := hb1H.out.trans (hb2.mono hb1H.out.size)
    have q0 := bG2.cell (j := 0) (v := .int .i64 N) rfl; have q1 := bG2.cell (j := 1) (v := .slice A len cap) rfl
    have HG1 := Lib.hid (HG.out w2 hb2')
    have hb2H := Lib.hid hb2'
    clear hb2 hb2' HR1 HG bG2
    go_wp2_with fail
    refine HG1.out.mono ?_
    rintro _ w3 ⟨rfl, hb3⟩
    have hfin := Lib.hid (hb2H.out.trans (hb3.mono hb2H.out.size))
    clear hb3 q0 q1
    go_wp2
    go_ret
    exact ⟨rfl, hfin.out⟩
  obtain ⟨h0, h10, hl45, hokE, hall⟩ := gchk_ok hok
  have ht : (gchk N es == 0) = true := by simpa using hok
  rw [ht] at HG
  rw [hel] at hl45
  obtain ⟨n, rfl⟩ := Int.eq_ofNat_of_zero_le h0
  rw [Int.toNat_natCast] at hokE
  have HS := Lib.hid (sides_ok n A len cap es _ hrg hlen (htb.below hgw gb) hok)
  have HR := Lib.hid (fun W (h : Below w.heap.size w W) => ring_ok n A len cap es W (hr.later h) hlen (htb.below hgw h) hok)
  have hSO := Lib.hid (same_odd hok hokE); have hDE := Lib.hid (diff_even hok hokE)
  have hrH := Lib.hid hr; have hokH := Lib.hid hokE; have gbH := Lib.hid gb; have bGH := Lib.hid bG
  have helH := Lib.hid hel
  clear hr hrg htb hok hokE hall ht gb bG hel
  go_enter Tryd.func3, Tryd.ntmps3
  go_wp2_with fail
  refine HS.out.mono ?_
  rintro _ w1 ⟨hb1, hc1⟩
  have bG1 := bGH.out.below hb1 (by omega)
  have hb1' := gbH.out.trans (hb1.mono gbH.out.size)
  have hs1 := hb1.size
  have HR1 := Lib.hid (HR.out w1 hb1')
  have q0 := bG1.cell (j := 0) (v := .int .i64 (n : Int)) rfl; have q1 := bG1.cell (j := 1) (v := .slice A len cap) rfl
  have hb1H := Lib.hid hb1'; have bG1H := Lib.hid bG1
  clear hb1 hb1' HS HR g0 g1 bG1 gbH bGH
  rcases hc1 with ⟨A', c', rfl, hrS, hany⟩ | ⟨rfl, hany⟩
  all_goals
    go_wp2_with fail
    refine HR1.out.mono ?_
    rintro _ w2 ⟨hb2, hc2⟩
    have bG2 := bG1H.out.below hb2 bG1H.out.lt
    have hb2' := hb1H.out.trans (hb2.mono hb1H.out.size)
    have hs2 := hb2.size
    have HG2 := Lib.hid (HG.out w2 hb2')
    have q0 := bG2.cell (j := 0) (v := .int .i64 (n : Int)) rfl; have q1 := bG2.cell (j := 1) (v := .slice A len cap) rfl
    have hb2H := Lib.hid hb2'; have bG2H := Lib.hid bG2
  · rcases hc2 with ⟨_, _, _, _, _, _, _, _, _, hno⟩ | ⟨rfl, hno⟩
    · exact absurd (hDE.out hany) hno
    have hrS2 := Lib.hid (hrS.later hb2)
    clear hb2 hb2' HR1 HG bG2 hrS hno
    go_wp2_with fail
    refine HG2.out.mono ?_
    rintro _ w3 ⟨rfl, hb3⟩
    have bG3 := bG2H.out.below hb3 bG2H.out.lt
    have hb3' := hb2H.out.trans (hb3.mono hb2H.out.size)
    have hs3 := hb3.size
    have q0 := bG3.cell (j := 0) (v := .int .i64 (n : Int)) rfl; have q1 := bG3.cell (j := 1) (v := .slice A len cap) rfl
    have hrS3 := Lib.hid (hrS2.out.later hb3)
    have hb3H := Lib.hid hb3'; have bG3H := Lib.hid bG3
    clear hb3 hb3' bG3 HG2 hrS2
    go_wp2
    go_loopw [47] (fun kv wr => ∃ k : Nat, k ≤ len ∧ kv = .int .i64 k ∧ Below w3.heap.size w3 wr) (fun kv _ => len - (intOf kv).toNat)
    case atStart => exact ⟨0, by omega, rfl, Below.refl _ _⟩
    case round =>
      obtain ⟨k, hk, rfl, hb⟩ := hrel
      obtain ⟨wi, rfl⟩ : ∃ wi : World, wi = wr := ⟨_, rfl⟩
      have hszi := hb.size
      have bGi := bG3H.out.below hb bG3H.out.lt
      by_cases hkl : k < len
      · have hke : k < es.length := by rw [helH.out]; exact hkl
        have hmem : es.getD k (0, 0, 0) ∈ es := by simp [List.getD, hke]
        obtain ⟨bb, oo, rfl, hab, hc1, hc2, hc3⟩ := (hrH.out.later (hb3H.out.trans (hb.mono hb3H.out.size))).triple (j := k) hkl
        have hdiff : sameSd (nearW n es) (es.getD k (0, 0, 0)) = false := by
          have := List.any_eq_false.1 hany _ hmem
          simpa using this
        obtain ⟨x, y, hx, hy, hxN, hyN, _⟩ := hokH.out _ hmem
        unfold sameSd at hdiff
        rw [decide_eq_false_iff_not, hx, hy, Int.toNat_natCast, Int.toNat_natCast] at hdiff
        rw [hx] at hc1; rw [hy] at hc2
        have hrSi := hrS3.out.later hb
        obtain ⟨b, o, rfl, _, cx⟩ := hrSi.row hxN
        obtain ⟨_, _, e, _, cy⟩ := hrSi.row hyN
        injection e with e; injection e with e1 e2 _
        subst e1; subst e2
        have hx2 : sd (nearW n es) x < 2 := Nat.mod_lt _ (by omega)
        have hy2 : sd (nearW n es) y < 2 := Nat.mod_lt _ (by omega)
        have hxy : (sdV (nearW n es) x = 0 ∧ sdV (nearW n es) y = 1) ∨ (sdV (nearW n es) x = 1 ∧ sdV (nearW n es) y = 0) := by unfold sdV at *; omega
        generalize (es.getD k (0, 0, 0)).2.2 = wt at *
        have p0 := bGi.cell (j := 0) (v := .int .i64 (n : Int)) rfl
        have hx0 : (0 : Int) ≤ x := by omega
        have hxn : (x : Int) < n := by omega
        have hy0 : (0 : Int) ≤ y := by omega
        have hyn : (y : Int) < n := by omega
        have hkn : (k : Int) < len := by omega
        have hk0 : (0 : Int) ≤ k := by omega
        have hbA := Lib.hid (hb.alloc hb.size (.cells #[.int .i64 (x : Int), .int .i64 (y : Int), .int .i64 wt] 32))
        have bE := Blk.new wi 32 #[.int .i64 (x : Int), .int .i64 (y : Int), .int .i64 wt]
        have e0 := bE.cell (j := 0) (v := .int .i64 (x : Int)) rfl
        have e1 := bE.cell (j := 1) (v := .int .i64 (y : Int)) rfl
        have cxA := alloc_cell (World.block_lt_of_cell? wi _ cx) cx (.cells #[.int .i64 (x : Int), .int .i64 (y : Int), .int .i64 wt] 32)
        have cyA := alloc_cell (World.block_lt_of_cell? wi _ cy) cy (.cells #[.int .i64 (x : Int), .int .i64 (y : Int), .int .i64 wt] 32)
        have p0A := alloc_cell (World.block_lt_of_cell? wi _ p0) p0 (.cells #[.int .i64 (x : Int), .int .i64 (y : Int), .int .i64 wt] 32)
        clear hb bGi hke hmem hx hy hrSi bE p0 cx cy hdiff hx2 hy2 q0 q1
        rcases hxy with ⟨hv1, hv2⟩ | ⟨hv1, hv2⟩
        all_goals
          rw [hv1] at cxA; rw [hv2] at cyA
          clear hv1 hv2
          go_upto_region 12 with fail
          generalize wi.alloc (.cells #[.int .i64 (x : Int), .int .i64 (y : Int), .int .i64 wt] 32) = wE at *
          go_quiet (fail)
          have hbq := Lib.hid (below_drewN hbA.out nq)
          clear e0 e1 cxA cyA p0A
          go_wp2
          go_roundw
          case rel => exact ⟨k + 1, by omega, by go_num, hbq.out⟩
          case measure => simp [intOf]; omega
      · obtain rfl : k = len := by omega
        have p0 := bGi.cell (j := 0) (v := .int .i64 (n : Int)) rfl
        have hfin := Lib.hid (hb3H.out.trans (hb.mono hb3H.out.size))
        clear hb bGi q0 q1
        go_wp2
        go_ret
        exact ⟨rfl, hfin.out⟩
  · rcases hc2 with ⟨A', c', L, rfl, hrR, hLc, hodd, hL10, hrz, _⟩ | ⟨_, hno⟩
    case inr => exact absurd hno (hSO.out hany)
    have hrzH := Lib.hid hrz
    have hoddI : ((L.length : Int).tmod 2 == 1) = true := by
      rw [Int.tmod_eq_emod_of_nonneg (by omega)]
      simp; omega
    have hoddD : decide ((L.length : Int).tmod 2 = 1) = true := by
      rw [Int.tmod_eq_emod_of_nonneg (by omega)]
      simp; omega
    have hoddE : ((L.length : Int) % 2) = 1 := by omega
    obtain ⟨m, hm⟩ : ∃ m, L.length = m := ⟨_, rfl⟩
    rw [hm] at hrR hLc hoddI hoddD hoddE hL10 ⊢
    have hrR2 := Lib.hid hrR
    clear hb2 hb2' HR1 HG bG2 hany hrR hrz hodd hm
    go_wp2_with fail
    refine HG2.out.mono ?_
    rintro _ w3 ⟨rfl, hb3⟩
    have bG3 := bG2H.out.below hb3 bG2H.out.lt
    have hb3' := hb2H.out.trans (hb3.mono hb2H.out.size)
    have hs3 := hb3.size
    have q0 := bG3.cell (j := 0) (v := .int .i64 (n : Int)) rfl; have q1 := bG3.cell (j := 1) (v := .slice A len cap) rfl
    have HI := Lib.hid (isRing_ok n A len cap es A' m c' (natI L) w3 (hrH.out.later hb3') (hrR2.out.later hb3) hl45 (by omega) hLc hokH.out hrzH.out)
    have hb3H := Lib.hid hb3'
    clear hb3 hb3' bG3 HG2 hrR2
    go_wp2_with fail
    refine HI.out.mono ?_
    rintro _ w4 ⟨rfl, hb4⟩
    have hfin := Lib.hid (hb3H.out.trans (hb4.mono hb3H.out.size))
    clear hb4 q0 q1
    go_wp2
    go_ret
    exact ⟨rfl, hfin.out⟩
end Go.Proofs.YtfeihakciioheaaDoor
