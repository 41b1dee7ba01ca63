/- ChordDirac: the walk. -/
import Derived.Test.YtcbmbofbiodhmaaDoorHoleRing
import Derived.Test.YtcbmbofbiodhmaaDoorSimple
import Derived.Test.YtcbmbofbiodhmaaDoorBel
import Derived.Test.YtcbmbofbiodhmaaDoorEachL
namespace Go.Proofs.YtcbmbofbiodhmaaDoor
open Go.RowKit Go.Shelf
attribute [local go_sem] Oper.semAt_some

theorem hasB_no {l : List Nat} {a : Nat} (h : hasB (natI l) (a : Int) = false) : a ∉ l := fun hm => by
  unfold hasB at h
  rw [List.any_eq_false] at h
  exact h (a : Int) (List.mem_map.2 ⟨a, hm, rfl⟩) (by simp)
theorem simple_ok {N : Nat} {es : List E} (h0 : gchk N es = 0) (hok : ∀ e ∈ es, okE N e) {p : List Nat} (hE : El (nearW N es) N p 0) {k : Nat} (hk : k < N) : p.getD k 0 < N ∧ ∀ a b, a < N → b < a → ¬ (adj es (p.getD k 0) a = true ∧ adj es (p.getD k 0) b = true ∧ hasB ((natI p).take k) (a : Int) = false ∧ hasB ((natI p).take k) (b : Int) = false ∧ adj es a b = false) := by
  have g := nearGr h0
  have hb0 : bitsL 0 = [] := by decide
  have hperm := hE.perm
  rw [hb0, List.append_nil] at hperm
  have hl : p.length = N := by simpa using hperm.length_eq
  have hi : p.getD k 0 < N := by
    have hm : p.getD k 0 ∈ p := by simp [List.getD, show k < p.length by omega]
    exact List.mem_range.1 (hperm.mem_iff.1 hm)
  refine ⟨hi, fun a b ha hb ⟨h1, h2, h3, h4, h5⟩ => ?_⟩
  rw [show (natI p).take k = natI (p.take k) by simp [natI, List.map_take]] at h3 h4
  have hnb : ∀ x y, x < N → adj es x y = true → nb (nearW N es) x y = true := fun x y hx h => by unfold nb; rw [nearW_bit es hok x y hx]; exact h
  have := go_simple g hE hk ha (by omega) (hnb _ _ hi h1) (hnb _ _ hi h2) (hasB_no h3) (hasB_no h4) (by omega)
  unfold nb at this
  rw [nearW_bit es hok a b ha, h5] at this
  cases this
set_option maxHeartbeats 1600000 in
theorem chordDirac_any (N : Int) (A : Option Addr) (len cap : Nat) (es : List E) (w : World) (hr : Rd w A len 3 (ps3 .i64 .i64 .i64 es)) (hcap : len ≤ cap) (hlen : len ≤ 9223372036854775807) (htb : Tb w) :
    Calls Tryd.prog 3 #[.agg #[.int .i64 N, .slice A len cap]] w fun e w' => e = .returned (.bool true) ∧ Below w.heap.size w w' := by
  have gb := (Below.refl _ w).alloc (Nat.le_refl _) (.cells #[.int .i64 N, .slice A len cap] 24)
  have bG := Blk.new w 24 #[.int .i64 N, .slice A len cap]
  have hsz : (w.alloc (.cells #[.int .i64 N, .slice A len cap] 24)).heap.size = w.heap.size + 1 := by simp
  have hgw : 0 < w.heap.size := World.block_lt_of_cell? w _ (htb 0 (by decide))
  have hrg := hr.later gb
  have HG := Lib.hid (fun W (h : Below w.heap.size w W) => good_any N A len cap es W (hr.later h) hlen hcap)
  have hel := ps3_len hr
  have g0 := bG.cell (j := 0) rfl; have g1 := bG.cell (j := 1) rfl
  by_cases hok : gchk N es = 0
  case neg =>
    have hf : (gchk N es == 0) = false := by simpa using hok
    have HS := Lib.hid (order_bad N A len cap es _ hrg hlen hf)
    have HR := Lib.hid (fun W (h : Below w.heap.size w W) => ring_bad N A len cap es W (hr.later h) hlen hok)
    rw [hf] at HG
    have hne : (gchk N es != 0) = true := bne_iff_ne.2 hok
    generalize gchk N es = z at *
    have bGH := Lib.hid bG; have gbH := Lib.hid gb
    clear hr hrg htb hok bG gb
    go_enter Tryd.func3, Tryd.ntmps3
    go_wp2_with fail
    refine HS.out.mono ?_
    rintro _ w1 ⟨z1, rfl, hz1, hb1⟩
    have bG1 := bGH.out.below hb1 (by omega)
    have hb1' := gbH.out.trans (hb1.mono gbH.out.size)
    have q0 := bG1.cell (j := 0) (v := .int .i64 N) rfl; have q1 := bG1.cell (j := 1) (v := .slice A len cap) rfl
    have HR1 := Lib.hid (HR.out w1 hb1')
    have hb1H := Lib.hid hb1'; have bG1H := Lib.hid bG1
    clear hb1 hb1' HS HR g0 g1 bG1
    go_wp2_with fail
    refine HR1.out.mono ?_
    rintro _ w2 ⟨rfl, hb2⟩
    have bG2 := bG1H.out.below hb2 bG1H.out.lt
    have hb2' := hb1H.out.trans (hb2.mono hb1H.out.size)
    have q0 := bG2.cell (j := 0) (v := .int .i64 N) rfl; have q1 := bG2.cell (j := 1) (v := .slice A len cap) rfl
    have HG1 := Lib.hid (HG.out w2 hb2')
    have hb2H := Lib.hid hb2'
    clear hb2 hb2' HR1 HG bG2
    go_wp2_with fail
    refine HG1.out.mono ?_
    rintro _ w3 ⟨rfl, hb3⟩
    have hfin := Lib.hid (hb2H.out.trans (hb3.mono hb2H.out.size))
    clear hb3 q0 q1
    go_wp2
    go_ret
    exact ⟨rfl, hfin.out⟩
  obtain ⟨h0, h10, hl45, hokE, hall⟩ := gchk_ok hok
  have ht : (gchk N es == 0) = true := by simpa using hok
  rw [ht] at HG
  rw [hel] at hl45
  obtain ⟨n, rfl⟩ := Int.eq_ofNat_of_zero_le h0
  rw [Int.toNat_natCast] at hokE
  have hn10 : n ≤ 10 := by omega
  have HS := Lib.hid (order_ok n A len cap es _ hrg hl45 hok (htb.below hgw gb) (by omega))
  have HR := Lib.hid (fun W (h : Below w.heap.size w W) => ring_ok n A len cap es W (hr.later h) hlen (htb.below hgw h) hok)
  have hAN := Lib.hid (fun (p : List Nat) (hE : El (nearW n es) n p 0) (h : ∃ m c, Hole (Nb (nearW n es)) m c) => show False by
    obtain ⟨m, c, hc⟩ := h
    exact all_no_hole (nearGr hok) hE hc)
  have hST := Lib.hid (fun (p : List Nat) (left : Nat) (hE : El (nearW n es) n p left) (h0 : left ≠ 0) (hs : ∀ i, left.testBit i = true → simpB (nearW n es) left i = false) (hno : noHole (nearW n es) n) => stuck_hole (nearGr hok) hno hE.lt h0 hs)
  have hSI := Lib.hid (fun (p : List Nat) (hE : El (nearW n es) n p 0) (k : Nat) (hk : k < n) => simple_ok hok hokE hE hk)
  have hrH := Lib.hid hr; have hokH := Lib.hid hokE; have gbH := Lib.hid gb; have bGH := Lib.hid bG
  clear hr hrg htb hok hokE hall ht gb bG hel
  go_enter Tryd.func3, Tryd.ntmps3
  go_wp2_with fail
  refine HS.out.mono ?_
  rintro _ w1 ⟨hb1, hc1⟩
  have bG1 := bGH.out.below hb1 (by omega)
  have hb1' := gbH.out.trans (hb1.mono gbH.out.size)
  have hs1 := hb1.size
  have HR1 := Lib.hid (HR.out w1 hb1')
  have q0 := bG1.cell (j := 0) (v := .int .i64 (n : Int)) rfl; have q1 := bG1.cell (j := 1) (v := .slice A len cap) rfl
  have hb1H := Lib.hid hb1'; have bG1H := Lib.hid bG1
  clear hb1 hb1' HS HR g0 g1 bG1 gbH bGH
  rcases hc1 with ⟨A', c', p, rfl, hrS, hnc, hE⟩ | ⟨rfl, p, left, hE, hl0, hno⟩
  all_goals
    go_wp2_with fail
    refine HR1.out.mono ?_
    rintro _ w2 ⟨hb2, hc2⟩
    have bG2 := bG1H.out.below hb2 bG1H.out.lt
    have hb2' := hb1H.out.trans (hb2.mono hb1H.out.size)
    have hs2 := hb2.size
    have HG2 := Lib.hid (HG.out w2 hb2')
    have q0 := bG2.cell (j := 0) (v := .int .i64 (n : Int)) rfl; have q1 := bG2.cell (j := 1) (v := .slice A len cap) rfl
    have hb2H := Lib.hid hb2'; have bG2H := Lib.hid bG2
  · rcases hc2 with ⟨_, _, _, _, _, _, _, _, _, hh⟩ | ⟨rfl, hno⟩
    · exact (hAN.out p hE hh).elim
    have hrS2 := Lib.hid (hrS.later hb2)
    have hEH := Lib.hid hE
    clear hb2 hb2' HR1 HG bG2 hrS hno hE
    go_wp2_with fail
    refine HG2.out.mono ?_
    rintro _ w3 ⟨rfl, hb3⟩
    have bG3 := bG2H.out.below hb3 bG2H.out.lt
    have hb3' := hb2H.out.trans (hb3.mono hb2H.out.size)
    have hs3 := hb3.size
    have q0 := bG3.cell (j := 0) (v := .int .i64 (n : Int)) rfl; have q1 := bG3.cell (j := 1) (v := .slice A len cap) rfl
    have hrS3 := Lib.hid (hrS2.out.later hb3)
    have hb3H := Lib.hid hb3'; have bG3H := Lib.hid bG3
    have HE := eachL_any (n : Int) A' n c' (natI p) w3 hrS3.out (by omega) hnc
    rw [show eachB (n : Int) (natI p) = true from (eachB_iff n (natI p)).2 ⟨p, by have := hEH.out.perm; rw [show bitsL 0 = [] by decide, List.append_nil] at this; exact this, rfl⟩] at HE
    have HEH := Lib.hid HE
    clear hb3 hb3' bG3 HG2 hrS2 HE
    go_wp2_with fail
    refine HEH.out.mono ?_
    rintro _ _ ⟨rfl, rfl⟩
    clear HEH
    go_wp2
    go_loopw [50] (fun kv wr => ∃ k : Nat, k ≤ n ∧ kv = .int .i64 k ∧ Below w3.heap.size w3 wr) (fun kv _ => n - (intOf kv).toNat)
    case atStart => exact ⟨0, by omega, rfl, Below.refl _ _⟩
    case round =>
      obtain ⟨k, hk, rfl, hb⟩ := hrel
      obtain ⟨wi, rfl⟩ : ∃ wi : World, wi = wr := ⟨_, rfl⟩
      have hszi := hb.size
      have bGi := bG3H.out.below hb bG3H.out.lt
      by_cases hkl : k < n
      · obtain ⟨hin, hcond⟩ := hSI.out p hEH.out k hkl
        obtain ⟨b, o, rfl, hbl, cx⟩ := (hrS3.out.later hb).int hkl
        rw [natI_get] at cx
        have hbi := hb3H.out.trans (hb.mono hb3H.out.size)
        have HSi := Lib.hid (fun (q : BW wi) => simple_any n (p.getD k 0) A len cap es (some ⟨b, o, none⟩) k c' ((natI p).take k) q.w' (hrH.out.later (hbi.trans (q.hb.mono hbi.size))) (((hrS3.out.later hb).part (by omega)).later q.hb) hl45 (by omega) hn10 hokH.out hcond)
        generalize p.getD k 0 = i at *
        have p0 := bGi.cell (j := 0) (v := .int .i64 (n : Int)) rfl
        have p1 := bGi.cell (j := 1) (v := .slice A len cap) rfl
        have x0 := BW.cell (w := wi) p0; have x1 := BW.cell (w := wi) p1
        have hkn : (k : Int) < n := by omega
        have hk0 : (0 : Int) ≤ k := by omega
        have hkc : (k : Int) ≤ c' := by omega
        have hkcN : k ≤ c' := by omega
        have hq6 : wrap64 (k : Int) = (k : Int) := by unfold wrap64; omega
        have hbH := Lib.hid hb
        clear hb hbi bGi q0 q1 hcond
        go_upto_region 14 with fail
        refine wp_region_below (by kernel_rfl) (by kernel_rfl) ?_
        repeat (go_big_quiet_step (first | rfl | (with_reducible refine Calls.bel (HSi.out _))))
        refine wpQuiet_nil ?_
        rintro _ ⟨q, rfl⟩
        have hfin := Lib.hid (hbH.out.trans (q.hb.mono hbH.out.size))
        clear x0 x1 p0 p1 HSi cx hq6 hkc hkcN
        go_wp2
        go_roundw
        case rel => exact ⟨k + 1, by omega, by go_num, hfin.out⟩
        case measure => simp [intOf]; omega
      · obtain rfl : k = n := by omega
        have hfin := Lib.hid (hb3H.out.trans (hb.mono hb3H.out.size))
        clear hb bGi q0 q1
        go_wp2
        go_ret
        exact ⟨rfl, hfin.out⟩
  · rcases hc2 with ⟨A', c', L, rfl, hrR, hLc, hL4, hL10, hrz, _⟩ | ⟨_, hnh⟩
    case inr => exact (hST.out p left hE hl0 hno hnh).elim
    have hrzH := Lib.hid hrz
    obtain ⟨m, hm⟩ : ∃ m, L.length = m := ⟨_, rfl⟩
    rw [hm] at hrR hLc hL4 hL10 ⊢
    have hge : decide ((4 : Int) ≤ m) = true := decide_eq_true (by omega)
    have hge2 : (4 : Int) ≤ m := by omega
    have hrR2 := Lib.hid hrR
    clear hb2 hb2' HR1 HG bG2 hrR hrz hm hno hE
    go_wp2_with fail
    refine HG2.out.mono ?_
    rintro _ w3 ⟨rfl, hb3⟩
    have bG3 := bG2H.out.below hb3 bG2H.out.lt
    have hb3' := hb2H.out.trans (hb3.mono hb2H.out.size)
    have hs3 := hb3.size
    have q0 := bG3.cell (j := 0) (v := .int .i64 (n : Int)) rfl; have q1 := bG3.cell (j := 1) (v := .slice A len cap) rfl
    have HI := Lib.hid (isRing_ok n A len cap es A' m c' (natI L) w3 (hrH.out.later hb3') (hrR2.out.later hb3) hl45 (by omega) hLc hokH.out hrzH.out)
    have hb3H := Lib.hid hb3'
    clear hb3 hb3' bG3 HG2 hrR2
    go_wp2_with fail
    refine HI.out.mono ?_
    rintro _ w4 ⟨rfl, hb4⟩
    have hfin := Lib.hid (hb3H.out.trans (hb4.mono hb3H.out.size))
    clear hb4 q0 q1
    go_wp2
    go_ret
    exact ⟨rfl, hfin.out⟩
end Go.Proofs.YtcbmbofbiodhmaaDoor
