/- circle.Close: the edges that come of degrees. -/
import Derived.Test.YtknfflhmhjfkeaaDoorBondyLaw
import Derived.Test.YtknfflhmhjfkeaaDoorBlk
import Derived.Test.YtknfflhmhjfkeaaDoorRow
import Derived.Test.YtknfflhmhjfkeaaDoorOnes
import Derived.Test.YtknfflhmhjfkeaaDoorBel
import Derived.Deep.LoopGhost
import Derived.WalkMore
namespace Go.Proofs.YtknfflhmhjfkeaaDoor
open Go.RowKit

theorem tiEc : TI Tryd.prog 22 36 (.agg #[.int .i64 0, .int .i64 0, .int .i64 0]) 3 24 := TI.mk' Tryd.underlying22 (by kernel_rfl) rfl (by decide)
/-- two rows of two types -/
theorem own_two {W : World} {b b' e e' sz sz' n n' : Nat} {v v' : Value} {xs xs' : List Value} (h : W.ownsRow b e sz v n xs) (h' : W.ownsRow b' e' sz' v' n' xs') (hne : e ≠ e') {g : Nat} (hg : v.ownBlock = some g) : v'.ownBlock ≠ some g := by
  rcases h.2 with ⟨rfl, _⟩ | ⟨g1, c1, cur1, rfl, _, h1, _⟩
  · cases hg
  · cases hg
    rcases h'.2 with ⟨rfl, _⟩ | ⟨g2, c2, cur2, rfl, _, h2, _⟩
    · simp [Value.ownBlock]
    · intro e2
      cases e2
      rw [h1] at h2
      cases h2
      exact hne rfl
theorem own_cap2 {w : World} {b e s n c : Nat} {A : Option Addr} {xs : List Value} (h : w.ownsRow b e s (.slice A n c) n xs) : n ≤ c := by
  rcases h.2 with ⟨h1, h2⟩ | ⟨g, cap, cur, h1, h2⟩
  · injection h1; omega
  · injection h1; omega
set_option maxHeartbeats 800000 in
theorem cloneE (A : Option Addr) (n cap : Nat) (xs : List E) (w : World) (hr : Rd w A n 3 (ps3 .i64 .i64 .i64 xs)) (hn : n ≤ 65536) :
    Calls Tryd.prog 17 #[.slice A n cap] w fun e w' => ∃ v, e = .returned v ∧ w'.ownsRow w.heap.size 36 3 v n (ps3 .i64 .i64 .i64 xs) ∧ Below w.heap.size w w' := by
  have hrH := Lib.hid hr
  have hxl : xs.length = n := ps3_len hr
  have hnil := fun W => Lib.run_eql_slice_nil (P := Tryd.prog) W 22 36 A n cap 0 0 Tryd.underlying22
  cases A with
  | none =>
    obtain rfl : n = 0 := Nat.eq_zero_of_not_pos fun h => by obtain ⟨b, o, e, _⟩ := hr.2 h; cases e
    have hx : xs = [] := List.length_eq_zero_iff.1 hxl
    subst hx
    clear hr
    go_enter Tryd.func17, Tryd.ntmps17
    go_wp2
    go_ret
    exact ⟨_, rfl, World.ownsRow_nil _ _ _ _, Below.refl _ _⟩
  | some a =>
    clear hr
    go_enter Tryd.func17, Tryd.ntmps17
    go_wp2_with (at_builtin; refine wpList_app (s := .tmp 5) (x := .tmp 6) _ tiEc (World.ownsRow_lit (base := w.heap.size) w #[] 0 (Nat.le_refl _) (Nat.zero_le _) rfl) (hrH.out.alloc _) (ps3_one (l := xs)) (by omega) (by omega) (by simp) rfl rfl rfl rfl ?_)
    intro v' w' hown hg hat
    have hb : Below w.heap.size w w' := ((Below.refl _ _).alloc (Nat.le_refl _) _).grown hg (by simp) (by simp [Value.ownBlock])
    clear hg hat hnil
    go_wp2
    go_ret
    exact ⟨_, rfl, hown, hb⟩
set_option maxHeartbeats 800000 in
theorem close_bad (N : Int) (A : Option Addr) (len cap : Nat) (es : List E) (w : World) (hr : Rd w A len 3 (ps3 .i64 .i64 .i64 es)) (hlen : len ≤ 9223372036854775807) (h : gchk N es ≠ 0) :
    Calls Tryd.prog 10 #[.agg #[.int .i64 N, .slice A len cap]] w fun e w' => e = .returned (.tuple #[.agg #[.int .i64 0, .slice none 0 0], .int .i64 (gchk N es)]) ∧ Below w.heap.size w w' := by
  have gb := ((Below.refl _ w).alloc (Nat.le_refl _) (.cells #[.int .i64 N, .slice A len cap] 24)).alloc (by simp) (.cells #[.int .i64 0, .slice none 0 0] 24)
  have bG := (Blk.new w 24 #[.int .i64 N, .slice A len cap]).alloc (.cells #[.int .i64 0, .slice none 0 0] 24)
  have bR := Blk.new (w.alloc (.cells #[.int .i64 N, .slice A len cap] 24)) 24 #[.int .i64 0, .slice none 0 0]
  have g0 := bG.cell (j := 0) rfl; have g1 := bG.cell (j := 1) rfl
  rw [World.size_alloc] at bR
  have HC := Lib.hid (check_any N A len cap es _ (hr.later gb) hlen)
  have hne : (gchk N es != 0) = true := bne_iff_ne.2 h
  have hsz : ((w.alloc (.cells #[.int .i64 N, .slice A len cap] 24)).alloc (.cells #[.int .i64 0, .slice none 0 0] 24)).heap.size = w.heap.size + 2 := by simp
  have gbH := Lib.hid gb; have bRH := Lib.hid bR; have hszH := Lib.hid hsz
  generalize gchk N es = z at *
  clear hr h bG bR gb
  go_enter Tryd.func10, Tryd.ntmps10
  go_wp2
  go_step3
  go_wp2_with fail
  refine HC.out.mono ?_
  rintro _ w1 ⟨rfl, hb⟩
  have bR1 := bRH.out.below hb (by rw [hszH.out]; omega)
  have c0 := bR1.cell (j := 0) rfl; have c1 := bR1.cell (j := 1) rfl
  have f0 := bR1.frozen 0; have f1 := bR1.frozen 1
  have bR2 := ((bR1.set 0 (.int .i64 0)).set 1 (.slice none 0 0))
  have hfin := Lib.hid (gbH.out.trans (hb.mono gbH.out.size))
  have bR1H := Lib.hid bR1; have bR2H := Lib.hid bR2
  have hlt := bR1.lt
  clear bR1 bR2 hb hsz
  go_wp2
  rw [Exit.noGoto_ret]
  have e0 := bR2H.out.cell (j := 0) (v := .int .i64 0) rfl
  have e1 := bR2H.out.cell (j := 1) (v := .slice none 0 0) rfl
  exact bodyPost_ret (v := .tuple #[.agg #[.int .i64 0, .slice none 0 0], .int .i64 z]) (by simp [results, Tryd.results10, go_sem, e0, e1]) rfl ⟨rfl, (hfin.out.setCell (by simp) _).setCell (by simp) _⟩
/-- what Close hands back -/
def ClPost (N : Nat) (es : List E) (B : Nat) (w : World) (e : Ending) (w' : World) : Prop :=
  ∃ (A' : Option Addr) (c' : Nat) (fs : List E), e = .returned (.tuple #[.agg #[.int .i64 N, .slice A' fs.length c'], .int .i64 0]) ∧ Rd w' A' fs.length 3 (ps3 .i64 .i64 .i64 fs) ∧ fs.length ≤ c' ∧ Gw N es fs ∧ Shut N fs ∧ Below B w w'
/-- the memory of the loop -/
structure ClM (N B g : Nat) (es fs : List E) (w : World) (W : World) : Prop where
  gw : Gw N es fs
  own : ∃ A c m, m = fs.length ∧ W.ownsRow (B + 2) 36 3 (.slice A m c) m (ps3 .i64 .i64 .i64 fs) ∧ Blk W B 24 #[.int .i64 N, .slice A m c]
  nr : W.ownsRow (B + 2) 46 1 (.slice (some ⟨g, 0, none⟩) N N) N (wds (nearW N fs))
  rs : Blk W (B + 1) 24 #[.int .i64 0, .slice none 0 0]
  be : Below B w W
def PS (N : Nat) (fs : List E) (k : Nat) : Prop := ∀ a b, a < k → a < b → b < N → adj fs a b = false → degE fs a + degE fs b < N
theorem shr_bit0 (x i : Nat) (hx : x < 4294967296) : (bits .and .u32 ((x : Int) / 2 ^ i) 1 == 0) = !x.testBit i := by
  have e : ((x : Int) / 2 ^ i) = ((x / 2 ^ i : Nat) : Int) := by simp
  rw [e, show (1 : Int) = ((1 : Nat) : Int) from rfl, u32_and_nat _ 1 (Nat.lt_of_le_of_lt (Nat.div_le_self ..) hx) (by omega), Nat.and_one_is_mod, Nat.testBit_eq_decide_div_mod_eq]
  rcases Nat.mod_two_eq_zero_or_one (x / 2 ^ i) with h | h <;> rw [h] <;> rfl
theorem ones_below (x : Nat) (w : World) (hx : x < 1024) :
    Calls Tryd.prog 18 #[.int .u32 (x : Int)] w fun e w' => e = .returned (.int .i64 (popc 10 x : Nat)) ∧ Below w.heap.size w w' :=
  (ones_any x w hx).mono fun _ _ ⟨he, n, hn⟩ => ⟨he, hn ▸ below_drewN (Below.refl _ w) n⟩
theorem ClM.later {N B g : Nat} {es fs : List E} {w W W' : World} (h : ClM N B g es fs w W) (hb : Below W.heap.size W W') (hB : B + 1 < W.heap.size) : ClM N B g es fs w W' := by
  obtain ⟨A, c, m, h0, h1, h2⟩ := h.own
  exact ⟨h.gw, ⟨A, c, m, h0, own_below h1 hb, h2.below hb (by omega)⟩, own_below h.nr hb, h.rs.below hb hB, h.be.trans (hb.mono (by omega))⟩
set_option maxHeartbeats 3200000 in
set_option maxRecDepth 100000 in
theorem close_ok (N : Nat) (A : Option Addr) (len cap : Nat) (es : List E) (w : World) (hr : Rd w A len 3 (ps3 .i64 .i64 .i64 es)) (hlen : len ≤ 9223372036854775807) (h : gchk N es = 0) :
    Calls Tryd.prog 10 #[.agg #[.int .i64 N, .slice A len cap]] w (ClPost N es w.heap.size w) := by
  have gb := ((Below.refl _ w).alloc (Nat.le_refl _) (.cells #[.int .i64 N, .slice A len cap] 24)).alloc (by simp) (.cells #[.int .i64 0, .slice none 0 0] 24)
  have bG := (Blk.new w 24 #[.int .i64 N, .slice A len cap]).alloc (.cells #[.int .i64 0, .slice none 0 0] 24)
  have bR := Blk.new (w.alloc (.cells #[.int .i64 N, .slice A len cap] 24)) 24 #[.int .i64 0, .slice none 0 0]
  have g0 := bG.cell (j := 0) rfl; have g1 := bG.cell (j := 1) rfl
  rw [World.size_alloc] at bR
  have HC := Lib.hid (check_any N A len cap es _ (hr.later gb) hlen)
  rw [h] at HC
  obtain ⟨_, h10, hl45, hokE, hall⟩ := gchk_ok h
  rw [Int.toNat_natCast] at hokE
  have h10 : N ≤ 10 := by omega
  have hok := Lib.hid (gchk_iff.1 h).2
  have hel := ps3_len hr
  rw [hel] at hl45
  have hsz : ((w.alloc (.cells #[.int .i64 N, .slice A len cap] 24)).alloc (.cells #[.int .i64 0, .slice none 0 0] 24)).heap.size = w.heap.size + 2 := by simp
  have gbH := Lib.hid gb; have bRH := Lib.hid bR; have bGH := Lib.hid bG; have hszH := Lib.hid hsz; have hrH := Lib.hid hr; have hokH := Lib.hid hokE; have helH := Lib.hid hel
  clear hr h bG bR gb hokE hall hel
  go_enter Tryd.func10, Tryd.ntmps10
  go_wp2
  go_step3
  go_wp2_with fail
  refine HC.out.mono ?_
  rintro _ w1 ⟨rfl, hb⟩
  have bR1 := bRH.out.below hb (by rw [hszH.out]; omega)
  have bG1 := bGH.out.below hb (by rw [hszH.out]; omega)
  have c0 := bG1.cell (j := 0) rfl; have c1 := bG1.cell (j := 1) rfl
  have hb1 := gbH.out.trans (hb.mono gbH.out.size)
  have hs1 := hb.size
  rw [hszH.out] at hs1
  have HCl := Lib.hid (cloneE A len cap es w1 (hrH.out.later hb1) (by omega))
  have bR1H := Lib.hid bR1; have bG1H := Lib.hid bG1; have hb1H := Lib.hid hb1
  clear bR1 bG1 hb hsz g0 g1 hb1 HC
  go_wp2_with fail
  refine HCl.out.mono ?_
  rintro _ w2 ⟨v, rfl, hown, hb2⟩
  obtain ⟨A1, k1, rfl⟩ := own_slice hown
  have bR2 := bR1H.out.below hb2 (by omega)
  have bG2 := bG1H.out.below hb2 (by omega)
  have hs2 := hb2.size
  have hb2' := hb1H.out.trans (hb2.mono hb1H.out.size)
  have hown2 := own_base (b' := w.heap.size + 2) (by omega) hown
  have hne : (Value.slice A1 len k1).ownBlock ≠ some (⟨w.heap.size, 1, none⟩ : Addr).block := fun e => by
    have := (hown2.lt _ e).1
    simp only at this
    omega
  have hown3 := own_set_other hown2 (a := ⟨w.heap.size, 1, none⟩) hne (.slice A1 len k1)
  have bG3 := bG2.set 1 (.slice A1 len k1)
  have bR3 := bR2.other (a := ⟨w.heap.size, 1, none⟩) (show w.heap.size + 1 ≠ w.heap.size by omega) (.slice A1 len k1)
  have hb3 := hb2'.setCell (p := ⟨w.heap.size, 1, none⟩) (Nat.le_refl _) (.slice A1 len k1)
  have d1 := bG2.cell (j := 1) rfl
  have d1f := bG2.frozen 1
  have hlt2 := bG2.lt
  have o3H := Lib.hid hown3; have bG3H := Lib.hid bG3; have bR3H := Lib.hid bR3; have hb3H := Lib.hid hb3
  have hrd3 := Lib.hid (Rd.of_own hown3)
  have e0 := bG3.cell (j := 0) (v := .int .i64 N) rfl; have e1 := bG3.cell (j := 1) (v := .slice A1 len k1) rfl
  have hs3 : (w2.setCell ⟨w.heap.size, 1, none⟩ (.slice A1 len k1)).heap.size = w2.heap.size := by simp
  clear hown hown2 bR2 bG2 hb2 hb2' hown3 bG3 bR3 hb3 hne HCl
  have HN := Lib.hid (near_any N A1 len k1 es _ hrd3.out h10 (by omega) hokH.out)
  go_wp2_with fail
  refine HN.out.mono ?_
  rintro _ w3 ⟨g, rfl, hnr, hb4⟩
  have hs4 := hb4.size
  rw [hs3] at hs4
  have M0 := Lib.hid (show ClM N w.heap.size g es es w w3 from ⟨.refl, ⟨A1, k1, len, helH.out.symm, own_below o3H.out hb4, bG3H.out.below hb4 (by omega)⟩, own_base (by omega) hnr, bR3H.out.below hb4 (by omega), hb3H.out.trans (hb4.mono (by omega))⟩)
  clear hnr hb4 HN c0 c1 d1 d1f e0 e1 hrd3 o3H bG3H bR3H hb3H bR1H bG1H hb1H
  have hlw3 : w.heap.size + 2 ≤ w3.heap.size := by omega
  clear hs4 hs3 hs2 hs1 hlt2
  go_wp2
  go_step3
  go_wp2
  go_loopg [3, 6, 7, 22] (45 - len) (fun gh r a b q wx => ∃ fs : List E, fs.length + gh = 45 ∧ r = .int .i64 0 ∧ ClM N w.heap.size g es fs w wx ∧ w.heap.size + 2 ≤ wx.heap.size)
  case atStart => exact ⟨es, by have := helH.out; omega, rfl, M0.out, hlw3⟩
  case round =>
    clear M0 hlw3
    obtain ⟨fs, hgh, rfl, hM, hlwr⟩ := hrel
    obtain ⟨G0, rfl⟩ : ∃ G0, G0 = gk := ⟨_, rfl⟩
    have hfs45 := Lib.hid (okL_45 h10 (hM.gw.ok hok.out))
    obtain ⟨wo, rfl⟩ : ∃ wo : World, wo = wr := ⟨_, rfl⟩
    have hMH := Lib.hid hM
    have hokF := Lib.hid (hM.gw.ok hok.out)
    have hnlen := nearW_length N fs
    have hlt1024 := Lib.hid (nearW_lt h10 (es := fs) hokF.out.ok)
    have hwd : ∀ k, k < N → wo.cell? ⟨g, k, none⟩ = some (.int .u32 (((nearW N fs).getD k 0 : Nat) : Int)) := fun k hk => by
      have := (hM.nr.cellAt k (by omega)).trans (wds_get (by rw [hnlen]; exact hk))
      simpa using this
    have hbit : ∀ a b, a < N → ((nearW N fs).getD a 0).testBit b = adj fs a b := fun a b ha => nearW_bit fs hokF.out.ok a b ha
    have hdeg : ∀ a, a < N → popc 10 ((nearW N fs).getD a 0) = degE fs a := fun a ha => by
      have := deg_near h10 fs hokF.out.ok (okL_iff.1 hokF.out) a ha fs.length (Nat.le_refl _)
      rwa [List.take_of_length_le (Nat.le_refl _)] at this
    have hwdH := Lib.hid hwd; have hbitH := Lib.hid hbit; have hdegH := Lib.hid hdeg
    clear hM hwd hbit hdeg hnlen
    go_wp2
    go_loopg [6, 7, 22] N (fun gh2 a b q wx => ∃ k : Nat, k + gh2 = N ∧ q = .int .i64 k ∧ Below wo.heap.size wo wx ∧ PS N fs k)
    case atStart => exact ⟨0, by omega, rfl, Below.refl _ _, fun a b h => by omega⟩
    case round =>
      obtain ⟨k, hk, rfl, hb1, hP⟩ := hrel
      have hb1H := Lib.hid hb1; have hPH := Lib.hid hP
      obtain ⟨w4, rfl⟩ : ∃ w4 : World, w4 = wr := ⟨_, rfl⟩
      clear hb1 hP
      obtain ⟨G1, rfl⟩ : ∃ G1, G1 = gk := ⟨_, rfl⟩
      by_cases hkN : k < N
      · have hP3 := Lib.hid (show ∀ b, k < b → b < k + 1 → adj fs k b = false → degE fs k + degE fs b < N from fun b h1 h2 => by omega)
        go_wp2
        go_loopg [7] (N - (k + 1)) (fun gh3 b wx => ∃ m : Nat, k + 1 ≤ m ∧ m + gh3 = N ∧ b = .int .i64 m ∧ Below wo.heap.size wo wx ∧ ∀ b, k < b → b < m → adj fs k b = false → degE fs k + degE fs b < N)
        case atStart => exact ⟨k + 1, Nat.le_refl _, by omega, by go_num, hb1H.out, hP3.out⟩
        case round =>
          clear hP3 hb1H
          obtain ⟨m, hkm, hm, rfl, hb3, hP3⟩ := hrel
          obtain ⟨w5, rfl⟩ : ∃ w5 : World, w5 = wr := ⟨_, rfl⟩
          obtain ⟨G2, rfl⟩ : ∃ G2, G2 = gk := ⟨_, rfl⟩
          have hP3H := Lib.hid hP3; have hb3H := Lib.hid hb3
          obtain ⟨A2, c2, m2, hm2, hown, hBk⟩ := hMH.out.own
          have hmm := Lib.hid hm2; have hownH := Lib.hid hown; have hBkH := Lib.hid hBk
          have q0 : w5.cell? ⟨w.heap.size, 0, none⟩ = some (.int .i64 N) := (hBk.below hb3 (by omega)).cell rfl
          have x0 := BW.cell (w := w5) q0
          have hgS := (hMH.out.nr.lt g rfl)
          have hg5 : w.heap.size + 2 ≤ g := hgS.1
          have hg6 : g < wo.heap.size := hgS.2
          have hx1 := below_cell hb3 hg6 (hwdH.out k hkN)
          clear hP3 hb3 hown hBk hm2 hgS
          by_cases hmN : m < N
          · have hx2 := below_cell hb3H.out hg6 (hwdH.out m hmN)
            have hxlt := getD_lt1024 hlt1024.out k
            have hylt := getD_lt1024 hlt1024.out m
            have hbt := hbitH.out k m hkN
            have hd1 := hdegH.out k hkN
            have hd2 := hdegH.out m hmN
            have hbt2 := shr_bit0 ((nearW N fs).getD k 0) m (by omega)
            rw [hbt] at hbt2
            have hbtH := Lib.hid hbt
            clear hbt
            have hpx := popc_le 10 ((nearW N fs).getD k 0)
            have hpy := popc_le 10 ((nearW N fs).getD m 0)
            have HO := Lib.hid (fun (x : Nat) (hx : x < 1024) (p : BW w5) => ones_below x p.w' hx)
            generalize hxe : (nearW N fs).getD k 0 = x at *
            generalize hye : (nearW N fs).getD m 0 = y at *
            have hxeH := Lib.hid hxe; have hyeH := Lib.hid hye
            obtain ⟨d1, hd1e⟩ : ∃ d, popc 10 x = d := ⟨_, rfl⟩
            obtain ⟨d2, hd2e⟩ : ∃ d, popc 10 y = d := ⟨_, rfl⟩
            have HO1 := HO.out x hxlt; have HO2 := HO.out y hylt
            rw [hd1e] at hpx hd1 HO1
            rw [hd2e] at hpy hd2 HO2
            have HO1H := Lib.hid HO1; have HO2H := Lib.hid HO2
            have hd1H := Lib.hid hd1; have hd2H := Lib.hid hd2
            clear hxe hye hd1e hd2e HO1 HO2 hd1 hd2 HO
            have y1 := BW.cell (w := w5) hx1; have y2 := BW.cell (w := w5) hx2
            have hk0 : (0 : Int) ≤ k := by omega
            have hkN' : (k : Int) < N := by omega
            have hm0 : (0 : Int) ≤ m := by omega
            have hmN' : (m : Int) < N := by omega
            cases ha : adj fs k m
            · rw [ha] at hbt2
              have haH := Lib.hid ha
              clear ha
              simp only [Bool.not_false] at hbt2
              have hadd : IntKind.i64.wrap ((d1 : Int) + d2) = (d1 : Int) + d2 := by rw [IntWalk.i64_in _ (by omega)]
              by_cases hsum : N ≤ d1 + d2
              · have hsI : decide ((N : Int) ≤ (d1 : Int) + d2) = true := decide_eq_true (by omega)
                go_upto_region 12 with fail
                refine wp_region_below (by kernel_rfl) (by kernel_rfl) ?_
                repeat (go_big_quiet_step (first | rfl | (with_reducible refine Calls.bel (HO1H.out _)) | (with_reducible refine Calls.bel (HO2H.out _))))
                refine wpQuiet_nil ?_
                rintro _ ⟨p, rfl⟩
                have hb6 := p.hb
                generalize p.w' = w6 at *
                have hM6 := hMH.out.later (hb3H.out.trans (hb6.mono hb3H.out.size)) (by omega)
                have hs6 : wo.heap.size ≤ w6.heap.size := Nat.le_trans hb3H.out.size hb6.size
                have hz1 := below_cell hb6 (Nat.lt_of_lt_of_le hg6 hb3H.out.size) hx1
                have hz2 := below_cell hb6 (Nat.lt_of_lt_of_le hg6 hb3H.out.size) hx2
                have hf1 := hM6.nr.frozenAt k; have hf2 := hM6.nr.frozenAt m
                have hM6H := Lib.hid hM6
                clear hM6 hb6 x0 y1 y2 HO1H HO2H hx1 hx2 q0 hP3H hb3H hownH hBkH
                have hor1 : (Value.int .u32 (bits .or .u32 (x : Int) ((2 : Int) ^ m % 4294967296))) = .int .u32 ((x ||| 2 ^ m : Nat) : Int) := by
                  rw [two_pow_u32 m (by omega), u32_or_nat _ _ (by omega) (Nat.lt_of_lt_of_le (Nat.pow_lt_pow_right (by omega) (show m < 10 by omega)) (by omega))]
                have hor2 : (Value.int .u32 (bits .or .u32 (y : Int) ((2 : Int) ^ k % 4294967296))) = .int .u32 ((y ||| 2 ^ k : Nat) : Int) := by
                  rw [two_pow_u32 k (by omega), u32_or_nat _ _ (by omega) (Nat.lt_of_lt_of_le (Nat.pow_lt_pow_right (by omega) (show k < 10 by omega)) (by omega))]
                have hne : k ≠ m := by omega
                have hset : ((wds (nearW N fs)).set k (.int .u32 ((x ||| 2 ^ m : Nat) : Int))).set m (.int .u32 ((y ||| 2 ^ k : Nat) : Int)) = wds (nearW N (fs ++ [e3 k m])) := by
                  rw [nearW_snoc, wds_orAt _ k m _ (by rw [hxeH.out]), wds_orAt (orAt (nearW N fs) k m) m k _ ?_]
                  · rfl
                  · rw [← hyeH.out]
                    unfold orAt
                    simp [List.getD, hne]
                have h1H := Lib.hid hor1; have h2H := Lib.hid hor2; have hsetH := Lib.hid hset
                clear hor1 hor2 hset
                have hmk : ¬ m = k := by omega
                have hgw : Gw N es (fs ++ [e3 k m]) := .snoc hMH.out.gw (by omega) hmN haH.out (by rw [← hd1H.out, ← hd2H.out]; exact hsum)
                have hgwH := Lib.hid hgw
                have hfslen : fs.length + 1 ≤ 45 := by have := okL_45 h10 (hgw.ok hok.out); simpa using this
                clear hgw hsI hadd
                go_wp2
                go_region
                go_wp2
                go_region
                obtain ⟨A3, c3, m3, hm3, hown6, hB6⟩ := hM6H.out.own
                have hgl := hM6H.out.nr.lt g rfl
                have hngE : ∀ o, (Value.slice A3 m3 c3).ownBlock ≠ some (⟨g, o, none⟩ : Addr).block := fun o => own_two hM6H.out.nr hown6 (by decide) rfl
                have nr7 := Lib.hid (show (((w6.setCell ⟨g, k, none⟩ (.int .u32 (bits .or .u32 (x : Int) ((2 : Int) ^ m % 4294967296)))).setCell ⟨g, m, none⟩ (.int .u32 (bits .or .u32 (y : Int) ((2 : Int) ^ k % 4294967296)))).drew.drew).ownsRow (w.heap.size + 2) 46 1 (.slice (some ⟨g, 0, none⟩) N N) N (wds (nearW N (fs ++ [e3 k m]))) from by
                  rw [← hsetH.out, ← h1H.out, ← h2H.out]
                  exact own_drew (own_drew ((hM6H.out.nr.stored k _).1.stored m _).1))
                have ow7 := Lib.hid (show (((w6.setCell ⟨g, k, none⟩ (.int .u32 (bits .or .u32 (x : Int) ((2 : Int) ^ m % 4294967296)))).setCell ⟨g, m, none⟩ (.int .u32 (bits .or .u32 (y : Int) ((2 : Int) ^ k % 4294967296)))).drew.drew).ownsRow (w.heap.size + 2) 36 3 (.slice A3 m3 c3) m3 (ps3 .i64 .i64 .i64 fs) from own_drew (own_drew (own_set_other (own_set_other hown6 (hngE k) _) (hngE m) _)))
                have bk7 : Blk (((w6.setCell ⟨g, k, none⟩ (.int .u32 (bits .or .u32 (x : Int) ((2 : Int) ^ m % 4294967296)))).setCell ⟨g, m, none⟩ (.int .u32 (bits .or .u32 (y : Int) ((2 : Int) ^ k % 4294967296)))).drew.drew) w.heap.size 24 #[.int .i64 N, .slice A3 m3 c3] := (hB6.other (a := ⟨g, k, none⟩) (show w.heap.size ≠ g by omega) _).other (a := ⟨g, m, none⟩) (show w.heap.size ≠ g by omega) _
                have rs7 : Blk (((w6.setCell ⟨g, k, none⟩ (.int .u32 (bits .or .u32 (x : Int) ((2 : Int) ^ m % 4294967296)))).setCell ⟨g, m, none⟩ (.int .u32 (bits .or .u32 (y : Int) ((2 : Int) ^ k % 4294967296)))).drew.drew) (w.heap.size + 1) 24 #[.int .i64 0, .slice none 0 0] := (hM6H.out.rs.other (a := ⟨g, k, none⟩) (show w.heap.size + 1 ≠ g by omega) _).other (a := ⟨g, m, none⟩) (show w.heap.size + 1 ≠ g by omega) _
                have be7 : Below w.heap.size w (((w6.setCell ⟨g, k, none⟩ (.int .u32 (bits .or .u32 (x : Int) ((2 : Int) ^ m % 4294967296)))).setCell ⟨g, m, none⟩ (.int .u32 (bits .or .u32 (y : Int) ((2 : Int) ^ k % 4294967296)))).drew.drew) := ((hM6H.out.be.setCell (p := ⟨g, k, none⟩) (show w.heap.size ≤ g by omega) _).setCell (p := ⟨g, m, none⟩) (show w.heap.size ≤ g by omega) _).drew.drew
                have hs7 : w.heap.size + 2 ≤ (((w6.setCell ⟨g, k, none⟩ (.int .u32 (bits .or .u32 (x : Int) ((2 : Int) ^ m % 4294967296)))).setCell ⟨g, m, none⟩ (.int .u32 (bits .or .u32 (y : Int) ((2 : Int) ^ k % 4294967296)))).drew.drew).heap.size := by simp; omega
                generalize ((w6.setCell ⟨g, k, none⟩ (.int .u32 (bits .or .u32 (x : Int) ((2 : Int) ^ m % 4294967296)))).setCell ⟨g, m, none⟩ (.int .u32 (bits .or .u32 (y : Int) ((2 : Int) ^ k % 4294967296)))).drew.drew = w7 at *
                have p1 := bk7.cell (j := 1) (v := .slice A3 m3 c3) rfl
                have hrdH := Lib.hid (rd_new3 w7 (.int .i64 (k : Int)) (.int .i64 (m : Int)) (.int .i64 0) 36)
                have bk7H := Lib.hid bk7; have rs7H := Lib.hid rs7; have be7H := Lib.hid be7
                have hm3H := Lib.hid hm3
                have hm45 : m3 + 1 ≤ 45 := by omega
                clear hown6 hB6 hgl hngE bk7 rs7 be7 hm3 hz1 hz2 hf1 hf2 h1H h2H hsetH hM6H hbt2
                go_wp2_with (at_builtin; refine wpList_app (s := .tmp 74) (x := .tmp 78) _ tiEc (ow7.out.alloc _) hrdH.out (ps3_one (l := [((k : Int), (m : Int), 0)])) (by omega) (by omega) (by simp; omega) rfl rfl rfl rfl ?_)
                intro v' w8 hown' hg hat
                obtain ⟨g', cap', rfl⟩ := ownsRow_succ hown'
                have hne3 : ∀ j, j < w.heap.size + 2 → (some j : Option Nat) ≠ (Value.slice A3 m3 c3).ownBlock := fun j hj e => by
                  have := (ow7.out.lt j e.symm).1
                  omega
                have hngE : (Value.slice (some ⟨g, 0, none⟩) N N).ownBlock ≠ (Value.slice A3 m3 c3).ownBlock := fun e => own_two nr7.out ow7.out (by decide) (g := g) rfl e.symm
                have bk8 := (bk7H.out.alloc (.cells #[.int .i64 (k : Int), .int .i64 (m : Int), .int .i64 0] 36)).kept hg (hne3 _ (by omega))
                have rs8 := (rs7H.out.alloc (.cells #[.int .i64 (k : Int), .int .i64 (m : Int), .int .i64 0] 36)).kept hg (hne3 _ (by omega))
                have nr8 := (nr7.out.alloc (.cells #[.int .i64 (k : Int), .int .i64 (m : Int), .int .i64 0] 36)).kept hg (.inr hngE)
                have be8 := (be7H.out.alloc be7H.out.size (.cells #[.int .i64 (k : Int), .int .i64 (m : Int), .int .i64 0] 36)).grown hg (by simp; omega) (fun g e => by have := (ow7.out.lt g e).1; omega)
                have hs8 := hg.size
                simp only [World.size_alloc] at hs8
                have p1' := bk8.cell (j := 1) (v := .slice A3 m3 c3) rfl
                have p1f := bk8.frozen 1
                have hl8 := bk8.lt
                have hne4 : (Value.slice (some ⟨g', 0, none⟩) (m3 + 1) cap').ownBlock ≠ some (⟨w.heap.size, 1, none⟩ : Addr).block := fun e => by
                  have := (hown'.lt _ e).1
                  simp only at this
                  omega
                have hne5 : (Value.slice (some ⟨g, 0, none⟩) N N).ownBlock ≠ some (⟨w.heap.size, 1, none⟩ : Addr).block := fun e => by
                  have := (nr8.lt _ e).1
                  simp only at this
                  omega
                have hM9 := Lib.hid (show ClM N w.heap.size g es (fs ++ [e3 k m]) w (w8.setCell ⟨w.heap.size, 1, none⟩ (.slice (some ⟨g', 0, none⟩) (m3 + 1) cap')) from
                  ⟨hgwH.out, ⟨some ⟨g', 0, none⟩, cap', m3 + 1, by rw [hm3H.out]; simp, by
                    have := own_set_other hown' hne4 (.slice (some ⟨g', 0, none⟩) (m3 + 1) cap')
                    rw [show ps3 .i64 .i64 .i64 (fs ++ [e3 k m]) = ps3 .i64 .i64 .i64 fs ++ [.int .i64 (k : Int), .int .i64 (m : Int), .int .i64 0] by simp [ps3, e3]]
                    exact this, bk8.set 1 _⟩, own_set_other nr8 hne5 _, rs8.other (a := ⟨w.heap.size, 1, none⟩) (show w.heap.size + 1 ≠ w.heap.size by omega) _, be8.setCell (p := ⟨w.heap.size, 1, none⟩) (Nat.le_refl _) _⟩)
                clear hown' hg hat hne3 hngE bk8 rs8 nr8 be8 hne4 hne5 nr7 ow7
                go_wp2
                go_roundg (G0 - 1)
                case measure => omega
                case rel => exact ⟨fs ++ [e3 k m], by simp; omega, rfl, hM9.out, by simp; omega⟩
              · have hsI : decide ((N : Int) ≤ (d1 : Int) + d2) = false := decide_eq_false (by omega)
                have hnx := Lib.hid (show ∀ b, k < b → b < m + 1 → adj fs k b = false → degE fs k + degE fs b < N from fun b h1 h2 h3 => by
                  rcases Nat.lt_or_ge b m with h4 | h4
                  · exact hP3H.out b h1 h4 h3
                  · obtain rfl : b = m := by omega
                    rw [← hd1H.out, ← hd2H.out]; omega)
                go_upto_region 12 with fail
                refine wp_region_below (by kernel_rfl) (by kernel_rfl) ?_
                repeat (go_big_quiet_step (first | rfl | (with_reducible refine Calls.bel (HO1H.out _)) | (with_reducible refine Calls.bel (HO2H.out _))))
                refine wpQuiet_nil ?_
                rintro _ ⟨p, rfl⟩
                have hfin := Lib.hid (hb3H.out.trans (p.hb.mono hb3H.out.size))
                clear x0 y1 y2 HO1H HO2H
                go_wp2
                go_roundg (N - (m + 1))
                case measure => omega
                case rel => exact ⟨m + 1, by omega, by omega, by go_num, hfin.out, hnx.out⟩
            · rw [ha] at hbt2
              simp only [Bool.not_true] at hbt2
              have hnx := Lib.hid (show ∀ b, k < b → b < m + 1 → adj fs k b = false → degE fs k + degE fs b < N from fun b h1 h2 h3 => by
                rcases Nat.lt_or_ge b m with h4 | h4
                · exact hP3H.out b h1 h4 h3
                · obtain rfl : b = m := by omega
                  rw [ha] at h3; cases h3)
              clear ha
              go_upto_region 12 with fail
              refine wp_region_below (by kernel_rfl) (by kernel_rfl) ?_
              repeat (go_big_quiet_step (first | rfl | (with_reducible refine Calls.bel (HO1H.out _)) | (with_reducible refine Calls.bel (HO2H.out _))))
              refine wpQuiet_nil ?_
              rintro _ ⟨p, rfl⟩
              have hfin := Lib.hid (hb3H.out.trans (p.hb.mono hb3H.out.size))
              clear x0 y1 y2 HO1H HO2H
              go_wp2
              go_roundg (N - (m + 1))
              case measure => omega
              case rel => exact ⟨m + 1, by omega, by omega, by go_num, hfin.out, hnx.out⟩
          · obtain rfl : m = N := by omega
            have hnx := Lib.hid (show PS m fs (k + 1) from fun a b h1 h2 h3 h4 => by
              rcases Nat.lt_or_ge a k with h5 | h5
              · exact hPH.out a b h5 h2 h3 h4
              · obtain rfl : a = k := by omega
                exact hP3H.out b h2 h3 h4)
            clear x0 hx1
            go_wp2
            go_roundg (m - (k + 1))
            case measure => omega
            case rel => exact ⟨k + 1, by omega, by go_num, hb3H.out, hnx.out⟩
      · obtain rfl : k = N := by omega
        obtain ⟨A2, c2, m2, hm2, hown, hBk⟩ := hMH.out.own
        have hown' := own_below hown hb1H.out
        have hB1 := hBk.below hb1H.out (by omega)
        have hR1 := hMH.out.rs.below hb1H.out (by omega)
        have hlt4 : w.heap.size + 2 ≤ w4.heap.size := Nat.le_trans hlwr hb1H.out.size
        have d0 := hB1.cell (j := 0) rfl; have d1 := hB1.cell (j := 1) rfl
        have r0 := hR1.cell (j := 0) rfl; have r1 := hR1.cell (j := 1) rfl
        have f0 := hR1.frozen 0; have f1 := hR1.frozen 1
        have hR2 := ((hR1.set 0 (.int .i64 k)).set 1 (.slice A2 m2 c2))
        have e0 := Lib.hid (hR2.cell (j := 0) (v := .int .i64 k) rfl); have e1 := Lib.hid (hR2.cell (j := 1) (v := .slice A2 m2 c2) rfl)
        have hne : ∀ o, (Value.slice A2 m2 c2).ownBlock ≠ some (⟨w.heap.size + 1, o, none⟩ : Addr).block := fun o e => by
          have := (hown'.lt _ e).1
          simp only at this
          omega
        have hown2 := own_set_other (own_set_other hown' (hne 0) (.int .i64 k)) (hne 1) (.slice A2 m2 c2)
        have hfin := Lib.hid (show ClPost k es w.heap.size w (.returned (.tuple #[.agg #[.int .i64 k, .slice A2 m2 c2], .int .i64 0])) ((w4.setCell ⟨w.heap.size + 1, 0, none⟩ (.int .i64 k)).setCell ⟨w.heap.size + 1, 1, none⟩ (.slice A2 m2 c2)) from by
          subst hm2
          exact ⟨A2, c2, fs, rfl, Rd.of_own hown2, own_cap2 hown2, hMH.out.gw, fun a b h1 h2 h3 => hPH.out a b (by omega) h1 h2 h3, ((hMH.out.be.trans (hb1H.out.mono (by omega))).setCell (by simp) _).setCell (by simp) _⟩)
        have hm2H := Lib.hid hm2
        clear hown hBk hown' hB1 hR1 hR2 hne hown2 hm2
        go_wp2
        try rw [Exit.noGoto_ret]
        have e0 := e0.out; have e1 := e1.out
        exact bodyPost_ret (v := .tuple #[.agg #[.int .i64 k, .slice A2 m2 c2], .int .i64 0]) (by simp [results, Tryd.results10, go_sem, e0, e1]) rfl hfin.out
end Go.Proofs.YtknfflhmhjfkeaaDoor
