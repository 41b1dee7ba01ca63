/- bonds.Most: the best bond. -/
import Derived.Test.YtcjokjfiikkpfaaDoorBondMs
import Derived.Test.YtcjokjfiikkpfaaDoorNatI
import Derived.Test.YtcjokjfiikkpfaaDoorGood
import Derived.StillTailTactics
namespace Go.Proofs.YtcjokjfiikkpfaaDoor
open Go.RowKit Go.Shelf Go.Maps
attribute [local go_sem] Oper.semAt_some

set_option maxHeartbeats 3200000 in
set_option maxRecDepth 100000 in
theorem most_bad (N : Int) (A : Option Addr) (len cap : Nat) (es : List E) (w : World) (hr : Rd w A len 3 (ps3 .i64 .i64 .i64 es)) (hlen : len ≤ 9223372036854775807) (h : gchk N es ≠ 0) :
    Calls Tryd.prog 5 #[.agg #[.int .i64 N, .slice A len cap]] w fun e w' => e = .returned (.tuple #[.slice none 0 0, .int .i64 (gchk N es)]) ∧ Below w.heap.size w w' := by
  have gb := (Below.refl _ w).alloc (Nat.le_refl _) (.cells #[.int .i64 N, .slice A len cap] 24)
  have bG := Blk.new w 24 #[.int .i64 N, .slice A len cap]
  have g0 := bG.cell (j := 0) rfl; have g1 := bG.cell (j := 1) rfl
  have HC := Lib.hid (check_any N A len cap es _ (hr.later gb) hlen)
  have hne : (gchk N es != 0) = true := bne_iff_ne.2 h
  have gbH := Lib.hid gb
  generalize gchk N es = z at *
  clear hr h bG gb
  go_enter Tryd.func5, Tryd.ntmps5
  go_wp2_with fail
  refine HC.out.mono ?_
  rintro _ w1 ⟨rfl, hb⟩
  go_wp2
  go_ret2
  exact ⟨rfl, gbH.out.trans (hb.mono gbH.out.size)⟩
theorem ps3_drop {k₁ k₂ k₃ : IntKind} : ∀ (es : List (Int × Int × Int)) (k : Nat), ps3 k₁ k₂ k₃ (es.drop k) = (ps3 k₁ k₂ k₃ es).drop (3 * k)
  | es, 0 => by simp
  | [], k + 1 => by simp [ps3]
  | e :: es, k + 1 => by
    rw [List.drop_succ_cons, ps3_drop es k]
    simp only [ps3, List.flatMap_cons]
    rw [show 3 * (k + 1) = 3 + 3 * k by omega, ← List.drop_drop]
    rfl
theorem Rd.cut3 {w : World} {b o n : Nat} {xs : List Value} (h : Rd w (some ⟨b, o, none⟩) n 3 xs) (k : Nat) : Rd w (some ⟨b, o + k * 3, none⟩) (n - k) 3 (xs.drop (3 * k)) := by
  have hl := h.1
  refine ⟨by rw [List.length_drop]; omega, fun hn => ?_⟩
  obtain ⟨b', o', e, hlt, hc⟩ := h.2 (by omega)
  cases e
  refine ⟨b, o + k * 3, rfl, hlt, fun j hj => ?_⟩
  rw [List.getElem?_drop, Nat.add_assoc, show k * 3 + j = 3 * k + j by omega]
  exact hc (3 * k + j) (by omega)
theorem rd_rest {w : World} {b o len cap k : Nat} {es : List (Int × Int × Int)} (h : Rd w (some ⟨b, o, none⟩) len 3 (ps3 .i64 .i64 .i64 es)) (hk : k ≤ len) (hc : len ≤ cap) :
    Rd w (if cap = k then some ⟨b, o, none⟩ else some ⟨b, o + k * 3, none⟩) (len - k) 3 (ps3 .i64 .i64 .i64 (es.drop k)) := by
  rw [ps3_drop]
  split
  · refine ⟨?_, fun hn => by omega⟩
    rw [List.length_drop, h.1]; omega
  · exact h.cut3 k
theorem tiI : TI Tryd.prog 25 3 (.int .i64 0) 1 8 := TI.mk' Tryd.underlying25 (by kernel_rfl) rfl (by decide)
theorem own_ne {W : World} {base e s n r : Nat} {v : Value} {xs : List Value} (h : W.ownsRow base e s v n xs) (hr : r < base ∨ W.heap.size ≤ r) : v.ownBlock = none ∨ v.ownBlock ≠ some r := by
  rcases hv : v.ownBlock with _ | q
  · exact .inl rfl
  · have := h.lt q hv
    exact .inr (fun e => by injection e with e; omega)
def MostPost (es : List E) (N : Nat) (w : World) (e : Ending) (w' : World) : Prop :=
  ∃ (A' : Option Addr) (c' : Nat) (L : List Nat), e = .returned (.tuple #[.slice A' L.length c', .int .i64 0]) ∧ Rd w' A' L.length 1 (ints .i64 (natI L)) ∧ Below w.heap.size w w' ∧
    L.Pairwise (· < ·) ∧ (∀ i ∈ L, i < es.length) ∧ (metL es L).Nodup ∧ IsMM es (wS (2 ^ N - 1)) L.length
structure MsM (N len cap tot s c : Nat) (A : Option Addr) (es : List E) (w : World) (k left need : Nat) (v : Value) (W : World) : Prop where
  ms : ∃ L : List Nat, MsI N es tot k left need L ∧ W.ownsRow (c + 1) 3 1 v L.length (ints .i64 (natI L))
  bg : Blk W s 24 #[.int .i64 N, .slice A len cap]
  bc : ∃ u, Blk W c 24 #[.int .i64 N, u]
  be : Below w.heap.size w W
  sz : c + 1 ≤ W.heap.size
set_option maxHeartbeats 3200000 in
set_option maxRecDepth 100000 in
theorem most_ok (N : Nat) (A : Option Addr) (len cap : Nat) (es : List E) (w : World) (hr : Rd w A len 3 (ps3 .i64 .i64 .i64 es)) (hcap : len ≤ cap) (hlen : len ≤ 9223372036854775807) (htb : Tb w) (h : gchk N es = 0) :
    Calls Tryd.prog 5 #[.agg #[.int .i64 N, .slice A len cap]] w (MostPost es N w) := by
  have gb := (Below.refl _ w).alloc (Nat.le_refl _) (.cells #[.int .i64 N, .slice A len cap] 24)
  have bG := Blk.new w 24 #[.int .i64 N, .slice A len cap]
  have HC := Lib.hid (check_any N A len cap es _ (hr.later gb) hlen)
  rw [h] at HC
  obtain ⟨_, h10, hl45, hokE, _⟩ := gchk_ok h
  rw [Int.toNat_natCast] at hokE
  have h10 : N ≤ 10 := by omega
  have hel := ps3_len hr
  have hl := hl45
  rw [hel] at hl45
  have hsz : (w.alloc (.cells #[.int .i64 N, .slice A len cap] 24)).heap.size = w.heap.size + 1 := by simp
  have htl : 0 < w.heap.size := World.block_lt_of_cell? w _ (htb 0 (by decide))
  have gbH := Lib.hid gb; have bGH := Lib.hid bG; have hrH := Lib.hid hr; have hokH := Lib.hid hokE; have helH := Lib.hid hel; have htbH := Lib.hid htb
  clear hr h gb hokE hel htb
  have g0 := bG.cell (j := 0) rfl; have g1 := bG.cell (j := 1) rfl
  clear bG
  go_enter Tryd.func5, Tryd.ntmps5
  go_wp2_with fail
  refine HC.out.mono ?_
  rintro _ w1 ⟨rfl, hb⟩
  have bG1 := bGH.out.below hb (by omega)
  have hb1 := gbH.out.trans (hb.mono gbH.out.size)
  have hs1 := hb.size
  have bC := Blk.new w1 24 #[.int .i64 N, .slice A len cap]
  have bG2 := bG1.alloc (.cells #[.int .i64 N, .slice A len cap] 24)
  have hb2 := hb1.alloc hb1.size (.cells #[.int .i64 N, .slice A len cap] 24)
  have hs2 : (w1.alloc (.cells #[.int .i64 N, .slice A len cap] 24)).heap.size = w1.heap.size + 1 := by simp
  have HM := Lib.hid (mk_any N w1.heap.size A len cap es _ bC (hrH.out.later hb2) h10 hl45 hokH.out)
  have c0 := bG1.cell (j := 0) rfl; have c1 := bG1.cell (j := 1) rfl
  have hN0 : (0 : Int) ≤ N := by omega
  have hN32 : (N : Int) < 32 := by omega
  have hp10 : 2 ^ N ≤ 2 ^ 10 := Nat.pow_le_pow_right (by omega) h10
  have hpp := Nat.two_pow_pos N
  have hpw : (2 : Int) ^ N % 4294967296 - 1 = ((2 ^ N - 1 : Nat) : Int) := by
    rw [two_pow_u32 N (by omega)]
    omega
  obtain ⟨all, hall⟩ : ∃ all, 2 ^ N - 1 = all := ⟨_, rfl⟩
  rw [hall] at hpw
  have hal : all < 2 ^ N := by omega
  have hallH := Lib.hid hall
  clear hall
  have hb2H := Lib.hid hb2; have bCH := Lib.hid bC; have bG2H := Lib.hid bG2
  clear HC bG1 hb hb1 bC bG2 hb2 g0 g1 gbH bGH
  go_wp2_with fail
  refine HM.out.mono ?_
  rintro _ w3 ⟨p, B, A1, rfl, hb3, hBK, hB3⟩
  clear HM
  obtain ⟨tot, htot⟩ := IsMM.ex es (wS all)
  have htl2 := htot.has.small
  have hHM := Lib.hid (many_any es (nearW N es) N p B N A1 (nearGrE h10 hokH.out) (near_edge hokH.out) (by omega) (by omega) all hal (fun _ => none) w3 tot hBK (htbH.out.below (by omega) (hb2H.out.trans (hb3.mono hb2H.out.size))) htot)
  have hs3 := hb3.size
  have hb3' := hb2H.out.trans (hb3.mono hb2H.out.size)
  have bC3 := bCH.out.below hb3 bCH.out.lt
  have bG3 := bG2H.out.below hb3 bG2H.out.lt
  have hb3H := Lib.hid hb3'; have bC3H := Lib.hid bC3; have bG3H := Lib.hid bG3; have htotH := Lib.hid htot
  clear hb3 hb3' bC3 bG3 hBK htot hb2H bCH bG2H c0 c1
  go_wp2_with fail
  refine hHM.out.mono ?_
  rintro _ w4 ⟨rfl, hg4, _⟩
  clear hHM
  have hb4 := hb3H.out.grown hg4 (by omega) (fun k e => by cases e; omega)
  have bC4 := bC3H.out.kept hg4 (ne' (by omega))
  have bG4 := bG3H.out.kept hg4 (ne' (by omega))
  have hs4 := hg4.size
  have g0 := bG4.cell (j := 0) rfl; have g1 := bG4.cell (j := 1) rfl
  have h0M : MsM N len cap tot w.heap.size w1.heap.size A es w 0 all tot (.slice none 0 0) w4 :=
    ⟨⟨[], MsI.start htotH.out hal, World.ownsRow_nil _ _ _ _⟩, bG4, ⟨_, bC4⟩, hb4, by omega⟩
  clear hb4 bC4 bG4 hg4 hb3H bC3H bG3H
  have h0H := Lib.hid h0M
  clear h0M
  go_wp2
  go_loopw [5, 8, 9, 31] (fun l nd v i wr => ∃ k left need : Nat, k ≤ len ∧ i = .int .i64 k ∧ l = .int .u32 left ∧ nd = .int .i64 need ∧ MsM N len cap tot w.heap.size w1.heap.size A es w k left need v wr) (fun _ _ _ i _ => len - (intOf i).toNat)
  case atStart => exact ⟨0, all, tot, Nat.zero_le _, rfl, rfl, rfl, h0H.out⟩
  case round =>
    clear h0H
    obtain ⟨k, left, need, hk, rfl, rfl, rfl, hM⟩ := hrel
    by_cases hlt : k < len
    · have hlt' : (k : Int) < len := by omega
      obtain ⟨bb, oo, rfl, hab, hc1, hc2, hc3⟩ := (hrH.out.later hM.be).triple hlt
      have hke : k < es.length := by rw [helH.out]; exact hlt
      obtain ⟨x, y, hx, hy, hxN, hyN, hne⟩ := hokH.out (es.getD k (0, 0, 0)) (by simp [List.getD, hke])
      have ex : eA (es.getD k e0) = x := by unfold eA e0; rw [hx]; simp
      have ey : eB (es.getD k e0) = y := by unfold eB e0; rw [hy]; simp
      rw [hx] at hc1
      rw [hy] at hc2
      generalize (es.getD k (0, 0, 0)).2.2 = z at *
      clear hx hy
      obtain ⟨u, bC⟩ := hM.bc
      have hs := hM.be.size
      have hsz := hM.sz
      have bGE := hM.bg.alloc (.cells #[.int .i64 x, .int .i64 y, .int .i64 z] 47)
      have bCE := bC.alloc (.cells #[.int .i64 x, .int .i64 y, .int .i64 z] 47)
      have bEE := Blk.new wr 47 #[.int .i64 x, .int .i64 y, .int .i64 z]
      have hszE : (wr.alloc (.cells #[.int .i64 x, .int .i64 y, .int .i64 z] 47)).heap.size = wr.heap.size + 1 := by simp
      have hbE := hM.be.alloc hM.be.size (.cells #[.int .i64 x, .int .i64 y, .int .i64 z] 47)
      obtain ⟨L, hI, hown⟩ := hM.ms
      have hownE := hown.alloc (.cells #[.int .i64 x, .int .i64 y, .int .i64 z] 47)
      have g1 := bGE.cell (j := 1) (v := .slice (some ⟨bb, oo, none⟩) len cap) rfl
      have f1 := bCE.frozen 1; have l1 := bCE.lt
      have k1 := bCE.cell (j := 1) (v := u) rfl
      have hk0 : (0 : Int) ≤ k := by omega
      have hkw : IntKind.i64.wrap ((k : Int) + 1) = (k : Int) + 1 := IntWalk.i64_in _ (by omega)
      have hkl1 : (k : Int) + 1 ≤ len := by omega
      have hkl2 : (k : Int) + 1 ≤ cap := by omega
      have hlc : (len : Int) ≤ cap := by omega
      have bGH := Lib.hid bGE; have bCH := Lib.hid bCE; have bEH := Lib.hid bEE; have hbEH := Lib.hid hbE; have hIH := Lib.hid hI; have hownH := Lib.hid hownE; have exH := Lib.hid ex; have eyH := Lib.hid ey
      clear hM bC bGE bCE bEE hbE hI hownE hown ex ey
      have hkn : k + 1 ≤ len := by omega
      have hrX := Lib.hid (fun W (hb : Below w.heap.size w W) => rd_rest (k := k + 1) (hrH.out.below (Nat.le_refl _) hb) hkn hcap)
      go_upto_region 13 with fail
      generalize hA2 : (if cap = k + 1 then some (⟨bb, oo, none⟩ : Addr) else some ⟨bb, oo + (k + 1) * 3, none⟩) = A2 at *
      have bX := bCH.out.set 1 (.slice A2 (len - (k + 1)) (cap - (k + 1)))
      have hgs := grown_set (wr.alloc (.cells #[.int .i64 x, .int .i64 y, .int .i64 z] 47)) w1.heap.size 1 (.slice A2 (len - (k + 1)) (cap - (k + 1)))
      have bGX := bGH.out.kept hgs (ne' (by omega))
      have bEX := bEH.out.kept hgs (ne' (by omega))
      have hbX := hbEH.out.grown hgs (by omega) (fun k e => by cases e; omega)
      have hownX := hownH.out.kept hgs (own_ne hownH.out (.inl (by omega)))
      have hsX : ((wr.alloc (.cells #[.int .i64 x, .int .i64 y, .int .i64 z] 47)).setCell ⟨w1.heap.size, 1, none⟩ (.slice A2 (len - (k + 1)) (cap - (k + 1)))).heap.size = wr.heap.size + 1 := by simp
      have e0' := bEX.cell (j := 0) (v := .int .i64 x) rfl
      have e1' := bEX.cell (j := 1) (v := .int .i64 y) rfl
      have hx0 : (0 : Int) ≤ x := by omega
      have hx32 : (x : Int) < 32 := by omega
      have hy0 : (0 : Int) ≤ y := by omega
      have hy32 : (y : Int) < 32 := by omega
      have hpx : 2 ^ x < 2 ^ 32 := Nat.pow_lt_pow_right (by omega) (by omega)
      have hpy : 2 ^ y < 2 ^ 32 := Nat.pow_lt_pow_right (by omega) (by omega)
      have hor : bits .or .u32 ((2 : Int) ^ x % 4294967296) ((2 : Int) ^ y % 4294967296) = ((bw x y : Nat) : Int) := by
        rw [two_pow_u32 x (by omega), two_pow_u32 y (by omega)]
        exact u32_or_nat _ _ hpx hpy
      have bCX' : Blk _ w1.heap.size 24 #[.int .i64 N, .slice A2 (len - (k + 1)) (cap - (k + 1))] := bX
      have bCXH := Lib.hid bCX'; have bGXH := Lib.hid bGX; have hbXH := Lib.hid hbX; have hownXH := Lib.hid hownX; have hsXH := Lib.hid hsX
      clear bX bCX' bGX bEX hbX hownX hgs bGH bCH bEH hbEH hownH g1 f1 l1 k1 hc1 hc2 hc3 hsX
      generalize (wr.alloc (.cells #[.int .i64 x, .int .i64 y, .int .i64 z] 47)).setCell ⟨w1.heap.size, 1, none⟩ (.slice A2 (len - (k + 1)) (cap - (k + 1))) = wX at *
      go_quiet (fail)
      have bCY : Blk (wX.drewN nq) w1.heap.size 24 #[.int .i64 N, .slice A2 (len - (k + 1)) (cap - (k + 1))] := bCXH.out
      have bGY : Blk (wX.drewN nq) w.heap.size 24 #[.int .i64 N, .slice (some ⟨bb, oo, none⟩) len cap] := bGXH.out
      have hbY := below_drewN hbXH.out nq
      have hownY := own_drewN hownXH.out nq
      have hsY : (wX.drewN nq).heap.size = wr.heap.size + 1 := hsXH.out
      clear bCXH bGXH hbXH hownXH hsXH e0' e1'
      generalize wX.drewN nq = wY at *
      have hleft := hIH.out.lt
      have hneed := hIH.out.mm.has.small
      have hcnt := hIH.out.cnt
      have hLk := hIH.out.tl
      have hbwl := bw_lt (x := x) (y := y) (by omega) (by omega)
      have hand : bits .and .u32 (left : Int) ((bw x y : Nat) : Int) = ((left &&& bw x y : Nat) : Int) := u32_and_nat left _ (by omega) (by omega)
      have houtw : bits .andNot .u32 (left : Int) ((bw x y : Nat) : Int) = ((outW left x y : Nat) : Int) := u32_andNot_nat left _ (by omega) (by omega)
      have hbi := Lib.hid (both_iff (l := left) (x := x) (y := y))
      have houl : outW left x y ≤ left := Nat.and_le_left
      obtain ⟨lb, hlb⟩ : ∃ lb, left &&& bw x y = lb := ⟨_, rfl⟩
      obtain ⟨lo, hlo⟩ : ∃ lo, outW left x y = lo := ⟨_, rfl⟩
      rw [hlb] at hand hbi
      rw [hlo] at houtw houl
      have hloH := Lib.hid hlo
      clear hlb hlo
      generalize bw x y = bo at *
      have hokD : ∀ e ∈ es.drop (k + 1), okE N e := fun e he => hokH.out e (List.mem_of_mem_drop he)
      by_cases hboth : lb = bo
      · have hq : ((lb : Int) == (bo : Int)) = true := by simp; omega
        obtain ⟨htx, hty⟩ := hbi.out.1 hboth
        have HM := Lib.hid (mk_any N w1.heap.size A2 (len - (k + 1)) (cap - (k + 1)) (es.drop (k + 1)) wY bCY (hrX.out wY hbY) h10 (by omega) hokD)
        have hbYH := Lib.hid hbY; have bCYH := Lib.hid bCY; have bGYH := Lib.hid bGY; have hownYH := Lib.hid hownY; have htxH := Lib.hid htx; have htyH := Lib.hid hty
        clear hbY bCY bGY hownY htx hty
        go_wp2_with fail
        refine HM.out.mono ?_
        rintro _ w5 ⟨p5, B5, A5, rfl, hb5, hBK5, hB5⟩
        clear HM
        obtain ⟨m, hm⟩ := IsMM.ex (es.drop (k + 1)) (wS lo)
        have hml := hm.has.small
        have hdl : (es.drop (k + 1)).length ≤ 45 := by rw [List.length_drop]; omega
        have hb5' := hbYH.out.trans (hb5.mono hbYH.out.size)
        have hHM := Lib.hid (many_any (es.drop (k + 1)) (nearW N (es.drop (k + 1))) N p5 B5 N A5 (nearGrE h10 hokD) (near_edge hokD) (by omega) (by omega) lo (by omega) (fun _ => none) w5 m hBK5 (htbH.out.below (by omega) hb5') hm)
        have hs5 := hb5.size
        have bC5 := bCYH.out.below hb5 bCYH.out.lt
        have bG5 := bGYH.out.below hb5 bGYH.out.lt
        have hown5 := own_below hownYH.out hb5
        have hb5H := Lib.hid hb5'; have bC5H := Lib.hid bC5; have bG5H := Lib.hid bG5; have hmH := Lib.hid hm; have hown5H := Lib.hid hown5
        have hwn := hownYH.out.lt
        have hwnH := Lib.hid hwn
        clear hb5 hb5' bC5 bG5 hBK5 hm hbYH bCYH bGYH hown5 hownYH hwn
        go_wp2_with fail
        refine hHM.out.mono ?_
        rintro _ w6 ⟨rfl, hg6, -⟩
        clear hHM
        have hb6 := hb5H.out.grown hg6 (by omega) (fun k e => by cases e; omega)
        have bC6 := bC5H.out.kept hg6 (ne' (by omega))
        have bG6 := bG5H.out.kept hg6 (ne' (by omega))
        have hown6 := hown5H.out.kept hg6 (by
          rcases hv : u9.ownBlock with _ | r
          · exact .inl rfl
          · have := hwnH.out r hv
            exact .inr (fun e => by injection e with e; omega))
        have hs6 := hg6.size
        have hmw : IntKind.i64.wrap (1 + (m : Int)) = 1 + (m : Int) := IntWalk.i64_in _ (by omega)
        have hb6H := Lib.hid hb6; have bC6H := Lib.hid bC6; have bG6H := Lib.hid bG6; have hown6H := Lib.hid hown6
        clear hb6 bC6 bG6 hown6 hg6 hb5H bC5H bG5H hown5H
        by_cases hmn : 1 + m = need
        · have hmq : (1 + (m : Int) == (need : Int)) = true := by simp; omega
          have hMs := hIH.out.take (by omega) h10 hokH.out (m := m) (by rw [exH.out]; exact htxH.out) (by rw [eyH.out]; exact htyH.out) (by rw [exH.out, eyH.out, hloH.out]; exact hmH.out) hmn
          rw [exH.out, eyH.out, hloH.out] at hMs
          have hMsH := Lib.hid hMs
          clear hMs
          have hnw : IntKind.i64.wrap ((need : Int) - 1) = (need : Int) - 1 := IntWalk.i64_in _ (by omega)
          go_wp2_with (at_builtin; refine wpList_app (s := .tmp 65) (x := .tmp 67) _ tiI (hown6H.out.alloc _) (rd_new1 w6 (.int .i64 k) 3) (ints_one (l := [(k : Int)])) (by omega) (by omega) (by simp; omega) rfl rfl rfl rfl ?_)
          intro v' w7 hown7 hg7 _
          have hb7 := (hb6H.out.alloc hb6H.out.size (.cells #[.int .i64 k] 3)).grown hg7 (by simp; omega) (fun g hg' => by have := hwnH.out g hg'; omega)
          have bC7 := (bC6H.out.alloc (.cells #[.int .i64 k] 3)).kept hg7 (fun e => by have := hwnH.out _ e.symm; omega)
          have bG7 := (bG6H.out.alloc (.cells #[.int .i64 k] 3)).kept hg7 (fun e => by have := hwnH.out _ e.symm; omega)
          have hs7 := hg7.size
          simp only [World.size_alloc] at hs7
          have hMM : MsM N len cap tot w.heap.size w1.heap.size (some ⟨bb, oo, none⟩) es w (k + 1) lo m v' w7 :=
            ⟨⟨L ++ [k], hMsH.out, by simpa [natI, ints] using hown7⟩, bG7, ⟨_, bC7⟩, hb7, by omega⟩
          have hMMH := Lib.hid hMM
          have hnm : (need : Int) - 1 = m := by omega
          have hnmH := Lib.hid hnm
          clear hown7 hg7 hb7 bC7 bG7 hMM hb6H bC6H bG6H hown6H hnm
          go_wp2
          go_roundw
          case rel => exact ⟨k + 1, lo, m, by omega, by go_num, rfl, by rw [hnmH.out], hMMH.out⟩
          case measure => simp [intOf]; omega
        · have hmq : (1 + (m : Int) == (need : Int)) = false := by simp; omega
          have hMs := hIH.out.skip (by omega) h10 hokH.out (fun m' _ _ h3 => by
            rw [exH.out, eyH.out, hloH.out] at h3
            rw [h3.same hmH.out]; exact hmn)
          have hMM : MsM N len cap tot w.heap.size w1.heap.size (some ⟨bb, oo, none⟩) es w (k + 1) left need u9 w6 :=
            ⟨⟨L, hMs, hown6H.out⟩, bG6H.out, ⟨_, bC6H.out⟩, hb6H.out, by omega⟩
          have hMMH := Lib.hid hMM
          clear hMs hMM hb6H bC6H bG6H hown6H
          go_wp2
          go_roundw
          case rel => exact ⟨k + 1, left, need, by omega, by go_num, rfl, rfl, hMMH.out⟩
          case measure => simp [intOf]; omega
      · have hq : ((lb : Int) == (bo : Int)) = false := by simp; omega
        have hMs := hIH.out.skip (by omega) h10 hokH.out (fun m' h1 h2 _ => by
          rw [exH.out] at h1; rw [eyH.out] at h2
          exact absurd (hbi.out.2 ⟨h1, h2⟩) hboth)
        have hMM : MsM N len cap tot w.heap.size w1.heap.size (some ⟨bb, oo, none⟩) es w (k + 1) left need u9 wY :=
          ⟨⟨L, hMs, hownY⟩, bGY, ⟨_, bCY⟩, hbY, by omega⟩
        have hMMH := Lib.hid hMM
        clear hMs hMM hbY bCY bGY hownY
        go_wp2
        go_roundw
        case rel => exact ⟨k + 1, left, need, by omega, by go_num, rfl, rfl, hMMH.out⟩
        case measure => simp [intOf]; omega
    · obtain rfl : k = len := by omega
      obtain ⟨L, hI, hown⟩ := hM.ms
      obtain ⟨A', c', rfl⟩ := own_slice hown
      have hI2 : MsI N es tot es.length left need L := by rw [helH.out]; exact hI
      have hL := hI2.done
      have hbe := hM.be
      have hrd := Rd.of_own hown
      have hrdH := Lib.hid hrd; have hbeH := Lib.hid hbe; have hIH := Lib.hid hI2; have hLH := Lib.hid hL
      clear hM hI hown hI2 hrd hbe hL
      go_wp2
      go_ret2
      refine ⟨A', c', L, rfl, hrdH.out, hbeH.out, hIH.out.inc, hIH.out.bd, hIH.out.once, ?_⟩
      rw [hLH.out, hallH.out]
      exact htotH.out
end Go.Proofs.YtcjokjfiikkpfaaDoor
