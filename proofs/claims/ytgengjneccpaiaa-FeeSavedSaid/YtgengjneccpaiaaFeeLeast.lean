/- fee.Least: the cheapest way first. -/
import Derived.Test.YtgengjneccpaiaaFeeRel
import Derived.Test.YtgengjneccpaiaaRepeatL
namespace Go.Proofs.Ytgengjneccpaiaa
open Go.RowKit Go.Shelf

theorem costF_zero (l : List Arc) : costF l (fun _ => 0) = 0 := by
  unfold costF
  rw [sm_congr (h := fun _ => 0) fun k _ => Int.zero_mul _]
  exact sm_zero _
def slenV : Value → Nat
  | .slice _ n _ => n
  | _ => 0
theorem least_bad (n : Int) (A : Option Addr) (len cap : Nat) (l : List Arc) (s t value : Int) (w : World) (hr : Rd w A len 4 (arcs l)) (hlen : len ≤ 9223372036854775807) (hbad : fwr n l s t value ≠ 0) :
    Calls Try.prog 5 #[.agg #[.int .i64 n, .slice A len cap], .int .i64 s, .int .i64 t, .int .i64 value] w fun e w' => e = .returned (.tuple #[.int .i64 0, .slice none 0 0, .int .i64 (fwr n l s t value)]) ∧ Below w.heap.size w w' := by
  have hb0 := (Below.refl _ w).alloc (Nat.le_refl _) (.cells #[.int .i64 n, .slice A len cap] 24)
  have HC := Lib.hid (feeWrong_any n A len cap l s t value _ (hr.later hb0) hlen)
  have hK := Blk.new w 24 #[.int .i64 n, .slice A len cap]
  have k0 := hK.cell (j := 0) rfl
  have k1 := hK.cell (j := 1) rfl
  have e1 : (fwr n l s t value != 0) = true := by simpa using hbad
  have hb0H := Lib.hid hb0
  clear hr hK hb0 hbad
  generalize fwr n l s t value = c at *
  go_enter Try.func5, Try.ntmps5
  go_wp2_with fail
  refine HC.out.mono ?_
  rintro e w1 ⟨rfl, hb1⟩
  have hbb := hb0H.out.trans (hb1.mono hb0H.out.size)
  go_wp2
  go_ret3
  exact ⟨rfl, hbb⟩
def LeastPost (N m : Nat) (l : List Arc) (s t : Nat) (value : Int) (w : World) (e : Ending) (w' : World) : Prop :=
  Below w.heap.size w w' ∧ ((e = .returned (.tuple #[.int .i64 0, .slice none 0 0, .int .i64 5]) ∧ ∀ g u, FL N l s t g u → u < value) ∨
    ∃ (f : Nat → Int) (gl c : Nat), e = .returned (.tuple #[.int .i64 (costF l f), .slice (some ⟨gl, 0, none⟩) m c, .int .i64 0]) ∧ w'.ownsRow w.heap.size 2 1 (.slice (some ⟨gl, 0, none⟩) m c) m (row m f) ∧ Chp N l s t f value)
theorem row_far (N s : Nat) : (List.replicate N (Value.int .i64 far)).set s (.int .i64 0) = row N (dOne s) := by
  have e : List.replicate N (Value.int .i64 far) = row N fun _ => far := (List.eq_replicate_iff.2 ⟨by simp [row], by simp [row]⟩).symm
  rw [e, row_set]
  exact row_congr fun i _ => rfl
set_option maxHeartbeats 6400000 in
set_option maxRecDepth 100000 in
theorem least_ok (N : Nat) (A : Option Addr) (m cap : Nat) (l : List Arc) (sN t : Nat) (value : Int) (w : World) (hr : Rd w A m 4 (arcs l)) (hok : fwr N l sN t value = 0) (hv63 : value ≤ 9223372036854775807) :
    Calls Try.prog 5 #[.agg #[.int .i64 N, .slice A m cap], .int .i64 sN, .int .i64 t, .int .i64 value] w (LeastPost N m l sN t value w) := by
  have hel := arcs_len hr
  obtain ⟨h1, h2, h3⟩ := fwr_ok hok
  obtain ⟨h4, h5, h6, h7, h8, h9⟩ := echk_ok h1
  obtain ⟨g1, g2, g3, g4⟩ := nchk_ok h4
  have hN : N ≤ 10 := by omega
  have hm : m ≤ 30 := by omega
  have hs : sN < N := by omega
  have ht : t < N := by omega
  have hst : sN ≠ t := by omega
  have hn : NOk N l := ⟨g4⟩
  have hZ := Lib.hid (Chp.zero (N := N) (s := sN) (t := t) hn h3)
  have hb0 := (Below.refl _ w).alloc (Nat.le_refl _) (.cells #[.int .i64 N, .slice A m cap] 24)
  have HC := Lib.hid (feeWrong_any N A m cap l sN t value _ (hr.later hb0) (by omega))
  rw [hok] at HC
  have hK := Blk.new w 24 #[.int .i64 N, .slice A m cap]
  have k0 := hK.cell (j := 0) rfl
  have k1 := hK.cell (j := 1) rfl
  have hKH := Lib.hid hK; have hb0H := Lib.hid hb0; have hrH := Lib.hid hr; have helH := Lib.hid hel; have hnH := Lib.hid hn
  clear hr hK hb0 hok h1 h3 h4 h5 h6 h7 h8 h9 g1 g2 g3 g4 hel hn
  go_enter Try.func5, Try.ntmps5
  go_wp2_with fail
  refine HC.out.mono ?_
  rintro e w1 ⟨rfl, hb1⟩
  have hbb := hb0H.out.trans (hb1.mono hb0H.out.size)
  have hK1 := hKH.out.below hb1 hKH.out.lt
  have q0 := hK1.cell (j := 0) rfl
  have q1 := hK1.cell (j := 1) rfl
  have HO := Lib.hid (open_any N m l A cap w1 (hrH.out.later hbb) (by omega))
  have hbbH := Lib.hid hbb; have hK1H := Lib.hid hK1
  clear hb1 hbb hK1 k0 k1 HC
  go_wp2_with fail
  refine HO.out.mono ?_
  rintro e w2 ⟨p, gl, rfl, hp, hL, hb2⟩
  have hLH := Lib.hid hL; have hb2H := Lib.hid hb2
  have hszw := hbbH.out.size
  have hlt1 := hK1H.out.lt
  clear HO hL hb2 q0 q1
  go_wp2
  go_loopw [3, 13] (fun v s wr => ∃ (u : Int) (f : Nat → Int), v = .int .i64 (value - u) ∧ s = .int .i64 (costF l f) ∧ 0 ≤ u ∧ u ≤ value ∧ Chp N l sN t f u ∧ LSt w1.heap.size N m l A cap m p gl wr f ∧ Below w1.heap.size w1 wr) (fun v _ _ => (intOf v).toNat)
  case atStart => exact ⟨0, fun _ => 0, by go_num, by rw [costF_zero], Int.le_refl _, h2, hZ.out, hLH.out, hb2H.out⟩
  case round =>
    obtain ⟨u, f, rfl, rfl, hu0, hu1, hC, hL, hb⟩ := hrel
    have hKr := Lib.hid (hK1H.out.below hb hlt1)
    have q0 := hKr.out.cell (j := 0) rfl
    have q1 := hKr.out.cell (j := 1) rfl
    have hCH := Lib.hid hC; have hLrH := Lib.hid hL; have hbrH := Lib.hid hb
    have hLlt := hL.lt
    have hszr := hb.size
    clear hLH hb2H hZ
    by_cases hlt : u < value
    · have hpos : 0 < value - u := by omega
      have hposd : decide (0 < value - u) = true := decide_eq_true hpos
      have HRp := Lib.hid (repeat_one wr.heap.size 1 far N (wr.alloc (.cells #[.int .i64 far] 2)) (rd_new1 wr _ _) (by omega))
      have hfar : far = 1152921504606846976 := rfl
      rw [hfar] at HRp
      have hba := Lib.hid (hb.alloc hszr (.cells #[.int .i64 1152921504606846976] 2))
      have hLa := Lib.hid (hL.alloc (.cells #[.int .i64 1152921504606846976] 2))
      have hKa := Lib.hid (hKr.out.alloc (.cells #[.int .i64 1152921504606846976] 2))
      have z0 := hKa.out.cell (j := 0) rfl
      have z1 := hKa.out.cell (j := 1) rfl
      clear hC hL hb
      go_wp2_with fail
      refine HRp.out.mono ?_
      rintro _ w3 ⟨rfl, hown3, hb3⟩
      have hsza : (wr.alloc (.cells #[.int .i64 1152921504606846976] 2)).heap.size = wr.heap.size + 1 := by simp
      rw [hsza] at hown3
      have hLa3 := hLa.out.later hb3
      have hba3 := Lib.hid (hba.out.trans (hb3.mono hba.out.size))
      have hKa3 := Lib.hid (hKa.out.below hb3 hKa.out.lt)
      have hown3s := (hown3.stored sN (.int .i64 0)).1
      rw [show (1152921504606846976 : Int) = far from rfl, row_far] at hown3s
      have hLs := hLa3.setO (g := wr.heap.size + 1) (by omega) (by omega) (by omega) sN (.int .i64 0)
      have hbs := Lib.hid (hba3.out.setCell (p := ⟨wr.heap.size + 1, sN, none⟩) (by simp; omega) (.int .i64 0))
      have hKs := Lib.hid (hKa3.out.other (a := ⟨wr.heap.size + 1, sN, none⟩) (by simp; omega) (.int .i64 0))
      have c3 := (hown3.cellAt sN (by omega)).trans (show (List.replicate N (Value.int .i64 1152921504606846976))[sN]? = _ by rw [List.getElem?_replicate, if_pos hs])
      have f3 := hown3.frozenAt sN
      have hs3 := hb3.size
      have hsi : (sN : Int) < N := by omega
      have hti : (t : Int) < N := by omega
      have hsz3 : (w3.setCell ⟨wr.heap.size + 1, sN, none⟩ (.int .i64 0)).heap.size = w3.heap.size := by simp
      have HRx := Lib.hid (relax_any w1.heap.size N m l A cap m p gl (w3.setCell ⟨wr.heap.size + 1, sN, none⟩ (.int .i64 0)) f hLs hnH.out hN hm hCH.out.fl.ok (wr.heap.size + 1) N (dOne sN) (own_base (by omega) hown3s) (by omega) (by omega) (fun i => by unfold dOne; split; exact .inr rfl; exact .inl rfl) (by rw [hsz3]; omega))
      clear hown3 hb3 hLa3 hown3s hLs hba hLa hKa z0 z1 q0 q1 hba3 hKa3 HRp
      go_wp2_with fail
      refine HRx.out.mono ?_
      generalize w3.setCell ⟨wr.heap.size + 1, sN, none⟩ (.int .i64 0) = w4 at *
      rintro _ w5 ⟨gb, r, rfl, hr0, hrN, hrb, hM, hgb, hg5⟩
      have hb5 := Lib.hid (hbs.out.grown hg5 hbs.out.size (fun r e => by cases e; omega))
      have hK5 := Lib.hid (hKs.out.kept hg5 (by simp; omega))
      have hzd : zd (dOne sN) = ⟨dOne sN, fun _ => (0, false), false⟩ := rfl
      have hrb' := Lib.hid (fun h => Nat.le_of_lt (show N < r by rw [hrb h]; omega))
      have hl64 : l.length ≤ 64 := by rw [helH.out]; omega
      obtain ⟨q, hPt, hq0⟩ := hCH.out.pt
      have hF1 := Lib.hid ((from_one (s := sN) (py0 := fun _ => (0, false)) hnH.out hPt hs hr0 (by rw [← hzd]; exact hrb'.out)).2.2.2 t ht)
      have hmx := fit_mx (l := l) (f := f) (S := zd (dOne sN)) (fun u => by show dOne sN u ≤ far; unfold dOne far; split <;> omega) r t
      have hNone := Lib.hid (fun h => @Chp.none N sN t l f u hnH.out hCH.out hs (fun _ => (0, false)) r hr0 (by omega) hl64 (by rw [← hzd]; exact hrb'.out) h)
      have hPush := Lib.hid (fun h vis hB c hc ws hW hT => @Chp.push N sN t l f u hnH.out hst hCH.out hs (fun _ => (0, false)) r hr0 (by omega) hl64 (by rw [← hzd]; exact hrb'.out) h vis hB c hc ws hW hT)
      rw [← hzd] at hF1 hNone hPush
      have hbdF := hM
      clear hl64 hzd hPt hq0 q hrb hbs hKs HRx c3 f3
      generalize fit l f (zd (dOne sN)) r = S at *
      have ct := hM.dcell ht
      obtain ⟨_, _, lgbB, lgb5⟩ := hM.lt
      have hMH := Lib.hid hM
      have hg5H := Lib.hid hg5
      have hb5s := hb5.out.size
      clear hM hbdF hg5
      obtain ⟨dt, hdt⟩ : ∃ dt, S.d t = dt := ⟨_, rfl⟩
      rw [hdt] at ct hmx hF1 hNone hPush
      by_cases hfr : dt < far
      · have hne : (dt == 1152921504606846976) = false := by simp; omega
        obtain ⟨vis, hB⟩ := hF1.out hfr
        have hBH := Lib.hid hB
        have hP2 := Lib.hid (hPush.out hfr vis hB)
        have hvl : vis.length ≤ N := nodup_le hB.nd hB.rg
        have hv0 : 0 < vis.length := by have := (List.getElem?_eq_some_iff.1 hB.hd).1; omega
        have hmd := hCH.out.fl.ok
        clear hB hF1 hNone hPush hmd
        go_wp2
        go_loopw [17, 18, 19] (fun way much at' wx => ∃ (k i a : Nat) (c : Int) (ws : List Stp), slenV way = k ∧ much = .int .i64 c ∧ at' = .int .i64 (a : Int) ∧ vis[i]? = some a ∧ k + i + 1 = vis.length ∧ Wy l f vis t c ws a ∧ (∀ y ∈ ws, ∃ i u, vis[i + 1]? = some u ∧ y = S.py u) ∧ 0 < c ∧ c ≤ value - u ∧ (c ≤ 1048576 ∨ k = 0) ∧
          wx.ownsRow w5.heap.size 47 2 way k (stps ws) ∧ Below w5.heap.size w5 wx) (fun way _ _ _ => 20 - slenV way)
        case atStart => exact ⟨0, vis.length - 1, t, value - u, [], rfl, rfl, rfl, hBH.out.lst, by omega, .nil, (fun _ h => by cases h), hpos, Int.le_refl _, .inr rfl, ⟨by simp [stps], .inl ⟨rfl, rfl⟩⟩, Below.refl _ _⟩
        case round =>
          obtain ⟨k, i, a, c, ws, hway, rfl, rfl, hi, hki, hW, hT, hc0, hc1, hc2, hown, hbx⟩ := hrel
          obtain ⟨wo, rfl⟩ : ∃ wo : World, wo = wr := ⟨_, rfl⟩
          have hszx := hbx.size
          have hMx := hMH.out.later hbx
          obtain ⟨A17, c17, rfl⟩ := own_slice hown
          by_cases he : a = sN
          · subst he
            have hea : ((a : Int) != (a : Int)) = false := by simp
            have hi0 : i = 0 := pos_inj hBH.out.nd hi hBH.out.hd
            subst hi0
            have hk0 : 0 < k := by
              rcases Nat.eq_zero_or_pos k with h0 | h0
              · have h1 := hBH.out.lst
                rw [show vis.length - 1 = 0 by omega, hi] at h1
                injection h1 with h1
                exact absurd h1 hst
              · exact h0
            have hc3 : c ≤ 1048576 := by omega
            have hwl : ws.length = k := by have := hown.1; rw [stps_length] at this; omega
            have hmb : ∀ q, q < m → 0 ≤ f q ∧ f q ≤ 1048576 := fun q hq => by
              have h1 := hCH.out.fl.ok q (by rw [helH.out]; exact hq)
              have h2 := hnH.out.at (show q < l.length by rw [helH.out]; exact hq)
              omega
            have hwm : ∀ y ∈ ws, y.1 < m := fun y hy => by
              obtain ⟨i, u', hu', rfl⟩ := hT y hy
              have := (hBH.out.st i u' hu').1
              rw [← helH.out]; exact this
            have hlt17 : ∀ b' o', A17 = some ⟨b', o', none⟩ → w5.heap.size ≤ b' := fun b' o' e => (hown.lt b' (by rw [e]; rfl)).1
            have HPu := Lib.hid (push_any w1.heap.size N m l A cap m p gl wo f hMx.ls A17 k c17 ws c (Rd.of_own hown) (fun _ b' o' e => by have := hlt17 b' o' e; omega) hwm (by omega) (by omega) hc3 hmb)
            have hfin := hP2.out c (by omega) ws hW hT
            obtain ⟨hC2, hcost⟩ := hfin
            have hbd1 := costF_bd hnH.out hCH.out.fl.ok
            have hbd2 := costF_bd hnH.out hC2.fl.ok
            have hl30 : (l.length : Int) ≤ 30 := by rw [helH.out]; omega
            have hcd : costF l f + c * dt = costF l (pshs f c ws) := hcost.symm
            have hcdH := Lib.hid hcd
            have hC2H := Lib.hid hC2
            have hw1 : IntKind.i64.wrap (c * dt) = c * dt := IntWalk.i64_in _ (by omega)
            have hw2 : IntKind.i64.wrap (costF l f + c * dt) = costF l f + c * dt := IntWalk.i64_in _ (by omega)
            have hw3 : IntKind.i64.wrap (value - u - c) = value - u - c := IntWalk.i64_in _ (by omega)
            have hct := hMx.dcell ht
            rw [hdt] at hct
            have hMxH := Lib.hid hMx; have hbxH := Lib.hid hbx
            clear hMx hbx hown hW hT hwm hmb hC2 hcost hbd1 hbd2 hcd hP2 hlt17 ct
            go_wp2_with fail
            refine HPu.out.mono ?_
            rintro _ w7 ⟨⟨v7, rfl⟩, hL7, hg7⟩
            have ct7 := hg7.cell hct (by simp; omega)
            have hL7H := Lib.hid hL7
            have hb7 := Lib.hid ((hb5.out.trans (hbxH.out.mono hb5s)).grown hg7 (by have := hbxH.out.size; omega) (fun r e => by cases e; exact hL7.gB))
            clear hL7 hg7 HPu hct hMxH hbxH
            go_wp2
            go_roundw
            case rel => exact ⟨u + c, pshs f c ws, by rw [show value - (u + c) = value - u - c by omega], by rw [hcdH.out], by omega, by omega, hC2H.out, hL7H.out, hb7.out⟩
            case measure => simp [intOf]; omega
          · have hea : ((a : Int) != (sN : Int)) = true := by simp; omega
            obtain ⟨i, rfl⟩ : ∃ j, i = j + 1 := by
              cases i with
              | zero => have := hBH.out.hd; rw [hi] at this; injection this with this; exact absurd this he
              | succ j => exact ⟨j, rfl⟩
            obtain ⟨hx1, hx2, hx3, hx4, hx5, hx6⟩ := hBH.out.st i a hi
            have haN : a < N := hBH.out.rg a (List.mem_of_getElem? hi)
            have hai : (a : Int) < N := by omega
            have ha0 : (0 : Int) ≤ a := by omega
            obtain ⟨cp0, cp1⟩ := hMx.pcell haN
            have hT2 : ∀ y ∈ ws ++ [S.py a], ∃ i u, vis[i + 1]? = some u ∧ y = S.py u := fun y hy => by
              rcases List.mem_append.1 hy with h | h
              · exact hT y h
              · rw [List.mem_singleton] at h; exact ⟨i, a, hi, h⟩
            have hT2H := Lib.hid hT2
            obtain ⟨x, hx⟩ : ∃ x, S.py a = x := ⟨_, rfl⟩
            rw [hx] at hx1 hx2 hx3 hx4 cp0 cp1 hT2H
            have HR := Lib.hid (room_any w1.heap.size N m l A cap m p gl wo f hMx.ls hnH.out x (by rw [← helH.out]; exact hx1) hCH.out.fl.ok)
            rw [hx3] at HR
            obtain ⟨R, hR⟩ : ∃ R, rm l f x = R := ⟨_, rfl⟩
            have hRle : R ≤ 1048576 := by
              have h1 := hCH.out.fl.ok x.1 hx1
              have h2 := hnH.out.at hx1
              rw [← hR]; unfold rm; split <;> omega
            rw [hR] at hx2 HR
            obtain ⟨c', hc'⟩ : ∃ c', (if R < c then R else c) = c' := ⟨_, rfl⟩
            have hcc : c' ≤ c ∧ c' ≤ R ∧ 0 < c' := by rw [← hc']; split <;> omega
            have hW2 := Lib.hid (Wy.snoc (hW.less hcc.1) hx1 (by rw [hR]; exact hcc.2.1) hx3 hi hx4 (by omega))
            have hnb := hBH.out.rg _ (List.mem_of_getElem? hx4)
            obtain ⟨b, hb⟩ : ∃ b, src l x = b := ⟨_, rfl⟩
            rw [hb] at hW2 HR hx4 hnb
            obtain ⟨j, bk⟩ := x
            dsimp only at cp0 cp1 hx1
            rw [show stv (j, bk) = .agg #[.int .i64 (j : Int), .bool bk] from rfl] at HR
            have hownH := Lib.hid hown; have hMxH := Lib.hid hMx; have hbxH := Lib.hid hbx
            have hkN : k + 2 ≤ vis.length := by omega
            have hxH := Lib.hid hx
            clear hown hMx hbx hW hT hT2 hx hx2 hx3 hx5 hx6 hR hb
            go_wp2_with fail
            refine HR.out.mono ?_
            rintro _ w6 ⟨rfl, hb6⟩
            have hb6x := hbxH.out.trans (hb6.mono hszx)
            have hM6 := hMxH.out.later hb6
            obtain ⟨cp0, cp1⟩ := hM6.pcell haN
            rw [hxH.out] at cp0 cp1
            dsimp only at cp0 cp1
            have hs6 := hb6.size
            have hown6 := (own_below hownH.out hb6).alloc (.cells #[.int .i64 (j : Int), .bool bk] 47)
            have hrd6 := rd_new2 w6 (.int .i64 (j : Int)) (.bool bk) 47
            have hb6a := hb6x.alloc hb6x.size (.cells #[.int .i64 (j : Int), .bool bk] 47)
            have hs6a : (w6.alloc (.cells #[.int .i64 (j : Int), .bool bk] 47)).heap.size = w6.heap.size + 1 := by simp
            have hown6H := Lib.hid hown6; have hrd6H := Lib.hid hrd6; have hb6H := Lib.hid hb6a
            clear hown6 hrd6 hb6a hb6 hb6x hM6 HR hownH hMxH hbxH
            go_wp2_with (at_builtin; refine wpList_app (s := .tmp 68) (x := .tmp 73) _ tiP hown6H.out hrd6H.out (stps_one (w := [(j, bk)])) (by omega) (by omega) (by omega) rfl rfl rfl rfl ?_)
            intro v' wB hownB hgB _
            obtain ⟨AB, cB, rfl⟩ := own_slice hownB
            have hfin := Lib.hid (show wB.ownsRow w5.heap.size 47 2 (.slice AB (k + 1) cB) (k + 1) (stps (ws ++ [(j, bk)])) ∧ Below w5.heap.size w5 wB from ⟨by have h := hownB; rw [show stps ws ++ [Value.int .i64 (j : Int), Value.bool bk] = stps (ws ++ [(j, bk)]) by simp [stps]] at h; exact h, hb6H.out.grown hgB hb6H.out.size (fun r e => by have := (hown6H.out.lt r e).1; omega)⟩)
            have hcv : c' ≤ value - u ∧ c' ≤ 1048576 := by omega
            clear hownB hgB hown6H hrd6H hb6H cp0 cp1
            go_wp2
            go_roundw
            case rel => exact ⟨k + 1, i, b, c', ws ++ [(j, bk)], rfl, rfl, rfl, hx4, by omega, hW2.out, hT2H.out, hcc.2.2, hcv.1, .inl hcv.2, hfin.out.1, hfin.out.2⟩
            case measure => simp [slenV]; omega
      · have hdf : dt = far := by omega
        have hne : (dt == 1152921504606846976) = true := by rw [hdf]; rfl
        have hno := Lib.hid (fun (g : Nat → Int) (u' : Int) (hg : FL N l sN t g u') => hNone.out hfr hg)
        have hbF := Lib.hid (hbbH.out.trans (hb5.out.mono hszw))
        clear hF1 hPush hdf hNone hfr
        go_wp2
        go_ret3
        exact ⟨hbF.out, .inl ⟨rfl, fun g u' hg => by have := hno.out g u' hg; omega⟩⟩
    · obtain rfl : u = value := by omega
      have hnp : decide (0 < u - u) = false := decide_eq_false (by omega)
      have c2 := hLrH.out.c2
      have hbF := Lib.hid (hbbH.out.trans (hbrH.out.mono hszw))
      clear hC hL hb
      go_wp2
      go_quiet (fail)
      go_wp2
      go_ret3
      exact ⟨below_drewN hbF.out _, .inr ⟨f, gl, m, rfl, own_base (by omega) hLrH.out.ow, hCH.out⟩⟩
end Go.Proofs.Ytgengjneccpaiaa
