/- MapsTurned: the walk. -/
import Derived.Test.YtonalhedjjobeaaDoorTurnLaw
namespace Go.Proofs.YtonalhedjjobeaaDoor
open Go.RowKit Go.Shelf
attribute [local go_sem] Oper.semAt_some

theorem tiT1 : TI Tryd.prog 31 3 (.int .i64 0) 1 8 := TI.mk' Tryd.underlying31 (by kernel_rfl) rfl (by decide)
theorem tiT2 : TI Tryd.prog 25 31 (.slice none 0 0) 1 24 := TI.mk' Tryd.underlying25 (by kernel_rfl) rfl (by decide)
theorem own_twoT {W : World} {b b' e e' sz sz' n n' : Nat} {v v' : Value} {xs xs' : List Value} (h : W.ownsRow b e sz v n xs) (h' : W.ownsRow b' e' sz' v' n' xs') (hne : e ≠ e') {g : Nat} (hg : v.ownBlock = some g) : v'.ownBlock ≠ some g := by
  rcases h.2 with ⟨rfl, _⟩ | ⟨g1, c1, cur1, rfl, _, h1, _⟩
  · cases hg
  · cases hg
    rcases h'.2 with ⟨rfl, _⟩ | ⟨g2, c2, cur2, rfl, _, h2, _⟩
    · simp [Value.ownBlock]
    · intro e2
      cases e2
      rw [h1] at h2
      cases h2
      exact hne rfl
/-- rows of ints of the call's own, each of its own length -/
structure OR (W : World) (B : Nat) (v : Value) (l : List Rw) : Prop where
  outer : W.ownsRow B 31 1 v l.length (l.map rv)
  rows : ∀ r ∈ l, W.ownsRow B 3 1 (rv r) r.len (ints .i64 r.zs)
theorem OR.below {W W' : World} {B : Nat} {v : Value} {l : List Rw} (h : OR W B v l) (hb : Below W.heap.size W W') : OR W' B v l :=
  ⟨own_below h.outer hb, fun r hr => own_below (h.rows r hr) hb⟩
theorem OR.more {W W' : World} {B : Nat} {v v' : Value} {l : List Rw} {r : Rw} (h : OR W B v l) (hr : W.ownsRow B 3 1 (rv r) r.len (ints .i64 r.zs)) (ho : W'.ownsRow B 31 1 v' (l.length + 1) (l.map rv ++ [rv r])) (hg : W.grownBy W' v.ownBlock) : OR W' B v' (l ++ [r]) := by
  have key : ∀ q : Rw, W.ownsRow B 3 1 (rv q) q.len (ints .i64 q.zs) → W'.ownsRow B 3 1 (rv q) q.len (ints .i64 q.zs) := fun q hq => by
    refine hq.kept hg ?_
    cases hv : (rv q).ownBlock with
    | none => exact .inl rfl
    | some g => exact .inr fun e => own_twoT hq h.outer (by decide) hv e.symm
  refine ⟨by rw [List.length_append, List.map_append]; exact ho, fun q hq => ?_⟩
  rcases List.mem_append.1 hq with hq | hq
  · exact key q (h.rows q hq)
  · simp at hq; subst hq; exact key _ hr
theorem OR.rdR {W : World} {B : Nat} {A : Option Addr} {c : Nat} {l : List Rw} (h : OR W B (.slice A l.length c) l) (hmx : ∀ r ∈ l, r.len ≤ 100) : RdR W A l.length l := by
  refine ⟨rfl, Rd.of_own h.outer, fun r hr => ⟨Rd.of_own (h.rows r hr), ?_, own_capH (h.rows r hr)⟩⟩
  have := hmx r hr
  unfold maxLen; omega
theorem rev_take {zs : List Int} {t : Nat} (ht : t < zs.length) : zs.reverse.take (t + 1) = zs.reverse.take t ++ [zs.getD (zs.length - 1 - t) 0] := by
  rw [List.take_add_one, List.getElem?_reverse ht, List.getElem?_eq_getElem (by omega), List.getD, List.getElem?_eq_getElem (by omega)]
  rfl
set_option maxHeartbeats 3200000 in
set_option maxRecDepth 100000 in
theorem mapsTurned_walk (N : Int) (A : Option Addr) (len cap : Nat) (es : List E) (R : Option Addr) (n c : Nat) (l : List Rw) (w : World) (hr : Rd w A len 3 (ps3 .i64 .i64 .i64 es)) (hR : RdR w R n l) (hby : ∀ r ∈ l, r.len * 8 ≤ 140737488355328) (hlen : len ≤ 9223372036854775807) (hcap : len ≤ cap) (hn : n ≤ 9223372036854775807) (htb : Tb w) (hg : 0 < w.heap.size) :
    Calls Tryd.prog 5 #[.agg #[.int .i64 N, .slice A len cap], .slice R n c] w fun e w' => e = .returned (.bool true) ∧ Below w.heap.size w w' := by
  have hel := ps3_len hr
  have gb := (Below.refl _ w).alloc (Nat.le_refl _) (.cells #[.int .i64 N, .slice A len cap] 24)
  have hK := Blk.new w 24 #[.int .i64 N, .slice A len cap]
  have g0 := hK.cell (j := 0) (v := .int .i64 N) rfl
  have g1 := hK.cell (j := 1) (v := .slice A len cap) rfl
  have HR := Lib.hid (fun W (hb : Below w.heap.size w W) => mapRef_any N A len cap es R n c l W (hr.later hb) (hR.later hb) hlen hcap hn)
  cases hB : mapB N es l with
  | true =>
    obtain ⟨N, rs, rfl, hI⟩ := map_of hB
    obtain ⟨m, h, hm, hh, hCF⟩ := map_nums hI
    have hn2 : n = N := by have := hI.len; have := hR.1; omega
    subst hn2
    have HH := Lib.hid (holes_ok n A len cap es R c l rs _ (hr.later gb) (hR.later gb) hby hB hI m hm h hh (htb.below hg gb) (by have := gb.size; omega))
    have HF := Lib.hid (fun W (hb : Below w.heap.size w W) => facesX_ok n A len cap es R c l rs W (hr.later hb) (hR.later hb) hby hB hI m hm (htb.below hg hb) (by have := hb.size; omega))
    have hn10 := hI.le
    have hrl10 := Lib.hid (show ∀ i, i < n → (rat l i).zs.length ≤ 10 from fun i hi => by
      rw [hI.row i hi]
      have := nb_len hI.dst.ok hI.map hi
      unfold natI; rw [List.length_map]; omega)
    -- the same of the turned one
    have HT := Lib.hid (fun (l' : List Rw) (hl' : l'.length = n) (hz : ∀ i, i < n → (rat l' i).zs = (rat l i).zs.reverse) (O : Option Addr) (d : Nat) W (hb : Below w.heap.size w W) (hO : RdR W O n l') (hby' : ∀ r ∈ l', r.len * 8 ≤ 140737488355328) =>
      And.intro (holes_ok n A len cap es O d l' (revs rs) W (hr.later hb) hO hby' (by rw [mapB_turn hI.len hl' hz]; exact hB) (hI.turn hl' hz) m (cyc_turn hI.dst.ok hI.map hm) h (by rw [isoN_revs]; exact hh) (htb.below hg hb) (by have := hb.size; omega))
        (fun W2 (hb2 : Below W.heap.size W W2) => facesX_ok n A len cap es O d l' (revs rs) W2 (hr.later (hb.trans (hb2.mono hb.size))) (hO.later hb2) hby' (by rw [mapB_turn hI.len hl' hz]; exact hB) (hI.turn hl' hz) m (cyc_turn hI.dst.ok hI.map hm) (htb.below hg (hb.trans (hb2.mono hb.size))) (by have := hb.size; have := hb2.size; omega)))
    have hF0 : (n : Int) = 0 ∨ (0 : Int) < ((m + isoN rs n : Nat) : Int) := by
      by_cases e : n = 0
      · left; omega
      · right
        have h0 : 0 < rts n es := by
          unfold rts cntB
          refine List.length_pos_of_mem (a := 0) (List.mem_filter.2 ⟨List.mem_range.2 (by omega), ?_⟩)
          have := lab_le es 0
          rw [beq_iff_eq]; omega
        omega
    have hisT := Lib.hid (isoN_revs rs n)
    have hrR := Lib.hid hR
    have gbH := Lib.hid gb; have hKH := Lib.hid hK
    have hBH := Lib.hid (show refB n es l = true by rw [← mapB_eq]; exact hB)
    have hIl := Lib.hid hI.len
    rw [show m + isoN (revs rs) n = m + isoN rs n by rw [isoN_revs]] at HT
    clear hr hR hby htb gb hK hB hI hm hel hh hCF hisT
    generalize m + isoN rs n = F at *
    go_enter Tryd.func5, Tryd.ntmps5
    go_wp2_with fail
    refine HH.out.mono ?_
    rintro _ w1 ⟨rfl, hb1⟩
    have hbw1 := Lib.hid (gbH.out.trans (hb1.mono gbH.out.size))
    have hK1 := Lib.hid (hKH.out.below hb1 hKH.out.lt)
    have q0 := hK1.out.cell (j := 0) (v := .int .i64 (n : Int)) rfl
    have q1 := hK1.out.cell (j := 1) (v := .slice A len cap) rfl
    clear HH hb1 g0 g1 hKH gbH
    go_wp2_with fail
    refine (HF.out _ hbw1.out).mono ?_
    rintro _ w2 ⟨rfl, hb2⟩
    have hbw2 := Lib.hid (hbw1.out.trans (hb2.mono hbw1.out.size))
    have hK2 := Lib.hid (hK1.out.below hb2 hK1.out.lt)
    have q0 := hK2.out.cell (j := 0) (v := .int .i64 (n : Int)) rfl
    have q1 := hK2.out.cell (j := 1) (v := .slice A len cap) rfl
    clear HF hb2 hK1 hbw1
    go_wp2_with fail
    refine (HR.out _ hbw2.out).mono ?_
    rintro _ w3 ⟨z, rfl, hz, hb3⟩
    obtain rfl : z = 0 := by rw [hBH.out, beq_iff_eq] at hz; exact hz
    have hbw3 := Lib.hid (hbw2.out.trans (hb3.mono hbw2.out.size))
    have hK3 := Lib.hid (hK2.out.below hb3 hK2.out.lt)
    have hs3 : w.heap.size < w3.heap.size := hK3.out.lt
    clear HR hb3 hK2 hbw2 hz q0 q1
    go_wp2
    go_loopw [9, 11, 12, 13, 42] (fun v9 _ _ _ q wr => ∃ (k : Nat) (l' : List Rw), k ≤ n ∧ q = .int .i64 k ∧ l'.length = k ∧ (∀ i, i < k → (rat l' i).zs = (rat l i).zs.reverse) ∧ OR wr w3.heap.size v9 l' ∧ Below w3.heap.size w3 wr) (fun _ _ _ _ q _ => n - (intOf q).toNat)
    case atStart => exact ⟨0, [], Nat.zero_le _, rfl, rfl, fun i hi => absurd hi (by omega), ⟨World.ownsRow_nil _ _ _ _, by simp⟩, Below.refl _ _⟩
    case round =>
      obtain ⟨wo, rfl⟩ : ∃ wo : World, wo = wr := ⟨_, rfl⟩
      obtain ⟨k, l', hk, rfl, hl', hz', hO, hb⟩ := hrel
      have hOH := Lib.hid hO; have hbH := Lib.hid hb; have hzH := Lib.hid hz'; have hlH := Lib.hid hl'
      have hso := hb.size
      by_cases hlt : k < n
      · have hbwo := hbw3.out.trans (hb.mono hbw3.out.size)
        obtain ⟨bR, oR, rfl, hbR, hcR, hfit⟩ := (hrR.out.later hbwo).at hlt
        have hz10 := hrl10.out k hlt
        have hrevk := Lib.hid (show ∀ r : Rw, r.zs = (rat l k).zs.reverse → ∀ i, i < k + 1 → (rat (l' ++ [r]) i).zs = (rat l i).zs.reverse from fun r h i hi => by
          by_cases e : i = k
          · subst e
            have : rat (l' ++ [r]) i = r := by subst hl'; simp [rat, List.getD]
            rw [this]; exact h
          · have : rat (l' ++ [r]) i = rat l' i := by unfold rat; simp only [List.getD]; rw [List.getElem?_append_left (by omega)]
            rw [this]; exact hz' i (by omega))
        obtain ⟨rA, rl, rc, rz, hrow⟩ : ∃ a b c z, rat l k = ⟨a, b, c, z⟩ := ⟨_, _, _, _, rfl⟩
        rw [hrow] at hcR hfit hz10 hrevk
        dsimp only at hcR hfit hz10 hrevk
        obtain ⟨hrd, _, _⟩ := hfit
        have hzl : rz.length = rl := by simpa [ints] using hrd.1
        have hzlH := Lib.hid hzl
        have hrl : rl ≤ 10 := by omega
        have hrdH := Lib.hid hrd
        have hk0 : (0 : Int) ≤ (k : Int) := by omega
        have hkn : (k : Int) < (n : Int) := by omega
        have hlk10 : k ≤ 10 := by omega
        clear hO hb hz' hl' hrow hrd hzl hz10 hbwo
        go_wp2
        clear hcR
        go_loopw [12, 13] (fun u q wx => ∃ t : Nat, t ≤ rl ∧ q = .int .i64 ((rl : Int) - 1 - t) ∧ wx.ownsRow wo.heap.size 3 1 u t (ints .i64 (rz.reverse.take t)) ∧ Below wo.heap.size wo wx) (fun _ q _ => (intOf q + 1).toNat)
        case atStart => exact ⟨0, Nat.zero_le _, by simp, World.ownsRow_nil _ _ _ _, Below.refl _ _⟩
        case round =>
          obtain ⟨wx, rfl⟩ : ∃ wx : World, wx = wr := ⟨_, rfl⟩
          obtain ⟨t, ht, rfl, hown, hbx⟩ := hrel
          obtain ⟨A1, c1, rfl⟩ := own_slice hown
          have hsx := hbx.size
          have hownH := Lib.hid hown; have hbxH := Lib.hid hbx
          by_cases htl : t < rl
          · have hix : ((rl : Int) - 1 - t) = ((rl - 1 - t : Nat) : Int) := by omega
            obtain ⟨bb, oo, rfl, hbb, hcj⟩ := (hrdH.out.later hbx).int (j := rl - 1 - t) (by omega)
            have hrt := rev_take (zs := rz) (t := t) (by rw [hzlH.out]; exact htl)
            rw [hzlH.out] at hrt
            have hrtH := Lib.hid hrt
            have hixH := Lib.hid (show (((rl - 1 - t : Nat) : Int) - 1) = (rl : Int) - 1 - ((t + 1 : Nat) : Int) by omega)
            rw [hix]
            generalize rz.getD (rl - 1 - t) 0 = a at *
            have hj1 : rl - 1 - t < rl := by omega
            generalize hjj : rl - 1 - t = j at *
            have hj0 : (0 : Int) ≤ (j : Int) := by omega
            have hjl : (j : Int) < (rl : Int) := by omega
            have hjm := Lib.hid hjj
            have hrd1H := Lib.hid (rd_new1 wx (.int .i64 a) 3)
            clear hown hbx hix hrt hjj
            go_wp2_with (at_builtin; refine wpList_app (s := .tmp 53) (x := .tmp 58) _ tiT1 (hownH.out.alloc _) hrd1H.out (ints_one (l := [a])) (by omega) (by omega) (by simp; omega) rfl rfl rfl rfl ?_)
            intro v' w5 hown' hg' _
            have hb5 := Lib.hid ((hbxH.out.alloc hsx (.cells #[.int .i64 a] 3)).grown hg' (by simp; omega) (fun g e => (hownH.out.lt g e).1))
            have ho5 := Lib.hid (show w5.ownsRow wo.heap.size 3 1 v' (t + 1) (ints .i64 (rz.reverse.take (t + 1))) from by
              rw [hrtH.out]; simpa [ints] using hown')
            clear hown' hg' hcj hbb
            go_wp2
            go_roundw
            case rel => exact ⟨t + 1, by omega, by rw [← hixH.out], ho5.out, hb5.out⟩
            case measure => simp [intOf] <;> omega
          · obtain rfl : t = rl := by omega
            have hneg : ((t : Int) - 1 - t) = -1 := by omega
            rw [hneg]
            have hrow2 := Lib.hid (show wx.ownsRow wo.heap.size 3 1 (rv ⟨A1, t, c1, rz.reverse⟩) t (ints .i64 rz.reverse) from by
              rw [List.take_of_length_le (by rw [List.length_reverse, hzlH.out]; exact Nat.le_refl _)] at hown
              exact hown)
            have hOx := hOH.out.below hbx
            obtain ⟨A9, c9, h9⟩ := own_slice hOx.outer
            have hOxH := Lib.hid hOx
            have hrd2H := Lib.hid (rd_new1 wx (.slice A1 t c1) 31)
            have hall2 := Lib.hid (hbH.out.trans (hbx.mono hso))
            clear hown hbx hOx hownH
            subst h9
            rw [hlH.out]
            have hout := Lib.hid (show wx.ownsRow w3.heap.size 31 1 (.slice A9 k c9) k (l'.map rv) from by
              have := hOxH.out.outer; rwa [hlH.out] at this)
            go_wp2_with (at_builtin; refine wpList_app (s := .tmp 60) (x := .tmp 62) _ tiT2 (hout.out.alloc _) hrd2H.out (by simp [Value.oneCell']) (by omega) (by omega) (by simp; omega) rfl rfl rfl rfl ?_)
            intro v' w5 hown' hg' _
            have hal := (Below.refl wx.heap.size wx).alloc (Nat.le_refl _) (.cells #[.slice A1 t c1] 31)
            have hO2 := hOxH.out.below hal
            rw [hlH.out] at hO2
            have hO5 := Lib.hid (OR.more (r := ⟨A1, t, c1, rz.reverse⟩) hO2 (own_base (by omega) (hrow2.out.alloc _)) (by rw [hlH.out]; exact hown') hg')
            have hb5 := Lib.hid ((hall2.out.alloc hall2.out.size (.cells #[.slice A1 t c1] 31)).grown hg' (by have := hall2.out.size; simp; omega) (fun g e => (hout.out.lt g e).1))
            have hln5 := Lib.hid (show (l' ++ [(⟨A1, t, c1, rz.reverse⟩ : Rw)]).length = k + 1 by rw [List.length_append, hlH.out]; rfl)
            have hz5 := Lib.hid (hrevk.out ⟨A1, t, c1, rz.reverse⟩ rfl)
            clear hown' hg' hO2 hal
            go_wp2
            go_roundw
            case rel => exact ⟨k + 1, l' ++ [(⟨A1, t, c1, rz.reverse⟩ : Rw)], by omega, by go_num, hln5.out, hz5.out, hO5.out, hb5.out⟩
            case measure => simp [intOf] <;> omega
      · obtain rfl : n = k := by omega
        obtain ⟨A9, c9, h9⟩ := own_slice hO.outer
        subst h9
        have hlen10 : ∀ r ∈ l', r.len ≤ 10 := fun r hr => by
          obtain ⟨i, hi, rfl⟩ := List.getElem_of_mem hr
          have h1 : l'[i].zs.length = l'[i].len := by
            have := (hO.rows _ hr).1
            simpa [ints] using this
          have h2 := hz' i (by omega)
          have h3 : rat l' i = l'[i] := by unfold rat; rw [List.getD, List.getElem?_eq_getElem hi]; rfl
          rw [h3] at h2
          have h4 := hrl10.out i (by omega)
          rw [← h1, h2, List.length_reverse]; exact h4
        have hRO := OR.rdR hO (fun r hr => by have := hlen10 r hr; omega)
        rw [hl'] at hRO ⊢
        have hbwo := hbw3.out.trans (hb.mono hbw3.out.size)
        have HT2 := HT.out l' hl' hz' A9 c9 wo hbwo hRO (fun r hr => by have := hlen10 r hr; omega)
        have HTa := Lib.hid HT2.1; have HTb := Lib.hid HT2.2
        have hK4 := Lib.hid (hK3.out.below hb hs3)
        have q0 := hK4.out.cell (j := 0) (v := .int .i64 (n : Int)) rfl
        have q1 := hK4.out.cell (j := 1) (v := .slice A len cap) rfl
        have hbwoH := Lib.hid hbwo
        have hsw : w.heap.size < wo.heap.size := by omega
        clear HT HT2 hRO hlen10 hO hb hz' hl' hbwo hK3 hrl10
        go_wp2_with fail
        refine HTa.out.mono ?_
        rintro _ w5 ⟨rfl, hb5⟩
        have hK5 := Lib.hid (hK4.out.below hb5 hsw)
        have q0 := hK5.out.cell (j := 0) (v := .int .i64 (n : Int)) rfl
        have q1 := hK5.out.cell (j := 1) (v := .slice A len cap) rfl
        have HTc := Lib.hid (HTb.out w5 hb5)
        have hb5H := Lib.hid hb5
        have hs5 : w.heap.size < w5.heap.size := hK5.out.lt
        clear HTa HTb hb5 hK4
        go_wp2_with fail
        refine HTc.out.mono ?_
        rintro _ w6 ⟨rfl, hb6⟩
        have hK6 := Lib.hid (hK5.out.below hb6 hs5)
        have q0 := hK6.out.cell (j := 0) (v := .int .i64 (n : Int)) rfl
        have hfin := Lib.hid (hbwoH.out.trans ((hb5H.out.trans (hb6.mono hb5H.out.size)).mono hbwoH.out.size))
        clear HTc hb6 q1 hK5
        rcases hF0 with h0 | h0
        · have e0 : ((n : Int) == 0) = true := by rw [beq_iff_eq]; exact h0
          clear h0
          go_wp2
          go_ret
          exact ⟨rfl, hfin.out⟩
        · have e0 : decide (0 < F) = true := decide_eq_true (by omega)
          clear h0
          cases e1 : ((n : Int) == 0)
          · go_wp2
            go_ret
            exact ⟨rfl, hfin.out⟩
          · go_wp2
            go_ret
            exact ⟨rfl, hfin.out⟩
  | false =>
    have HH := Lib.hid (holes_bad N A len cap es R n c l _ (hr.later gb) (hR.later gb) hby hlen hn hB (htb.below hg gb) (by have := gb.size; omega))
    have HF := Lib.hid (fun W (hb : Below w.heap.size w W) => facesX_bad N A len cap es R n c l W (hr.later hb) (hR.later hb) hby hlen hn hB (htb.below hg hb) (by have := hb.size; omega))
    have gbH := Lib.hid gb; have hKH := Lib.hid hK
    have hBH := Lib.hid (show refB N es l = false by rw [← mapB_eq]; exact hB)
    clear hr hR hby htb gb hK hB hel
    go_enter Tryd.func5, Tryd.ntmps5
    go_wp2_with fail
    refine HH.out.mono ?_
    rintro _ w1 ⟨z1, rfl, hz1, hb1⟩
    have hbw1 := Lib.hid (gbH.out.trans (hb1.mono gbH.out.size))
    have hK1 := Lib.hid (hKH.out.below hb1 hKH.out.lt)
    have q0 := hK1.out.cell (j := 0) (v := .int .i64 N) rfl
    have q1 := hK1.out.cell (j := 1) (v := .slice A len cap) rfl
    clear HH hb1 g0 g1 hKH gbH
    go_wp2_with fail
    refine (HF.out _ hbw1.out).mono ?_
    rintro _ w2 ⟨z2, rfl, hz2, hb2⟩
    have hbw2 := Lib.hid (hbw1.out.trans (hb2.mono hbw1.out.size))
    have hK2 := Lib.hid (hK1.out.below hb2 hK1.out.lt)
    have q0 := hK2.out.cell (j := 0) (v := .int .i64 N) rfl
    have q1 := hK2.out.cell (j := 1) (v := .slice A len cap) rfl
    clear HF hb2 hK1 hbw1
    go_wp2_with fail
    refine (HR.out _ hbw2.out).mono ?_
    rintro _ w3 ⟨z, rfl, hz, hb3⟩
    have hz3 : (z != 0) = true := by rw [hBH.out, beq_eq_false_iff_ne] at hz; simpa using hz
    have hbw3 := Lib.hid (hbw2.out.trans (hb3.mono hbw2.out.size))
    clear HR hb3 hK2 hbw2 hz q0 q1
    go_wp2
    go_ret
    exact ⟨rfl, hbw3.out⟩
theorem mapsTurned_any (N : Int) (A : Option Addr) (len cap : Nat) (es : List E) (R : Option Addr) (n c : Nat) (l : List Rw) (w : World) (_ : (Lit.int .i64 N).wf = true) (hr : Rd w A len 3 (ps3 .i64 .i64 .i64 es)) (hlen : len ≤ maxLen) (hcap : len ≤ cap) (_ : ∀ a ∈ es, (Lit.int .i64 a.1).wf = true ∧ (Lit.int .i64 a.2.1).wf = true ∧ (Lit.int .i64 a.2.2).wf = true) (hR : RdR w R n l) (hn : n ≤ maxLen) (_ : n ≤ c) (hby : ∀ r ∈ l, r.len * 8 ≤ 140737488355328) (htb : Tb w) (hg : 0 < w.heap.size) :
    Calls Tryd.prog 5 #[.agg #[.int .i64 N, .slice A len cap], .slice R n c] w fun e w' => e = .returned (.bool true) ∧ Below w.heap.size w w' := by
  unfold maxLen at hlen hn
  exact mapsTurned_walk N A len cap es R n c l w hr hR hby (by omega) hcap (by omega) htb hg
end Go.Proofs.YtonalhedjjobeaaDoor
