/- chord.Order: as they go. -/
import Derived.Test.YtcbmbofbiodhmaaDoorChordAB
import Derived.Test.YtcbmbofbiodhmaaDoorCollectX
import Derived.StillTailTactics
import Derived.Test.YtcbmbofbiodhmaaDoorNearGr
import Derived.Test.YtcbmbofbiodhmaaDoorPermI
namespace Go.Proofs.YtcbmbofbiodhmaaDoor
open Go.RowKit Go.Shelf

theorem natI_get (l : List Nat) (k : Nat) : (natI l).getD k 0 = ((l.getD k 0 : Nat) : Int) := by
  simp only [natI, List.getD, List.getElem?_map]
  cases l[k]? <;> rfl
/-- p have gone, left are left -/
structure El (ns : List Nat) (n : Nat) (p : List Nat) (left : Nat) : Prop where
  perm : (p ++ bitsL left).Perm (List.range n)
  lt : left < 2 ^ n
  step : ∀ k, k < p.length → ∃ lf, lf < 2 ^ n ∧ simpB ns lf (p.getD k 0) = true ∧ (p.drop k ++ bitsL left).Perm (bitsL lf)
theorem bitsL_full {n : Nat} (hn : n ≤ 32) : (bitsL (2 ^ n - 1)).Perm (List.range n) :=
  (List.perm_ext_iff_of_nodup (bitsL_nodup _) List.nodup_range).2 fun a => by
    rw [mem_bitsL, Nat.testBit_two_pow_sub_one, List.mem_range, decide_eq_true_iff]
    omega
theorem El.beg {ns : List Nat} {n : Nat} (hn : n ≤ 32) : El ns n [] (2 ^ n - 1) := ⟨bitsL_full hn, by have := Nat.two_pow_pos n; omega, fun k hk => absurd hk (by simp)⟩
theorem El.next {ns p : List Nat} {n left c : Nat} (hn : n ≤ 32) (h : El ns n p left) (hc : left.testBit c = true) (hs : simpB ns left c = true) : El ns n (p ++ [c]) (del left c) where
  perm := by
    have := bitsL_sub (Nat.lt_of_lt_of_le h.lt (Nat.pow_le_pow_right (by omega) hn)) hc
    rw [List.append_assoc]
    exact ((List.Perm.append_left p this)).trans h.perm
  lt := Nat.lt_of_le_of_lt (del_le _ _) h.lt
  step := fun k hk => by
    have hb := bitsL_sub (Nat.lt_of_lt_of_le h.lt (Nat.pow_le_pow_right (by omega) hn)) hc
    rcases Nat.lt_or_ge k p.length with h1 | h1
    · obtain ⟨lf, h2, h3, h4⟩ := h.step k h1
      refine ⟨lf, h2, ?_, ?_⟩
      · rw [List.getD, List.getElem?_append_left h1]; exact h3
      · rw [List.drop_append_of_le_length (by omega), List.append_assoc]
        exact (List.Perm.append_left _ hb).trans h4
    · obtain rfl : k = p.length := by simp at hk; omega
      exact ⟨left, h.lt, by simpa [List.getD] using hs, by simpa using hb⟩
def lenOf : Value → Nat
  | .slice _ k _ => k
  | _ => 0
theorem El.len {ns p : List Nat} {n left : Nat} (h : El ns n p left) : p.length ≤ n := by
  have := h.perm.length_eq
  simp at this; omega
theorem El.len_lt {ns p : List Nat} {n left c : Nat} (hn : n ≤ 32) (h : El ns n p left) (hc : left.testBit c = true) : p.length < n := by
  have := h.perm.length_eq
  have h2 := (bitsL_sub (Nat.lt_of_lt_of_le h.lt (Nat.pow_le_pow_right (by omega) hn)) hc).length_eq
  simp at this h2; omega
def OrdPost (ns : List Nat) (n : Nat) (w : World) (e : Ending) (w' : World) : Prop :=
  Below w.heap.size w w' ∧ ((∃ A c p, e = .returned (.tuple #[.slice A n c, .int .i64 0]) ∧ Rd w' A n 1 (ints .i64 (natI p)) ∧ n ≤ c ∧ El ns n p 0) ∨
    (e = .returned (.tuple #[.slice none 0 0, .int .i64 5]) ∧ ∃ p left, El ns n p left ∧ left ≠ 0 ∧ ∀ i, left.testBit i = true → simpB ns left i = false))
theorem order_bad (N : Int) (A : Option Addr) (len cap : Nat) (es : List E) (w : World) (hr : Rd w A len 3 (ps3 .i64 .i64 .i64 es)) (hlen : len ≤ 9223372036854775807) (hbad : (gchk N es == 0) = false) :
    Calls Tryd.prog 4 #[.agg #[.int .i64 N, .slice A len cap]] w fun e w' => ∃ z, e = .returned (.tuple #[.slice none 0 0, .int .i64 z]) ∧ (z != 0) = true ∧ Below w.heap.size w w' := by
  have gb := (Below.refl _ w).alloc (Nat.le_refl _) (.cells #[.int .i64 N, .slice A len cap] 24)
  have HC := Lib.hid (check_any N A len cap es _ (hr.later gb) hlen)
  have hne : (gchk N es != 0) = true := by simpa using hbad
  clear hr hbad
  generalize gchk N es = z at *
  go_enter Tryd.func4, Tryd.ntmps4
  go_wp2_with fail
  refine HC.out.mono ?_
  rintro _ w1 ⟨rfl, hb1⟩
  go_wp2
  go_ret2
  exact ⟨z, rfl, hne, gb.trans (hb1.mono (by simp))⟩
set_option maxHeartbeats 3200000 in
set_option maxRecDepth 100000 in
theorem order_ok (n : Nat) (A : Option Addr) (len cap : Nat) (es : List E) (w : World) (hr : Rd w A len 3 (ps3 .i64 .i64 .i64 es)) (hl : len ≤ 45) (hok : gchk n es = 0) (htb : Tb w) (hg : 0 < w.heap.size) :
    Calls Tryd.prog 4 #[.agg #[.int .i64 n, .slice A len cap]] w (OrdPost (nearW n es) n w) := by
  obtain ⟨h0, h10, h45, hokE, _⟩ := gchk_ok hok
  have hN : n ≤ 10 := by omega
  have g := nearGr hok
  rw [Int.toNat_natCast] at hokE
  have gb := (Below.refl _ w).alloc (Nat.le_refl _) (.cells #[.int .i64 n, .slice A len cap] 24)
  have g0 : (w.alloc (.cells #[.int .i64 n, .slice A len cap] 24)).cell? ⟨w.heap.size, 0, none⟩ = some (.int .i64 n) := by go_simp
  have g1 : (w.alloc (.cells #[.int .i64 n, .slice A len cap] 24)).cell? ⟨w.heap.size, 1, none⟩ = some (.slice A len cap) := by go_simp
  have gs : (w.alloc (.cells #[.int .i64 n, .slice A len cap] 24)).heap.size = w.heap.size + 1 := by simp
  have HC := Lib.hid (check_any n A len cap es _ (hr.later gb) (by omega))
  rw [hok] at HC
  have HN := Lib.hid (fun W (h : Below w.heap.size w W) => near_any n A len cap es W (hr.later h) hN hl hokE)
  have htbH := Lib.hid htb
  have hp10 : 2 ^ n ≤ 2 ^ 10 := Nat.pow_le_pow_right (by omega) hN
  have hpos := Nat.two_pow_pos n
  have hpi : ((2 : Int) ^ n) = ((2 ^ n : Nat) : Int) := by simp
  have hE : ((2 : Int) ^ n - 1) % 4294967296 = ((2 ^ n - 1 : Nat) : Int) := by rw [hpi]; omega
  have hEm : ((2 : Int) ^ min n 32 - 1) % 4294967296 = ((2 ^ n - 1 : Nat) : Int) := by rw [Nat.min_eq_left (by omega)]; exact hE
  have hE3 : ((2 : Int) ^ n % 4294967296 - 1) % 4294967296 = ((2 ^ n - 1 : Nat) : Int) := by rw [hpi]; omega
  have hbegH := Lib.hid (El.beg (ns := nearW n es) (n := n) (by omega))
  have hgl := Lib.hid (fun i => g.lt i)
  clear hr hok hokE htb g hpi h0 h10 h45
  generalize nearW n es = ns at *
  generalize hPN : 2 ^ n - 1 = pn at *
  have hPNH := Lib.hid hPN
  have hp10H := Lib.hid hp10
  clear hPN hp10 hpos
  go_enter Tryd.func4, Tryd.ntmps4
  go_wp2_with fail
  generalize w.alloc (.cells #[.int .i64 n, .slice A len cap] 24) = wg at *
  refine HC.out.mono ?_
  rintro _ w1 ⟨rfl, hb1⟩
  have q0 := below_cell hb1 (by omega) g0
  have q1 := below_cell hb1 (by omega) g1
  have hbw := gb.trans (hb1.mono (by omega))
  have hs1 := hb1.size
  have HN1 := Lib.hid (HN.out w1 hbw)
  clear g0 g1 gb hb1 HN HC
  go_wp2_with fail
  refine HN1.out.mono ?_
  rintro _ w2 ⟨gn, rfl, hown, hb2⟩
  have q0 := below_cell hb2 (by omega) q0
  have hbw2 := hbw.trans (hb2.mono hbw.size)
  have hs2 := hb2.size
  have hrn := Rd.of_own hown
  have bn := Boxed.new w2 34 (.slice (some ⟨gn, 0, none⟩) n n)
  have hbw2H := Lib.hid hbw2; have hrnH := Lib.hid hrn; have bnH := Lib.hid bn
  have q0' : (w2.alloc (.cells #[.slice (some ⟨gn, 0, none⟩) n n] 34)).cell? ⟨w.heap.size, 0, none⟩ = some (.int .i64 n) := alloc_cell (by omega) q0 _
  clear hown hb2 hbw HN1 hbw2 hrn bn q1
  go_wp2_with fail
  have hbn0 := (bnH.out).alloc (.cells #[.int .u32 (pn : Int)] 36)
  have hbl0 := Boxed.new (w2.alloc (.cells #[.slice (some ⟨gn, 0, none⟩) n n] 34)) 36 (.int .u32 (pn : Int))
  rw [World.size_alloc] at hbl0
  have hb20 := ((Below.refl w2.heap.size w2).alloc (Nat.le_refl _) (.cells #[.slice (some ⟨gn, 0, none⟩) n n] 34)).alloc (by simp) (.cells #[.int .u32 (pn : Int)] 36)
  have hbn0H := Lib.hid hbn0; have hbl0H := Lib.hid hbl0; have hb20H := Lib.hid hb20
  clear hbn0 hbl0 hb20 q0 q0' bnH
  have hs2w : w.heap.size ≤ w2.heap.size := by have := hbw2H.out.size; omega
  simp only [hE3]
  clear hE hEm hE3
  go_loopw [6, 7, 8, 9] (fun v t7 _ _ wr => ∃ (p : List Nat) (left bl : Nat), t7 = .pointer (some ⟨bl, 0, none⟩) ∧ Boxed wr bl 36 (.int .u32 (left : Int)) ∧ w2.heap.size + 1 ≤ bl ∧ wr.ownsRow (w2.heap.size + 1) 3 1 v p.length (ints .i64 (natI p)) ∧ El ns n p left ∧
    Boxed wr w2.heap.size 34 (.slice (some ⟨gn, 0, none⟩) n n) ∧ Below w2.heap.size w2 wr ∧ w2.heap.size + 1 ≤ wr.heap.size) (fun v _ _ _ _ => n - lenOf v)
  case atStart => exact ⟨[], pn, w2.heap.size + 1, rfl, hbl0H.out, Nat.le_refl _, World.ownsRow_nil _ _ _ _, hbegH.out, hbn0H.out, hb20H.out, by simp⟩
  case round =>
    obtain ⟨p, left, bl, rfl, hbl, hbll, hown, hEl, hbn, hbr, hwr⟩ := hrel
    have hll := hEl.lt
    have hp10 := hp10H.out
    have cl := hbl.cell
    obtain ⟨Ap, cp, rfl⟩ := own_slice hown
    have hownH := Lib.hid hown; have hElH := Lib.hid hEl; have hbnH := Lib.hid hbn; have hbrH := Lib.hid hbr; have hblH := Lib.hid hbl
    clear hown hEl hbn hbr hbl
    by_cases hl0 : left = 0
    · subst hl0
      have hpn : p.length = n := by
        have := hElH.out.perm.length_eq
        simp [show bitsL 0 = [] by decide] at this; exact this
      have hcp2 : n ≤ cp := by
        rcases hownH.out.2 with ⟨h, h0⟩ | ⟨g, cap, cur, h, _, _, h2, _⟩
        · omega
        · injection h with _ e1 e2; omega
      have hRH := Lib.hid (Rd.of_own hownH.out)
      have hpnH := Lib.hid hpn
      clear hpn
      go_wp2
      go_ret2
      exact ⟨hbw2H.out.trans (hbrH.out.mono hs2w), .inl ⟨Ap, cp, p, by rw [hpnH.out]; rfl, by have := hRH.out; rw [hpnH.out] at this; exact this, hcp2, hElH.out⟩⟩
    · have hl0b : ((left : Int) != 0) = true := by simp; omega
      clear hl0
      go_wp2_with fail
      refine (each_any left _).mono ?_
      rintro e w6 ⟨rfl, rfl⟩
      have hb6 : Below wr.heap.size wr (wr.alloc (.cells #[.int .u32 (left : Int)] 36)) := (Below.refl _ wr).alloc (Nat.le_refl _) _
      have HCo := Lib.hid (collect_any wr.heap.size left (wr.alloc (.cells #[.int .u32 (left : Int)] 36)) (by omega) (Boxed.new wr 36 (.int .u32 (left : Int))) ((htbH.out.below hg (hbw2H.out.trans (hbrH.out.mono hs2w))).below (by omega) hb6) (by omega))
      have hb6H := Lib.hid hb6
      clear hb6
      go_wp2_with fail
      refine HCo.out.mono ?_
      rintro e w7 ⟨v8, rfl, own8, hb7⟩
      have hb7' := hb6H.out.trans hb7
      obtain ⟨A8, c8, rfl⟩ := own_slice own8
      have own8H := Lib.hid own8; have hb7H := Lib.hid hb7'
      clear own8 hb7 hb7' HCo hb6H
      go_wp2_with fail
      have hb7o := hb7H.out
      have hs7 := hb7o.size
      have hbr7 := hbrH.out.trans (hb7o.mono (by omega))
      have hbw7 := hbw2H.out.trans (hbr7.mono hs2w)
      have hbn7 : Boxed w7 w2.heap.size 34 (.slice (some ⟨gn, 0, none⟩) n n) := (hb7o.block _ hbnH.out.lt).trans hbnH.out
      have hbl7 : Boxed w7 bl 36 (.int .u32 (left : Int)) := (hb7o.block _ hblH.out.lt).trans hblH.out
      have hrn7 := hrnH.out.later hbr7
      have htb7 := htbH.out.below hg hbw7
      have hbit : ∀ i, i ∈ bitsL left → left.testBit i = true ∧ i < n := fun i hi => ⟨(mem_bitsL.1 hi).2, lt_bit hll (mem_bitsL.1 hi).2⟩
      have HI := Lib.hid (indexFuncI A8 (bitsL left).length c8 (natI (bitsL left)) 15 #[.pointer (some ⟨w2.heap.size, 0, none⟩), .pointer (some ⟨bl, 0, none⟩)] (fun z => simpB ns left z.toNat) w7 (Rd.of_own own8H.out) (by have := bitsL_len32 left; omega)
        (enters_of Tryd.func15 (by kernel_rfl) rfl) (fun a W ha hW => by
          obtain ⟨i, hi, rfl⟩ : ∃ i, i ∈ bitsL left ∧ a = (i : Int) := by
            unfold natI at ha
            obtain ⟨i, hi, e⟩ := List.mem_map.1 ha
            exact ⟨i, hi, e.symm⟩
          have := ord1_any (some ⟨gn, 0, none⟩) n n i left w2.heap.size bl ns W (hrn7.later hW) hN (hbit i hi).2 hll (fun i _ => by have := hgl.out i; omega) (htb7.below (by have := hbw7.size; omega) hW) (by have := hbw7.size; have := hW.size; omega)
            (below_cell hW hbn7.lt hbn7.cell) (below_cell hW hbl7.lt hbl7.cell)
          simpa using this))
      have hbr7H := Lib.hid hbr7; have hbw7H := Lib.hid hbw7; have hbn7H := Lib.hid hbn7; have hbl7H := Lib.hid hbl7; have hbitH := Lib.hid hbit
      clear hb7o hbr7 hbw7 hbn7 hbl7 hrn7 htb7 hbit
      have hR8 := Lib.hid (Rd.of_own own8H.out)
      have hown7 := Lib.hid (own_below hownH.out hb7H.out)
      cases hfi : (natI (bitsL left)).findIdx? (fun z => simpB ns left z.toNat) with
      | none =>
        have hid1 : idxI (fun z => simpB ns left z.toNat) (natI (bitsL left)) = -1 := by unfold idxI; rw [hfi]
        have hnone : ∀ i, left.testBit i = true → simpB ns left i = false := fun i hi => by
          have hm : (i : Int) ∈ natI (bitsL left) := by unfold natI; exact List.mem_map.2 ⟨i, mem_bitsL.2 ⟨by have := lt_bit hll hi; omega, hi⟩, rfl⟩
          have := List.findIdx?_eq_none_iff.1 hfi _ hm
          simpa using this
        rw [hid1] at HI
        have hnoneH := Lib.hid hnone
        have hl0H : left ≠ 0 := by intro h; subst h; simp at hl0b
        have hl0HH := Lib.hid hl0H
        clear hnone hl0H hid1 hfi
        refine HI.out.mono ?_
        rintro e w8 ⟨rfl, hb8⟩
        have hbF := hbw7H.out.trans (hb8.mono (by have := hbw7H.out.size; omega))
        go_wp2
        go_ret2
        exact ⟨hbF, .inr ⟨rfl, p, left, hElH.out, hl0HH.out, hnoneH.out⟩⟩
      | some k =>
        have hid1 : idxI (fun z => simpB ns left z.toNat) (natI (bitsL left)) = (k : Int) := by unfold idxI; rw [hfi]
        obtain ⟨hk, hpk, -⟩ := List.findIdx?_eq_some_iff_getElem.1 hfi
        have hkl : k < (bitsL left).length := by simpa [natI] using hk
        rw [hid1] at HI
        have hget := natI_get (bitsL left) k
        have hmem : (bitsL left).getD k 0 ∈ bitsL left := by rw [List.getD, List.getElem?_eq_getElem hkl]; exact List.getElem_mem _
        have hsk : simpB ns left ((bitsL left).getD k 0) = true := by
          have e : (natI (bitsL left))[k] = (((bitsL left).getD k 0 : Nat) : Int) := by rw [← hget]; simp [List.getD, hk]
          rw [e] at hpk; simpa using hpk
        have hcb := hbitH.out _ hmem
        have hskH := Lib.hid hsk; have hgetH := Lib.hid hget
        clear hid1 hfi hpk hsk hmem hk hget
        refine HI.out.mono ?_
        rintro e w8 ⟨rfl, hb8⟩
        have hs8 := hb8.size
        have hbr8 := hbr7H.out.trans (hb8.mono hbr7H.out.size)
        have hbn8 : Boxed w8 w2.heap.size 34 (.slice (some ⟨gn, 0, none⟩) n n) := (hb8.block _ hbn7H.out.lt).trans hbn7H.out
        have hbl8 : Boxed w8 bl 36 (.int .u32 (left : Int)) := (hb8.block _ hbl7H.out.lt).trans hbl7H.out
        have hown8 := own_below hown7.out hb8
        obtain ⟨b8, o8, rfl, hb8l, hc8⟩ := (hR8.out.later hb8).int hkl
        rw [hgetH.out] at hc8
        have hlo8 := (own8H.out.lt b8 rfl).1
        simp only [World.size_alloc] at hlo8
        have hElN := Lib.hid (hElH.out.next (c := (bitsL left).getD k 0) (by omega) hcb.1 hskH.out)
        have hpl := hElH.out.len_lt (by omega) hcb.1
        obtain ⟨c, hc⟩ : ∃ c, (bitsL left).getD k 0 = c := ⟨_, rfl⟩
        rw [hc] at hc8 hElN hcb
        have hcn := hcb.2
        have hpw : IntKind.u32.wrap ((2 : Int) ^ c) = ((2 ^ c : Nat) : Int) := by rw [IntKind.wrap_u32']; exact two_pow_u32 c (by omega)
        have hpm := two_pow_u32 c (by omega)
        have hdw : bits .andNot .u32 (left : Int) ((2 ^ c : Nat) : Int) = ((del left c : Nat) : Int) := u32_andNot_nat left (2 ^ c) (by omega) (by have : 2 ^ c < 2 ^ n := Nat.pow_lt_pow_right (by omega) hcn; omega)
        have hdw2 : bits .andNot .u32 (left : Int) ((2 : Int) ^ c) = ((del left c : Nat) : Int) := by rw [show ((2 : Int) ^ c) = ((2 ^ c : Nat) : Int) by simp]; exact hdw
        have hkI : (k : Int) < (bitsL left).length := by omega
        have hk0 : (0 : Int) ≤ k := by omega
        have hc0 : (0 : Int) ≤ c := by omega
        have hc32 : (c : Int) < 32 := by omega
        have hown8H := Lib.hid hown8; have hbl8H := Lib.hid hbl8; have hbn8H := Lib.hid hbn8; have hbr8H := Lib.hid hbr8
        have hob : ∀ g, (Value.slice Ap p.length cp).ownBlock = some g → g < wr.heap.size := fun g hg => (hownH.out.lt g hg).2
        have hobH := Lib.hid hob
        have hb82 := hbr8.size
        clear hown8 hbl8 hbn8 hbr8 hb8 hob hc HI hskH hgetH hcb
        have c8 := hc8
        go_wp2_with (at_builtin; refine wpList_app (s := .tmp 31) (x := .tmp 36) _ tiK (hown8H.out.alloc _) (rd_new1 w8 (.int .i64 (c : Int)) 3) (ints_one (l := [(c : Int)])) (by omega) (by omega) (by simp; omega) rfl rfl rfl rfl ?_; intro v' wA ownA gA atA)
        obtain ⟨g', cap', rfl⟩ := ownsRow_succ ownA
        have blA : Boxed wA bl 36 (.int .u32 (left : Int)) := (hbl8H.out.alloc (.cells #[.int .i64 (c : Int)] 3)).kept gA ((hbl8H.out.alloc (.cells #[.int .i64 (c : Int)] 3)).not_row (by decide) (hown8H.out.alloc (.cells #[.int .i64 (c : Int)] 3)))
        have bnA : Boxed wA w2.heap.size 34 (.slice (some ⟨gn, 0, none⟩) n n) := (hbn8H.out.alloc (.cells #[.int .i64 (c : Int)] 3)).kept gA ((hbn8H.out.alloc (.cells #[.int .i64 (c : Int)] 3)).not_row (by decide) (hown8H.out.alloc (.cells #[.int .i64 (c : Int)] 3)))
        have cA := grown_cell gA (by simp; omega) (fun e => by have := hobH.out b8 e; omega) (alloc_cell hb8l hc8 (.cells #[.int .i64 (c : Int)] 3))
        have hrA := (hbr8H.out.alloc (by omega) (.cells #[.int .i64 (c : Int)] 3)).grown gA (by simp; omega) (fun g hg => by have := (hown8H.out.lt g hg).1; omega)
        have hsA : wr.heap.size ≤ wA.heap.size := by have := gA.size; simp at this; omega
        have ownAH := Lib.hid ownA; have bnAH := Lib.hid bnA; have blAH := Lib.hid blA; have hrAH := Lib.hid hrA
        have cl := blA.cell
        clear gA atA ownA bnA hrA blA hc8 c8
        have clD : wA.drew.cell? ⟨bl, 0, none⟩ = some (.int .u32 (left : Int)) := cl
        go_still_tail 7, (by kernel_rfl)
        change wpList _ _ _ _ _ wA.drew
        have ownD : wA.drew.ownsRow (w2.heap.size + 1) 3 1 (.slice (some ⟨g', 0, none⟩) (p.length + 1) cap') (p.length + 1) (ints .i64 (natI p) ++ [.int .i64 (c : Int)]) := ownAH.out
        have bnD : Boxed wA.drew w2.heap.size 34 (.slice (some ⟨gn, 0, none⟩) n n) := bnAH.out
        have blD : Boxed wA.drew bl 36 (.int .u32 (left : Int)) := blAH.out
        have hrD : Below w2.heap.size w2 wA.drew := hrAH.out.drew
        have hsD : wr.heap.size ≤ wA.drew.heap.size := hsA
        clear cl cA ownAH bnAH blAH hrAH hsA clD
        generalize wA.drew = wD at *
        have cD := blD.cell; have fD := blD.frozen; have lD := blD.lt
        have b2 := blD.set (.int .u32 ((del left c : Nat) : Int))
        have c2D := b2.cell
        have hg2 := grownBy_setCell' wD bl (.int .u32 ((del left c : Nat) : Int))
        have bn2 := bnD.kept hg2 (by simp; omega)
        have own2 := ownD.kept hg2 (.inr (blD.not_row (by decide) ownD).symm)
        have hr2 := hrD.grown hg2 (by omega) (fun r e => by cases e; omega)
        have hs2' : (wD.setCell ⟨bl, 0, none⟩ (.int .u32 ((del left c : Nat) : Int))).heap.size = wD.heap.size := by simp
        have bn2H := Lib.hid bn2; have own2H := Lib.hid own2; have hr2H := Lib.hid hr2; have hs2H := Lib.hid hs2'
        clear blD bnD ownD hrD b2 hg2 bn2 own2 hr2 hs2'
        go_wp2
        go_roundw
        case rel =>
          refine ⟨p ++ [c], del left c, wD.heap.size, rfl, ?_, by omega, ?_, hElN.out, bn2H.out.alloc _, hr2H.out.alloc (by rw [hs2H.out]; omega) _, by simp; omega⟩
          · have := Boxed.new (wD.setCell ⟨bl, 0, none⟩ (.int .u32 ((del left c : Nat) : Int))) 36 (.int .u32 ((del left c : Nat) : Int))
            rw [hs2H.out] at this
            exact this
          · have e1 : (p ++ [c]).length = p.length + 1 := by simp
            have e2 : ints .i64 (natI (p ++ [c])) = ints .i64 (natI p) ++ [.int .i64 (c : Int)] := by simp [natI, ints]
            rw [e1, e2]
            exact own2H.out.alloc _
        case measure => simp [lenOf]; omega
end Go.Proofs.YtcbmbofbiodhmaaDoor
