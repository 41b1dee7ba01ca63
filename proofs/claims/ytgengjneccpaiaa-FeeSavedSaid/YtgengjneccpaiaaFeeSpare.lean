/- fee.Spare: is there a ring of steps that makes it cheaper? -/
import Derived.Test.YtgengjneccpaiaaFeeRises
namespace Go.Proofs.Ytgengjneccpaiaa
open Go.RowKit Go.Shelf

theorem fit_dn {l : List Arc} {f : Nat → Int} {B : Int} : ∀ {S : FS}, (∀ u, S.d u ≤ B) → ∀ r u, (fit l f S r).d u ≤ B := by
  have one : ∀ {S : FS} {x : Stp}, (∀ u, S.d u ≤ B) → ∀ u, (fstp l f S x).d u ≤ B := fun {S x} h u => by
    unfold fstp
    split
    · rename_i hh
      show updB _ _ _ _ ≤ B
      unfold updB
      split
      · have := hh.2.2; have := h (dst l x); omega
      · exact h u
    · exact h u
  have sw : ∀ {S : FS}, (∀ u, S.d u ≤ B) → ∀ k u, (fsw l f S k).d u ≤ B := fun {S} h k => by
    induction k with
    | zero => exact h
    | succ k ih => exact one ih
  intro S h r
  induction r with
  | zero => exact h
  | succ r ih => exact sw (S := fbeg (fit l f S r)) ih _
theorem spare_law {N : Nat} {l : List Arc} {f : Nat → Int} (hn : NOk N l) {r : Nat} (hr : 0 < r) (hrb : (fit l f (zd fun _ => 0) r).bt = true → r = N + 1) :
    ((fit l f (zd fun _ => 0) r).bt = false → ∃ q, Pt l f q) ∧ ((fit l f (zd fun _ => 0) r).bt = true → ¬ ∃ q, Pt l f q) := by
  constructor
  · intro h
    have hst := fit_still hr h
    have hdn := fit_dn (l := l) (f := f) (S := zd fun _ => 0) (B := 0) (fun u => Int.le_refl _) r
    exact ⟨_, fun x hx hrm => hst x hx hrm (by have := hdn (src l x); unfold far; omega)⟩
  · rintro h ⟨q, hq⟩
    have := fit_end hn hq (S := zd fun _ => 0) (fun u => by show (0 : Int) ≤ far; unfold far; omega) rfl (r := r) (by rw [hrb h]; omega)
    rw [h] at this; cases this
theorem wpList_copy_grown {P : Program} {w : World} {ops : Array Oper} {rest : List Oper} {o : Oper} {a : Act} {Q : Exit → Act → World → Prop} (hgd : o.guard = none) (d s : Operand) (dT sT : TypeId)
    (ho : o.op = .call { callee := .builtin .copy, args := #[d, s], argTypes := #[dT, sT] }) (elem : TypeId) (hu : P.underlying dT = some (.slice elem)) (hsz : (P.info? elem).map (·.size) = some 1)
    (dp sp : Option Addr) (dLen dCap sLen sCap : Nat) (hd : a.eval d = .slice dp dLen dCap) (hs : a.eval s = .slice sp sLen sCap)
    (g off : Nat) (cur : List Value) (t : TypeId) (hg : w.heap[g]? = some (.cells cur.toArray t (0, 0))) (cs : List Value) (hn : cs.length = Nat.min sLen dLen)
    (hpos : 0 < cs.length → dp = some ⟨g, off, none⟩ ∧ ∃ ad, sp = some ad ∧ ∀ j v, cs[j]? = some v → w.cell? (ad.add j) = some v)
    (hfit : off + cs.length ≤ cur.length) (h1 : ∀ v ∈ cs, v.oneCell' = true)
    (h : ∀ w', w'.heap[g]? = some (.cells (splice cur off cs).toArray t (0, 0)) → w.grownBy w' (some g) → wpList P ops Q rest (a.put o.dst (goInt cs.length)) w') :
    wpList P ops Q (o :: rest) a w := by
  by_cases h0 : cs.length = 0
  · obtain rfl : cs = [] := List.eq_nil_of_length_eq_zero h0
    refine wpList_copy_nothing hgd d s dT sT ho elem hu hsz dp sp dLen dCap sLen sCap hd hs (by simpa using hn.symm) ?_
    exact h w (show _ = _ by simpa [splice] using hg) (World.grownBy.refl _ _)
  · obtain ⟨rfl, ad, rfl, hsrc⟩ := hpos (by omega)
    refine wpList_copy_own hgd d s dT sT ho elem hu hsz g off dLen dCap ad sLen sCap hd hs cur.toArray t hg cs hn hsrc (by simpa using hfit) h1 ?_
    exact h _ (show _ = _ by simpa [splice] using setRow_heap w g _ _ t _ hg) ⟨rfl, rfl, rfl, by simp [World.setRow], fun k _ hk => setRow_other w g k _ (fun e => hk (by rw [e]))⟩
theorem ints_row (gs : List Int) : ints .i64 gs = row gs.length fun k => gs.getD k 0 := by
  apply List.ext_getElem?
  intro i
  by_cases h : i < gs.length
  · simp [ints, row, h, List.getD]
  · simp [ints, row, h]
theorem LSt.fill {B N m : Nat} {l : List Arc} {A : Option Addr} {cap p gl : Nat} {W W' : World} {f g : Nat → Int} (h : LSt B N m l A cap m p gl W f) (hg : W.grownBy W' (some gl)) (hc : W'.heap[gl]? = some (.cells (row m g).toArray 2 (0, 0))) (hm : m ≤ 128) : LSt B N m l A cap m p gl W' g :=
  ⟨hg.cell h.c0 (by simpa using Ne.symm h.ne), hg.cell h.c1 (by simpa using Ne.symm h.ne), hg.cell h.c2 (by simpa using Ne.symm h.ne), h.ra.grown' h.aB hg (fun r e => by cases e; exact h.gB), whole_own h.gB hc (by simp [row]) (by unfold maxLen; omega), h.ne, h.aB⟩
theorem infoLm : (Try.prog.info? 2).map (fun i => (i.zero, i.size, i.bytes)) = some (some (.int .i64 0), 1, 8) := by kernel_rfl
def SparePost (l : List Arc) (f : Nat → Int) (w : World) (e : Ending) (w' : World) : Prop :=
  Below w.heap.size w w' ∧ ∃ b : Bool, e = .returned (.tuple #[.bool b, .int .i64 0]) ∧ (b = false → ∃ q, Pt l f q) ∧ (b = true → ¬ ∃ q, Pt l f q)
set_option maxHeartbeats 6400000 in
set_option maxRecDepth 100000 in
theorem spare_ok (N : Nat) (A B : Option Addr) (m cap cg : Nat) (l : List Arc) (gs : List Int) (w : World) (hr : Rd w A m 4 (arcs l)) (hrg : Rd w B m 1 (ints .i64 gs)) (hok : nchk N l = 0) (hf : FOk l fun k => gs.getD k 0) :
    Calls Try.prog 8 #[.agg #[.int .i64 N, .slice A m cap], .slice B m cg] w (SparePost l (fun k => gs.getD k 0) w) := by
  have hel := arcs_len hr
  obtain ⟨g1, g2, g3, g4⟩ := nchk_ok hok
  have hN : N ≤ 10 := by omega
  have hm : m ≤ 30 := by omega
  have hgl : gs.length = m := by have := hrg.1; simpa [ints] using this
  have hn : NOk N l := ⟨g4⟩
  have hb0 := (Below.refl _ w).alloc (Nat.le_refl _) (.cells #[.int .i64 N, .slice A m cap] 24)
  have HC := Lib.hid (flowCheck_any N A m cap l _ (hr.later hb0) (by omega))
  rw [hok] at HC
  have hK := Blk.new w 24 #[.int .i64 N, .slice A m cap]
  have k0 := hK.cell (j := 0) rfl
  have k1 := hK.cell (j := 1) rfl
  have hKH := Lib.hid hK; have hb0H := Lib.hid hb0; have hrH := Lib.hid hr; have helH := Lib.hid hel; have hnH := Lib.hid hn; have hrgH := Lib.hid hrg; have hfH := Lib.hid hf; have hglH := Lib.hid hgl
  clear hr hK hb0 hok g1 g2 g3 g4 hel hn hrg hf hgl
  go_enter Try.func8, Try.ntmps8
  go_wp2_with fail
  refine HC.out.mono ?_
  rintro e w1 ⟨rfl, hb1⟩
  have hbb := hb0H.out.trans (hb1.mono hb0H.out.size)
  have hK1 := hKH.out.below hb1 hKH.out.lt
  have q0 := hK1.cell (j := 0) rfl
  have q1 := hK1.cell (j := 1) rfl
  have HO := Lib.hid (open_any N m l A cap w1 (hrH.out.later hbb) (by omega))
  have hrg1 := Lib.hid (hrgH.out.later hbb); have hr1 := Lib.hid (hrH.out.later hbb)
  have hbbH := Lib.hid hbb; have hK1H := Lib.hid hK1
  clear hb1 hbb hK1 k0 k1 HC
  go_wp2
  go_loopw [25] (fun i wr => ∃ k : Nat, k ≤ m ∧ i = .int .i64 k ∧ wr = w1) (fun i _ => m - (intOf i).toNat)
  case atStart => exact ⟨0, Nat.zero_le _, rfl, rfl⟩
  case round =>
    obtain ⟨k, hk, rfl, rfl⟩ := hrel
    by_cases hlt : k < m
    · obtain ⟨bb, oo, rfl, hab, a0, a1, a2, a3⟩ := hr1.out.arc hlt
      obtain ⟨b2, o2, rfl, hb2, s0⟩ := hrg1.out.int hlt
      have hfk := hfH.out k (by rw [helH.out]; exact hlt)
      have hmo : (aat l k).2.2.1 = mo l k := rfl
      rw [hmo] at a2
      dsimp only at hfk
      generalize gs.getD k 0 = x at *
      generalize mo l k = y at *
      have e1 : decide (x < 0) = false := decide_eq_false (by omega)
      have e2 : decide (y < x) = false := decide_eq_false (by omega)
      have hk0 : (0 : Int) ≤ k := by omega
      have hkm : (k : Int) < m := by omega
      go_wp2
      go_roundw
      case rel => exact ⟨k + 1, by omega, by go_num, by trivial⟩
      case measure => simp [intOf]; omega
    · obtain rfl : k = m := by omega
      obtain ⟨wa, rfl⟩ : ∃ wa : World, wa = wr := ⟨_, rfl⟩
      go_wp2_with fail
      refine HO.out.mono ?_
      rintro e w2 ⟨p, gl, rfl, hp, hL, hb2⟩
      have hrg2 := hrg1.out.later hb2
      have hlt1 := hK1H.out.lt
      have hK2 := hK1H.out.below hb2 hlt1
      have q0 := hK2.cell (j := 0) rfl
      have q1 := hK2.cell (j := 1) rfl
      have c2 := hL.c2
      obtain ⟨_, hcell, _, _⟩ := own_whole hL.ow
      have hsp : splice (row k fun _ => 0) 0 (ints .i64 gs) = row k fun j => gs.getD j 0 := by
        unfold splice
        rw [List.drop_of_length_le (by simp [row, ints, hglH.out]), ints_row, hglH.out]
        simp
      have hlen : (ints .i64 gs).length = Nat.min k k := by simp [ints, hglH.out]
      have hfit : 0 + (ints .i64 gs).length ≤ (row k fun _ => 0).length := by simp [ints, row, hglH.out]
      have hsrc : 0 < (ints .i64 gs).length → ∃ ad, B = some ad ∧ ∀ j v, (ints .i64 gs)[j]? = some v → w2.cell? (ad.add j) = some v := fun h => by
        have h0 : 0 < k := by rw [hlen] at h; simpa using h
        obtain ⟨b, o, e, hlt2, hc⟩ := hrg2.2 h0
        refine ⟨⟨b, o, none⟩, e, fun j v hv => ?_⟩
        rw [show (⟨b, o, none⟩ : Addr).add j = ⟨b, o + j, none⟩ by unfold Addr.add; by_cases h : j = 0 <;> simp [h]]
        rw [hc j (by have := (List.getElem?_eq_some_iff.1 hv).1; rw [hlen] at this; simpa using this)]
        exact hv
      have hcellH := Lib.hid hcell; have hlenH := Lib.hid hlen; have hfitH := Lib.hid hfit; have hsrcH := Lib.hid hsrc; have hspH := Lib.hid hsp
      have hLH := Lib.hid hL; have hb2H := Lib.hid hb2; have hK2H := Lib.hid hK2
      have lLp := hL.lt
      have lgB := hL.gB
      clear hL hb2 hK2 hrg2 hcell hlen hfit hsrc hsp HO
      go_wp2_with (with_reducible refine wpList_copy_grown rfl (.tmp 48) (.tmp 49) 25 25 rfl 2 Try.underlying25 (by kernel_rfl) (some ⟨gl, 0, none⟩) B k k k cg rfl rfl gl 0 (row k fun _ => 0) 2 hcellH.out (ints .i64 gs) hlenH.out (fun h => ⟨rfl, hsrcH.out h⟩) hfitH.out ints_one ?_)
      intro w3 hcell3 hg3
      rw [hspH.out] at hcell3
      have hL3 := hLH.out.fill hg3 hcell3 (by omega)
      have hb3 := Lib.hid (hb2H.out.grown hg3 hb2H.out.size (fun r e => by cases e; exact lgB))
      have hK3 := hK2H.out.kept hg3 (by simp; omega)
      have q0 := hK3.cell (j := 0) rfl
      have q1 := hK3.cell (j := 1) rfl
      have hL3H := Lib.hid hL3
      have hs3 := hg3.size
      clear hL3 hcell3 hg3 hK3 hLH hb2H hK2H hcellH hlenH hfitH hsrcH hspH c2
      go_wp2_with (at_make; refine wpList_mk1 _ tiL64 w3.heap.size N (by omega) (by omega) (Nat.le_refl _) rfl rfl rfl rfl rfl rfl rfl ?_)
      intro w4 hown4 hg4
      rw [row_replicate] at hown4
      have hb4 := below_grown hg4
      have hL4 := hL3H.out.later hb4
      have hb4' := Lib.hid (hb3.out.trans (hb4.mono hb3.out.size))
      have hs4 := hb4.size
      have HRx := Lib.hid (relax_any wa.heap.size N k l A cap k p gl w4 (fun j => gs.getD j 0) hL4 hnH.out hN hm hfH.out w3.heap.size N (fun _ => 0) (own_base (by omega) hown4) (by omega) (by omega) (fun i => .inr rfl) (by omega))
      clear hown4 hg4 hb4 hL4 hL3H q0 q1
      go_wp2_with fail
      refine HRx.out.mono ?_
      rintro _ w5 ⟨gb, r, rfl, hr0, hrN, hrb, hM, hgb, hg5⟩
      have hb5 := hb4'.out.grown hg5 hb4'.out.size (fun r e => by cases e; omega)
      have hlaw := Lib.hid (spare_law hnH.out hr0 hrb)
      have hbF := Lib.hid (hbbH.out.trans (hb5.mono hbbH.out.size))
      clear hM hg5 hb5 hrb HRx
      generalize (fit l (fun j => gs.getD j 0) (zd fun _ => 0) r).bt = on at *
      go_wp2
      go_ret2
      exact ⟨hbF.out, on, rfl, hlaw.out⟩
end Go.Proofs.Ytgengjneccpaiaa
