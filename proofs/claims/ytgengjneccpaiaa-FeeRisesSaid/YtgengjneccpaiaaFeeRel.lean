/- fee: relax: how cheap each node can be come to, and by which step. (Printed by tools/takes.py from tpl/XFeeRel.head.) -/
import Derived.Test.YtgengjneccpaiaaFeeC
import Derived.Test.YtgengjneccpaiaaBel
import Derived.Test.YtgengjneccpaiaaLastW
namespace Go.Proofs.Ytgengjneccpaiaa
open Go.RowKit Go.Shelf

def statP (py : Nat → Stp) (i : Nat) : Value := if i % 2 = 0 then .int .i64 ((py (i / 2)).1 : Nat) else .bool (py (i / 2)).2
def rowP (N : Nat) (py : Nat → Stp) : List Value := (List.range (N * 2)).map (statP py)
theorem rowP_len (N : Nat) (py : Nat → Stp) : (rowP N py).length = N * 2 := by simp [rowP]
theorem rowP_get {N : Nat} {py : Nat → Stp} {i : Nat} (h : i < N * 2) : (rowP N py)[i]? = some (statP py i) := by simp [rowP, h]
theorem statP0 (py : Nat → Stp) (b : Nat) : statP py (b * 2) = .int .i64 ((py b).1 : Nat) := by unfold statP; rw [if_pos (by omega), show b * 2 / 2 = b by omega]
theorem statP1 (py : Nat → Stp) (b : Nat) : statP py (b * 2 + 1) = .bool (py b).2 := by unfold statP; rw [if_neg (by omega), show (b * 2 + 1) / 2 = b by omega]
theorem rowP_set (N : Nat) (py : Nat → Stp) (b : Nat) (x : Stp) : ((rowP N py).set (b * 2) (.int .i64 (x.1 : Nat))).set (b * 2 + 1) (.bool x.2) = rowP N (updB py b x) := by
  apply List.ext_getElem?
  intro i
  rw [List.getElem?_set, List.getElem?_set, List.length_set]
  by_cases hi : i < N * 2
  · rw [rowP_get hi, rowP_get hi, rowP_len]
    by_cases h1 : b * 2 + 1 = i
    · subst h1
      rw [if_pos rfl, if_pos hi, statP1, updB_same]
    · rw [if_neg h1]
      by_cases h2 : b * 2 = i
      · subst h2
        rw [if_pos rfl, if_pos hi, statP0, updB_same]
      · rw [if_neg h2]
        unfold statP
        rw [updB_other _ _ (by omega)]
  · rw [rowP_len, List.getElem?_eq_none (by rw [rowP_len]; omega), List.getElem?_eq_none (by rw [rowP_len]; omega)]
    split
    · rw [if_neg (by omega)]
    · split
      · rw [if_neg (by omega)]
      · rfl
theorem tiP : TI Try.prog 41 47 (.agg #[.int .i64 0, .bool false]) 2 16 := TI.mk' Try.underlying41 (by kernel_rfl) rfl (by decide)
theorem made_P (N : Nat) : (madeCells (Value.agg #[.int .i64 0, .bool false]).cells (N * 2)).toList = rowP N fun _ => (0, false) := by
  apply List.ext_getElem?
  intro i
  by_cases hi : i < N * 2
  · have : i % 2 = 0 ∨ i % 2 = 1 := by omega
    rcases this with h | h <;> simp [madeCells, hi, rowP, statP, Value.cells, h]
  · rw [List.getElem?_eq_none (by simp [madeCells]; omega), List.getElem?_eq_none (by simp [rowP]; omega)]
theorem wpList_mkP {w : World} {ops : Array Oper} {rest : List Oper} {o : Oper} {a : Act} {Q : Exit → Act → World → Prop} {l c : Operand} (base : Nat) (S : Nat) (hS : S ≤ 1000) (hbase : base ≤ w.heap.size)
    (ho : o.op = Op.makeSlice 41 l c) (hgd : o.guard = none) {L C : Int} (hl : a.eval l = .int .i64 L) (hc : a.eval c = .int .i64 C) (hL : L = (S : Int)) (hC : C = (S : Int))
    (h : ∀ w', w'.ownsRow base 47 2 (.slice (some ⟨w.heap.size, 0, none⟩) S S) S (rowP S fun _ => (0, false)) → w.grownBy w' none → wpList Try.prog ops Q rest (a.put o.dst (.slice (some ⟨w.heap.size, 0, none⟩) S S)) w') : wpList Try.prog ops Q (o :: rest) a w := by
  obtain ⟨i, hi, hz, hsize, hby⟩ := tiP.hi
  refine wpList_make_full w hgd l c 41 ho base 47 i _ 2 tiP.ht hi hz hsize .i64 .i64 L C S hl hc hL hC (by rw [hby]; omega) (by unfold maxLen; omega) hbase fun w' h1 h2 => h w' ?_ h2
  rw [made_P] at h1
  exact h1
/-- relax's memory: the net, how cheap each node is, and its last step -/
structure RM (B N m : Nat) (l : List Arc) (A : Option Addr) (cap c p gl gd cd gb : Nat) (W : World) (f d : Nat → Int) (py : Nat → Stp) : Prop where
  ls : LSt B N m l A cap c p gl W f
  dr : W.ownsRow B 2 1 (.slice (some ⟨gd, 0, none⟩) N cd) N (row N d)
  br : W.ownsRow B 47 2 (.slice (some ⟨gb, 0, none⟩) N N) N (rowP N py)
  n1 : gd ≠ p
  n2 : gd ≠ gl
  n3 : gb ≠ p
  n4 : gb ≠ gl
  n5 : gb ≠ gd
section
variable {B N m : Nat} {l : List Arc} {A : Option Addr} {cap c p gl gd cd gb : Nat} {W W' : World} {f d : Nat → Int} {py : Nat → Stp}
theorem LSt.setO (h : LSt B N m l A cap c p gl W f) {g : Nat} (h1 : g ≠ p) (h2 : g ≠ gl) (h3 : B ≤ g) (i : Nat) (v : Value) : LSt B N m l A cap c p gl (W.setCell ⟨g, i, none⟩ v) f :=
  h.grown (grown_setA W g i v) (by simpa using fun e => h1 e.symm) (by simpa using fun e => h2 e.symm) (fun r e => by cases e; exact h3)
theorem RM.later (h : RM B N m l A cap c p gl gd cd gb W f d py) (hb : Below W.heap.size W W') : RM B N m l A cap c p gl gd cd gb W' f d py :=
  ⟨h.ls.later hb, own_below h.dr hb, own_below h.br hb, h.n1, h.n2, h.n3, h.n4, h.n5⟩
theorem RM.alloc (h : RM B N m l A cap c p gl gd cd gb W f d py) (o : Obj) : RM B N m l A cap c p gl gd cd gb (W.alloc o) f d py := h.later ((Below.refl _ W).alloc (Nat.le_refl _) o)
theorem RM.drewN (h : RM B N m l A cap c p gl gd cd gb W f d py) (k : Nat) : RM B N m l A cap c p gl gd cd gb (W.drewN k) f d py := ⟨h.ls.drewN k, h.dr, h.br, h.n1, h.n2, h.n3, h.n4, h.n5⟩
theorem RM.dcell (h : RM B N m l A cap c p gl gd cd gb W f d py) {i : Nat} (hi : i < N) : W.cell? ⟨gd, i, none⟩ = some (.int .i64 (d i)) := (h.dr.cellAt i (by omega)).trans (row_get hi)
theorem RM.pcell (h : RM B N m l A cap c p gl gd cd gb W f d py) {i : Nat} (hi : i < N) : W.cell? ⟨gb, i * 2, none⟩ = some (.int .i64 ((py i).1 : Nat)) ∧ W.cell? ⟨gb, i * 2 + 1, none⟩ = some (.bool (py i).2) :=
  ⟨by rw [h.br.cellAt (i * 2) (by omega), rowP_get (by omega), statP0], by rw [h.br.cellAt (i * 2 + 1) (by omega), rowP_get (by omega), statP1]⟩
theorem RM.lt (h : RM B N m l A cap c p gl gd cd gb W f d py) : B ≤ gd ∧ gd < W.heap.size ∧ B ≤ gb ∧ gb < W.heap.size := ⟨(h.dr.lt gd rfl).1, (h.dr.lt gd rfl).2, (h.br.lt gb rfl).1, (h.br.lt gb rfl).2⟩
theorem RM.setD (h : RM B N m l A cap c p gl gd cd gb W f d py) (i : Nat) (v : Int) : RM B N m l A cap c p gl gd cd gb (W.setCell ⟨gd, i, none⟩ (.int .i64 v)) f (updB d i v) py :=
  ⟨h.ls.setO h.n1 h.n2 h.lt.1 i _, by rw [show row N (updB d i v) = (row N d).set i (.int .i64 v) from (row_set N d i v).symm]; exact (h.dr.stored i _).1, own_set_other h.br (by simp [Value.ownBlock]; exact h.n5) _, h.n1, h.n2, h.n3, h.n4, h.n5⟩
theorem RM.setP (h : RM B N m l A cap c p gl gd cd gb W f d py) (i : Nat) (x : Stp) : RM B N m l A cap c p gl gd cd gb ((W.setCell ⟨gb, i * 2, none⟩ (.int .i64 (x.1 : Nat))).setCell ⟨gb, i * 2 + 1, none⟩ (.bool x.2)) f d (updB py i x) :=
  ⟨(h.ls.setO h.n3 h.n4 h.lt.2.2.1 _ _).setO h.n3 h.n4 h.lt.2.2.1 _ _, own_set_other (own_set_other h.dr (by simp [Value.ownBlock]; exact fun e => h.n5 e.symm) _) (by simp [Value.ownBlock]; exact fun e => h.n5 e.symm) _, by
    rw [← rowP_set]
    exact ((h.br.stored (i * 2) _).1.stored (i * 2 + 1) _).1, h.n1, h.n2, h.n3, h.n4, h.n5⟩
end
def zd (d : Nat → Int) : FS := ⟨d, fun _ => (0, false), false⟩
def RelPost (B N m : Nat) (l : List Arc) (A : Option Addr) (cap c p gl gd cd : Nat) (w : World) (f d0 : Nat → Int) (e : Ending) (w' : World) : Prop :=
  ∃ gb r : Nat, e = .returned (.tuple #[.slice (some ⟨gb, 0, none⟩) N N, .bool (fit l f (zd d0) r).bt]) ∧ 0 < r ∧ r ≤ N + 1 ∧ ((fit l f (zd d0) r).bt = true → r = N + 1) ∧ RM B N m l A cap c p gl gd cd gb w' f (fit l f (zd d0) r).d (fit l f (zd d0) r).py ∧ w.heap.size ≤ gb ∧ w.grownBy w' (some gd)
theorem kst_val (k : Nat) : (Value.agg #[.int .i64 ((k / 2 : Nat) : Int), .bool (k % 2 == 1)]) = stv (kst k) := rfl
theorem grown_later {a b c : World} {g : Nat} (h : a.grownBy b (some g)) (hb : Below b.heap.size b c) : a.grownBy c (some g) :=
  grown_trans' h ⟨hb.os, hb.tape, hb.output, hb.size, fun j hj _ => hb.block j hj⟩
theorem grown_set_new {a b : World} {g q : Nat} (h : a.grownBy b (some g)) (hq : a.heap.size ≤ q) (i : Nat) (v : Value) : a.grownBy (b.setCell ⟨q, i, none⟩ v) (some g) :=
  ⟨h.os, h.tape, h.output, by simpa using h.size, fun k hk hkg => (heap_setCell_other b ⟨q, i, none⟩ k v (by simp; omega)).trans (h.block k hk hkg)⟩
set_option maxHeartbeats 6400000 in
set_option maxRecDepth 100000 in
theorem relax_any (B N m : Nat) (l : List Arc) (A : Option Addr) (cap c p gl : Nat) (w : World) (f : Nat → Int) (h : LSt B N m l A cap c p gl w f) (hn : NOk N l) (hN : N ≤ 10) (hm : m ≤ 30) (hf : FOk l f) (gd cd : Nat) (d0 : Nat → Int)
    (hd : w.ownsRow B 2 1 (.slice (some ⟨gd, 0, none⟩) N cd) N (row N d0)) (h1 : gd ≠ p) (h2 : gd ≠ gl) (hd0 : ∀ i, d0 i = far ∨ d0 i = 0) (hBw : B ≤ w.heap.size) :
    Calls Try.prog 13 #[.pointer (some ⟨p, 0, none⟩), .slice (some ⟨gd, 0, none⟩) N cd] w (RelPost B N m l A cap c p gl gd cd w f d0) := by
  have hel := h.len
  have hbd0 := Lib.hid (FBd.rounds (f := f) hn (S := zd d0) fun i => by rcases hd0 i with h | h <;> show d0 i = far ∨ _ ≤ d0 i ∧ d0 i ≤ _ <;> omega)
  have c0 := h.c0; have c1 := h.c1
  obtain ⟨lp, lg⟩ := h.lt
  have ld := (hd.lt gd rfl).2
  have lB := (hd.lt gd rfl).1
  have hH := Lib.hid h; have hnH := Lib.hid hn; have hfH := Lib.hid hf; have hdH := Lib.hid hd; have helH := Lib.hid hel
  clear h hn hf hd hel hd0
  go_enter Try.func13, Try.ntmps13
  go_wp2_with (at_make; refine wpList_mkP B N (by omega) hBw rfl rfl rfl rfl rfl rfl ?_)
  intro w1 hbr hg1
  have hb1 := below_grown hg1
  have hM := Lib.hid (show RM B N m l A cap c p gl gd cd w.heap.size w1 f d0 (fun _ => (0, false)) from ⟨hH.out.later hb1, own_below hdH.out hb1, hbr, h1, h2, by omega, by omega, by omega⟩)
  have hg1' := Lib.hid (show w.grownBy w1 (some gd) from ⟨hg1.os, hg1.tape, hg1.output, hg1.size, fun k hk _ => hg1.block k hk (by simp)⟩)
  have c0 := hM.out.ls.c0
  have hw1 : IntKind.i64.wrap ((N : Int) + 1) = (N : Int) + 1 := IntWalk.i64_in _ (by omega)
  obtain ⟨gb, hgb⟩ : ∃ gb, gb = w.heap.size := ⟨_, rfl⟩
  rw [← hgb] at hM
  have hgbH := Lib.hid hgb
  rw [← hgb]
  clear hbr hg1 hb1 hH hdH c1 hgb lp lg ld
  go_wp2
  go_loopw [25] (fun i wr => ∃ r : Nat, i = .int .i64 r ∧ r ≤ N + 1 ∧ (0 < r → (fit l f (zd d0) r).bt = true) ∧ RM B N m l A cap c p gl gd cd gb wr f (fit l f (zd d0) r).d (fit l f (zd d0) r).py ∧ w.grownBy wr (some gd)) (fun i _ => N + 1 - (intOf i).toNat)
  case atStart => exact ⟨0, rfl, by omega, fun h => absurd h (by omega), hM.out, hg1'.out⟩
  case round =>
    obtain ⟨r, rfl, hr, hbt, hM, hg⟩ := hrel
    have hbtH := Lib.hid hbt
    have hMH := Lib.hid hM; have hgH := Lib.hid hg
    have c1 := hM.ls.c1
    clear hM hg hbt c0
    by_cases hlt : r < N + 1
    · have hlt' : (r : Int) < (N : Int) + 1 := by omega
      have hw2 : IntKind.i64.wrap (2 * (m : Int)) = 2 * (m : Int) := IntWalk.i64_in _ (by omega)
      have hbdS := Lib.hid ((show FBd ((r : Int) * (2 * l.length * 1048576)) (fbeg (fit l f (zd d0) r)) from hbd0.out r).sweep (f := f) hnH.out)
      have hM0 := Lib.hid (show RM B N m l A cap c p gl gd cd gb wr f (fsw l f (fbeg (fit l f (zd d0) r)) 0).d (fsw l f (fbeg (fit l f (zd d0) r)) 0).py from hMH.out)
      have hnx := Lib.hid (show fit l f (zd d0) (r + 1) = fsw l f (fbeg (fit l f (zd d0) r)) (2 * m) by rw [fit, helH.out])
      have hrM : (r : Int) * (2 * l.length * 1048576) ≤ 692060160 := by
        have := Int.mul_le_mul (show (r : Int) ≤ 11 by omega) (show (2 * l.length * 1048576 : Int) ≤ 62914560 by rw [helH.out]; omega) (by omega) (by omega)
        omega
      have hrMH := Lib.hid hrM
      generalize (r : Int) * (2 * l.length * 1048576) = M at *
      have hS0 := Lib.hid (show (fbeg (fit l f (zd d0) r)).bt = false from rfl)
      generalize fbeg (fit l f (zd d0) r) = S0 at *
      clear hMH hrM
      go_wp2
      obtain ⟨wo, hwo⟩ : ∃ wo : World, wo = wr := ⟨_, rfl⟩
      go_loopw [7, 34] (fun b i wx => ∃ k : Nat, k ≤ 2 * m ∧ i = .int .i64 k ∧ b = .bool (fsw l f S0 k).bt ∧ RM B N m l A cap c p gl gd cd gb wx f (fsw l f S0 k).d (fsw l f S0 k).py ∧ w.grownBy wx (some gd)) (fun _ i _ => 2 * m - (intOf i).toNat)
      case atStart => exact ⟨0, by omega, rfl, by rw [fsw, hS0.out], hM0.out, hgH.out⟩
      case round =>
        clear hM0 hgH c1 hwo
        obtain ⟨k, hk, rfl, rfl, hM, hg⟩ := hrel
        have hgH := Lib.hid hg
        clear hg
        by_cases hk2 : k < 2 * m
        · have hk2' : (k : Int) < 2 * (m : Int) := by omega
          have hkl : (kst k).1 < m := kst_lt hk2
          have hstp := Lib.hid (show fsw l f S0 (k + 1) = fstp l f (fsw l f S0 k) (kst k) from rfl)
          have hbdk := hbdS.out k (by rw [helH.out]; omega)
          generalize fsw l f S0 k = S at *
          have hdl := dst_lt hnH.out (x := kst k) (by rw [helH.out]; exact hkl)
          have hcb := cst_bd hnH.out (x := kst k) (by rw [helH.out]; exact hkl)
          obtain ⟨j, bk, hjb, hq1, hq2⟩ : ∃ (j : Nat) (bk : Bool), kst k = (j, bk) ∧ (k : Int) / 2 = (j : Int) ∧ ((k : Int) % 2 == 1) = bk := ⟨k / 2, (k : Int) % 2 == 1, by
            unfold kst
            congr 1
            by_cases h : k % 2 = 1
            · have h2 : (k : Int) % 2 = 1 := by omega
              rw [h, h2]; rfl
            · have h1 : k % 2 = 0 := by omega
              have h2 : (k : Int) % 2 = 0 := by omega
              rw [h1, h2]; rfl, by omega, rfl⟩
          rw [hjb] at hstp hkl hdl hcb
          dsimp only at hkl
          have hMa := hM.alloc (.cells #[.int .i64 (j : Int), .bool bk] 47)
          have hK := Blk.new wr 47 #[.int .i64 (j : Int), .bool bk]
          have HR := Lib.hid (room_any B N m l A cap c p gl _ f hMa.ls hnH.out (j, bk) hkl hfH.out)
          rw [show stv (j, bk) = .agg #[.int .i64 (j : Int), .bool bk] from rfl] at HR
          have hsr : wr.heap.size < (wr.alloc (.cells #[.int .i64 (j : Int), .bool bk] 47)).heap.size := by simp
          have hsrH := Lib.hid hsr
          have hMaH := Lib.hid hMa; have hKH := Lib.hid hK
          have x0 := hK.cell (j := 0) rfl
          have x1 := hK.cell (j := 1) rfl
          have hg0H := Lib.hid (grown_later hgH.out ((Below.refl _ wr).alloc (Nat.le_refl _) (.cells #[.int .i64 (j : Int), .bool bk] 47)))
          obtain ⟨hda, hdb⟩ := hdl
          obtain ⟨_, lgd, _, lgb⟩ := hM.lt
          have hneab : src l (j, bk) ≠ dst l (j, bk) := fun e => by have := hnH.out.at (show j < l.length by rw [helH.out]; exact hkl); unfold src dst at e; dsimp only at e; split at e <;> omega
          clear hM hMa hK hsr hjb hgH
          go_wp2_with fail
          generalize wr.alloc (.cells #[.int .i64 (j : Int), .bool bk] 47) = wa at *
          refine HR.out.mono ?_
          rintro _ w3 ⟨rfl, hb3⟩
          have hM3 := hMaH.out.later hb3
          have hg3 := grown_later hg0H.out hb3
          have hK3 := hKH.out.below hb3 hsrH.out
          have x0 := hK3.cell (j := 0) rfl
          have x1 := hK3.cell (j := 1) rfl
          have cda := hM3.dcell hdb
          have cdb := hM3.dcell hda
          have hfz := hM3.dr.frozenAt (dst l (j, bk))
          have hM3H := Lib.hid hM3; have hg3H := Lib.hid hg3; have hK3H := Lib.hid hK3
          have hstp2 := Lib.hid (show fstp l f S (j, bk) = if 0 < rm l f (j, bk) ∧ S.d (src l (j, bk)) < far ∧ S.d (src l (j, bk)) + cst l (j, bk) < S.d (dst l (j, bk)) then ⟨updB S.d (dst l (j, bk)) (S.d (src l (j, bk)) + cst l (j, bk)), updB S.py (dst l (j, bk)) (j, bk), true⟩ else S from rfl)
          have hba := hbdk (src l (j, bk))
          have hCo := Lib.hid (fun W hW => cost_any B N m l A cap c p gl W f hW hnH.out (j, bk) hkl)
          rw [show stv (j, bk) = .agg #[.int .i64 (j : Int), .bool bk] from rfl] at hCo
          clear hM3 hg3 hK3 hMaH hKH hg0H HR hb3 hsrH hbdk
          generalize rm l f (j, bk) = room at *
          generalize hsa : src l (j, bk) = sa at *
          generalize hsb : dst l (j, bk) = sb at *
          generalize cst l (j, bk) = co at *
          generalize hva : S.d sa = va at *
          generalize hvb : S.d sb = vb at *
          have hk00 : (0 : Int) ≤ k := by omega
          have hfar : far = 1152921504606846976 := rfl
          have hM0 := hrMH.out
          have b0 := BW.cell x0; have b1 := BW.cell x1; have ba := BW.cell cda; have bb := BW.cell cdb
          have hsa0 : (0 : Int) ≤ sa := by omega
          have hsb0 : (0 : Int) ≤ sb := by omega
          have hsaN : (sa : Int) < N := by omega
          have hsbN : (sb : Int) < N := by omega
          by_cases hc1 : 0 < room
          · by_cases hc2 : va < far
            · have hwv : IntKind.i64.wrap (va + co) = va + co := IntWalk.i64_in _ (by rcases hba with h | h <;> omega)
              have hc2' : va < 1152921504606846976 := hc2
              by_cases hc3 : va + co < vb
              · have e := Lib.hid (hstp.out.trans (hstp2.out.trans (if_pos ⟨hc1, hc2, hc3⟩)))
                clear hstp hstp2
                go_wp2_with fail
                refine wp_region_below (by kernel_rfl) (by kernel_rfl) ?_
                repeat (go_big_quiet_step (first | rfl | (with_reducible refine Calls.bel (hCo.out _ ?_); exact hM3H.out.ls.later (BW.hb _))))
                refine wpQuiet_nil ?_
                rintro _ ⟨⟨wA, bA⟩, rfl⟩
                have hMA := hM3H.out.later bA
                have hgA := Lib.hid (grown_later hg3H.out bA)
                have hKA := Lib.hid (hK3H.out.below bA hK3H.out.lt)
                have y0 := hKA.out.cell (j := 0) rfl
                have y1 := hKA.out.cell (j := 1) rfl
                have ya := hMA.dcell hdb
                rw [hva] at ya
                have hMAH := Lib.hid hMA
                have hsz := bA.size
                clear hMA x0 x1 cda cdb hfz b0 b1 ba bb hM3H hg3H hK3H
                go_upto_region 11 with fail
                rename World => wA
                refine wp_region_held_drew (S := fun w' => w'.cell? ⟨wr.heap.size, 0, none⟩ = some (.int .i64 (j : Int)) ∧ w'.cell? ⟨wr.heap.size, 1, none⟩ = some (.bool bk) ∧ w'.cell? ⟨gd, sa, none⟩ = some (.int .i64 va)) (by kernel_rfl) ⟨y0, y1, ya⟩ (fun hHeld => ?_)
                have hMd := Lib.hid (hMAH.out.drewN 1)
                have hKd := Lib.hid (show Blk wA.drew wr.heap.size 47 #[.int .i64 (j : Int), .bool bk] from hKA.out)
                have hgd := Lib.hid (grown_trans' hgA.out (grown_drewN' wA 1 (some gd)))
                have hMd := Lib.hid (show RM B N m l A cap c p gl gd cd gb wA.drew f S.d S.py from hMd.out)
                have hgd := Lib.hid (show w.grownBy wA.drew (some gd) from hgd.out)
                have ya := hMd.out.dcell hdb
                rw [hva] at ya
                clear hKA hMAH hgA y0 y1
                generalize wA.drew = wd at *
                (refine wpAnyH_take (i := 0) (v := ?_) rfl (by kernel_rfl) (by kernel_rfl) (by kernel_rfl) (fun _ _ _ h => h) (Or.inl ⟨by rfl, ?_⟩) hHeld ?_; rotate_left; first | (intro w' hSw; go_simp; done) | (intro w' hSw; go_simp; with_reducible rfl))
                simp only [Act.put, List.getElem_toArray, List.getElem_cons_zero, List.setIfInBounds_toArray, List.set_cons_zero, List.set_cons_succ]
                (refine wpAnyH_take (i := 1) (v := ?_) rfl (by kernel_rfl) (by kernel_rfl) (by kernel_rfl) (fun _ _ _ h => h) (Or.inl ⟨by rfl, ?_⟩) hHeld ?_; rotate_left; first | (intro w' hSw; go_simp; done) | (intro w' hSw; go_simp; with_reducible rfl))
                simp only [Act.put, List.getElem_toArray, List.getElem_cons_zero, List.getElem_cons_succ, List.setIfInBounds_toArray, List.set_cons_zero, List.set_cons_succ]
                (refine wpAnyH_take (i := 2) (v := ?_) rfl (by kernel_rfl) (by kernel_rfl) (by kernel_rfl) (fun _ _ _ h => h) (Or.inl ⟨by rfl, ?_⟩) hHeld ?_; rotate_left; first | (intro w' hSw; go_simp; done) | (intro w' hSw; go_simp; with_reducible rfl))
                simp only [Act.put, List.getElem_toArray, List.getElem_cons_zero, List.getElem_cons_succ, List.setIfInBounds_toArray, List.set_cons_zero, List.set_cons_succ]
                (refine wpAnyH_take (i := 3) (v := ?_) rfl (by kernel_rfl) (by kernel_rfl) (by kernel_rfl) (fun _ _ _ h => h) (Or.inl ⟨by rfl, ?_⟩) hHeld ?_; rotate_left; first | (intro w' hSw; go_simp; done) | (intro w' hSw; go_simp; with_reducible rfl))
                simp only [Act.put, List.getElem_toArray, List.getElem_cons_zero, List.getElem_cons_succ, List.setIfInBounds_toArray, List.set_cons_zero, List.set_cons_succ]
                (refine wpAnyH_take (i := 4) (v := ?_) rfl (by kernel_rfl) (by kernel_rfl) (by kernel_rfl) (fun _ _ _ h => h) (Or.inl ⟨by rfl, ?_⟩) hHeld ?_; rotate_left; first | (intro w' hSw; go_simp; done) | (intro w' hSw; go_simp; with_reducible rfl))
                simp only [Act.put, List.getElem_toArray, List.getElem_cons_zero, List.getElem_cons_succ, List.setIfInBounds_toArray, List.set_cons_zero, List.set_cons_succ]
                (refine wpAnyH_take (i := 5) (v := ?_) rfl (by kernel_rfl) (by kernel_rfl) (by kernel_rfl) (fun _ _ _ h => h) (Or.inl ⟨by rfl, ?_⟩) hHeld ?_; rotate_left; first | (intro w' hSw; go_simp; done) | (intro w' hSw; go_simp; with_reducible rfl))
                simp only [Act.put, List.getElem_toArray, List.getElem_cons_zero, List.getElem_cons_succ, List.setIfInBounds_toArray, List.set_cons_zero, List.set_cons_succ]
                (refine wpAnyH_take (i := 8) (v := ?_) rfl (by kernel_rfl) (by kernel_rfl) (by kernel_rfl) (fun _ _ _ h => h) (Or.inl ⟨by rfl, ?_⟩) hHeld ?_; rotate_left; first | (intro w' hSw; go_simp; done) | (intro w' hSw; go_simp; with_reducible rfl))
                simp only [Act.put, List.getElem_toArray, List.getElem_cons_zero, List.getElem_cons_succ, List.setIfInBounds_toArray, List.set_cons_zero, List.set_cons_succ]
                (refine wpAnyH_take (i := 6) (v := ?_) rfl (by kernel_rfl) (by kernel_rfl) (by kernel_rfl) (fun _ _ _ h => h) (Or.inl ⟨by rfl, ?_⟩) hHeld ?_; rotate_left; first | (intro w' hSw; go_simp; done) | (intro w' hSw; go_simp; with_reducible rfl))
                simp only [Act.put, List.getElem_toArray, List.getElem_cons_zero, List.getElem_cons_succ, List.setIfInBounds_toArray, List.set_cons_zero, List.set_cons_succ]
                (refine wpAnyH_take (i := 7) (v := ?_) rfl (by kernel_rfl) (by kernel_rfl) (by kernel_rfl) (fun _ _ _ h => h) (Or.inl ⟨by rfl, ?_⟩) hHeld ?_; rotate_left; first | (intro w' hSw; (have hq := hSw.2.2); go_simp; done) | (intro w' hSw; (have hq := hSw.2.2); go_simp; with_reducible rfl))
                simp only [Act.put, List.getElem_toArray, List.getElem_cons_zero, List.getElem_cons_succ, List.setIfInBounds_toArray, List.set_cons_zero, List.set_cons_succ]
                (refine wpAnyH_take (i := 9) (v := ?_) rfl (by kernel_rfl) (by kernel_rfl) (by kernel_rfl) (fun _ _ _ h => h) (Or.inl ⟨by rfl, ?_⟩) hHeld ?_; rotate_left; first | (intro w' hSw; (have hq := hSw); go_simp; done) | (intro w' hSw; (have hq := hSw); go_simp; with_reducible rfl))
                simp only [Act.put, List.getElem_toArray, List.getElem_cons_zero, List.getElem_cons_succ, List.setIfInBounds_toArray, List.set_cons_zero, List.set_cons_succ]
                (refine wpAnyH_take (i := 12) (v := ?_) rfl (by kernel_rfl) (by kernel_rfl) (by kernel_rfl) (fun _ _ _ h => h) (Or.inl ⟨by rfl, ?_⟩) hHeld ?_; rotate_left; first | (intro w' hSw; (have hq := hSw); go_simp; done) | (intro w' hSw; (have hq := hSw); go_simp; with_reducible rfl))
                simp only [Act.put, List.getElem_toArray, List.getElem_cons_zero, List.getElem_cons_succ, List.setIfInBounds_toArray, List.set_cons_zero, List.set_cons_succ]
                clear ya
                refine wpAnyH_ready (rs := [10]) (by kernel_rfl) (by simp) ?_
                refine AllReadyH.cons rfl (fun K hK => ?_) AllReadyH.nil
                go_simp
                refine (hCo.out _ hMd.out.ls).mono ?_
                rintro _ w5 ⟨rfl, hb5⟩
                have hM5 := Lib.hid (hMd.out.later hb5); have hg5 := Lib.hid (grown_later hgd.out hb5); have hK5 := Lib.hid (hKd.out.below hb5 hKd.out.lt)
                refine hK.out _ _ ⟨hK5.out.cell (j := 0) rfl, hK5.out.cell (j := 1) rfl, by have := hM5.out.dcell hdb; rwa [hva] at this⟩ (fun hHeld => ?_)
                clear hK K hKd hMd hgd hb5
                (try simp only [Act.put, List.getElem_toArray, List.getElem_cons_zero, List.getElem_cons_succ, List.setIfInBounds_toArray, List.set_cons_zero, List.set_cons_succ])
                have cb5 := hM5.out.dcell hda
                have fb5 := hM5.out.dr.frozenAt sb
                (refine wpAnyH_take (i := 11) (v := ?_) rfl (by kernel_rfl) (by kernel_rfl) (by kernel_rfl) (fun _ _ _ h => h) (Or.inl ⟨by rfl, ?_⟩) hHeld ?_; rotate_left; first | (intro w' hSw; go_simp; done) | (intro w' hSw; go_simp; with_reducible rfl))
                simp only [Act.put, List.getElem_toArray, List.getElem_cons_zero, List.getElem_cons_succ, List.setIfInBounds_toArray, List.set_cons_zero, List.set_cons_succ]
                (refine wpAnyH_take (i := 13) (v := ?_) rfl (by kernel_rfl) (by kernel_rfl) (by kernel_rfl) (fun _ _ _ h => h) (Or.inl ⟨by rfl, ?_⟩) hHeld ?_; rotate_left; first | (intro w' hSw; go_simp; done) | (intro w' hSw; go_simp; with_reducible rfl))
                simp only [Act.put, List.getElem_toArray, List.getElem_cons_zero, List.getElem_cons_succ, List.setIfInBounds_toArray, List.set_cons_zero, List.set_cons_succ]
                refine wpAnyH_ready (rs := [14]) (by kernel_rfl) (by simp) ?_
                refine AllReadyH.cons rfl (fun K hK => ?_) AllReadyH.nil
                go_simp
                have hM6 := Lib.hid (hM5.out.setD sb (va + co)); have hg6 := Lib.hid (grown_trans' hg5.out (grown_setA w5 gd sb (.int .i64 (va + co)))); have hK6 := Lib.hid (hK5.out.other (a := ⟨gd, sb, none⟩) (by simp; omega) (.int .i64 (va + co)))
                refine hK.out _ _ ⟨hK6.out.cell (j := 0) rfl, hK6.out.cell (j := 1) rfl, by have := hM6.out.dcell hdb; rwa [updB_other _ _ hneab, hva] at this⟩ (fun hHeld => ?_)
                clear hK K hK5 hM5 hg5 cb5 fb5
                (try simp only [Act.put, List.getElem_toArray, List.getElem_cons_zero, List.getElem_cons_succ, List.setIfInBounds_toArray, List.set_cons_zero, List.set_cons_succ])
                generalize w5.setCell ⟨gd, sb, none⟩ (.int .i64 (va + co)) = w6 at *
                obtain ⟨cp0, cp1⟩ := hM6.out.pcell hda
                have fp0 := hM6.out.br.frozenAt (sb * 2)
                have fp1 := hM6.out.br.frozenAt (sb * 2 + 1)
                (refine wpAnyH_take (i := 15) (v := ?_) rfl (by kernel_rfl) (by kernel_rfl) (by kernel_rfl) (fun _ _ _ h => h) (Or.inl ⟨by rfl, ?_⟩) hHeld ?_; rotate_left; first | (intro w' hSw; go_simp; done) | (intro w' hSw; go_simp; with_reducible rfl))
                simp only [Act.put, List.getElem_toArray, List.getElem_cons_zero, List.getElem_cons_succ, List.setIfInBounds_toArray, List.set_cons_zero, List.set_cons_succ]
                refine wpAnyH_ready (rs := [16]) (by kernel_rfl) (by simp) ?_
                refine AllReadyH.cons rfl (fun K hK => ?_) AllReadyH.nil
                go_simp
                have hM7 := Lib.hid (hM6.out.setP sb (j, bk)); have hg7 := Lib.hid (grown_set_new (grown_set_new hg6.out (q := gb) (by rw [hgbH.out]; exact Nat.le_refl _) (sb * 2) (.int .i64 (j : Int))) (q := gb) (by rw [hgbH.out]; exact Nat.le_refl _) (sb * 2 + 1) (.bool bk)); have hK7 := Lib.hid ((hK6.out.other (a := ⟨gb, sb * 2, none⟩) (by simp; omega) (.int .i64 (j : Int))).other (a := ⟨gb, sb * 2 + 1, none⟩) (by simp; omega) (.bool bk))
                refine hK.out _ _ ⟨hK7.out.cell (j := 0) rfl, hK7.out.cell (j := 1) rfl, by have := hM7.out.dcell hdb; rwa [updB_other _ _ hneab, hva] at this⟩ (fun hHeld => ?_)
                clear hK K hK6 hM6 hg6 cp0 cp1 fp0 fp1
                (try simp only [Act.put, List.getElem_toArray, List.getElem_cons_zero, List.getElem_cons_succ, List.setIfInBounds_toArray, List.set_cons_zero, List.set_cons_succ])
                (refine wpAnyH_take (i := 17) (v := ?_) rfl (by kernel_rfl) (by kernel_rfl) (by kernel_rfl) (fun _ _ _ h => h) (Or.inl ⟨by rfl, ?_⟩) hHeld ?_; rotate_left; first | (intro w' hSw; go_simp; done) | (intro w' hSw; go_simp; with_reducible rfl))
                simp only [Act.put, List.getElem_toArray, List.getElem_cons_zero, List.getElem_cons_succ, List.setIfInBounds_toArray, List.set_cons_zero, List.set_cons_succ]
                refine wpAnyH_done (by kernel_rfl) ?_ _
                clear hHeld
                go_wp2
                go_roundw
                case rel => exact ⟨k + 1, by omega, by go_num, by rw [e.out], by rw [e.out]; exact hM7.out, hg7.out⟩
                case measure => simp [intOf]; omega
              · have e := Lib.hid (hstp.out.trans (hstp2.out.trans (if_neg fun h => hc3 h.2.2)))
                clear hstp hstp2
                go_wp2_with fail
                refine wp_region_below (by kernel_rfl) (by kernel_rfl) ?_
                repeat (go_big_quiet_step (first | rfl | (with_reducible refine Calls.bel (hCo.out _ ?_); exact hM3H.out.ls.later (BW.hb _))))
                refine wpQuiet_nil ?_
                rintro _ ⟨⟨wA, bA⟩, rfl⟩
                have hMA := Lib.hid (hM3H.out.later bA); have hgA := Lib.hid (grown_later hg3H.out bA)
                go_wp2
                go_roundw
                case rel => exact ⟨k + 1, by omega, by go_num, by rw [e.out], by rw [e.out]; exact hMA.out, hgA.out⟩
                case measure => simp [intOf]; omega
            · have hc2' : decide (va < 1152921504606846976) = false := decide_eq_false hc2
              have e := Lib.hid (hstp.out.trans (hstp2.out.trans (if_neg fun h => hc2 h.2.1)))
              clear hstp hstp2
              go_wp2_with fail
              refine wp_region_below (by kernel_rfl) (by kernel_rfl) ?_
              repeat (go_big_quiet_step (first | rfl | (with_reducible refine Calls.bel (hCo.out _ ?_); exact hM3H.out.ls.later (BW.hb _))))
              refine wpQuiet_nil ?_
              rintro _ ⟨⟨wA, bA⟩, rfl⟩
              have hMA := Lib.hid (hM3H.out.later bA); have hgA := Lib.hid (grown_later hg3H.out bA)
              go_wp2
              go_roundw
              case rel => exact ⟨k + 1, by omega, by go_num, by rw [e.out], by rw [e.out]; exact hMA.out, hgA.out⟩
              case measure => simp [intOf]; omega
          · have hc1' : decide (0 < room) = false := decide_eq_false hc1
            have e := Lib.hid (hstp.out.trans (hstp2.out.trans (if_neg fun h => hc1 h.1)))
            clear hstp hstp2
            go_wp2_with fail
            refine wp_region_below (by kernel_rfl) (by kernel_rfl) ?_
            repeat (go_big_quiet_step (first | rfl | (with_reducible refine Calls.bel (hCo.out _ ?_); exact hM3H.out.ls.later (BW.hb _))))
            refine wpQuiet_nil ?_
            rintro _ ⟨⟨wA, bA⟩, rfl⟩
            have hMA := Lib.hid (hM3H.out.later bA); have hgA := Lib.hid (grown_later hg3H.out bA)
            go_wp2
            go_roundw
            case rel => exact ⟨k + 1, by omega, by go_num, by rw [e.out], by rw [e.out]; exact hMA.out, hgA.out⟩
            case measure => simp [intOf]; omega
        · obtain rfl : k = 2 * m := by omega
          have hnxH := hnx.out
          have hM2 := Lib.hid hM
          rw [← hnxH] at hM2
          cases hbb : (fsw l f S0 (2 * m)).bt
          · have hfin := Lib.hid (show (fit l f (zd d0) (r + 1)).bt = false by rw [hnxH]; exact hbb)
            clear hM hbb hnxH
            go_wp2
            go_ret2
            exact ⟨gb, r + 1, by rw [hfin.out]; rfl, by omega, by omega, fun h => by (rw [hfin.out] at h; cases h), hM2.out, by rw [hgbH.out]; exact Nat.le_refl _, hgH.out⟩
          · have hfin := Lib.hid (show (fit l f (zd d0) (r + 1)).bt = true by rw [hnxH]; exact hbb)
            have hw3 : IntKind.i64.wrap ((r : Int) + 1) = (r : Int) + 1 := IntWalk.i64_in _ (by omega)
            clear hM hbb hnxH
            go_wp2
            go_roundw
            case rel => exact ⟨r + 1, by go_num, by omega, fun _ => hfin.out, hM2.out, hgH.out⟩
            case measure => simp [intOf]; omega
    · obtain rfl : r = N + 1 := by omega
      have hfin := Lib.hid (hbtH.out (by omega))
      go_wp2
      go_ret2
      exact ⟨gb, N + 1, by rw [hfin.out]; rfl, by omega, by omega, fun _ => rfl, hMH.out, by rw [hgbH.out]; exact Nat.le_refl _, hgH.out⟩
end Go.Proofs.Ytgengjneccpaiaa
