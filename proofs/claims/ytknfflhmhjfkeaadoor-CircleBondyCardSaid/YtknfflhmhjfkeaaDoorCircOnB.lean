/- circle: on, whole. -/
import Derived.Test.YtknfflhmhjfkeaaDoorCircOn
import Derived.StillTailTactics
namespace Go.Proofs.YtknfflhmhjfkeaaDoor
open Go.RowKit Go.Shelf
attribute [local go_sem] Oper.semAt_some

def unA {x : Nat} (l : List (Bt x)) : List Nat := l.map (·.1)
theorem unA_snoc {x : Nat} (l : List (Bt x)) (y : Bt x) : unA (l ++ [y]) = unA l ++ [y.1] := by simp [unA]
theorem tiI : TI Tryd.prog 25 3 (.int .i64 0) 1 8 := TI.mk' Tryd.underlying25 (by kernel_rfl) rfl (by decide)
/-- a row that reads is no record of a loop -/
theorem Rd.off {w w' : World} {A : Option Addr} {n s : Nat} {xs : List Value} {r : Option Nat} (h : Rd w A n s xs) (hs : 0 < s) (hg : w.grownBy w' r) (hr : ∀ k, r = some k → ∃ o, w.heap[k]? = some o ∧ o.isCells = false) : Rd w' A n s xs := by
  refine ⟨h.1, fun hn => ?_⟩
  obtain ⟨b, o, rfl, hlt, hc⟩ := h.2 hn
  refine ⟨b, o, rfl, Nat.lt_of_lt_of_le hlt hg.size, fun j hj => (hg.cell_far ⟨b, o + j, none⟩ hlt fun e => ?_).trans (hc j hj)⟩
  obtain ⟨ob, h1, h2⟩ := hr b e.symm
  have h3 := hc 0 (Nat.mul_pos hn hs)
  have h4 : 0 < xs.length := by rw [h.1]; exact Nat.mul_pos hn hs
  unfold World.cell? at h3
  rw [h1] at h3
  cases ob <;> simp_all [Obj.isCells]
/-- append of a row that reads, in a round -/
theorem wpListIn_appR {F : Fence} {l : Nat} {P : Program} {w : World} {ops : Array Oper} {rest : List Oper} {o : Oper} {a : Act} {Q : Exit → Act → World → Prop} {s x : Operand} {t e : TypeId} {z : Value} {bytes : Nat} (T : TI P t e z 1 bytes)
    {base k m c : Nat} {v : Value} {xs news : List Value} {ad : Addr} (hown : w.ownsRow base e 1 v k xs) (hr : Rd w (some ad) m 1 news) (hm : 0 < m) (h1 : ∀ u ∈ news, u.oneCell' = true) (b2 : (k + m) * bytes ≤ 140737488355328) (b1 : k + m ≤ 9223372036854775807) (b3 : base ≤ w.heap.size)
    (hg : o.guard = none) (hop : o.op = Op.call { callee := Callee.builtin Builtin.append, args := #[s, x], argTypes := #[t, t] }) (hs : a.eval s = v) (hx : a.eval x = .slice (some ad) m c)
    (hK : ∀ v' w', w'.ownsRow base e 1 v' (k + m) (xs ++ news) → w.grownBy w' v.ownBlock → wpListIn F l P ops Q rest (a.put o.dst v') w') :
    wpListIn F l P ops Q (o :: rest) a w := by
  obtain ⟨i, hi, hz, hsize, hby⟩ := T.hi
  obtain ⟨b, o', hA, hlt, hc⟩ := hr.2 hm
  injection hA with hA
  subst hA
  refine wpListIn_append_own w hg s x t hop base e i z 1 bytes T.ht hi hz hsize hby T.hzs T.hsz v k xs hs hown ⟨b, o', none⟩ m c news hx hr.1 (fun j y hj => ?_) h1 b1 b2 b3 (fun v' w' h2 h3 _ => hK v' w' h2 h3)
  have hj' : j < m * 1 := by rw [← hr.1]; exact (List.getElem?_eq_some_iff.1 hj).1
  have hh := hc j hj'
  rw [show (⟨b, o', none⟩ : Addr).add j = ⟨b, o' + j, none⟩ by unfold Addr.add; by_cases h : j = 0 <;> simp [h], hh]
  exact hj
theorem ndv_cons (a : Nat) (l : List Nat) : ndv (a :: l) = Value.int .i64 (a : Int) :: ndv l := rfl
theorem ndv_one (l : List Nat) : ∀ u ∈ ndv l, u.oneCell' = true := fun u hu => by
  simp only [ndv, List.mem_map] at hu
  obtain ⟨_, _, rfl⟩ := hu
  rfl
/-- what the loop over the next ones holds -/
structure OI (ns : List Nat) (n p B cn : Nat) (A : Option Addr) (L : List (Int × Int)) (a x s t : Nat) (w : World) {z : Nat} (pre : List (Bt z)) (W : World) : Prop where
  b0 : Boxed W s 39 (.pointer (some ⟨p, 0, none⟩))
  b1 : Boxed W (s + 1) 3 (.int .i64 a)
  b2 : Boxed W (s + 2) 46 (.int .u32 (x : Int))
  b3 : Boxed W (s + 3) 25 (.slice none 0 0)
  b4 : Blk W (s + 4) 54 #[.int .u32 (a : Int), .int .u32 (x : Int)]
  g : w.grownBy W (some B)
  sz : t ≤ W.heap.size
  st : ∃ M, SK ns n p B cn A W (L ++ M) ∧ ∀ c ∈ M, c.2 < (x : Int)
  no : ∀ c ∈ unA pre, ∀ R, ¬ Wy ns c (del x c) R
def OX (ns : List Nat) (B a x s t : Nat) (w : World) {z : Nat} (c : Code) (_ : List (Bt z)) (W : World) : Prop :=
  c = .ret ∧ w.grownBy W (some B) ∧ ∃ A' k R, Boxed W (s + 3) 25 (.slice (some A') R.length k) ∧ Rd W (some A') R.length 1 (ndv R) ∧ R.length ≤ k ∧ t ≤ A'.block ∧ Wy ns a x R
section
variable {ns : List Nat} {n p B cn a x s t z : Nat} {A : Option Addr} {L : List (Int × Int)} {w : World}
theorem OI.abides {pre : List (Bt z)} {X C : World} {row : Option Nat} (h : OI ns n p B cn A L a x s t w pre X) (hs : w.heap.size = s) (hp : p < s) (hB : B < s) (hA : ∀ b o, A = some ⟨b, o, none⟩ → b < s) (hg : X.grownBy C row) (hr : ∀ r, row = some r → s + 5 ≤ r) : OI ns n p B cn A L a x s t w pre C := by
  have ne : ∀ b, b < s + 5 → some b ≠ row := fun b hb e => by have := hr b e.symm; omega
  obtain ⟨M, h1, h2⟩ := h.st
  exact ⟨h.b0.kept hg (ne _ (by omega)), h.b1.kept hg (ne _ (by omega)), h.b2.kept hg (ne _ (by omega)), h.b3.kept hg (ne _ (by omega)), h.b4.kept hg (ne _ (by omega)), grown_above h.g hg (fun r e => by have := hr r e; omega), Nat.le_trans h.sz hg.size, ⟨M, h1.grown hg (ne _ (by omega)) (fun b o e => ne _ (by have := hA b o e; omega)) (ne _ (by omega)), h2⟩, h.no⟩
theorem OX.abides {pre : List (Bt z)} {c : Code} {X C : World} {row : Option Nat} (h : OX ns B a x s t w c pre X) (hs : w.heap.size = s) (hg : X.grownBy C row) (hr : ∀ r, row = some r → s + 5 ≤ r)
    (h2 : (∀ k, row = some k → ∃ o, X.heap[k]? = some o ∧ o.isCells = false) ∨ ∀ k, row = some k → k < t) : OX ns B a x s t w c pre C := by
  obtain ⟨h1, hb, A', k, R, h3, h4, h5, h6, h7⟩ := h
  have ne : ∀ b, b < s + 5 → some b ≠ row := fun b hb e => by have := hr b e.symm; omega
  refine ⟨h1, grown_above hb hg (fun r e => by have := hr r e; omega), A', k, R, h3.kept hg (ne _ (by omega)), ?_, h5, h6, h7⟩
  rcases h2 with h2 | h2
  · exact h4.off (by omega) hg h2
  · exact h4.grown hg (fun b o e er => by cases e; have := h2 b er; simp at h6; omega)
end
set_option maxHeartbeats 3200000 in
set_option maxRecDepth 100000 in
set_option linter.unusedSimpArgs false in
theorem on_any (ns : List Nat) (n p B cn : Nat) (A : Option Addr) (g : Gr n ns) (hgB : 0 < B) : ∀ (d a x : Nat), (bitsL x).length = d → a < n → x < 2 ^ n → ∀ (L : List (Int × Int)) (w : World), SK ns n p B cn A w L → Tb w →
    Calls Tryd.prog 14 #[.pointer (some ⟨p, 0, none⟩), .int .i64 a, .int .u32 (x : Int)] w (OnPost ns n p B cn A L a x w) := by
  have hn10 := g.n10
  have hp10 : 2 ^ n ≤ 2 ^ 10 := Nat.pow_le_pow_right (by omega) hn10
  intro d
  induction d with
  | zero =>
    intro a x hd han hx L w hS htb
    obtain rfl := bitsL_none (show x < 2 ^ 32 by omega) hd
    exact on_zero ns n p B cn A g a han L w hS
  | succ d ih =>
    intro a x hd han hx L w hS htb
    have hx32 : x < 2 ^ 32 := by omega
    have hx0 : x ≠ 0 := fun e => by subst e; simp [show bitsL 0 = [] by decide] at hd
    have hb1 := (((((Below.refl _ w).alloc (Nat.le_refl _) (.cells #[.pointer (some ⟨p, 0, none⟩)] 39)).alloc (by simp) (.cells #[.int .i64 a] 3)).alloc (by simp; omega) (.cells #[.int .u32 (x : Int)] 46)).alloc (by simp; omega) (.cells #[.slice none 0 0] 25))
    have hSB := hS.later hb1
    have b0 := (((Boxed.new w 39 (.pointer (some ⟨p, 0, none⟩))).alloc (.cells #[.int .i64 a] 3)).alloc (.cells #[.int .u32 (x : Int)] 46)).alloc (.cells #[.slice none 0 0] 25)
    have b1 := ((Boxed.new (w.alloc (.cells #[.pointer (some ⟨p, 0, none⟩)] 39)) 3 (.int .i64 a)).alloc (.cells #[.int .u32 (x : Int)] 46)).alloc (.cells #[.slice none 0 0] 25)
    have b2 := (Boxed.new ((w.alloc (.cells #[.pointer (some ⟨p, 0, none⟩)] 39)).alloc (.cells #[.int .i64 a] 3)) 46 (.int .u32 (x : Int))).alloc (.cells #[.slice none 0 0] 25)
    have b3 := Boxed.new (((w.alloc (.cells #[.pointer (some ⟨p, 0, none⟩)] 39)).alloc (.cells #[.int .i64 a] 3)).alloc (.cells #[.int .u32 (x : Int)] 46)) 25 (.slice none 0 0)
    simp only [World.size_alloc, Nat.add_assoc, Nat.reduceAdd] at b1 b2 b3
    have hsz : ((((w.alloc (.cells #[.pointer (some ⟨p, 0, none⟩)] 39)).alloc (.cells #[.int .i64 a] 3)).alloc (.cells #[.int .u32 (x : Int)] 46)).alloc (.cells #[.slice none 0 0] 25)).heap.size = w.heap.size + 4 := by simp
    have hpl := hS.bk.lt
    have hBl := isMap_lt hS.mp
    have hAl : ∀ b o, A = some ⟨b, o, none⟩ → b < w.heap.size := fun b o e => by
      obtain ⟨b', o', e', hlt, _⟩ := hS.rn.2 (by omega)
      rw [e] at e'; cases e'; exact hlt
    have hSH := Lib.hid hS; have htbH := Lib.hid htb; have hAlH := Lib.hid hAl
    have hx0b : ((x : Int) == 0) = false := by simp; omega
    have haw : IntKind.u32.wrap (a : Int) = (a : Int) := by rw [IntKind.wrap_u32']; exact Int.emod_eq_of_lt (by omega) (by omega)
    clear hS htb hAl
    refine calls_of_wp_calm 4 Tryd.func14 rfl ?_
    simp only [Tryd.ntmps14, List.size_toArray, List.length_cons, List.length_nil, Nat.reduceAdd, Nat.reduceSub, Array.replicate_succ, Array.replicate_zero, List.push_toArray, List.append_toArray, List.nil_append, List.cons_append]
    go_upto_region 5 with fail
    simp only [Nat.add_assoc, Nat.reduceAdd]
    generalize (((w.alloc (.cells #[.pointer (some ⟨p, 0, none⟩)] 39)).alloc (.cells #[.int .i64 a] 3)).alloc (.cells #[.int .u32 (x : Int)] 46)).alloc (.cells #[.slice none 0 0] 25) = wB at *
    have c1 := b1.cell; have c2 := b2.cell
    have hb1H := Lib.hid hb1; have b0H := Lib.hid b0; have b1H := Lib.hid b1; have b2H := Lib.hid b2; have b3H := Lib.hid b3; have hSBH := Lib.hid hSB
    clear hb1 b0 b1 b2 b3 hSB
    go_upto_region 6 with fail
    have b4 := Blk.new wB 54 #[.int .u32 (a : Int), .int .u32 (x : Int)]
    rw [hsz] at b4
    have hbC := hb1H.out.alloc (by omega) (.cells #[.int .u32 (a : Int), .int .u32 (x : Int)] 54)
    have b0 := b0H.out.alloc (.cells #[.int .u32 (a : Int), .int .u32 (x : Int)] 54)
    have b1 := b1H.out.alloc (.cells #[.int .u32 (a : Int), .int .u32 (x : Int)] 54)
    have b2 := b2H.out.alloc (.cells #[.int .u32 (a : Int), .int .u32 (x : Int)] 54)
    have b3 := b3H.out.alloc (.cells #[.int .u32 (a : Int), .int .u32 (x : Int)] 54)
    have hSC := hSH.out.later hbC
    have hszC : (wB.alloc (.cells #[.int .u32 (a : Int), .int .u32 (x : Int)] 54)).heap.size = w.heap.size + 5 := by simp [hsz]
    clear b0H b1H b2H b3H hSBH hb1H c1 c2
    generalize wB.alloc (.cells #[.int .u32 (a : Int), .int .u32 (x : Int)] 54) = wC at *
    have c0 := b0.cell
    have k1 := hSC.bk.cell (j := 1) rfl
    have e0 := b4.cell (j := 0) rfl; have e1 := b4.cell (j := 1) rfl
    have e4 := b4.lt
    have hpC := hSC.bk.lt
    by_cases hin : ((a : Int), (x : Int)) ∈ L
    · have hlk := fun k => lookQ_in (c := ((a : Int), (x : Int))) (W := wC.drewN k) (hSC.drewN k).mp hin
      unfold qk at hlk
      dsimp only at hlk
      have hno := Lib.hid (fun R => show ¬ Wy ns a x R by
        obtain ⟨a', x', e, h⟩ := hSC.no _ hin
        simp only [Prod.mk.injEq, Int.natCast_inj] at e
        obtain ⟨rfl, rfl⟩ := e
        exact h R)
      have b3H := Lib.hid b3; have hbCH := Lib.hid hbC
      clear b0 b1 b2 b3 b4 hbC hSC hin
      go_quiet (fail)
      have b3q : Boxed (wC.drewN nq) (w.heap.size + 3) 25 (.slice none 0 0) := b3H.out
      have hbq := below_drewN hbCH.out nq
      generalize wC.drewN nq = wq at *
      have c6 := b3q.frozen
      have c7 := b3q.cell
      have hl3' := b3q.lt
      have b3f := Lib.hid (b3q.set (.slice none 0 0))
      have hbf := Lib.hid (hbq.setCell (p := ⟨w.heap.size + 3, 0, none⟩) (by simp) (.slice none 0 0))
      clear hbq b3q c0 k1 e0 e1 hlk
      go_wp2
      refine leaves_marks (B := w.heap.size + 4) (T := 0) (ds := []) trivial fun w' hb' => ⟨.slice none 0 0, by have k6 := Boxed.cell ((hb'.block _ (by omega)).trans b3f.out); simp [results, Tryd.results14, go_sem, k6], ?_⟩
      have hbw := hbf.out.trans (hb'.mono (by omega))
      exact ⟨grown_of_below _ hbw, .inr ⟨rfl, hno.out, [], by rw [List.append_nil]; exact hSH.out.later hbw, fun c hc => by cases hc⟩⟩
    · have hlk := fun k => lookQ_out (c := ((a : Int), (x : Int))) (W := wC.drewN k) (hSC.drewN k).mp hin
      unfold qk at hlk
      dsimp only at hlk
      have b0H := Lib.hid b0; have b1H := Lib.hid b1; have b2H := Lib.hid b2; have b3H := Lib.hid b3; have b4H := Lib.hid b4; have hbCH := Lib.hid hbC; have hinH := Lib.hid hin; have hSCH := Lib.hid hSC
      clear b0 b1 b2 b3 b4 hbC hin hSC
      go_quiet (fail)
      have b0q : Boxed (wC.drewN nq) w.heap.size 39 (.pointer (some ⟨p, 0, none⟩)) := b0H.out
      have b1q : Boxed (wC.drewN nq) (w.heap.size + 1) 3 (.int .i64 a) := b1H.out
      have b2q : Boxed (wC.drewN nq) (w.heap.size + 2) 46 (.int .u32 (x : Int)) := b2H.out
      have b3q : Boxed (wC.drewN nq) (w.heap.size + 3) 25 (.slice none 0 0) := b3H.out
      have b4q : Blk (wC.drewN nq) (w.heap.size + 4) 54 #[.int .u32 (a : Int), .int .u32 (x : Int)] := b4H.out
      have hbq := below_drewN hbCH.out nq
      have hSq := hSCH.out.drewN nq
      have hsq : (wC.drewN nq).heap.size = w.heap.size + 5 := hszC
      generalize wC.drewN nq = wq at *
      clear b0H b1H b2H b3H b4H hSCH hbCH c0 k1 e0 e1 e4 hpC hszC hlk
      have hy := Nat.lt_of_lt_of_le (g.lt a) hp10
      have hstepA := Lib.hid (fun R i (h : (ns.getD a 0 &&& x).testBit i = true) => @Wy.of_step ns a x i R h)
      have hstepB := Lib.hid (fun R => @Wy.to_step ns a x R)
      obtain ⟨ga, go, hAe, hga, hca⟩ := hSq.rn.wd han
      generalize ns.getD a 0 = y at *
      have hand := u32_and_nat y x (by omega) (by omega)
      have hzx : y &&& x ≤ x := Nat.and_le_right
      obtain ⟨z, hze⟩ : ∃ z, y &&& x = z := ⟨_, rfl⟩
      have hzb := Lib.hid (fun j (h : (y &&& x).testBit j = true) => show x.testBit j = true by rw [Nat.testBit_and, Bool.and_eq_true] at h; exact h.2)
      rw [hze] at hand hzx hstepA hstepB hzb
      clear hze
      have c0 := b0q.cell; have c1 := b1q.cell; have c2 := b2q.cell
      have k0 := hSq.bk.cell (j := 0) rfl
      rw [hAe] at k0
      have hpq := hSq.bk.lt
      have h0a : (0 : Int) ≤ a := by omega
      have han' : (a : Int) < n := by omega
      have d0 : wq.drew.cell? ⟨w.heap.size, 0, none⟩ = some (.pointer (some ⟨p, 0, none⟩)) := c0
      have d1 : wq.drew.cell? ⟨w.heap.size + 1, 0, none⟩ = some (.int .i64 a) := c1
      have d2 : wq.drew.cell? ⟨w.heap.size + 2, 0, none⟩ = some (.int .u32 (x : Int)) := c2
      have dk : wq.drew.cell? ⟨p, 0, none⟩ = some (.slice (some ⟨ga, go, none⟩) n cn) := k0
      have da : wq.drew.cell? ⟨ga, go + a, none⟩ = some (.int .u32 (y : Int)) := hca
      have b0H := Lib.hid b0q; have b1H := Lib.hid b1q; have b2H := Lib.hid b2q; have b3H := Lib.hid b3q; have b4H := Lib.hid b4q; have hbqH := Lib.hid hbq; have hSqH := Lib.hid hSq
      clear b0q b1q b2q b3q b4q hbq hSq
      go_upto_region 8 with fail
      go_still_tail 9, (by kernel_rfl)
      change wpList _ _ _ _ _ wq.drew
      have b0d : Boxed wq.drew w.heap.size 39 (.pointer (some ⟨p, 0, none⟩)) := b0H.out
      have b1d : Boxed wq.drew (w.heap.size + 1) 3 (.int .i64 a) := b1H.out
      have b2d : Boxed wq.drew (w.heap.size + 2) 46 (.int .u32 (x : Int)) := b2H.out
      have b3d : Boxed wq.drew (w.heap.size + 3) 25 (.slice none 0 0) := b3H.out
      have b4d : Blk wq.drew (w.heap.size + 4) 54 #[.int .u32 (a : Int), .int .u32 (x : Int)] := b4H.out
      have hbd : Below w.heap.size w wq.drew := hbqH.out.drew
      have hSd := hSqH.out.drewN 1
      change SK ns n p B cn A wq.drew L at hSd
      have hsd : wq.drew.heap.size = w.heap.size + 5 := hsq
      clear b0H b1H b2H b3H b4H hbqH hSqH c0 c1 c2 k0 hca d0 d1 d2 dk da hsq
      generalize wq.drew = wd at *
      have hsdH := Lib.hid hsd
      clear hsd
      go_wp2_with fail
      refine (each_any z wd).mono ?_
      rintro e w6 ⟨rfl, rfl⟩
      have hsd := hsdH.out
      have bE := Boxed.new wd 46 (.int .u32 (z : Int))
      rw [hsd] at bE
      have hszC : (wd.alloc (.cells #[.int .u32 (z : Int)] 46)).heap.size = w.heap.size + 6 := by simp [hsd]
      have hbC := hbd.alloc (by omega) (.cells #[.int .u32 (z : Int)] 46)
      have h0I : OI ns n p B cn A L a x w.heap.size (w.heap.size + 6) w ([] : List (Bt z)) (wd.alloc (.cells #[.int .u32 (z : Int)] 46)) :=
        ⟨b0d.alloc _, b1d.alloc _, b2d.alloc _, b3d.alloc _, b4d.alloc _, grown_of_below _ hbC, by omega, ⟨[], by rw [List.append_nil]; exact hSd.later ((Below.refl _ wd).alloc (Nat.le_refl _) _), fun c hc => by cases hc⟩, fun c hc => by cases hc⟩
      have htC := htbH.out.below (by omega) hbC
      have hz32 : z < 4294967296 := by omega
      have hzn : z < 2 ^ n := by omega
      clear b0d b1d b2d b3d b4d hbd hSd hand
      go_wp2
      refine (wpIn_wide (n := 4)).1 ?_
      generalize wd.alloc (.cells #[.int .u32 (z : Int)] 46) = wC2 at *
      generalize hss : w.heap.size = s at *
      have hAs := hAlH.out
      refine' rangeFunc_box (n := 4) (α := Bt z) (gf := 21) (lb := #[.pointer (some ⟨s + 5, 0, none⟩)]) (by omega) rfl (enters_of Tryd.func21 (by kernel_rfl) rfl)
        (each_stops 3 (by omega) (s + 5) B z hz32 wC2 htC hgB (by omega) bE (by omega)) (by omega) (fun h h' => KpE.trans h h') (kpE_b (by omega) (by omega)) (Below.refl _ _) (fun _ => rfl)
        (OI ns n p B cn A L a x s (s + 6) w) (OX ns B a x s (s + 6) w) ?hI ?hIb ?hX ?hXb h0I _ ?assign ?body ?done ?stop
      case hI => exact fun pre A C row h hg hr => h.abides hss hpl hBl hAs hg (fun r e => by have := hr r e; omega)
      case hIb => exact fun pre A C row h hg hr => h.abides hss hpl hBl hAs hg (fun r e => by have := hr r e; omega)
      case hX => exact fun c pre A C row h hg hr => h.abides hss hg (fun r e => by have := hr r e; omega) (.inl fun k e => (hr k e).2)
      case hXb => exact fun c pre A C row h hg hr => h.abides hss hg (fun r e => by have := hr r e; omega) (.inr fun k e => by have := hr k e; omega)
      case assign =>
        intro l0 y W K hK
        gi_wp2
        exact hK
      case body =>
        rintro l0 pre yy W ⟨b0, b1, b2, b3, b4, hg, hsW, ⟨M, hS, hM⟩, hno⟩ _
        obtain ⟨c, hcy⟩ : ∃ c, yy.1 = c := ⟨_, rfl⟩
        have hcz : z.testBit c = true := by rw [← hcy]; exact yy.2.2
        have hsn := Lib.hid (show unA (pre ++ [yy]) = unA pre ++ [c] by rw [unA_snoc, hcy])
        simp only [hcy]
        have hcx := hzb.out c hcz
        have hcn : c < n := lt_bitN hx hcx
        have hpw : IntKind.u32.wrap ((2 : Int) ^ c) = ((2 ^ c : Nat) : Int) := by rw [IntKind.wrap_u32']; exact two_pow_u32 c (by omega)
        have hpc : 2 ^ c < 2 ^ 32 := Nat.pow_lt_pow_right (by omega) (by omega)
        have hdw : bits .andNot .u32 (x : Int) ((2 ^ c : Nat) : Int) = ((del x c : Nat) : Int) := u32_andNot_nat x (2 ^ c) (by omega) (by omega)
        have hdw2 : bits .andNot .u32 (x : Int) ((2 : Int) ^ c) = ((del x c : Nat) : Int) := by rw [show ((2 : Int) ^ c) = ((2 ^ c : Nat) : Int) by simp]; exact hdw
        have hdl := del_lt hx32 hcx
        have hperm := bitsL_sub hx32 hcx
        have hdd : (bitsL (del x c)).length = d := by have := hperm.length_eq; rw [hd] at this; simpa using this
        have htW := tb_grown htbH.out hg hgB
        have HR := Lib.hid (ih c (del x c) hdd hcn (by omega) (L ++ M) W.drew (hS.drewN 1) htW)
        have hlenW := Lib.hid (fun R => @Wy.len ns d c (del x c) R (by omega) hdd)
        have hd11 : d ≤ 32 := by
          have h1 : (bitsL (del x c)).length ≤ 32 := by unfold bitsL; exact Nat.le_trans (List.length_filter_le _ _) (by simp)
          omega
        have hstA := Lib.hid (fun R => hstepA.out R c hcz)
        have hdr := Lib.hid (show (del x c : Nat) < x from hdl)
        obtain ⟨x', hxe⟩ : ∃ x', del x c = x' := ⟨_, rfl⟩
        have hxeH := Lib.hid hxe
        rw [hxe] at hdw hdw2 HR hlenW hstA hdr hdl hdd hperm
        clear hxe
        have d0 : W.drew.cell? ⟨s, 0, none⟩ = some (.pointer (some ⟨p, 0, none⟩)) := b0.cell
        have d2 : W.drew.cell? ⟨s + 2, 0, none⟩ = some (.int .u32 (x : Int)) := b2.cell
        have hc0 : (0 : Int) ≤ c := by omega
        have hc32 : (c : Int) < 32 := by omega
        have b0H := Lib.hid b0; have b1H := Lib.hid b1; have b2H := Lib.hid b2; have b3H := Lib.hid b3; have b4H := Lib.hid b4; have hgH := Lib.hid hg; have hSH2 := Lib.hid hS; have hMH := Lib.hid hM; have hnoH := Lib.hid hno
        clear b0 b1 b2 b3 b4 hg hS hM hno hperm hdd htW ih hdl hcx
        gi_wp2
        refine region_round_tail 6 (by kernel_rfl) (by kernel_rfl) (by kernel_rfl) (by rintro ⟨a, w, h⟩; exact h) ?_
        simp only [List.take_succ_cons, List.take_zero, List.drop_succ_cons, List.drop_zero]
        still_step
        still_step
        still_step
        still_step
        still_step
        still_step
        refine wpStill_nil ?_
        change wpList _ _ _ _ _ W.drew
        clear d0 d2
        go_wp2_with fail
        refine HR.out.mono ?_
        rintro e W3 ⟨hg3', hcase⟩
        clear HR
        have hg3 : W.grownBy W3 (some B) := grown_trans (grown_drewN W 1 _) hg3'
        have hs3 := hg3.size
        have ne : ∀ b, b ≠ B → some b ≠ some B := fun b hb e => hb (by simpa using e)
        have b1 := b1H.out.kept hg3 (ne _ (by omega))
        have b3 := b3H.out.kept hg3 (ne _ (by omega))
        rcases hcase with ⟨A', c', R, rfl, hR, hRc, hA', hWy⟩ | ⟨rfl, hno2, M2, hS2, hM2⟩
        · have hRl := hlenW.out R hWy
          have hWy2 := hstA.out R hWy
          obtain ⟨bA, oA, hAe, hbAl, _⟩ := hR.2 (by omega)
          injection hAe with hAe
          subst hAe
          simp only [World.size_drew] at hA'
          have c1 := b1.cell
          have c3 := b3.cell; have f3 := b3.frozen; have l3 := b3.lt
          have hRH := Lib.hid hR; have b3H3 := Lib.hid b3; have hg3H := Lib.hid hg3; have hWyH := Lib.hid hWy2
          clear hR b1 b3 hg3 hWy hWy2 hg3' ne
          generalize hm : R.length = m at *
          have hmH := Lib.hid hm
          have hm0 : 0 < m := by omega
          have hm33 : m ≤ 33 := by omega
          clear hm hRl
          go_upto_region 11 with fail
          have hrow : (W3.alloc (.cells #[.int .i64 (a : Int)] 3)).ownsRow W3.heap.size 3 1 (.slice (some ⟨W3.heap.size, 0, none⟩) 1 1) 1 [.int .i64 (a : Int)] := World.ownsRow_lit W3 #[.int .i64 (a : Int)] 1 (Nat.le_refl _) (by unfold maxLen; omega) rfl
          have hrA := hRH.out.alloc (.cells #[.int .i64 (a : Int)] 3)
          have hrowH := Lib.hid hrow; have hrAH := Lib.hid hrA
          clear hrow hrA
          gi_wp2_with (gi_at_builtin
                       refine wpListIn_appR (s := .tmp 55) (x := .tmp 56) tiI hrowH.out hrAH.out hm0 (ndv_one R) (by omega) (by omega) (by simp) rfl rfl rfl rfl ?_
                       intro v' wA ownA gA
                       rw [Nat.add_comm 1 m] at ownA
                       obtain ⟨g', cap', rfl⟩ := ownsRow_succ ownA
                       have b3A := (b3H3.out.alloc (.cells #[.int .i64 (a : Int)] 3)).kept gA (by simp [Value.ownBlock]; omega)
                       have cA := b3A.cell; have fA := b3A.frozen; have lA := b3A.lt
                       have ownAH := Lib.hid ownA; have gAH := Lib.hid gA; have b3AH := Lib.hid b3A
                       clear ownA gA b3A)
          have hgs := grown_set wA (s + 3) 0 (.slice (some ⟨g', 0, none⟩) (m + 1) cap')
          have hgl := ownAH.out.lt g' rfl
          have hsA := gAH.out.size
          simp only [World.size_alloc] at hsA
          have hgT : W.grownBy wA (some B) := grown_above (grown_above hg3H.out (World.grownBy_alloc W3 (.cells #[.int .i64 (a : Int)] 3) none) (fun r e => by cases e)) gAH.out (fun r e => by simp only [Value.ownBlock, Option.some.injEq] at e; omega)
          have hrf : Rd (wA.setCell ⟨s + 3, 0, none⟩ (.slice (some ⟨g', 0, none⟩) (m + 1) cap')) (some ⟨g', 0, none⟩) (a :: R).length 1 (ndv (a :: R)) := by
            rw [List.length_cons, hmH.out]
            exact (Rd.of_own ownAH.out).grown hgs (fun b o e => by cases e; simp; omega)
          have hcap : m + 1 ≤ cap' := by
            rcases ownAH.out.2 with ⟨h, _⟩ | ⟨g1, cap1, cur, h, _, _, h2, _⟩
            · cases h
            · cases h; exact h2
          have hX : OX ns B a x s (s + 6) w .ret (pre ++ [yy]) (wA.setCell ⟨s + 3, 0, none⟩ (.slice (some ⟨g', 0, none⟩) (m + 1) cap')) :=
            ⟨rfl, grown_above (grown_trans hgH.out hgT) hgs (fun r e => by cases e; omega), ⟨g', 0, none⟩, cap', a :: R, by rw [List.length_cons, hmH.out]; exact b3AH.out.set _, hrf, by rw [List.length_cons, hmH.out]; exact hcap, by have := hgl.1; show s + 6 ≤ g'; omega, hWyH.out⟩
          have hKF : KeepsFrom wC2.heap.size W (wA.setCell ⟨s + 3, 0, none⟩ (.slice (some ⟨g', 0, none⟩) (m + 1) cap')) := (KeepsFrom.of_grownBy hgT (fun j e => by cases e; omega)).trans ((KeepsOthers.setCell _ _ _).from _)
          exact ⟨hKF, hX⟩
        · have b0 := b0H.out.kept hg3 (ne _ (by omega))
          have b2 := b2H.out.kept hg3 (ne _ (by omega))
          have b4 := b4H.out.kept hg3 (ne _ (by omega))
          have hI : OI ns n p B cn A L a x s (s + 6) w (pre ++ [yy]) W3 :=
            ⟨b0, b1, b2, b3, b4, grown_trans hgH.out hg3, by omega, ⟨M ++ M2, by rw [← List.append_assoc]; exact hS2, fun c' hc' => by
              rcases List.mem_append.1 hc' with h | h
              · exact hMH.out c' h
              · have := hM2 c' h; have := hdr.out; omega⟩, fun c' hc' => by
              rw [hsn.out] at hc'
              rcases List.mem_append.1 hc' with h | h
              · exact hnoH.out c' h
              · obtain rfl : c' = c := by simpa using h
                rw [hxeH.out]; exact hno2⟩
          have hKF : KeepsFrom wC2.heap.size W W3 := KeepsFrom.of_grownBy hg3 (fun j e => by cases e; omega)
          have hKp : KpE B (s + 5) W W3 := ⟨(Below.refl B W).grown hg3 (by omega) (fun k e => by cases e; omega), hg3.block (s + 5) (by omega) (ne _ (by omega))⟩
          have hIH := Lib.hid hI
          clear b0 b1 b2 b3 b4 hI hS2 hM2 hg3 hg3' ne
          go_upto_region 11 with fail
          gi_wp2
          exact ⟨hKF, hKp, hIH.out⟩
      case done =>
        rintro D ys W hD hys ⟨b0, b1, b2, b3, b4, hg, hsW, ⟨M, hS, hM⟩, hno⟩ hK
        have hys' : unA ys = bitsL z := hys
        have hno2 : ∀ R, ¬ Wy ns a x R := fun R hR => by
          obtain ⟨c, l', hc, hR2⟩ := hstepB.out R hR hx0
          have : c < 32 := lt_bitN (show z < 2 ^ 32 by omega) hc
          exact hno c (by rw [hys']; exact mem_bitsL.2 ⟨by omega, hc⟩) l' hR2
        have hmem : ((a : Int), (x : Int)) ∉ L ++ M := fun h => by
          rcases List.mem_append.1 h with h | h
          · exact hinH.out h
          · have := hM _ h; simp at this
        have hlM : (L ++ (M ++ [((a : Int), (x : Int))])).length = (L ++ M).length + 1 := by simp; omega
        have hSn : ∀ W', IsMap W' B (qm (L ++ M ++ [((a : Int), (x : Int))])) ((L ++ M).length + 1) → W.grownBy W' (some B) → SK ns n p B cn A W' (L ++ (M ++ [((a : Int), (x : Int))])) := fun W' hm hg' =>
          ⟨hS.bk.kept hg' (ne_of_apply_ne id (by simpa using hS.np)), hS.rn.grown hg' (fun b o e er => by cases er; exact hS.ne _ _ e rfl), by rw [hlM, ← List.append_assoc]; exact hm, hS.ne, hS.np, fun c hc => by
            rw [← List.append_assoc] at hc
            rcases List.mem_append.1 hc with h | h
            · exact hS.no c h
            · obtain rfl : c = ((a : Int), (x : Int)) := by simpa using h
              exact ⟨a, x, rfl, hno2⟩⟩
        obtain ⟨X2, hX2⟩ : ∃ X2, X2 = setMap W.drew B (qm (L ++ M) ++ [qme ((a : Int), (x : Int)) 0 (L ++ M).length]) ((L ++ M).length + 1) := ⟨_, rfl⟩
        obtain ⟨X3, hX3⟩ : ∃ X3, X3 = setMap X2 B (qm (L ++ M ++ [((a : Int), (x : Int))])) ((L ++ M).length + 1) := ⟨_, rfl⟩
        have hI2 : IsMap X2 B (qm (L ++ M) ++ [qme ((a : Int), (x : Int)) 0 (L ++ M).length]) ((L ++ M).length + 1) := by rw [hX2]; exact isMap_set (isMap_drew hS.mp) _ _
        have e1 := lookQ_out (c := ((a : Int), (x : Int))) (isMap_drew hS.mp) hmem
        have e2 := entryQ_new (c := ((a : Int), (x : Int))) (isMap_drew hS.mp) hmem
        have e3 := lookQ_new (c := ((a : Int), (x : Int))) hI2 hmem
        have e4 := storeQ_new (c := ((a : Int), (x : Int))) hI2
        have hI3 : IsMap X3 B (qm (L ++ M ++ [((a : Int), (x : Int))])) ((L ++ M).length + 1) := by rw [hX3]; exact isMap_set hI2 _ _
        have hg3 : W.grownBy X3 (some B) := by
          rw [hX3, hX2]
          exact grown_trans (grown_trans (grown_drewN W 1 _) (grown_setMap _ _)) (grown_setMap _ _)
        have hg2 : W.grownBy X2 (some B) := by
          rw [hX2]
          exact grown_trans (grown_drewN W 1 _) (grown_setMap _ _)
        rw [← hX2] at e2
        rw [← hX3] at e4
        unfold qk at e1 e2 e3
        dsimp only at e1 e2 e3
        have ne : ∀ b, b ≠ B → some b ≠ some B := fun b hb e => hb (by simpa using e)
        have b0c := b0.cell
        have k1c := hS.bk.cell (j := 1) rfl
        have q0c := b4.cell (j := 0) rfl; have q1c := b4.cell (j := 1) rfl
        have q4 := b4.lt; have kl := hS.bk.lt
        have b3X := b3.kept hg3 (ne _ (by omega))
        have c3 := b3X.cell; have f3 := b3X.frozen; have l3 := b3X.lt
        have hsX := hg3.size
        have hgs := grown_set X3 (s + 3) 0 (.slice none 0 0)
        have bf := b3X.set (.slice none 0 0)
        have hSF := (hSn X3 hI3 hg3).grown hgs (ne' (by omega)) (fun b o e => ne' (by have := hAs b o e; omega)) (ne' (by omega))
        have hgF := grown_above (grown_trans hg hg3) hgs (fun r e => by cases e; omega)
        have hDX : X3.heap[D]? = some (.deferred (some [])) := (hg3.block D (Array.getElem?_eq_some_iff.1 hK).1 (ne _ (by omega))).trans hK
        have hDF : (X3.setCell ⟨s + 3, 0, none⟩ (.slice none 0 0)).heap[D]? = some (.deferred (some [])) := (hgs.block D (Array.getElem?_eq_some_iff.1 hDX).1 (ne' (by omega))).trans hDX
        have hSFH := Lib.hid hSF; have hgFH := Lib.hid hgF; have bfH := Lib.hid bf; have hDH := Lib.hid hDF; have hnoH := Lib.hid hno2; have hMH := Lib.hid hM
        have hKH := Lib.hid hK
        obtain ⟨N, hN⟩ : ∃ N, (L ++ M).length = N := ⟨_, rfl⟩
        rw [hN] at e2 e4
        clear hX2 hX3 hI2 hI3 hg hg2 hg3 hS hSn hno hM hys hys' hno2 hmem hlM b0 b1 b2 b3 b4 b3X bf hgs hSF hgF hDX hDF hN hsX ne hK
        go_upto_region 13 with fail
        go_region
        all_goals
          go_wp2
          refine leaves_marksJ (B := s + 5) (J := fun W' => Boxed W' (s + 3) 25 (.slice none 0 0) ∧ w.grownBy W' (some B) ∧ SK ns n p B cn A W' (L ++ (M ++ [((a : Int), (x : Int))]))) (Marks.push (T := s + 5) (ds := []) trivial (by omega) (by omega) hDH.out) ⟨bfH.out, hgFH.out, hSFH.out⟩
            (fun V r o' hV hd hr => ⟨hV.1.kept (grownBy_putObj' V r o') (by simp; omega), grown_above hV.2.1 (grownBy_putObj' V r o') (fun r' e => by cases e; omega), hV.2.2.grown (grownBy_putObj' V r o') (ne' (by omega)) (fun b o e => ne' (by have := hAs b o e; omega)) (ne' (by omega))⟩)
            fun w' hw' => ⟨.slice none 0 0, by have k6 := hw'.1.cell; simp [results, Tryd.results14, go_sem, k6], hw'.2.1, .inr ⟨rfl, hnoH.out, M ++ [((a : Int), (x : Int))], hw'.2.2, fun c hc => by
              rcases List.mem_append.1 hc with h | h
              · exact Int.le_of_lt (hMH.out c h)
              · obtain rfl : c = ((a : Int), (x : Int)) := by simpa using h
                exact Int.le_refl _⟩⟩
      case stop =>
        rintro D c pre W hD _ ⟨rfl, hg, A', k, R, b3, hR, hRk, hA, hWh⟩ hK
        have bH := Lib.hid b3; have hgH := Lib.hid hg; have hRH := Lib.hid hR; have hAH := Lib.hid hA; have hWH := Lib.hid hWh; have hDH := Lib.hid hK
        have hsW : s ≤ W.heap.size := by have := b3.lt; omega
        clear b3 hg hR hA hWh hK
        gi_wp2
        refine leaves_marksJ (B := s + 5) (J := fun W' => Boxed W' (s + 3) 25 (.slice (some A') R.length k) ∧ w.grownBy W' (some B) ∧ Rd W' (some A') R.length 1 (ndv R)) (Marks.push (T := s + 5) (ds := []) trivial (by omega) (by omega) hDH.out) ⟨bH.out, hgH.out, hRH.out⟩
          (fun V r o' hV hd hr => ⟨hV.1.kept (grownBy_putObj' V r o') (by simp; omega), grown_above hV.2.1 (grownBy_putObj' V r o') (fun r' e => by cases e; omega), hV.2.2.off (by omega) (grownBy_putObj' V r o') (fun q e => by cases e; exact ⟨_, hd, rfl⟩)⟩)
          fun w' hw' => ⟨.slice (some A') R.length k, by have k6 := hw'.1.cell; simp [results, Tryd.results14, go_sem, k6], hw'.2.1, .inl ⟨A', k, R, rfl, hw'.2.2, hRk, by have := hAH.out; omega, hWH.out⟩⟩
end Go.Proofs.YtknfflhmhjfkeaaDoor
