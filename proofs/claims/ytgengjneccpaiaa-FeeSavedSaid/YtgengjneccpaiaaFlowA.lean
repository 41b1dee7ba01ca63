/- flow: Left in memory; Room, Push, Open. -/
import Derived.Test.YtgengjneccpaiaaFlowLaw
import Derived.Test.YtgengjneccpaiaaRow
import Derived.StillTailTactics
import Derived.BigQuiet
import Derived.Test.YtgengjneccpaiaaMarks
import Derived.Test.YtgengjneccpaiaaCalm
import Derived.Test.YtgengjneccpaiaaLast
import Derived.Test.YtgengjneccpaiaaBlk
namespace Go.Proofs.Ytgengjneccpaiaa
open Go.RowKit Go.Shelf

theorem grown_trans' {a b c : World} {r : Option Nat} (h : a.grownBy b r) (h' : b.grownBy c r) : a.grownBy c r :=
  ⟨h'.os.trans h.os, h'.tape.trans h.tape, h'.output.trans h.output, Nat.le_trans h.size h'.size, fun k hk hr => (h'.block k (Nat.lt_of_lt_of_le hk h.size) hr).trans (h.block k hk hr)⟩
theorem grown_drewN' (a : World) (k : Nat) (r : Option Nat) : a.grownBy (a.drewN k) r := ⟨rfl, rfl, rfl, Nat.le_refl _, fun _ _ _ => rfl⟩
def stv (x : Stp) : Value := .agg #[.int .i64 x.1, .bool x.2]
/-- a net at p, and what goes on each arc by now -/
structure LSt (B N m : Nat) (l : List Arc) (A : Option Addr) (cap c p gl : Nat) (W : World) (f : Nat → Int) : Prop where
  c0 : W.cell? ⟨p, 0, none⟩ = some (.int .i64 N)
  c1 : W.cell? ⟨p, 1, none⟩ = some (.slice A m cap)
  c2 : W.cell? ⟨p, 2, none⟩ = some (.slice (some ⟨gl, 0, none⟩) m c)
  ra : Rd W A m 4 (arcs l)
  ow : W.ownsRow B 2 1 (.slice (some ⟨gl, 0, none⟩) m c) m (row m f)
  ne : gl ≠ p
  aB : 0 < m → ∀ b o, A = some ⟨b, o, none⟩ → b < B
section
variable {B N m : Nat} {l : List Arc} {A : Option Addr} {cap c p gl : Nat} {W W' : World} {f : Nat → Int}
theorem LSt.len (h : LSt B N m l A cap c p gl W f) : l.length = m := arcs_len h.ra
theorem LSt.lt (h : LSt B N m l A cap c p gl W f) : p < W.heap.size ∧ gl < W.heap.size := ⟨World.block_lt_of_cell? W _ h.c0, (h.ow.lt gl rfl).2⟩
theorem LSt.gB (h : LSt B N m l A cap c p gl W f) : B ≤ gl := (h.ow.lt gl rfl).1
theorem Rd.grown' {w w' : World} {A : Option Addr} {n s B : Nat} {xs : List Value} {r : Option Nat} (h : Rd w A n s xs) (hA : 0 < n → ∀ b o, A = some ⟨b, o, none⟩ → b < B) (hg : w.grownBy w' r) (hr : ∀ k, r = some k → B ≤ k) : Rd w' A n s xs := by
  rcases Nat.eq_zero_or_pos n with h0 | h0
  · subst h0; exact ⟨h.1, fun hn => absurd hn (by omega)⟩
  · exact h.grown hg fun b o e he => by have := hA h0 b o e; have := hr b he; omega
theorem LSt.grown {row : Option Nat} (h : LSt B N m l A cap c p gl W f) (hg : W.grownBy W' row) (h1 : some p ≠ row) (h2 : some gl ≠ row) (h3 : ∀ r, row = some r → B ≤ r) : LSt B N m l A cap c p gl W' f :=
  ⟨hg.cell h.c0 h1, hg.cell h.c1 h1, hg.cell h.c2 h1, h.ra.grown' h.aB hg h3, h.ow.kept hg (.inr h2), h.ne, h.aB⟩
theorem LSt.later (h : LSt B N m l A cap c p gl W f) (hb : Below W.heap.size W W') : LSt B N m l A cap c p gl W' f :=
  h.grown (row := none) ⟨hb.os, hb.tape, hb.output, hb.size, fun j hj _ => hb.block j hj⟩ (by simp) (by simp) (by simp)
theorem LSt.alloc (h : LSt B N m l A cap c p gl W f) (o : Obj) : LSt B N m l A cap c p gl (W.alloc o) f := h.later ((Below.refl _ W).alloc (Nat.le_refl _) o)
theorem LSt.drewN (h : LSt B N m l A cap c p gl W f) (k : Nat) : LSt B N m l A cap c p gl (W.drewN k) f := ⟨h.c0, h.c1, h.c2, h.ra, h.ow, h.ne, h.aB⟩
theorem grown_setA (a : World) (g i : Nat) (v : Value) : a.grownBy (a.setCell ⟨g, i, none⟩ v) (some g) :=
  ⟨rfl, rfl, rfl, by simp, fun k _ hk => heap_setCell_other a ⟨g, i, none⟩ k v (fun e => hk (by simp [e]))⟩
theorem LSt.set (h : LSt B N m l A cap c p gl W f) (i : Nat) (v : Int) : LSt B N m l A cap c p gl (W.setCell ⟨gl, i, none⟩ (.int .i64 v)) (fun k => if k = i then v else f k) := by
  have hg := grown_setA W gl i (.int .i64 v)
  have hne := h.ne
  refine ⟨hg.cell h.c0 (by simpa using Ne.symm hne), hg.cell h.c1 (by simpa using Ne.symm hne), hg.cell h.c2 (by simpa using Ne.symm hne), h.ra.grown' h.aB hg (fun r e => by cases e; exact h.gB), ?_, hne, h.aB⟩
  have := (h.ow.stored i (.int .i64 v)).1
  rwa [row_set] at this
theorem LSt.goes (h : LSt B N m l A cap c p gl W f) {k : Nat} (hk : k < m) : W.cell? ⟨gl, k, none⟩ = some (.int .i64 (f k)) := (h.ow.cellAt k (by omega)).trans (row_get hk)
end
set_option maxHeartbeats 3200000 in
set_option maxRecDepth 100000 in
theorem room_any (B N m : Nat) (l : List Arc) (A : Option Addr) (cap c p gl : Nat) (w : World) (f : Nat → Int) (h : LSt B N m l A cap c p gl w f) (hn : NOk N l) (x : Stp) (hx : x.1 < m) (hf : FOk l f) :
    Calls Try.prog 14 #[.pointer (some ⟨p, 0, none⟩), stv x] w fun e w' => e = .returned (.tuple #[.int .i64 (rm l f x), .int .i64 (src l x : Nat), .int .i64 (dst l x : Nat)]) ∧ Below w.heap.size w w' := by
  obtain ⟨k, b⟩ := x
  dsimp only at hx
  have hel := h.len
  have hb1 := (Below.refl _ w).alloc (Nat.le_refl _) (.cells #[.int .i64 k, .bool b] 47)
  have h1 := h.alloc (.cells #[.int .i64 k, .bool b] 47)
  have hK := Blk.new w 47 #[.int .i64 k, .bool b]
  have k0 := hK.cell (j := 0) rfl
  have k1 := hK.cell (j := 1) rfl
  obtain ⟨bb, oo, rfl, hab, a0, a1, a2, a3⟩ := h1.ra.arc hx
  have hat := hn.at (show k < l.length by omega)
  have hfk := hf k (by omega)
  have c0 := h1.c0; have c1 := h1.c1; have c2 := h1.c2; have cg := h1.goes hx
  obtain ⟨lp1, lg1⟩ := h1.lt
  have lk1 := hK.lt
  have hkm : (k : Int) < m := by omega
  have hk0 : (0 : Int) ≤ k := by omega
  have hstv : stv (k, b) = .agg #[.int .i64 k, .bool b] := rfl
  rw [hstv]
  rw [hat.2.2.2.2.2.1] at a0
  rw [hat.2.2.2.2.2.2] at a1
  have hmo : (aat l k).2.2.1 = mo l k := rfl
  rw [hmo] at a2
  generalize hfee : (aat l k).2.2.2 = fee at *
  have hw : IntKind.i64.wrap (mo l k - f k) = mo l k - f k := IntWalk.i64_in _ (by omega)
  have hb1H := Lib.hid hb1; have h1H := Lib.hid h1; have hKH := Lib.hid hK
  clear h h1 hK hb1 hmo
  go_enter Try.func14, Try.ntmps14
  go_wp2
  generalize w.alloc (.cells #[.int .i64 k, .bool b] 47) = w1 at *
  go_region
  obtain ⟨W2, hW2⟩ : ∃ W2, (w1.alloc (.cells #[.int .i64 (fr l k : Nat), .int .i64 (tn l k : Nat), .int .i64 (mo l k), .int .i64 fee] 53)).drew = W2 := ⟨_, rfl⟩
  have hJ : Blk W2 w1.heap.size 53 #[.int .i64 (fr l k : Nat), .int .i64 (tn l k : Nat), .int .i64 (mo l k), .int .i64 fee] := by rw [← hW2]; exact Blk.new w1 _ _
  have hK2 : Blk W2 w.heap.size 47 #[.int .i64 k, .bool b] := by rw [← hW2]; exact hKH.out.alloc _
  have h2 : LSt B N m l (some ⟨bb, oo, none⟩) cap c p gl W2 f := by rw [← hW2]; exact (h1H.out.alloc _).drewN 1
  have hb2 : Below w.heap.size w W2 := by rw [← hW2]; exact (hb1H.out.alloc hb1H.out.size _).drew
  rw [hW2]
  clear hW2 h1H hb1H hKH c0 c1 c2 cg k0 k1 a0 a1 a2 a3 lp1 lg1 lk1 hab
  have c2 := h2.c2; have cg := h2.goes hx
  obtain ⟨lp1, lg1⟩ := h2.lt
  have k0 := hK2.cell (j := 0) rfl
  have k1 := hK2.cell (j := 1) rfl
  have j0 := hJ.cell (j := 0) rfl
  have j1 := hJ.cell (j := 1) rfl
  have j2 := hJ.cell (j := 2) rfl
  have hb2H := Lib.hid hb2
  clear h2 hJ hK2 hb2
  cases b
  · go_wp2
    go_quiet (fail)
    go_wp2
    go_ret3
    exact ⟨rfl, below_drewN hb2H.out _⟩
  · go_wp2
    go_quiet (fail)
    go_wp2
    go_ret3
    exact ⟨rfl, below_drewN hb2H.out _⟩
def stps (w : List Stp) : List Value := w.flatMap fun x => [.int .i64 x.1, .bool x.2]
def sat (w : List Stp) (k : Nat) : Stp := w.getD k (0, false)
theorem stps_length {w : List Stp} : (stps w).length = w.length * 2 := flat_length (s := 2) (fun _ => rfl) w
theorem stps_one {w : List Stp} : ∀ u ∈ stps w, u.oneCell' = true := by
  intro u hu
  simp only [stps, List.mem_flatMap] at hu
  obtain ⟨c, _, hc⟩ := hu
  simp at hc
  rcases hc with rfl | rfl <;> rfl
theorem Rd.stp {w : World} {A : Option Addr} {n : Nat} {ss : List Stp} (h : Rd w A n 2 (stps ss)) {k : Nat} (hk : k < n) : ∃ b o, A = some ⟨b, o, none⟩ ∧ b < w.heap.size ∧ w.cell? ⟨b, o + k * 2, none⟩ = some (.int .i64 (sat ss k).1) ∧ w.cell? ⟨b, o + k * 2 + 1, none⟩ = some (.bool (sat ss k).2) := by
  have hl : ss.length = n := by have := h.1; rw [stps_length] at this; omega
  have hg : ∀ j, j < 2 → (stps ss)[k * 2 + j]? = ([.int .i64 (sat ss k).1, .bool (sat ss k).2] : List Value)[j]? := by
    intro j hj
    rw [stps, flat_get (s := 2) (fun _ => rfl) ss k j hj]
    simp [sat, List.getD, show k < ss.length by omega]
  obtain ⟨b, o, rfl, hlt, hc⟩ := h.2 (by omega)
  refine ⟨b, o, rfl, hlt, ?_, ?_⟩
  · rw [hc (k * 2) (by omega)]; exact hg 0 (by omega)
  · rw [Nat.add_assoc, hc (k * 2 + 1) (by omega)]; exact hg 1 (by omega)
theorem pshs_take (f : Nat → Int) (c : Int) (w : List Stp) {k : Nat} (h : k < w.length) : pshs f c (w.take (k + 1)) = psh (pshs f c (w.take k)) c (sat w k) := by
  rw [take_succ_getD' w (0, false) k h, pshs_snoc]; rfl
theorem pshs_bd {f : Nat → Int} {c M : Int} (hc : 0 ≤ c) {j : Nat} (hf : -M ≤ f j ∧ f j ≤ M) : ∀ w : List Stp, -(M + c * w.length) ≤ pshs f c w j ∧ pshs f c w j ≤ M + c * w.length := by
  intro w
  induction w generalizing f M with
  | nil => simpa [pshs] using hf
  | cons x w ih =>
    have h1 : -(M + c) ≤ psh f c x j ∧ psh f c x j ≤ M + c := by
      unfold psh
      split
      · split <;> omega
      · omega
    have := ih h1
    rw [List.length_cons]
    have e : c * ((w.length + 1 : Nat) : Int) = c * w.length + c := by rw [Int.natCast_add, Int.mul_add]; omega
    rw [e]
    show -(M + (c * w.length + c)) ≤ pshs (psh f c x) c w j ∧ pshs (psh f c x) c w j ≤ M + (c * w.length + c)
    omega
def pshAt (f : Nat → Int) (c : Int) (x : Stp) : Int := if x.2 then f x.1 - c else f x.1 + c
theorem psh_at (f : Nat → Int) (c : Int) (x : Stp) : psh f c x = fun k => if k = x.1 then pshAt f c x else f k := by
  funext k
  unfold psh pshAt
  split
  · rename_i e; subst e; rfl
  · rfl
set_option maxHeartbeats 3200000 in
set_option maxRecDepth 100000 in
theorem push_any (B N m : Nat) (l : List Arc) (A : Option Addr) (cap c p gl : Nat) (w : World) (f : Nat → Int) (h : LSt B N m l A cap c p gl w f) (A2 : Option Addr) (n c2 : Nat) (ss : List Stp) (much : Int) (hr : Rd w A2 n 2 (stps ss)) (h2 : 0 < n → ∀ b o, A2 = some ⟨b, o, none⟩ → b ≠ gl) (hs : ∀ x ∈ ss, x.1 < m)
    (hn : n ≤ 64) (hc0 : 0 ≤ much) (hc1 : much ≤ 1048576) (hf : ∀ k, k < m → 0 ≤ f k ∧ f k ≤ 1048576) :
    Calls Try.prog 15 #[.pointer (some ⟨p, 0, none⟩), .slice A2 n c2, .int .i64 much] w fun e w' => (∃ v, e = .returned v) ∧ LSt B N m l A cap c p gl w' (pshs f much ss) ∧ w.grownBy w' (some gl) := by
  have hel : ss.length = n := by have := hr.1; rw [stps_length] at this; omega
  have hgw := h.lt.2
  have hgB := h.gB
  have hH := Lib.hid h; have hrH := Lib.hid hr; have hsH := Lib.hid hs; have h2H := Lib.hid h2; have helH := Lib.hid hel
  have hbd := Lib.hid (fun (j : Nat) (hj : j < m) (k : Nat) => pshs_bd (M := 1048576) hc0 (j := j) (f := f) (by have := hf j hj; omega) (ss.take k))
  clear h hr hs h2 hel hf
  go_enter Try.func15, Try.ntmps15
  go_wp2
  go_loopw [7, 10] (fun _ i wr => ∃ k : Nat, k ≤ n ∧ i = .int .i64 k ∧ LSt B N m l A cap c p gl wr (pshs f much (ss.take k)) ∧ w.grownBy wr (some gl)) (fun _ i _ => n - (intOf i).toNat)
  case atStart => exact ⟨0, Nat.zero_le _, rfl, hH.out, World.grownBy.refl _ _⟩
  case round =>
    obtain ⟨k, hk, rfl, hL, hg⟩ := hrel
    have hsz := hg.size
    by_cases hlt : k < n
    · have hrk : Rd wr A2 n 2 (stps ss) := hrH.out.grown hg (fun b o e => by have := h2H.out (by omega) b o e; simp; omega)
      obtain ⟨b2, o2, rfl, hb2, s0, s1⟩ := hrk.stp hlt
      have hst := pshs_take f much ss (k := k) (by rw [helH.out]; exact hlt)
      have hxm : (sat ss k).1 < m := hsH.out _ (by simp [sat, List.getD, show k < ss.length by rw [helH.out]; exact hlt])
      have hbk := hbd.out (sat ss k).1 hxm k
      have htl : ((ss.take k).length : Int) = k := by rw [List.length_take, helH.out]; omega
      rw [htl] at hbk
      have hmk : 0 ≤ much * k ∧ much * k ≤ 67108864 := by
        have a := Int.mul_nonneg hc0 (by omega : (0 : Int) ≤ k)
        have b := Int.mul_le_mul hc1 (by omega : (k : Int) ≤ 64) (by omega) (by omega)
        omega
      generalize hF : pshs f much (ss.take k) = F at *
      generalize hX : sat ss k = x at *
      obtain ⟨xk, xb⟩ := x
      dsimp only at *
      rw [psh_at] at hst
      have hstH := Lib.hid hst
      have hL2 := hL.alloc (.cells #[.int .i64 xk, .bool xb] 47)
      have c2c := hL2.c2; have cg := hL2.goes hxm; have fg := hL2.ow.frozenAt xk
      obtain ⟨lp, lg⟩ := hL2.lt
      have hK := Blk.new wr 47 #[.int .i64 xk, .bool xb]
      have k0 := hK.cell (j := 0) rfl
      have k1 := hK.cell (j := 1) rfl
      have hxk : (xk : Int) < m := by omega
      have hxk0 : (0 : Int) ≤ xk := by omega
      have hL3 := Lib.hid (fun nq => (hL2.drewN nq).set xk (pshAt F much (xk, xb)))
      have hg3 := Lib.hid (fun nq => grown_trans' (grown_trans' hg (World.grownBy_alloc wr (.cells #[.int .i64 xk, .bool xb] 47) (some gl))) (grown_trans' (grown_drewN' (wr.alloc (.cells #[.int .i64 xk, .bool xb] 47)) nq (some gl)) (grown_setA ((wr.alloc (.cells #[.int .i64 xk, .bool xb] 47)).drewN nq) gl xk (.int .i64 (pshAt F much (xk, xb))))))
      clear hL hL2 hK hst hg hrk
      cases xb
      · have hw : IntKind.i64.wrap (F xk + much) = F xk + much := IntWalk.i64_in _ (by omega)
        have hpa : pshAt F much (xk, false) = F xk + much := rfl
        rw [hpa] at hstH hL3 hg3
        go_wp2
        go_region
        go_wp2
        go_roundw
        case rel => exact ⟨k + 1, by omega, by go_num, by rw [hstH.out]; exact hL3.out 1, hg3.out 1⟩
        case measure => simp [intOf]; omega
      · have hw : IntKind.i64.wrap (F xk - much) = F xk - much := IntWalk.i64_in _ (by omega)
        have hpa : pshAt F much (xk, true) = F xk - much := rfl
        rw [hpa] at hstH hL3 hg3
        go_wp2
        go_region
        go_wp2
        go_roundw
        case rel => exact ⟨k + 1, by omega, by go_num, by rw [hstH.out]; exact hL3.out 1, hg3.out 1⟩
        case measure => simp [intOf]; omega
    · obtain rfl : k = n := by omega
      have e : ss.take k = ss := List.take_of_length_le (by rw [helH.out]; exact Nat.le_refl _)
      rw [e] at hL
      have hLH := Lib.hid hL; have hgH := Lib.hid hg
      clear hL hg
      go_wp2
      go_end0
      exact ⟨⟨_, rfl⟩, hLH.out, hgH.out⟩
theorem infoL64 : (Try.prog.info? 2).map (fun i => (i.zero, i.size, i.bytes)) = some (some (.int .i64 0), 1, 8) := by kernel_rfl
theorem run_mkL {m : Nat} (hm : m ≤ 128) (w : World) :
    (Instr.makeSlice 25 (.int .i64 (m : Int)) (.int .i64 (m : Int))).run Try.prog w = .ok (.slice (some ⟨w.heap.size, 0, none⟩) m m) (w.alloc (.cells (row m fun _ => 0).toArray 2)) := by
  obtain ⟨i0, hi0, hz0, hs0, hb0⟩ := info_parts infoL64
  have := run_make (P := Try.prog) w 25 2 i0 (.int .i64 0) Try.underlying25 hi0 hz0 .i64 .i64 m m (by omega) (Int.le_refl _) (by
    rw [hb0]; omega) (by omega)
  rw [this]
  congr 2
  rw [hs0, show (Value.int IntKind.i64 0).cells = #[.int .i64 0] from rfl, Int.toNat_natCast, Nat.mul_one]
  congr 1
  rw [← row_replicate, ← toList_madeCells_one (.int .i64 0) m]
set_option maxHeartbeats 1600000 in
theorem open_any (N m : Nat) (l : List Arc) (A : Option Addr) (cap : Nat) (w : World) (hr : Rd w A m 4 (arcs l)) (hm : m ≤ 128) :
    Calls Try.prog 11 #[.agg #[.int .i64 N, .slice A m cap]] w fun e w' => ∃ p gl : Nat, e = .returned (.pointer (some ⟨p, 0, none⟩)) ∧ w.heap.size ≤ p ∧ LSt w.heap.size N m l A cap m p gl w' (fun _ => 0) ∧ Below w.heap.size w w' := by
  have hrH := Lib.hid hr
  have hAb : 0 < m → ∀ b o, A = some ⟨b, o, none⟩ → b < w.heap.size := fun h0 b o e => by
    obtain ⟨b', o', e', hlt, _⟩ := hr.2 h0
    rw [e] at e'; cases e'; exact hlt
  have hAbH := Lib.hid hAb
  clear hr hAb
  have hmk := fun W => run_mkL hm W
  have hK := Blk.new w 24 #[.int .i64 N, .slice A m cap]
  have k0 := hK.cell (j := 0) rfl
  have k1 := hK.cell (j := 1) rfl
  have lk := hK.lt
  have hb1 := Lib.hid ((Below.refl _ w).alloc (Nat.le_refl _) (.cells #[.int .i64 N, .slice A m cap] 24))
  clear hK
  go_enter Try.func11, Try.ntmps11
  go_wp2
  generalize w.alloc (.cells #[.int .i64 N, .slice A m cap] 24) = w1 at *
  go_region
  go_wp2
  go_ret
  have hs1 := hb1.out.size
  have hb3 : Below w.heap.size w ((w1.alloc (Obj.cells (row m fun _ => 0).toArray 2)).alloc (Obj.cells #[.int .i64 N, .slice A m cap, .slice (some ⟨w1.heap.size, 0, none⟩) m m] 50)).drew :=
    ((hb1.out.alloc hs1 _).alloc (by simp; omega) _).drew
  have hJ : Blk ((w1.alloc (Obj.cells (row m fun _ => 0).toArray 2)).alloc (Obj.cells #[.int .i64 N, .slice A m cap, .slice (some ⟨w1.heap.size, 0, none⟩) m m] 50)).drew (w1.heap.size + 1) 50 #[.int .i64 N, .slice A m cap, .slice (some ⟨w1.heap.size, 0, none⟩) m m] := by
    have := Blk.new (w1.alloc (Obj.cells (row m fun _ => 0).toArray 2)) 50 #[.int .i64 N, .slice A m cap, .slice (some ⟨w1.heap.size, 0, none⟩) m m]
    rw [World.size_alloc] at this; exact this
  refine ⟨w1.heap.size + 1, w1.heap.size, rfl, by omega, ⟨hJ.cell (j := 0) rfl, hJ.cell (j := 1) rfl, hJ.cell (j := 2) rfl, hrH.out.later hb3, ?_, by omega, hAbH.out⟩, hb3⟩
  have := World.ownsRow_lit (base := w.heap.size) (e := 2) (size := 1) w1 (row m fun _ => 0).toArray m hs1 (by unfold maxLen; omega) (by simp [row])
  exact (this.alloc _).drew
end Go.Proofs.Ytgengjneccpaiaa
