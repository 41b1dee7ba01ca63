/- score.Make. -/
import Derived.Test.YtfbomimkjiaohaaHavelC
import Derived.Test.YtfbomimkjiaohaaBlk
import Derived.Laws.ResultCell
import Derived.Deep.RegionLaw
namespace Go.Proofs.Ytfbomimkjiaohaa
open Go.RowKit

theorem tiNd : TI Try.prog 41 43 (.agg #[.int .i64 0, .int .i64 0]) 2 16 := TI.mk' Try.underlying41 (by kernel_rfl) rfl (by decide)
theorem tiEdM : TI Try.prog 31 47 (.agg #[.int .i64 0, .int .i64 0, .int .i64 0]) 3 24 := TI.mk' Try.underlying31 (by kernel_rfl) rfl (by decide)
theorem own_capM {w : World} {b e s n c : Nat} {A : Option Addr} {xs : List Value} (h : w.ownsRow b e s (.slice A n c) n xs) : n ≤ c := by
  rcases h.2 with ⟨h1, h2⟩ | ⟨g, cap, cur, h1, h2⟩
  · injection h1; omega
  · injection h1; omega
theorem make_large (A : Option Addr) (len cap : Nat) (w : World) (hl : 10 < len) :
    Calls Try.prog 8 #[.slice A len cap] w fun e w' => e = .returned (.tuple #[.agg #[.int .i64 0, .slice none 0 0], .int .i64 1]) ∧ Below w.heap.size w w' := by
  have gb := Lib.hid ((Below.refl _ w).alloc (Nat.le_refl _) (.cells #[.int .i64 0, .slice none 0 0] 33))
  have h10 : (10 : Int) < len := by omega
  go_enter Try.func8, Try.ntmps8
  go_wp2
  (try simp only [Exit.inBlock, Exit.then])
  refine bodyPost_ret (v := .tuple #[.agg #[.int .i64 0, .slice none 0 0], .int .i64 1]) ?_ rfl ⟨rfl, gb.out⟩
  rw [results_cell_tmp rfl]
  go_simp
def MkOk (n : Nat) (zs : List Int) (e : Ending) (w' : World) : Prop :=
  ∃ (A' : Option Addr) (c' : Nat) (ps : List (Nat × Nat)), e = .returned (.tuple #[.agg #[.int .i64 n, .slice A' ps.length c'], .int .i64 0]) ∧ Rd w' A' ps.length 3 (ps3 .i64 .i64 .i64 (toQ ps)) ∧ ps.length ≤ c' ∧
    (∀ e ∈ ps, e.1 < n ∧ e.2 < n ∧ e.1 ≠ e.2) ∧ ps.Pairwise (fun e f => ¬ sameQ e f) ∧ ∀ x, x < n → (dgP ps x : Int) = zs.getD x 0
def MkNo (n : Nat) (zs : List Int) : Prop := ∀ dN : Nat → Nat, (∀ i, i < n → zs.getD i 0 = (dN i : Int)) → ¬ Gph (List.range n) dN
def MkPost (n : Nat) (zs : List Int) (w : World) (e : Ending) (w' : World) : Prop :=
  Below w.heap.size w w' ∧ (MkOk n zs e w' ∨ e = .returned (.tuple #[.agg #[.int .i64 0, .slice none 0 0], .int .i64 5]) ∧ MkNo n zs)
/-- the nodes as they came -/
def zraw (zs : List Int) (k : Nat) : List (Int × Int) := (List.range k).map fun (i : Nat) => ((i : Int), zs.getD i 0)
theorem zraw_succ (zs : List Int) (k : Nat) : ps2 .i64 .i64 (zraw zs (k + 1)) = ps2 .i64 .i64 (zraw zs k) ++ [.int .i64 (k : Int), .int .i64 (zs.getD k 0)] := by
  unfold zraw
  rw [List.range_succ, List.map_append]
  simp [ps2]
theorem zraw_len (zs : List Int) (k : Nat) : (zraw zs k).length = k := by simp [zraw]
def lenV : Value → Nat
  | .slice _ n _ => n
  | _ => 0
structure ML (s q n : Nat) (dN : Nat → Nat) (V : Value) (w : World) (A : Option Addr) (m c : Nat) (pre : List (Int × Int)) (y : List Nat) (nd : Nat → Nat) (ps : List (Nat × Nat)) (ve : Value) (W : World) : Prop where
  mc : m ≤ c
  ns : NS W (s + 1) n V pre (zof y nd) A m
  hv : Hv n dN ps y nd
  z : Blk W s 33 #[.int .i64 0, .slice none 0 0]
  g : Blk W q 33 #[.int .i64 n, ve]
  o : W.ownsRow (q + 1) 47 3 ve ps.length (ps3 .i64 .i64 .i64 (toQ ps))
  b : Below s w W
  vq : ∀ g, V.ownBlock = some g → g < q
theorem mkno_of {n : Nat} {zs : List Int} {dN : Nat → Nat} (hd : ∀ x, x < n → (dN x : Int) = zs.getD x 0) (h : ¬ Gph (List.range n) dN) : MkNo n zs := fun d' hd' hg => h (hg.congr fun x hx => by
  have hx := List.mem_range.1 hx
  have h1 := hd x hx
  have h2 := hd' x hx
  omega)
theorem blk_ne {W : World} {f : Nat} {t e b s n : Nat} {cs : Array Value} {v : Value} {xs : List Value} (hB : Blk W f t cs) (ho : W.ownsRow b e s v n xs) (hne : t ≠ e) : v.ownBlock ≠ some f := fun h => by
  rcases ho.2 with ⟨rfl, _⟩ | ⟨g, cap, cur, rfl, _, h3, _⟩
  · cases h
  · obtain rfl : g = f := Option.some.inj h
    rw [show W.heap[g]? = _ from hB] at h3
    injection h3 with h3
    injection h3 with h4 h5
    exact hne h5
theorem NS.kept {W W' : World} {B N m : Nat} {V : Value} {pre z : List (Int × Int)} {A : Option Addr} {r : Option Nat} (h : NS W B N V pre z A m) (hg : W.grownBy W' r) (hne : V.ownBlock = none ∨ V.ownBlock ≠ r) : NS W' B N V pre z A m := ⟨h.own.kept hg hne, h.ml, h.hat⟩
theorem NS.tail {W : World} {B N m C : Nat} {V : Value} {pre z : List (Int × Int)} {p : Int × Int} {g : Nat} {A : Option Addr} (h : NS W B N V pre (p :: z) A (m + 1)) (hV : V = .slice (some ⟨g, 0, none⟩) N C) : NS W B N V (pre ++ [p]) z (some ⟨g, pre.length * 2 + 2, none⟩) m := by
  refine ⟨by rw [List.append_assoc]; exact h.own, by have := h.ml; simpa using this, fun _ => ⟨g, C, hV, ?_⟩⟩
  rw [List.length_append, List.length_singleton, Nat.add_mul]
theorem ps2_setS {k₁ k₂ : IntKind} : ∀ (l : List (Int × Int)) (i : Nat) (b : Int), i < l.length → (ps2 k₁ k₂ l).set (i * 2 + 1) (.int k₂ b) = ps2 k₁ k₂ (l.set i ((l.getD i (0, 0)).1, b))
  | [], i, b, h => by simp at h
  | c :: l, 0, b, _ => by simp [ps2]
  | c :: l, i + 1, b, h => by
    have ih := ps2_setS (k₁ := k₁) (k₂ := k₂) l i b (by simpa using h)
    have e : ps2 k₁ k₂ (c :: l) = .int k₁ c.1 :: .int k₂ c.2 :: ps2 k₁ k₂ l := rfl
    rw [e, show (i + 1) * 2 + 1 = i * 2 + 1 + 1 + 1 by omega]
    simp only [List.set_cons_succ]
    rw [ih]
    rfl
theorem NS.setS {W : World} {B N m g C : Nat} {pre z : List (Int × Int)} {A : Option Addr} (h : NS W B N (.slice (some ⟨g, 0, none⟩) N C) pre z A m) {j : Nat} (hj : j < m) (b : Int) : NS (W.setCell ⟨g, pre.length * 2 + j * 2 + 1, none⟩ (.int .i64 b)) B N (.slice (some ⟨g, 0, none⟩) N C) pre (z.set j ((z.getD j (0, 0)).1, b)) A m := by
  have hz := h.ml
  refine ⟨?_, by rw [List.length_set]; exact hz, h.hat⟩
  have h1 := (h.own.stored (pre.length * 2 + j * 2 + 1) (.int .i64 b)).1
  have hg : (pre ++ z).getD (pre.length + j) (0, 0) = z.getD j (0, 0) := by
    rw [List.getD, List.getElem?_append_right (by omega), Nat.add_sub_cancel_left]; rfl
  rw [show pre.length * 2 + j * 2 = (pre.length + j) * 2 by omega, ps2_setS _ _ _ (by rw [List.length_append]; omega), hg, List.set_append_right _ _ (by omega), Nat.add_sub_cancel_left] at h1
  rw [show pre.length * 2 + j * 2 = (pre.length + j) * 2 by omega]
  exact h1
structure IL (s q f n : Nat) (V : Value) (w : World) (A : Option Addr) (m : Nat) (pre : List (Int × Int)) (l : List Nat) (nd : Nat → Nat) (v0 D : Nat) (ps : List (Nat × Nat)) (j : Nat) (ve : Value) (W : World) : Prop where
  ns : NS W (s + 1) n V pre (zof l (lessN l j nd)) A m
  z : Blk W s 33 #[.int .i64 0, .slice none 0 0]
  g : Blk W q 33 #[.int .i64 n, ve]
  o : W.ownsRow (q + 1) 47 3 ve (ps.length + j) (ps3 .i64 .i64 .i64 (toQ (ps ++ (l.take j).map fun u => (v0, u))))
  f : Blk W f 43 #[.int .i64 v0, .int .i64 D]
  b : Below s w W
set_option maxHeartbeats 6400000 in
theorem make_any (A : Option Addr) (n cap : Nat) (zs : List Int) (w : World) (hz : Rd w A n 1 (ints .i64 zs)) (hn : n ≤ 10) :
    Calls Try.prog 8 #[.slice A n cap] w (MkPost n zs w) := by
  have hzl := Lib.hid (show zs.length = n by simpa [ints] using hz.1)
  have gb := (Below.refl _ w).alloc (Nat.le_refl _) (.cells #[.int .i64 0, .slice none 0 0] 33)
  have bG := Blk.new w 33 #[.int .i64 0, .slice none 0 0]
  have gs : (w.alloc (.cells #[.int .i64 0, .slice none 0 0] 33)).heap.size = w.heap.size + 1 := by simp
  have gbH := Lib.hid gb; have bGH := Lib.hid bG; have hzH := Lib.hid hz
  have h10 : decide ((10 : Int) < n) = false := decide_eq_false (by omega)
  clear hz gb bG
  go_enter Try.func8, Try.ntmps8
  go_wp2
  generalize w.alloc (.cells #[.int .i64 0, .slice none 0 0] 33) = w0 at *
  have hs0 : w.heap.size + 1 ≤ w0.heap.size := by omega
  clear gs
  go_loopw [4, 16] (fun v kv wr => ∃ k : Nat, k ≤ n ∧ kv = .int .i64 k ∧ (∀ j, j < k → 0 ≤ zs.getD j 0 ∧ zs.getD j 0 < (n : Int)) ∧ wr.ownsRow (w.heap.size + 1) 43 2 v k (ps2 .i64 .i64 (zraw zs k)) ∧ Blk wr w.heap.size 33 #[.int .i64 0, .slice none 0 0] ∧ Below w.heap.size w wr ∧ w.heap.size + 1 ≤ wr.heap.size) (fun _ kv _ => n - (intOf kv).toNat)
  case atStart => exact ⟨0, by omega, rfl, fun j hj => absurd hj (by omega), World.ownsRow_nil _ _ _ _, bGH.out, gbH.out, hs0⟩
  case round =>
    clear bGH gbH hs0
    obtain ⟨k, hk, rfl, hin, hown, bG, hb, hs⟩ := hrel
    obtain ⟨wi, rfl⟩ : ∃ wi : World, wi = wr := ⟨_, rfl⟩
    have hinH := Lib.hid hin; have hownH := Lib.hid hown; have hbH := Lib.hid hb; have bGH := Lib.hid bG
    clear hin
    by_cases hkn : k < n
    · obtain ⟨bb, o, rfl, _, hc⟩ := (hzH.out.later hb).int hkn
      have hk0 : (0 : Int) ≤ k := by omega
      have hkI : (k : Int) < n := by omega
      have hzr := Lib.hid (zraw_succ zs k)
      obtain ⟨x, hx⟩ : ∃ x, zs.getD k 0 = x := ⟨_, rfl⟩
      have hxH := Lib.hid hx
      rw [hx] at hc hzr
      clear hx
      by_cases hr : 0 ≤ x ∧ x < n
      case neg =>
        have hno := Lib.hid (show MkNo n zs from fun dN hd hg => by
          have h1 := hd k hkn
          have h2 := hg.deg_lt hkn
          rw [hxH.out] at h1
          omega)
        have z0 := bG.cell (j := 0) (v := .int .i64 0) rfl; have z1 := bG.cell (j := 1) (v := .slice none 0 0) rfl
        have f0 := bG.frozen 0; have f1 := bG.frozen 1; have l1 := bG.lt
        have hfin := Lib.hid ((hb.setCell (p := ⟨w.heap.size, 0, none⟩) (Nat.le_refl _) (.int .i64 0)).setCell (p := ⟨w.heap.size, 1, none⟩) (Nat.le_refl _) (.slice none 0 0))
        clear bG hb hown
        by_cases hneg : x < 0
        · have hd : decide (x < 0) = true := decide_eq_true hneg
          clear hr
          go_wp2
          (try simp only [Exit.inBlock, Exit.then])
          refine bodyPost_ret (v := .tuple #[.agg #[.int .i64 0, .slice none 0 0], .int .i64 5]) ?_ rfl ⟨hfin.out, .inr ⟨rfl, hno.out⟩⟩
          rw [results_cell_tmp rfl]
          go_simp
        · have hd : decide (x < 0) = false := decide_eq_false hneg
          have hd2 : decide ((n : Int) ≤ x) = true := decide_eq_true (by omega)
          clear hr
          go_wp2
          (try simp only [Exit.inBlock, Exit.then])
          refine bodyPost_ret (v := .tuple #[.agg #[.int .i64 0, .slice none 0 0], .int .i64 5]) ?_ rfl ⟨hfin.out, .inr ⟨rfl, hno.out⟩⟩
          rw [results_cell_tmp rfl]
          go_simp
      obtain ⟨hr0, hr1⟩ := hr
      have hd : decide (x < 0) = false := decide_eq_false (by omega)
      have hd2 : decide ((n : Int) ≤ x) = false := decide_eq_false (by omega)
      obtain ⟨A1, c1, rfl⟩ := own_slice hown
      clear bG hb hown
      go_wp2_with (at_builtin; refine wpList_app (s := .tmp 30) (x := .tmp 34) _ tiNd (hownH.out.alloc _) (rd_new2 wi (.int .i64 (k : Int)) (.int .i64 x) 43) (ps2_one (l := [((k : Int), x)])) (by omega) (by omega) (by simp; omega) rfl rfl rfl rfl ?_)
      intro v' w1 hown' hg hat
      have b1 := (bGH.out.alloc (.cells #[.int .i64 (k : Int), .int .i64 x] 43)).kept hg (fun e => by have := (hownH.out.lt _ e.symm).1; omega)
      have hb1 := (hbH.out.alloc hbH.out.size (.cells #[.int .i64 (k : Int), .int .i64 x] 43)).grown hg (by simp; omega) (fun g e => by have := (hownH.out.lt _ e).1; omega)
      have hin1 := Lib.hid (show ∀ j, j < k + 1 → 0 ≤ zs.getD j 0 ∧ zs.getD j 0 < (n : Int) from fun j hj => by
        by_cases e : j = k
        · subst e; rw [hxH.out]; exact ⟨hr0, hr1⟩
        · exact hinH.out j (by omega))
      have ho1 := Lib.hid (show w1.ownsRow (w.heap.size + 1) 43 2 v' (k + 1) (ps2 .i64 .i64 (zraw zs (k + 1))) from by rw [hzr.out]; exact hown')
      have hs1 : w.heap.size + 1 ≤ w1.heap.size := by have := hg.size; simp at this; omega
      have b1H := Lib.hid b1; have hb1H := Lib.hid hb1
      clear b1 hb1 hg hat hown' hownH bGH hbH
      go_wp2
      go_roundw
      case rel => exact ⟨k + 1, by omega, by go_num, hin1.out, ho1.out, b1H.out, hb1H.out, hs1⟩
      case measure => simp [intOf]; omega
    · obtain rfl : k = n := by omega
      obtain ⟨dN, hdN⟩ : ∃ dN : Nat → Nat, dN = fun x => (zs.getD x 0).toNat := ⟨_, rfl⟩
      have hdH := Lib.hid (show ∀ x, x < k → (dN x : Int) = zs.getD x 0 from fun x hx => by
        have := (hinH.out x hx).1
        rw [hdN]; simp only; omega)
      obtain ⟨A1, c1, rfl⟩ := own_slice hown
      have hzz : zraw zs k = zof (List.range k) dN := List.map_congr_left fun x hx => by rw [hdH.out x (List.mem_range.1 hx)]
      have hM0 : ML w.heap.size wi.heap.size k dN (.slice A1 k c1) w A1 k c1 [] (List.range k) dN [] (.slice none 0 0) (wi.alloc (.cells #[.int .i64 k, .slice none 0 0] 33)) := by
        refine ⟨own_capM hown, ⟨?_, by simp [zof], fun h0 => ?_⟩, Hv.beg k dN, bG.alloc _, Blk.new wi 33 #[.int .i64 k, .slice none 0 0], World.ownsRow_nil _ _ _ _, hb.alloc (by omega) _, fun g e => ?_⟩
        · rw [List.nil_append, ← hzz]; exact hown.alloc _
        · rcases hown.2 with ⟨h1, h2⟩ | ⟨g, cap', cur, h1, _⟩
          · omega
          · injection h1 with h1 _ _
            exact ⟨g, c1, by rw [h1], h1⟩
        · exact (hown.lt g e).2
      have hMH := Lib.hid hM0
      have hdNH := Lib.hid hdN
      have hqs : (wi.alloc (.cells #[.int .i64 k, .slice none 0 0] 33)).heap.size = wi.heap.size + 1 := by simp
      clear hM0 hzz hdN hown bG hb hownH bGH hbH
      go_wp2
      generalize hqq : wi.heap.size = q at *
      generalize wi.alloc (.cells #[.int .i64 k, .slice none 0 0] 33) = wj at *
      have hqs2 := Lib.hid (show w.heap.size < q from by omega)
      clear hqq hqs
      go_loopw [4] (fun v wr => ∃ (A : Option Addr) (m c : Nat) (pre : List (Int × Int)) (y : List Nat) (nd : Nat → Nat) (ps : List (Nat × Nat)) (ve : Value), v = .slice A m c ∧ ML w.heap.size q k dN (.slice A1 k c1) w A m c pre y nd ps ve wr) (fun v _ => lenV v)
      case atStart => exact ⟨_, _, _, _, _, _, _, _, rfl, hMH.out⟩
      case round =>
        clear hMH
        obtain ⟨A2, m, c, pre, y, nd, ps, ve, rfl, hM⟩ := hrel
        obtain ⟨w2, rfl⟩ : ∃ w2 : World, w2 = wr := ⟨_, rfl⟩
        have hyl : y.length = m := by have := hM.ns.ml; simpa [zof] using this
        have hNl := hM.ns.len
        have hmk : m ≤ 10 := by omega
        have hy10 : ∀ x ∈ y, x < 10 := fun x hx => by have := hM.hv.lt x hx; omega
        have HS := Lib.hid (sortN_any _ _ _ _ _ _ _ c w2 hM.ns hmk (by omega) (zof_sm hy10))
        have hMH := Lib.hid hM; have hylH := Lib.hid hyl; have hy10H := Lib.hid hy10
        clear hM hyl hNl hy10
        go_wp2_with fail
        refine HS.out.mono ?_
        rintro _ w3 ⟨rfl, z', hpz, hsz, hns, hg3⟩
        obtain ⟨y', hyp, rfl⟩ := zof_perm hpz
        have hy'l : y'.length = m := by rw [hyp.length_eq]; exact hylH.out
        have hsrt := zof_sorted hy'l (fun x hx => hy10H.out x (hyp.mem_iff.1 hx)) hsz
        have hM3 : ML w.heap.size q k dN (.slice A1 k c1) w A2 m c pre y' nd ps ve w3 := by
          have h := hMH.out
          have hVb : ∀ g, (Value.slice A1 k c1).ownBlock = some g → w.heap.size + 1 ≤ g ∧ g < q := fun g e => ⟨(h.ns.own.lt g e).1, h.vq g e⟩
          refine ⟨h.mc, hns, h.hv.perm hyp, h.z.kept hg3 (fun e => by have := hVb _ e.symm; omega), h.g.kept hg3 (fun e => by have := hVb _ e.symm; omega), h.o.kept hg3 ?_, h.b.grown hg3 h.b.size (fun g e => by have := hVb g e; omega), h.vq⟩
          rcases hve : ve.ownBlock with _ | b
          · exact .inl rfl
          · refine .inr fun e => ?_
            have h1 := (h.o.lt b hve).1
            have h2 := hVb b e.symm
            omega
        have hM3H := Lib.hid hM3; have hsrtH := Lib.hid hsrt; have hy'lH := Lib.hid hy'l
        have hpsl : ps.length ≤ 45 := pairs_le hn (fun e he => ⟨(hM3.hv.ok e he).1, (hM3.hv.ok e he).2.1, (hM3.hv.ok e he).2.2.1⟩) hM3.hv.once
        have hk0 := hM3.g.cell (j := 0) (v := .int .i64 k) rfl
        have hk1 := hM3.g.cell (j := 1) (v := ve) rfl
        have z0 := hM3.z.cell (j := 0) (v := .int .i64 0) rfl; have z1 := hM3.z.cell (j := 1) (v := .slice none 0 0) rfl
        have f0 := hM3.z.frozen 0; have f1 := hM3.z.frozen 1; have l1 := hM3.z.lt
        obtain ⟨Ae, ce, rfl⟩ := own_slice hM3.o
        have hdone := Lib.hid (fun (h0 : ∀ x ∈ y', nd x = 0) => show MkPost k zs w (.returned (.tuple #[.agg #[.int .i64 k, .slice Ae ps.length ce], .int .i64 0])) ((w3.setCell ⟨w.heap.size, 0, none⟩ (.int .i64 k)).setCell ⟨w.heap.size, 1, none⟩ (.slice Ae ps.length ce)) from by
          have hsb : ∀ j, (Value.slice Ae ps.length ce).ownBlock ≠ some (⟨w.heap.size, j, none⟩ : Addr).block := fun j e => by
            have h1 := (hM3H.out.o.lt _ e).1
            have h2 : q + 1 ≤ w.heap.size := h1
            have hzlt := hqs2.out
            omega
          refine ⟨(hM3H.out.b.setCell (p := ⟨w.heap.size, 0, none⟩) (Nat.le_refl _) (.int .i64 k)).setCell (p := ⟨w.heap.size, 1, none⟩) (Nat.le_refl _) (.slice Ae ps.length ce), .inl ⟨Ae, ce, ps, rfl, Rd.of_own (own_set_other (own_set_other hM3H.out.o (hsb 0) (.int .i64 k)) (hsb 1) (.slice Ae ps.length ce)), own_capM hM3H.out.o, fun e he => ⟨(hM3H.out.hv.ok e he).1, (hM3H.out.hv.ok e he).2.1, (hM3H.out.hv.ok e he).2.2.1⟩, hM3H.out.hv.once, fun x hx => ?_⟩⟩
          rw [hM3H.out.hv.done h0 x hx]
          exact hdH.out x hx)
        clear hM3 HS hpz hyp hsz hns hg3 hMH hylH hy10H hsrt hy'l
        cases y' with
        | nil =>
          have hm0 : m = 0 := by have := hy'lH.out; simpa using this.symm
          subst hm0
          have hdn := Lib.hid (hdone.out (fun x hx => by cases hx))
          clear hdone hM3H hsrtH
          go_wp2
          (try simp only [Exit.inBlock, Exit.then])
          refine bodyPost_ret (v := .tuple #[.agg #[.int .i64 k, .slice Ae ps.length ce], .int .i64 0]) ?_ rfl hdn.out
          rw [results_cell_tmp rfl]
          go_simp
        | cons v0 l =>
          obtain ⟨m1, rfl⟩ : ∃ m1, m = m1 + 1 := ⟨l.length, by have := hy'lH.out; simpa using this.symm⟩
          have hll := Lib.hid (show l.length = m1 from by have := hy'lH.out; simpa using this)
          have hat := hM3H.out.ns.at_ (show 0 < m1 + 1 by omega)
          obtain ⟨g, C, hV, hA2, hBg, hgl, a0, a1⟩ := hat
          have hgq := hM3H.out.vq g (by rw [hV]; rfl)
          have hVH := Lib.hid hV
          subst hA2
          rw [show (zof (v0 :: l) nd).getD 0 (0, 0) = ((v0 : Int), (nd v0 : Int)) from rfl, Nat.zero_mul, Nat.add_zero] at a0 a1
          dsimp only at a0 a1
          have hv0k := hM3H.out.hv.lt v0 (List.mem_cons_self ..)
          have hsl := Lib.hid (List.pairwise_cons.1 hsrtH.out)
          obtain ⟨o, ho⟩ : ∃ o, pre.length * 2 = o := ⟨_, rfl⟩
          have hoH := Lib.hid ho
          have ho40 : o ≤ 40 := by have := hM3H.out.ns.len; omega
          rw [ho] at a0 a1 ⊢
          clear hV ho
          have hm1I : (0 : Int) < (m1 : Int) + 1 := by omega
          have hme : ((m1 : Int) + 1 == 0) = false := by rw [beq_eq_false_iff_ne]; omega
          obtain ⟨D, hD⟩ : ∃ D, nd v0 = D := ⟨_, rfl⟩
          have hDH := Lib.hid hD
          rw [hD] at a1
          clear hD
          by_cases hD0 : D = 0
          · have hdn := Lib.hid (hdone.out (fun x hx => by
              rcases List.mem_cons.1 hx with rfl | hx
              · rw [hDH.out]; exact hD0
              · have := hsl.out.1 x hx
                rw [hDH.out] at this
                omega))
            subst hD0
            have hD0b : (((0 : Nat) : Int) == 0) = true := rfl
            clear hdone hM3H hsrtH hsl
            go_wp2
            (try simp only [Exit.inBlock, Exit.then])
            refine bodyPost_ret (v := .tuple #[.agg #[.int .i64 k, .slice Ae ps.length ce], .int .i64 0]) ?_ rfl hdn.out
            rw [results_cell_tmp rfl]
            go_simp
          have hDb : ((D : Int) == 0) = false := by rw [beq_eq_false_iff_ne]; omega
          clear hdone hk0 hk1
          have hmc := hM3H.out.mc
          by_cases hfew : m1 < D
          · have hno := Lib.hid (mkno_of hdH.out (hM3H.out.hv.few hsl.out.2 (by rw [hll.out, hDH.out]; exact hfew)))
            have hfin := Lib.hid (((hM3H.out.b.setCell (p := ⟨w.heap.size, 0, none⟩) (Nat.le_refl _) (.int .i64 0)).setCell (p := ⟨w.heap.size, 1, none⟩) (Nat.le_refl _) (.slice none 0 0)).alloc (by simpa using hM3H.out.b.size) (.cells #[.int .i64 v0, .int .i64 D] 43))
            clear hM3H hsrtH hsl
            have hfI : (m1 : Int) < D := by omega
            by_cases hc1 : c = 1
            · subst hc1
              obtain rfl : m1 = 0 := by omega
              go_wp2
              (try simp only [Exit.inBlock, Exit.then])
              refine bodyPost_ret (v := .tuple #[.agg #[.int .i64 0, .slice none 0 0], .int .i64 5]) ?_ rfl ⟨hfin.out, .inr ⟨rfl, hno.out⟩⟩
              rw [results_cell_tmp rfl]
              go_simp
            · rcases Nat.eq_zero_or_pos m1 with hm0 | hm0
              · subst hm0
                go_wp2
                (try simp only [Exit.inBlock, Exit.then])
                refine bodyPost_ret (v := .tuple #[.agg #[.int .i64 0, .slice none 0 0], .int .i64 5]) ?_ rfl ⟨hfin.out, .inr ⟨rfl, hno.out⟩⟩
                rw [results_cell_tmp rfl]
                go_simp
              · have hm0I : (0 : Int) < m1 := by omega
                go_wp2
                (try simp only [Exit.inBlock, Exit.then])
                refine bodyPost_ret (v := .tuple #[.agg #[.int .i64 0, .slice none 0 0], .int .i64 5]) ?_ rfl ⟨hfin.out, .inr ⟨rfl, hno.out⟩⟩
                rw [results_cell_tmp rfl]
                go_simp
          · have hc1 : ¬ c = 1 := by omega
            have hDm : D ≤ m1 := by omega
            have hDI : ¬ (m1 : Int) < D := by omega
            go_upto_region 19 with fail
            have hsz3 : q < w3.heap.size := hM3H.out.g.lt
            have hI0 := Lib.hid (show IL w.heap.size q w3.heap.size k (.slice A1 k c1) w (some ⟨g, o + 2, none⟩) m1 (pre ++ [((v0 : Int), (D : Int))]) l nd v0 D ps 0 (.slice Ae ps.length ce) (w3.alloc (.cells #[.int .i64 v0, .int .i64 D] 43)) from by
              have h := hM3H.out
              refine ⟨?_, h.z.alloc _, h.g.alloc _, ?_, Blk.new w3 43 #[.int .i64 v0, .int .i64 D], h.b.alloc h.b.size _⟩
              · rw [lessN_zero, ← hoH.out]
                have h2 := h.ns
                rw [show zof (v0 :: l) nd = ((v0 : Int), (nd v0 : Int)) :: zof l nd from rfl, hDH.out] at h2
                exact (h2.tail hVH.out).kept (World.grownBy_alloc _ _ none) (by cases (Value.slice A1 k c1).ownBlock <;> simp)
              · rw [List.take_zero, List.map_nil, List.append_nil]
                exact h.o.alloc _)
            have hsz4 : (w3.alloc (.cells #[.int .i64 v0, .int .i64 D] 43)).heap.size = w3.heap.size + 1 := by simp
            have hhv := Lib.hid hM3H.out.hv
            have hvq := Lib.hid hM3H.out.vq
            have hp1 := Lib.hid (show (pre ++ [((v0 : Int), (D : Int))]).length * 2 = o + 2 from by rw [List.length_append, ← hoH.out]; simp; omega)
            clear hM3H hgl a0 a1 z0 z1 f0 f1 l1
            generalize w3.alloc (.cells #[.int .i64 v0, .int .i64 D] 43) = w4 at *
            generalize hff : w3.heap.size = f at *
            clear hsz4 hff
            have hfc := hI0.out.f.cell (j := 1) (v := .int .i64 D) rfl
            go_wp2
            clear hfc
            go_loopw [66] (fun jv wr => ∃ (j : Nat) (ve : Value), j ≤ D ∧ jv = .int .i64 j ∧ (∀ x ∈ l.take j, 1 ≤ nd x) ∧ IL w.heap.size q f k (.slice A1 k c1) w (some ⟨g, o + 2, none⟩) m1 (pre ++ [((v0 : Int), (D : Int))]) l nd v0 D ps j ve wr) (fun jv _ => D - (intOf jv).toNat)
            case atStart => exact ⟨0, _, by omega, rfl, fun x hx => (by simp at hx), hI0.out⟩
            case round =>
              clear hI0
              obtain ⟨j, ve, hj, rfl, h1s, hI⟩ := hrel
              obtain ⟨w5, rfl⟩ : ∃ w5 : World, w5 = wr := ⟨_, rfl⟩
              have h1H := Lib.hid h1s
              have hIH := Lib.hid hI
              by_cases hjD : j < D
              · have hat := hI.ns.at_ (show j < m1 by omega)
                rw [hp1.out, zof_at l _ (show j < l.length by rw [hll.out]; omega)] at hat
                dsimp only at hat
                rw [lessN_at (List.nodup_cons.1 hhv.out.nod).2 (by rw [hll.out]; omega)] at hat
                obtain ⟨_, _, hV3, hA3, _, hgl, a0, a1⟩ := hat
                obtain rfl : g = _ := by injection hA3 with hA3; injection hA3
                obtain ⟨x, hx⟩ : ∃ x, l.getD j 0 = x := ⟨_, rfl⟩
                have hxH := Lib.hid hx
                rw [hx] at a0 a1
                obtain ⟨nx, hnx⟩ : ∃ nx, nd x = nx := ⟨_, rfl⟩
                have hnxH := Lib.hid hnx
                rw [hnx] at a1
                have hown5 := hI.ns.own
                rw [hVH.out] at hown5
                have fz := hown5.frozenAt (o + 2 + j * 2 + 1)
                clear hown5
                obtain ⟨A3, c3, rfl⟩ := own_slice hI.o
                have hxt := Lib.hid (show x ∈ l.take (j + 1) from by
                  rw [← hx, List.take_add_one, show l[j]? = some (l.getD j 0) by simp [List.getD, show j < l.length by rw [hll.out]; omega]]
                  simp)
                have hnb : nx ≤ D := by
                  have := hsl.out.1 x (List.mem_of_mem_take hxt.out)
                  rw [hDH.out, hnxH.out] at this
                  exact this
                have hjm : (j : Int) < m1 := by omega
                have hj0 : (0 : Int) ≤ j := by omega
                have hjDI : (j : Int) < D := by omega
                clear hI h1s hx hnx hA3 hV3
                by_cases hn0 : nx = 0
                · have hno := Lib.hid (mkno_of hdH.out (hhv.out.none hsl.out.2 (x := x) (by
                    rw [hDH.out]
                    have := hxt.out
                    rw [show l.take D = l.take (j + 1) ++ (l.drop (j + 1)).take (D - (j + 1)) from by rw [← List.take_add]; congr 1; omega]
                    exact List.mem_append_left _ this) (by rw [hnxH.out, hn0])))
                  subst hn0
                  have z0 := hIH.out.z.cell (j := 0) (v := .int .i64 0) rfl; have z1 := hIH.out.z.cell (j := 1) (v := .slice none 0 0) rfl
                  have f0 := hIH.out.z.frozen 0; have f1 := hIH.out.z.frozen 1; have l1 := hIH.out.z.lt
                  have hsg : ¬ w.heap.size = g := by omega
                  have hgs : ¬ g = w.heap.size := by omega
                  have hfin := Lib.hid (((hIH.out.b.setCell (p := ⟨g, o + 2 + j * 2 + 1, none⟩) (show w.heap.size ≤ g by omega) (.int .i64 (-1))).setCell (p := ⟨w.heap.size, 0, none⟩) (Nat.le_refl _) (.int .i64 0)).setCell (p := ⟨w.heap.size, 1, none⟩) (Nat.le_refl _) (.slice none 0 0))
                  clear hIH
                  go_wp2
                  (try simp only [Exit.inBlock, Exit.then])
                  refine bodyPost_ret (v := .tuple #[.agg #[.int .i64 0, .slice none 0 0], .int .i64 5]) ?_ rfl ⟨hfin.out, .inr ⟨rfl, hno.out⟩⟩
                  rw [results_cell_tmp rfl]
                  go_simp
                · obtain ⟨n1, rfl⟩ : ∃ n1, nx = n1 + 1 := ⟨nx - 1, by omega⟩
                  have hnI : ((n1 + 1 : Nat) : Int) - 1 = (n1 : Int) := by omega
                  have hns6 := Lib.hid (show NS (w5.setCell ⟨g, o + 2 + j * 2 + 1, none⟩ (.int .i64 (n1 : Int))) (w.heap.size + 1) k (.slice A1 k c1) (pre ++ [((v0 : Int), (D : Int))]) (zof l (lessN l (j + 1) nd)) (some ⟨g, o + 2, none⟩) m1 from by
                    have h := hIH.out.ns
                    rw [hVH.out] at h ⊢
                    have h2 := h.setS (show j < m1 by omega) (n1 : Int)
                    rw [hp1.out, zof_at l _ (show j < l.length by rw [hll.out]; omega)] at h2
                    dsimp only at h2
                    have h3 := zof_step (nd := nd) (List.nodup_cons.1 hhv.out.nod).2 (show j < l.length by rw [hll.out]; omega)
                    rw [hxH.out, hnxH.out, Nat.add_sub_cancel] at h3
                    rw [hxH.out, h3] at h2
                    exact h2)
                  have hgs6 : w5.grownBy (w5.setCell ⟨g, o + 2 + j * 2 + 1, none⟩ (.int .i64 (n1 : Int))) (some g) := grown_stN _ _ _ _
                  have g6 := hIH.out.g.kept hgs6 (fun e => by injection e with e; omega)
                  have z6 := Lib.hid (hIH.out.z.kept hgs6 (fun e => by injection e with e; omega))
                  have f6 := hIH.out.f.kept hgs6 (fun e => by injection e with e; omega)
                  have o6 := hIH.out.o.kept hgs6 (.inr (fun e => by have := (hIH.out.o.lt _ e).1; omega))
                  have b6 := Lib.hid (hIH.out.b.setCell (p := ⟨g, o + 2 + j * 2 + 1, none⟩) (show w.heap.size ≤ g by omega) (.int .i64 (n1 : Int)))
                  have h16 := Lib.hid (show ∀ u ∈ l.take (j + 1), 1 ≤ nd u from fun u hu => by
                    rw [List.take_add_one, show l[j]? = some x by rw [← hxH.out]; simp [List.getD, show j < l.length by rw [hll.out]; omega]] at hu
                    rcases List.mem_append.1 hu with hu | hu
                    · exact h1H.out u hu
                    · obtain rfl : u = x := by simpa using hu
                      rw [hnxH.out]; omega)
                  go_upto_region 25 with fail
                  have hat6 := hns6.out.at_ (show j < m1 by omega)
                  rw [hp1.out, zof_at l _ (show j < l.length by rw [hll.out]; omega)] at hat6
                  dsimp only at hat6
                  rw [hxH.out] at hat6
                  obtain ⟨g7, _, _, hA7, _, hgl6, d0, _⟩ := hat6
                  obtain rfl : g = g7 := by injection hA7 with hA7; injection hA7
                  have o6H := Lib.hid o6; have g6H := Lib.hid g6; have f6H := Lib.hid f6
                  clear hA7 o6 hgs6 a0 a1 fz hIH hgl hnI
                  generalize w5.setCell ⟨g, o + 2 + j * 2 + 1, none⟩ (.int .i64 (n1 : Int)) = w6 at *
                  have p1 := g6.cell (j := 1) (v := .slice A3 (ps.length + j) c3) rfl
                  have q0 := f6.cell (j := 0) (v := .int .i64 v0) rfl
                  have hfl := f6.lt; have hql := g6.lt
                  have hrdH := Lib.hid ((rd_new3 w6 (.int .i64 (v0 : Int)) (.int .i64 (x : Int)) (.int .i64 0) 47).drew)
                  have hfne := Lib.hid (blk_ne f6 o6H.out (by decide))
                  clear g6 f6
                  go_region_law (refine step_app (s := .tmp 85) (x := .tmp 94) _ tiEdM (own_drew (o6H.out.alloc _)) hrdH.out (ps3_one (l := [((v0 : Int), (x : Int), 0)])) (by omega) (by omega) (by simp; omega) rfl rfl rfl rfl ?_
                                 intro v' w9 hown' hg hat
                                 obtain ⟨g', cap', rfl⟩ := ownsRow_succ hown'
                                 have hne3 : ∀ b, b < q + 1 → (some b : Option Nat) ≠ (Value.slice A3 (ps.length + j) c3).ownBlock := fun b hb e => by
                                   have := (o6H.out.lt b e.symm).1
                                   omega
                                 have bk9 : Blk w9 q 33 #[.int .i64 k, .slice A3 (ps.length + j) c3] := (show Blk (w6.alloc (.cells #[.int .i64 (v0 : Int), .int .i64 (x : Int), .int .i64 0] 47)).drew q 33 #[.int .i64 k, .slice A3 (ps.length + j) c3] from g6H.out.alloc (.cells #[.int .i64 (v0 : Int), .int .i64 (x : Int), .int .i64 0] 47)).kept hg (hne3 q (by omega))
                                 have bz9 : Blk w9 w.heap.size 33 #[.int .i64 0, .slice none 0 0] := (show Blk (w6.alloc (.cells #[.int .i64 (v0 : Int), .int .i64 (x : Int), .int .i64 0] 47)).drew w.heap.size 33 #[.int .i64 0, .slice none 0 0] from z6.out.alloc (.cells #[.int .i64 (v0 : Int), .int .i64 (x : Int), .int .i64 0] 47)).kept hg (hne3 _ (by have := hqs2.out; omega))
                                 have bf9 : Blk w9 f 43 #[.int .i64 v0, .int .i64 D] := (show Blk (w6.alloc (.cells #[.int .i64 (v0 : Int), .int .i64 (x : Int), .int .i64 0] 47)).drew f 43 #[.int .i64 v0, .int .i64 D] from f6H.out.alloc (.cells #[.int .i64 (v0 : Int), .int .i64 (x : Int), .int .i64 0] 47)).kept hg (fun e => hfne.out e.symm)
                                 have bn9 := NS.kept (r := (Value.slice A3 (ps.length + j) c3).ownBlock) (show NS (w6.alloc (.cells #[.int .i64 (v0 : Int), .int .i64 (x : Int), .int .i64 0] 47)).drew _ _ _ _ _ _ _ from (NS.kept (r := none) hns6.out (World.grownBy_alloc _ (.cells #[.int .i64 (v0 : Int), .int .i64 (x : Int), .int .i64 0] 47) none) (by cases (Value.slice A1 k c1).ownBlock <;> simp)).drew) hg (.inr (fun e => by rw [hVH.out] at e; exact hne3 g (by omega) e))
                                 have be9 := (b6.out.alloc b6.out.size (.cells #[.int .i64 (v0 : Int), .int .i64 (x : Int), .int .i64 0] 47)).drew.grown hg (by have := b6.out.size; simp; omega) (fun b e => by have := (o6H.out.lt b e).1; have := hqs2.out; omega)
                                 have p1' := bk9.cell (j := 1) (v := .slice A3 (ps.length + j) c3) rfl
                                 have p1f := bk9.frozen 1
                                 have hl8 := bk9.lt)
                  all_goals
                    have hne4 : (Value.slice (some ⟨g', 0, none⟩) (ps.length + j + 1) cap').ownBlock ≠ some (⟨q, 1, none⟩ : Addr).block := fun e => by
                      have := (hown'.lt _ e).1
                      simp only at this
                      omega
                    have hIF := Lib.hid (show IL w.heap.size q f k (.slice A1 k c1) w (some ⟨g, o + 2, none⟩) m1 (pre ++ [((v0 : Int), (D : Int))]) l nd v0 D ps (j + 1) (.slice (some ⟨g', 0, none⟩) (ps.length + j + 1) cap') (w9.setCell ⟨q, 1, none⟩ (.slice (some ⟨g', 0, none⟩) (ps.length + j + 1) cap')) from by
                      have hgq9 := grown_stN w9 q 1 (.slice (some ⟨g', 0, none⟩) (ps.length + j + 1) cap')
                      refine ⟨bn9.kept hgq9 (.inr fun e => by rw [hVH.out] at e; have e : g = q := (by injection e); omega), bz9.kept hgq9 (fun e => by have := hqs2.out; injection e with e; omega), bk9.set 1 _, ?_, bf9.kept hgq9 (fun e => by injection e with e; omega), be9.setCell (p := ⟨q, 1, none⟩) (show w.heap.size ≤ q from by have := hqs2.out; omega) _⟩
                      have e2 : ps3 .i64 .i64 .i64 (toQ (ps ++ (l.take (j + 1)).map fun u => (v0, u))) = ps3 .i64 .i64 .i64 (toQ (ps ++ (l.take j).map fun u => (v0, u))) ++ [.int .i64 (v0 : Int), .int .i64 (x : Int), .int .i64 0] := by
                        rw [List.take_add_one, show l[j]? = some x by rw [← hxH.out]; simp [List.getD, show j < l.length by rw [hll.out]; omega]]
                        simp [ps3, toQ]
                      rw [e2]
                      exact own_set_other hown' hne4 _)
                    clear hne4 hown' bk9 bz9 bf9 bn9 be9 hg hat
                    go_wp2
                    go_roundw
                    case rel => exact ⟨j + 1, _, by omega, by go_num, h16.out, hIF.out⟩
                    case measure => simp [intOf]; omega
              · obtain rfl : j = D := by omega
                obtain ⟨A3, c3, rfl⟩ := own_slice hI.o
                have hMF := Lib.hid (show ML w.heap.size q k dN (.slice A1 k c1) w (some ⟨g, o + 2, none⟩) m1 (c - 1) (pre ++ [((v0 : Int), (j : Int))]) l (lessN l j nd) (ps ++ (l.take j).map fun u => (v0, u)) (.slice A3 (ps.length + j) c3) w5 from by
                  have hnx := hhv.out.next hsl.out.2 (by rw [hDH.out, hll.out]; exact hDm) (fun x hx => h1H.out x (by rw [hDH.out] at hx; exact hx))
                  rw [hDH.out] at hnx
                  refine ⟨by omega, hI.ns, hnx, hI.z, hI.g, ?_, hI.b, hvq.out⟩
                  have := hI.o
                  rw [List.length_append, List.length_map, List.length_take, Nat.min_eq_left (by rw [hll.out]; exact hDm)]
                  exact this)
                clear hI hIH
                go_wp2
                go_roundw
                case rel => exact ⟨_, m1, _, _, _, _, _, _, rfl, hMF.out⟩
                case measure => simp [lenV]
end Go.Proofs.Ytfbomimkjiaohaa
