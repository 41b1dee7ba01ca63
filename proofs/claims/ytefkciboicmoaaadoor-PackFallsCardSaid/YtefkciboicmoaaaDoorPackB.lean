/- pack.first: each into the first box with room. -/
import Derived.Test.YtefkciboicmoaaaDoorPackA
import Derived.Test.YtefkciboicmoaaaDoorHeld
namespace Go.Proofs.YtefkciboicmoaaaDoor
open Go.RowKit

/-- so many are put in that order: how full each box is, and whose box is which -/
inductive FF (z : Nat → Int) (room : Int) : List Nat → List Int → (Nat → Int) → Prop
  | start : FF z room [] [] (fun _ => 0)
  | fit {o : List Nat} {bs : List Int} {F : Nat → Int} {i k : Nat} : FF z room o bs F → k < bs.length → bs.getD k 0 + z i ≤ room → (∀ c, c < k → room < bs.getD c 0 + z i) → FF z room (o ++ [i]) (bs.set k (bs.getD k 0 + z i)) (fun j => if j = i then (k : Int) else F j)
  | new {o : List Nat} {bs : List Int} {F : Nat → Int} {i : Nat} : FF z room o bs F → (∀ c, c < bs.length → room < bs.getD c 0 + z i) → FF z room (o ++ [i]) (bs ++ [z i]) (fun j => if j = i then (bs.length : Int) else F j)
theorem FF.len {z : Nat → Int} {room : Int} {o : List Nat} {bs : List Int} {F : Nat → Int} (h : FF z room o bs F) : bs.length ≤ o.length := by
  induction h with
  | start => simp
  | fit _ _ _ _ ih => simp; omega
  | new _ _ ih => simp; omega
theorem FF.bd {z : Nat → Int} {room : Int} {o : List Nat} {bs : List Int} {F : Nat → Int} (hz : ∀ i, 0 ≤ z i ∧ z i ≤ room) (h : FF z room o bs F) : ∀ c, c < bs.length → 0 ≤ bs.getD c 0 ∧ bs.getD c 0 ≤ room := by
  induction h with
  | start => intro c hc; simp at hc
  | @fit o bs F i k _ hk hr _ ih =>
    intro c hc
    have hi := hz i
    rw [List.length_set] at hc
    rw [List.getD, List.getElem?_set]
    by_cases h1 : k = c
    · subst h1
      rw [if_pos rfl, if_pos hk]
      have := ih k hk
      simp
      simp at hr this
      omega
    · rw [if_neg h1]; exact ih c hc
  | @new o bs F i _ _ ih =>
    intro c hc
    simp at hc
    rcases Nat.lt_or_ge c bs.length with h1 | h1
    · rw [List.getD, List.getElem?_append_left h1]; exact ih c h1
    · obtain rfl : c = bs.length := by omega
      rw [List.getD, List.getElem?_append_right (Nat.le_refl _)]
      simpa using hz i
theorem idx_cases (p : Int → Bool) (cs : List Int) : (idxL p cs = -1 ∧ ∀ j, j < cs.length → p (cs.getD j 0) = false) ∨ ∃ k : Nat, k < cs.length ∧ idxL p cs = k ∧ p (cs.getD k 0) = true ∧ ∀ j, j < k → p (cs.getD j 0) = false := by
  unfold idxL
  cases h : cs.findIdx? p with
  | none =>
    refine .inl ⟨rfl, fun j hj => ?_⟩
    have := List.findIdx?_eq_none_iff.1 h cs[j] (List.getElem_mem _)
    simpa [List.getD, hj] using this
  | some k =>
    obtain ⟨hk, hp, hb⟩ := List.findIdx?_eq_some_iff_getElem.1 h
    refine .inr ⟨k, hk, rfl, by simpa [List.getD, hk] using hp, fun j hj => ?_⟩
    have := hb j hj
    simpa [List.getD, show j < cs.length by omega] using this
theorem entF1 (args : Array Value) (w : World) : (callFunc 24 args).run Tryd.prog w = .ok (.enter 24 args) w := by go_simp
theorem fits_any (b0 bi b1 : Nat) (A : Option Addr) (len cap : Nat) (zs : List Int) (room x : Int) (i : Nat) (w : World) (hr : Rd w A len 1 (ints .i64 zs)) (hi : i < len)
    (h0 : w.cell? ⟨b0, 0, none⟩ = some (.slice A len cap)) (h1 : w.cell? ⟨bi, 0, none⟩ = some (.int .i64 (i : Int))) (h2 : w.cell? ⟨b1, 0, none⟩ = some (.int .i64 room)) (hx : -9000000 ≤ x + zs.getD i 0 ∧ x + zs.getD i 0 ≤ 9000000) :
    Calls Tryd.prog 24 #[.int .i64 x, .pointer (some ⟨b0, 0, none⟩), .pointer (some ⟨bi, 0, none⟩), .pointer (some ⟨b1, 0, none⟩)] w fun e w' => e = .returned (.bool (decide (x + zs.getD i 0 ≤ room))) ∧ Below w.heap.size w w' := by
  obtain ⟨b, o, rfl, hab, hci⟩ := hr.int hi
  clear hr
  generalize zs.getD i 0 = z at *
  have hw : IntKind.i64.wrap (x + z) = x + z := IntWalk.i64_in _ (by omega)
  go_enter Tryd.func24, Tryd.ntmps24
  go_wp2
  go_quiet (fail)
  go_wp2
  go_ret
  exact ⟨rfl, below_drewN (Below.refl _ _) _⟩
theorem tiB : TI Tryd.prog 22 2 (.int .i64 0) 1 8 := TI.mk' Tryd.underlying22 (by kernel_rfl) rfl (by decide)
theorem own_atI {w : World} {b e n c : Nat} {A : Option Addr} {bs : List Int} (h : w.ownsRow b e 1 (.slice A n c) n (ints .i64 bs)) {j : Nat} (hj : j < n) : ∃ g, A = some ⟨g, 0, none⟩ ∧ b ≤ g ∧ g < w.heap.size ∧ w.cell? ⟨g, j, none⟩ = some (.int .i64 (bs.getD j 0)) := by
  rcases h.2 with ⟨h1, h2⟩ | ⟨g, cap, cur, h1, h2, h3, h4⟩
  · omega
  · injection h1 with h1 _ _
    subst h1
    obtain ⟨b', o', hA, hlt, hc⟩ := (Rd.of_own h).int hj
    injection hA with hA; injection hA with hA hA2 _
    subst hA; subst hA2
    rw [Nat.zero_add] at hc
    exact ⟨g, rfl, h2, hlt, hc⟩
theorem ints_setI (l : List Int) (j : Nat) (v : Int) : (ints .i64 l).set j (.int .i64 v) = ints .i64 (l.set j v) := by simp [ints, List.map_set]
/-- the memory of first: the sizes, the room, whose box is which, how full each is -/
structure FS (s : Nat) (w : World) (A : Option Addr) (cap : Nat) (room : Int) (n : Nat) (v : Value) (bs : List Int) (F : Nat → Int) (W : World) : Prop where
  owb : W.ownsRow (s + 3) 2 1 v bs.length (ints .i64 bs)
  owl : W.ownsRow (s + 2) 3 1 (.slice (some ⟨s + 2, 0, none⟩) n n) n (row n F)
  b0 : Boxed W s 22 (.slice A n cap)
  b1 : Boxed W (s + 1) 2 (.int .i64 room)
  hb : Below s w W
  hs : s + 3 ≤ W.heap.size
section
variable {s : Nat} {w W : World} {A : Option Addr} {cap : Nat} {room : Int} {n : Nat} {v : Value} {bs : List Int} {F : Nat → Int}
theorem FS.alloc (h : FS s w A cap room n v bs F W) (o : Obj) : FS s w A cap room n v bs F (W.alloc o) :=
  ⟨h.owb.alloc o, h.owl.alloc o, h.b0.alloc o, h.b1.alloc o, h.hb.alloc (by have := h.hs; omega) o, by have := h.hs; simp; omega⟩
theorem FS.below (h : FS s w A cap room n v bs F W) {W' : World} (hb : Below W.heap.size W W') : FS s w A cap room n v bs F W' :=
  ⟨own_below h.owb hb, own_below h.owl hb, (hb.block _ h.b0.lt).trans h.b0, (hb.block _ h.b1.lt).trans h.b1, h.hb.trans (hb.mono (by have := h.hs; omega)), by have := h.hs; have := hb.size; omega⟩
theorem FS.drew (h : FS s w A cap room n v bs F W) : FS s w A cap room n v bs F W.drew := ⟨own_drewN h.owb 1, own_drewN h.owl 1, h.b0, h.b1, below_drewN h.hb 1, h.hs⟩
theorem FS.storeB {g c m : Nat} (h : FS s w A cap room n (.slice (some ⟨g, 0, none⟩) m c) bs F W) (hm : bs.length = m) (hg : s + 3 ≤ g) (j : Nat) (x : Int) : FS s w A cap room n (.slice (some ⟨g, 0, none⟩) m c) (bs.set j x) F (W.setCell ⟨g, j, none⟩ (.int .i64 x)) := by
  subst hm
  have hst := (h.owb.stored j (.int .i64 x)).1
  rw [ints_setI] at hst
  refine ⟨by rw [List.length_set]; exact hst, own_set_other h.owl (by intro e; injection e with e; have : s + 2 = g := e; omega) _, (Below.heap_setCell _ _ _ _ (show s ≠ g by omega)).trans h.b0, (Below.heap_setCell _ _ _ _ (show s + 1 ≠ g by omega)).trans h.b1, h.hb.setCell (p := ⟨g, j, none⟩) (show s ≤ g by omega) _, by have := h.hs; simpa using this⟩
theorem FS.storeL (h : FS s w A cap room n v bs F W) (i : Nat) (x : Int) : FS s w A cap room n v bs (fun j => if j = i then x else F j) (W.setCell ⟨s + 2, i, none⟩ (.int .i64 x)) := by
  have hst := (h.owl.stored i (.int .i64 x)).1
  rw [row_set] at hst
  refine ⟨own_set_other h.owb (fun e => by have := (h.owb.lt _ e).1; have h2 : s + 3 ≤ s + 2 := this; omega) _, hst, (Below.heap_setCell _ _ _ _ (show s ≠ s + 2 by omega)).trans h.b0, (Below.heap_setCell _ _ _ _ (show s + 1 ≠ s + 2 by omega)).trans h.b1, h.hb.setCell (p := ⟨s + 2, i, none⟩) (show s ≤ s + 2 by omega) _, by have := h.hs; simpa using this⟩
theorem FS.appended (h : FS s w A cap room n v bs F W) {v' : Value} {W' : World} {x : Int} (how : W'.ownsRow (s + 3) 2 1 v' (bs ++ [x]).length (ints .i64 (bs ++ [x]))) (hg : W.grownBy W' v.ownBlock) : FS s w A cap room n v' (bs ++ [x]) F W' := by
  have hne : ∀ j, j < s + 3 → (some j : Option Nat) ≠ v.ownBlock := fun j hj e => by have := (h.owb.lt j e.symm).1; omega
  refine ⟨how, h.owl.kept hg (.inr fun e => hne (s + 2) (by omega) e), h.b0.kept hg (hne _ (by omega)), h.b1.kept hg (hne _ (by omega)), h.hb.grown hg (by have := h.hs; omega) (fun g e => by have := (h.owb.lt g e).1; omega), by have := hg.size; have := h.hs; omega⟩
end
def FirstPost (zs : List Int) (room : Int) (n : Nat) (y : List Nat) (B : Nat) (w : World) (e : Ending) (w' : World) : Prop :=
  ∃ (g : Nat) (bs : List Int) (F : Nat → Int), e = .returned (.slice (some ⟨g, 0, none⟩) n n) ∧ Rd w' (some ⟨g, 0, none⟩) n 1 (row n F) ∧ FF (fun i => zs.getD i 0) room y bs F ∧ Below B w w'
set_option maxRecDepth 100000 in
set_option maxHeartbeats 3200000 in
theorem first_any (A : Option Addr) (n cap : Nat) (zs : List Int) (room : Int) (Ao : Option Addr) (co : Nat) (y : List Nat) (w : World) (hr : Rd w A n 1 (ints .i64 zs)) (hn : n ≤ 8) (hroom : 1 ≤ room ∧ room ≤ 1048576) (hz : ∀ i, 0 ≤ zs.getD i 0 ∧ zs.getD i 0 ≤ room)
    (hro : Rd w Ao n 1 (ints .i64 (natI y))) (hp : y.Perm (List.range n)) :
    Calls Tryd.prog 12 #[.slice A n cap, .int .i64 room, .slice Ao n co] w (FirstPost zs room n y w.heap.size w) := by
  have hyl : y.length = n := by simpa using hp.length_eq
  have gb := ((Below.refl _ w).alloc (Nat.le_refl _) (.cells #[.slice A n cap] 22)).alloc (by simp) (.cells #[.int .i64 room] 2)
  have bx0 := (Boxed.new w 22 (.slice A n cap)).alloc (.cells #[.int .i64 room] 2)
  have bx1 := Boxed.new (w.alloc (.cells #[.slice A n cap] 22)) 2 (.int .i64 room)
  rw [World.size_alloc] at bx1
  have hs0 : ((w.alloc (.cells #[.slice A n cap] 22)).alloc (.cells #[.int .i64 room] 2)).heap.size = w.heap.size + 2 := by simp
  have hrH := Lib.hid hr; have hroH := Lib.hid hro; have hpH := Lib.hid hp; have hzH := Lib.hid hz; have hylH := Lib.hid hyl
  clear hr hro hp hz hyl
  go_enter Tryd.func12, Tryd.ntmps12
  have cx0 := bx0.cell
  go_wp2_with (at_make; refine wpList_mk1 _ tiO (w.heap.size + 2) n (by omega) (by omega) (by simp) rfl rfl rfl rfl rfl rfl rfl ?_)
  generalize (w.alloc (.cells #[.slice A n cap] 22)).alloc (.cells #[.int .i64 room] 2) = wg at *
  intro w1 hown hg1
  rw [row_replicate] at hown
  have hbg := below_grown hg1
  have bx0 : Boxed w1 w.heap.size 22 (.slice A n cap) := (hbg.block _ bx0.lt).trans bx0
  have bx1 : Boxed w1 (w.heap.size + 1) 2 (.int .i64 room) := (hbg.block _ bx1.lt).trans bx1
  have hbw := gb.trans (hbg.mono (by omega))
  have hs1 := hbg.size
  have hlt1 : w.heap.size + 2 < w1.heap.size := (hown.lt _ rfl).2
  clear hbg hg1 gb cx0
  go_wp2
  go_loopw [8, 10, 11, 17] (fun v _ _ q wr => ∃ (k : Nat) (bs : List Int) (F : Nat → Int), k ≤ n ∧ q = .int .i64 k ∧ FF (fun i => zs.getD i 0) room (y.take k) bs F ∧ FS w.heap.size w A cap room n v bs F wr) (fun _ _ _ q _ => n - (intOf q).toNat)
  case atStart => exact ⟨0, [], _, Nat.zero_le _, rfl, FF.start, ⟨⟨rfl, .inl ⟨rfl, rfl⟩⟩, hown, bx0, bx1, hbw, by omega⟩⟩
  case round =>
    clear hown bx0 bx1 hbw hlt1
    obtain ⟨k, bs, F, hk, rfl, hF, hS⟩ := hrel
    obtain ⟨Ab, cb, rfl⟩ := own_slice hS.owb
    by_cases hlt : k < n
    · obtain ⟨bo, oo, rfl, hbo, hcy⟩ := (hroH.out.later hS.hb).int hlt
      rw [natI_at (by rw [hylH.out]; exact hlt)] at hcy
      have hin : y.getD k 0 < n := List.mem_range.1 (hpH.out.mem_iff.1 (by rw [List.getD, List.getElem?_eq_getElem (by rw [hylH.out]; exact hlt)]; exact List.getElem_mem _))
      have htk := take_succ_getD' y 0 k (by rw [hylH.out]; exact hlt)
      have hbl := hF.len
      have hbd := hF.bd hzH.out
      rw [List.length_take] at hbl
      have hfit := Lib.hid (fun c (h1 : c < bs.length) h2 h3 => hF.fit (i := y.getD k 0) (k := c) h1 h2 h3)
      have hnew := Lib.hid (fun h => hF.new (i := y.getD k 0) h)
      rw [← htk] at hfit hnew
      generalize y.getD k 0 = i at *
      have hzi := hzH.out i
      have bi := Boxed.new wr 3 (.int .i64 (i : Int))
      have hSn := hS.alloc (.cells #[.int .i64 (i : Int)] 3)
      have hsn : (wr.alloc (.cells #[.int .i64 (i : Int)] 3)).heap.size = wr.heap.size + 1 := by simp
      have HI := indexFuncL Ab bs.length cb bs 24 #[.pointer (some ⟨w.heap.size, 0, none⟩), .pointer (some ⟨wr.heap.size, 0, none⟩), .pointer (some ⟨w.heap.size + 1, 0, none⟩)] (fun x => decide (x + zs.getD i 0 ≤ room)) _ (Rd.of_own hSn.owb) (by omega) entF1 (fun a w' ha hB => by
        obtain ⟨c, hc, rfl⟩ := List.getElem_of_mem ha
        have hbc := hbd c hc
        have e : bs.getD c 0 = bs[c] := by simp [List.getD, hc]
        rw [e] at hbc
        have hS2 := hSn.below hB
        refine fits_any _ _ _ A n cap zs room _ i w' (hrH.out.later hS2.hb) hin hS2.b0.cell ?_ hS2.b1.cell (by omega)
        exact (hB.cell (p := ⟨wr.heap.size, 0, none⟩) bi.lt).trans bi.cell)
      have HIH := Lib.hid HI
      have g1 := Lib.hid bi; have g2 := Lib.hid hSn
      clear HI bi hSn hF hS htk
      go_wp2_with fail
      generalize wr.alloc (.cells #[.int .i64 (i : Int)] 3) = wa at *
      refine HIH.out.mono ?_
      rintro _ w2 ⟨rfl, hb2⟩
      have hS := g2.out.below hb2
      have bi : Boxed w2 wr.heap.size 3 (.int .i64 (i : Int)) := (hb2.block _ g1.out.lt).trans g1.out
      clear HIH g1 g2 hb2
      rcases idx_cases (fun x => decide (x + zs.getD i 0 ≤ room)) bs with ⟨hix, hnone⟩ | ⟨q, hq, hix, hpq, hbef⟩
      · rw [hix]
        have hnx := Lib.hid (hnew.out fun c hc => by have h : ¬ (bs.getD c 0 + zs.getD i 0 ≤ room) := of_decide_eq_false (hnone c hc); omega)
        have hSH := Lib.hid hS; have biH := Lib.hid bi
        have hblt := bi.lt
        clear hix hnone hfit hnew hS bi hbd
        go_wp2_with (at_builtin; refine wpList_app (s := .tmp 28) (x := .tmp 29) _ tiB (hSH.out.owb.alloc _) (rd_new1 _ (.int .i64 0) 2) (ints_one (l := [0])) (by omega) (by omega) (by have := hSH.out.hs; simp; omega) rfl rfl rfl rfl ?_)
        intro v' w3 hown3 hg3 _
        obtain ⟨gq, cq, rfl⟩ := ownsRow_succ hown3
        have hS3 := (hSH.out.alloc (.cells #[.int .i64 0] 2)).appended (x := 0) (by rw [List.length_append]; simpa [ints] using hown3) hg3
        have bi3 : Boxed w3 wr.heap.size 3 (.int .i64 (i : Int)) := (biH.out.alloc _).kept hg3 ((biH.out.alloc (.cells #[.int .i64 0] 2)).not_row (by decide) (hSH.out.owb.alloc (.cells #[.int .i64 0] 2)))
        have hval : (bs ++ [0]).getD bs.length 0 = 0 := by simp [List.getD]
        have hset : (bs ++ [(0 : Int)]).set bs.length (zs.getD i 0) = bs ++ [zs.getD i 0] := by simp
        have hsetH := Lib.hid hset
        have hlen : (bs ++ [(0 : Int)]).length = bs.length + 1 := by simp
        have hqm : bs.length < bs.length + 1 := by omega
        have ow : w3.ownsRow (w.heap.size + 3) 2 1 (.slice (some ⟨gq, 0, none⟩) (bs.length + 1) cq) (bs.length + 1) (ints .i64 (bs ++ [0])) := by have := hS3.owb; rwa [hlen] at this
        clear hown3 hg3 hSH biH hset
        obtain ⟨bz, oz, hAz, hbz, hcz⟩ := (hrH.out.later hS3.hb).int hin
        cases hAz
        have cx0 := hS3.b0.cell; have cx1 := hS3.b1.cell; have cxi := bi3.cell
        have hgq := hS3.owb.lt gq rfl
        have hcq : w3.cell? ⟨gq, bs.length, none⟩ = some (.int .i64 (0)) := by
          obtain ⟨g', e1, _, _, e2⟩ := own_atI ow (j := bs.length) hqm
          cases e1
          rw [e2, hval]
        have hfq := ow.frozenAt bs.length
        have hcl2 : w3.cell? ⟨w.heap.size + 2, i, none⟩ = some (.int .i64 (F i)) := by
          obtain ⟨_, _, e1, _, e2⟩ := (Rd.of_own hS3.owl).row hin
          cases e1
          simpa using e2
        have hfl2 := hS3.owl.frozenAt i
        have hll2 := (hS3.owl.lt (w.heap.size + 2) rfl).2
        have hwz : IntKind.i64.wrap (zs.getD i 0) = zs.getD i 0 := IntWalk.i64_in _ (by omega)
        have hgb : wr.heap.size ≠ gq := fun e => by
          have := bi3.not_row (by decide) hS3.owb
          exact this (by rw [e]; rfl)
        have hbl2 := bi3.lt
        have S1 := Lib.hid ((hS3.storeB hlen hgq.1 bs.length (zs.getD i 0)).drew)
        have bi1 := Lib.hid (show Boxed (w3.setCell ⟨gq, bs.length, none⟩ (.int .i64 (zs.getD i 0))).drew wr.heap.size 3 (.int .i64 (i : Int)) from (Below.heap_setCell _ _ _ _ hgb).trans bi3)
        have S2 := Lib.hid (S1.out.storeL i (bs.length : Nat))
        clear hS3 bi3 hgq ow hlen
        generalize zs.getD i 0 = zi at *
        go_wp2
        go_region
        generalize (w3.setCell ⟨gq, bs.length, none⟩ (.int .i64 zi)).drew = W4 at *
        have cxi4 := bi1.out.cell
        have hcl4 : W4.cell? ⟨w.heap.size + 2, i, none⟩ = some (.int .i64 (F i)) := by
          obtain ⟨_, _, e1, _, e2⟩ := (Rd.of_own S1.out.owl).row hin
          cases e1
          simpa using e2
        have hfl4 := S1.out.owl.frozenAt i
        have hll4 := (S1.out.owl.lt (w.heap.size + 2) rfl).2
        clear S1 bi1 cx0 cx1 cxi hcq hfq hcl2 hfl2 hcz
        go_wp2
        go_roundw
        case rel => exact ⟨k + 1, _, _, by omega, by go_num, hnx.out, by rw [← hsetH.out]; exact S2.out⟩
        case measure => simp [intOf]; omega
      · rw [hix]
        have hnx := Lib.hid (hfit.out q hq (of_decide_eq_true hpq) fun c hc => by have h : ¬ (bs.getD c 0 + zs.getD i 0 ≤ room) := of_decide_eq_false (hbef c hc); omega)
        obtain ⟨gq, hAq, -, -, -⟩ := own_atI hS.owb hq
        subst hAq
        have hbq := hbd q hq
        obtain ⟨xq, hval⟩ : ∃ xq, bs.getD q 0 = xq := ⟨_, rfl⟩
        rw [hval] at hbq hnx
        have hq0 : (0 : Int) ≤ q := by omega
        have hlen : bs.length = bs.length := rfl
        have hqm := hq
        have ow := hS.owb
        clear hix hnew hfit hbef hbd hpq
        obtain ⟨bz, oz, hAz, hbz, hcz⟩ := (hrH.out.later hS.hb).int hin
        cases hAz
        have cx0 := hS.b0.cell; have cx1 := hS.b1.cell; have cxi := bi.cell
        have hgq := hS.owb.lt gq rfl
        have hcq : w2.cell? ⟨gq, q, none⟩ = some (.int .i64 (xq)) := by
          obtain ⟨g', e1, _, _, e2⟩ := own_atI ow (j := q) hqm
          cases e1
          rw [e2, hval]
        have hfq := ow.frozenAt q
        have hcl2 : w2.cell? ⟨w.heap.size + 2, i, none⟩ = some (.int .i64 (F i)) := by
          obtain ⟨_, _, e1, _, e2⟩ := (Rd.of_own hS.owl).row hin
          cases e1
          simpa using e2
        have hfl2 := hS.owl.frozenAt i
        have hll2 := (hS.owl.lt (w.heap.size + 2) rfl).2
        have hwz : IntKind.i64.wrap (xq + zs.getD i 0) = xq + zs.getD i 0 := IntWalk.i64_in _ (by omega)
        have hgb : wr.heap.size ≠ gq := fun e => by
          have := bi.not_row (by decide) hS.owb
          exact this (by rw [e]; rfl)
        have hbl2 := bi.lt
        have S1 := Lib.hid ((hS.storeB hlen hgq.1 q (xq + zs.getD i 0)).drew)
        have bi1 := Lib.hid (show Boxed (w2.setCell ⟨gq, q, none⟩ (.int .i64 (xq + zs.getD i 0))).drew wr.heap.size 3 (.int .i64 (i : Int)) from (Below.heap_setCell _ _ _ _ hgb).trans bi)
        have S2 := Lib.hid (S1.out.storeL i (q : Nat))
        clear hS bi hgq ow hlen
        generalize zs.getD i 0 = zi at *
        go_wp2
        go_region
        generalize (w2.setCell ⟨gq, q, none⟩ (.int .i64 (xq + zi))).drew = W4 at *
        have cxi4 := bi1.out.cell
        have hcl4 : W4.cell? ⟨w.heap.size + 2, i, none⟩ = some (.int .i64 (F i)) := by
          obtain ⟨_, _, e1, _, e2⟩ := (Rd.of_own S1.out.owl).row hin
          cases e1
          simpa using e2
        have hfl4 := S1.out.owl.frozenAt i
        have hll4 := (S1.out.owl.lt (w.heap.size + 2) rfl).2
        clear S1 bi1 cx0 cx1 cxi hcq hfq hcl2 hfl2 hcz
        go_wp2
        go_roundw
        case rel => exact ⟨k + 1, _, _, by omega, by go_num, hnx.out, S2.out⟩
        case measure => simp [intOf]; omega
    · obtain rfl : k = n := by omega
      have hF2 := hF
      rw [List.take_of_length_le (by rw [hylH.out]; omega)] at hF2
      have hFH := Lib.hid hF2; have hSH := Lib.hid hS
      clear hF hF2 hS
      go_wp2
      go_ret
      exact ⟨w.heap.size + 2, bs, F, rfl, Rd.of_own hSH.out.owl, hFH.out, hSH.out.hb⟩
end Go.Proofs.YtefkciboicmoaaaDoor
