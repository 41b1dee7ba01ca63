/- slices.Values, and what AppendSeq and Collect make of it (XCollectB and XBack turned). The shelf's structure Lays.n189 at this program (written by tools/lays.py). The shelf's structure Lays2.n20 at this program (written by tools/lays.py). The shelf's structure Lays.n111 at this program (written by tools/lays.py). slices.Sort at a row of the call's own, slices.Sorted of slices.Values, slices.Compact, slices.Equal: off the shelf. maps.Check: may a map be? teamsterref.Near at any two numbers. teamsterref.MapCheck. The program's Check and the reference's ask the same; what they ask of the lists; the other way round. Plain. graph.Parts tells labels; how many unlike ones a sorted list has. Plain. maps.Faces, maps.Holes. -/
import Derived.Test.YtonalhedjjobeaaDoorCollectB
import Derived.RangeFuncNested
import Derived.TacticsInMore
import Derived.Shelf.Sort.Plain
import Derived.Test.YtonalhedjjobeaaDoorRows
import Derived.Shelf.Slices.CompactI
import Derived.Shelf.Slices.Equal
import Derived.Shelf.Slices.In.SortNone
import Derived.Sort.OwnSortedInts
import Derived.Test.YtonalhedjjobeaaDoorGoodC
import Derived.Test.YtonalhedjjobeaaDoorBlk
import Derived.Test.YtonalhedjjobeaaDoorRows2
import Derived.Test.YtonalhedjjobeaaDoorAdj
import Derived.Test.YtonalhedjjobeaaDoorRefNearA
import Derived.Test.YtonalhedjjobeaaDoorDegreeL
import Derived.Test.YtonalhedjjobeaaDoorHas
import Derived.Test.YtonalhedjjobeaaDoorMapsFc
import Derived.Lib.SlKeysI
import Derived.Test.YtonalhedjjobeaaDoorSpreadLaw
import Derived.Test.YtonalhedjjobeaaDoorNearGr
import Derived.Test.YtonalhedjjobeaaDoorForest
import Derived.Lib.SlicesCompact
import Derived.Test.YtonalhedjjobeaaDoorPartsB
import Derived.Test.YtonalhedjjobeaaDoorBel
namespace Go.Proofs.YtonalhedjjobeaaDoor
open Go.RowKit Go.Shelf
attribute [local go_sem] Oper.semAt_some

abbrev PlV (n : Nat) := {m : Nat // m < n}
def unV (zs : List Int) {n : Nat} (l : List (PlV n)) : List Int := l.map fun x => zs.getD x.1 0
theorem unV_snoc (zs : List Int) {n : Nat} (l : List (PlV n)) (y : PlV n) : unV zs (l ++ [y]) = unV zs l ++ [zs.getD y.1 0] := by simp [unV]
theorem unV_all {zs : List Int} {n : Nat} (hl : zs.length = n) {l : List (PlV n)} (h : l.map (·.1) = List.range n) : unV zs l = zs := by
  have e : unV zs l = (l.map (·.1)).map fun i => zs.getD i 0 := by unfold unV; rw [List.map_map]; rfl
  rw [e, h]
  subst hl
  apply List.ext_getElem?
  intro i
  by_cases hi : i < zs.length
  · simp [hi, List.getD]
  · simp [hi]
set_option maxRecDepth 100000 in
set_option maxHeartbeats 2000000 in
theorem vals1_in (n : Nat) (hn : 1 ≤ n) (l Bs n₀ : Nat) (A : Option Addr) (len cap : Nat) (zs : List Int) (wq : World) (hr : Rd wq A len 1 (ints .i64 zs)) (hq : wq.heap.size ≤ n₀) (hlen : len ≤ 9223372036854775807) (J Jx : List (PlV len) → World → Prop)
    (hY : ∀ pre x W, J pre W → pre.length < len → YieldAt Fence.wide (n - 1) Tryd.prog l #[.int .i64 (zs.getD x.1 0)] W fun e W' =>
      (e = .returned (.bool true) ∧ J (pre ++ [x]) W' ∧ KpE n₀ Bs W W') ∨ (e = .returned (.bool false) ∧ Jx (pre ++ [x]) W'))
    (W : World) (hB : Below n₀ wq W) (hBs : Boxed W Bs 31 (.slice A len cap)) (h0 : J [] W) :
    CallsIn Fence.wide n Tryd.prog 34 #[.func (.yield l) #[] #[], .pointer (some ⟨Bs, 0, none⟩)] W fun e W' => (∃ v, e = .returned v) ∧
      ((∃ ys, ys.map (·.1) = List.range len ∧ J ys W') ∨ (∃ pre, Jx pre W')) := by
  have cb := hBs.cell
  clear hBs
  refine callsIn_of_wp Tryd.func34 rfl trivial ?_ rfl
  simp only [Tryd.ntmps34, List.size_toArray, List.length_cons, List.length_nil, Nat.reduceAdd, Nat.reduceSub, Array.replicate_succ, Array.replicate_zero, List.push_toArray, List.append_toArray, List.nil_append, List.cons_append]
  gi_wp2
  clear cb
  gi_loopw [4, 7] (fun _ i wr => ∃ (k : Nat) (pre : List (PlV len)), k ≤ len ∧ i = .int .i64 (k : Int) ∧ pre.map (·.1) = List.range k ∧ pre.length = k ∧ J pre wr ∧ Below n₀ W wr)
    (fun _ i _ => len - (intOf i).toNat)
  case atStart => exact ⟨0, [], Nat.zero_le _, rfl, rfl, rfl, h0, Below.refl _ _⟩
  case round =>
    obtain ⟨k, pre, hk, rfl, hpre, hpl, hJs, hnx⟩ := hrel
    by_cases hlt : k < len
    · obtain ⟨b, o, rfl, hab, hcz⟩ := (hr.below hq (hB.trans hnx)).int hlt
      obtain ⟨fn, tmps, assign, body, hy, hR⟩ := hY pre ⟨k, hlt⟩ wr hJs (by omega)
      dsimp only at hy
      have hm0 : (0 : Int) ≤ (k : Int) := by omega
      have hml : (k : Int) < (len : Int) := by omega
      generalize zs.getD k 0 = zk at *
      gi_wp2
      refine hR.mono ?_
      rintro e W3 (⟨rfl, hJ3, hk3⟩ | ⟨rfl, hJx3⟩)
      · gi_wp2
        go_roundw
        case rel => exact ⟨k + 1, _, by omega, by go_num, by rw [List.map_append, hpre, List.range_succ]; rfl, by simp [hpl], hJ3, hnx.trans hk3.1⟩
        case measure => simp [intOf] <;> omega
      · gi_wp2
        refine bodyPost_ret (results_none rfl _ _ _) rfl ?_
        exact ⟨⟨_, rfl⟩, .inr ⟨_, hJx3⟩⟩
    · obtain rfl : k = len := by omega
      gi_wp2
      go_end0
      exact ⟨⟨_, rfl⟩, .inl ⟨_, hpre, hJs⟩⟩
theorem vals_any (A : Option Addr) (len cap : Nat) (w : World) :
    Calls Tryd.prog 17 #[.slice A len cap] w fun e w' => e = .returned (.func (.func 34) #[] #[.pointer (some ⟨w.heap.size, 0, none⟩)]) ∧ w' = w.alloc (.cells #[.slice A len cap] 31) := by
  go_enter Tryd.func17, Tryd.ntmps17
  go_wp2
  go_ret
  exact ⟨rfl, rfl⟩
theorem vals_stops (n : Nat) (hn : 1 ≤ n) (Bs n₀ : Nat) (A : Option Addr) (len cap : Nat) (zs : List Int) (wq : World) (hr : Rd wq A len 1 (ints .i64 zs)) (hq : wq.heap.size ≤ n₀) (hlen : len ≤ 9223372036854775807) (w : World) (hB : Below n₀ wq w) (hn₀ : n₀ ≤ w.heap.size) (hBs : Boxed w Bs 31 (.slice A len cap)) :
    SeqBox n Tryd.prog 34 #[.pointer (some ⟨Bs, 0, none⟩)] (fun x : PlV len => #[Value.int .i64 (zs.getD x.1 0)]) Bs (KpE n₀ Bs) (fun ys => ys.map (·.1) = List.range len) (fun _ => True) len w := fun l J Jx W hW _ _ hY h0 => by
  have hlt := hBs.lt
  refine (vals1_in n hn l Bs n₀ A len cap zs wq hr hq hlen J Jx hY W (hB.trans (hW.mono hn₀)) ((hW.block Bs hlt).trans hBs) h0).mono ?_
  rintro e W' ⟨he, ⟨ys, h1, h2⟩ | ⟨pre, h⟩⟩
  · exact ⟨he, .inl ⟨ys, h1, h2⟩⟩
  · exact ⟨he, .inr ⟨pre, trivial, h⟩⟩
/-- what the loop that collects holds -/
def KV (s Bs : Nat) (w : World) (zs : List Int) {z : Nat} (pre : List (PlV z)) (W : World) : Prop :=
  (∃ v, Boxed W s 31 v ∧ W.ownsRow s 3 1 v (unV zs pre).length (ints .i64 (unV zs pre)) ∧ True) ∧ Below Bs w W ∧ s ≤ W.heap.size
set_option maxHeartbeats 3200000 in
set_option maxRecDepth 100000 in
theorem appendVals_any (Bs : Nat) (A : Option Addr) (len cap : Nat) (zs : List Int) (wq w : World) (hr : Rd wq A len 1 (ints .i64 zs)) (hq : wq.heap.size ≤ Bs) (hbq : Below Bs wq w) (hlen : len * 8 ≤ 140737488355328) (hB : Boxed w Bs 31 (.slice A len cap)) :
    Calls Tryd.prog 37 #[.slice none 0 0, .func (.func 34) #[] #[.pointer (some ⟨Bs, 0, none⟩)]] w fun e w' =>
      ∃ v, e = .returned v ∧ w'.ownsRow w.heap.size 3 1 v len (ints .i64 zs) ∧ Below Bs w w' := by
  have hzl : zs.length = len := by simpa [ints] using hr.1
  have hBl := hB.lt
  have hb1 := (Below.refl Bs w).alloc (by omega) (.cells #[.slice none 0 0] 31)
  have b0 := Boxed.new w 31 (.slice none 0 0)
  have bE := hB.alloc (.cells #[.slice none 0 0] 31)
  have hsz : (w.alloc (.cells #[.slice none 0 0] 31)).heap.size = w.heap.size + 1 := by simp
  have hbq1 := hbq.trans hb1
  have h0I : KV w.heap.size Bs w zs ([] : List (PlV len)) (w.alloc (.cells #[.slice none 0 0] 31)) := ⟨⟨_, b0, World.ownsRow_nil _ _ _ _, trivial⟩, hb1, by simp⟩
  have hlenV : ∀ l : List (PlV len), (unV zs l).length = l.length := fun l => by simp [unV]
  clear hB b0 hb1
  refine calls_of_wp_calm 4 Tryd.func37 rfl ?_
  simp only [Tryd.ntmps37, List.size_toArray, List.length_cons, List.length_nil, Nat.reduceAdd, Nat.reduceSub, Array.replicate_succ, Array.replicate_zero, List.push_toArray, List.append_toArray, List.nil_append, List.cons_append]
  go_wp2
  refine (wpIn_wide (n := 4)).1 ?_
  generalize w.alloc (.cells #[.slice none 0 0] 31) = wC at *
  generalize hss : w.heap.size = s at *
  refine' rangeFunc_box (n := 4) (α := PlV len) (gf := 34) (lb := #[.pointer (some ⟨Bs, 0, none⟩)]) (by omega) rfl (enters_of Tryd.func34 (by kernel_rfl) rfl)
    (vals_stops 3 (by omega) Bs Bs A len cap zs wq hr hq (by omega) wC hbq1 (by omega) bE) (by omega) (fun h h' => KpE.trans h h') (kpE_b (by omega) (by omega)) (Below.refl _ _) (fun _ => rfl)
    (KV s Bs w zs) (fun _ _ _ => False) ?hI ?hIb (fun _ _ _ _ _ h _ _ => h) (fun _ _ _ _ _ h _ _ => h) h0I _ ?assign ?body ?done (fun _ _ _ _ _ _ h _ => h.elim)
  case hI =>
    rintro pre A C row ⟨h1, h2, h3⟩ hg hr
    exact ⟨holdsRow_own s s 31 3 1 (fun l : List (PlV len) => (unV zs l).length) (fun l => ints .i64 (unV zs l)) (fun _ _ => True) pre A C row h1 hg (fun r e => (hr r e).2), h2.grown hg (by omega) (fun r e => by have := (hr r e).1; omega), Nat.le_trans h3 hg.size⟩
  case hIb =>
    rintro pre A C row ⟨⟨v, h1, hrow, _⟩, h2, h3⟩ hg hr
    refine ⟨⟨v, h1.kept hg (fun e => by have := hr s e.symm; omega), hrow.kept hg ?_, trivial⟩, h2.grown hg (by omega) (fun r e => by have := hr r e; omega), Nat.le_trans h3 hg.size⟩
    cases hv : v.ownBlock with
    | none => exact .inl rfl
    | some g => exact .inr fun e => by have := hrow.lt g hv; have := hr g e.symm; omega
  case assign =>
    intro l0 y W K hK
    gi_wp2
    exact hK
  case body =>
    rintro l0 pre y W ⟨⟨v, hbv, hown, _⟩, hbW, hsW⟩ hpl
    have hsn := unV_snoc zs pre y
    have hpn : (unV zs pre).length < len := by rw [hlenV]; exact hpl
    obtain ⟨c, hcy⟩ : ∃ c, zs[y.1]?.getD 0 = c := ⟨_, rfl⟩
    rw [List.getD_eq_getElem?_getD, hcy] at hsn
    simp only [hcy]
    clear hcy
    have hsnH := Lib.hid hsn; have hbWH := Lib.hid hbW; have hbvH := Lib.hid hbv; have hownH := Lib.hid hown
    have cv := hbv.cell; have lv := hbv.lt; have fv := hbv.frozen
    obtain ⟨Av, cAv, rfl⟩ := own_slice hown
    clear hsn hbW hbv hown
    generalize hm : (unV zs pre).length = m at *
    have hmH := Lib.hid hm
    clear hm
    gi_wp2_with ((gi_at_builtin
                  refine wpListIn_app1 (s := .tmp 8) (x := .tmp 10) tiK (hownH.out.alloc (.cells #[.int .i64 c] 3)) (Boxed.new W 3 (.int .i64 c)).cell rfl (by omega) (by omega) (by simp; omega) rfl rfl rfl rfl ?_
                  intro v' wA ownA gA
                  obtain ⟨g', cap', rfl⟩ := ownsRow_succ ownA
                  obtain ⟨hv1, hv2, hv3, hv4, hv5⟩ := Boxed.appended (n₀ := s) hbvH.out (by decide) hownH.out hsW (Nat.le_refl _) ownA gA
                  have cA := hv1.cell
                  have fA := hv1.frozen
                  have lA := hv1.lt
                  have h2H := Lib.hid hv2
                  have h3H := Lib.hid hv3
                  have h4H := Lib.hid hv4
                  have h5H := Lib.hid hv5
                  clear hv1 hv2 hv3 hv4 hv5 ownA gA cv lv fv))
    have hv2 := h2H.out; have hv3 := h3H.out; have hv5 := h5H.out
    have hkb : Below Bs W (wA.setCell ⟨s, 0, none⟩ (.slice (some ⟨g', 0, none⟩) (m + 1) cap')) := hv5.mono (by omega)
    have hI : KV s Bs w zs (pre ++ [y]) (wA.setCell ⟨s, 0, none⟩ (.slice (some ⟨g', 0, none⟩) (m + 1) cap')) := by
      refine ⟨⟨_, hv2, ?_, trivial⟩, hbWH.out.trans hkb, by have := hkb.size; omega⟩
      rw [hsnH.out]
      have e1 : (unV zs pre ++ [c]).length = m + 1 := by simp [hmH.out]
      have e2 : ints .i64 (unV zs pre ++ [c]) = ints .i64 (unV zs pre) ++ [.int .i64 c] := by simp [ints]
      rw [e1, e2]; exact hv3
    have hKp : KpE Bs Bs W (wA.setCell ⟨s, 0, none⟩ (.slice (some ⟨g', 0, none⟩) (m + 1) cap')) := ⟨hkb, (hv5.block Bs (by omega))⟩
    exact ⟨h4H.out.from _, hKp, hI⟩
  case done =>
    rintro D ys W hD hys ⟨⟨v, hbv, hown, _⟩, hbW, hsW⟩ hK
    rw [unV_all hzl hys, hzl] at hown
    have cv := hbv.cell
    have hownH := Lib.hid hown; have hbWH := Lib.hid hbW; have hKH := Lib.hid hK
    clear hys hown hbW hbv hK
    go_wp2
    refine leaves_marksJ (B := s) (J := fun W' => W'.ownsRow s 3 1 v len (ints .i64 zs) ∧ Below Bs w W' ∧ s ≤ W'.heap.size) (Marks.push (T := wC.heap.size) (ds := []) trivial (by omega) hD hKH.out) ⟨hownH.out, hbWH.out, hsW⟩
      (fun V r o' hV hd hr => ⟨ownsRow_putObj hV.1 o' hd rfl, hV.2.1.grown (grownBy_putObj' V r o') (by omega) (fun r' e => by cases e; omega), by have := (grownBy_putObj' V r o').size; omega⟩)
      fun w' hw' => ⟨v, by simp [results, Tryd.results37, go_sem], v, rfl, by rw [← hss] at hw'; exact hw'.1, hw'.2.1⟩
theorem collectVals_any (Bs : Nat) (A : Option Addr) (len cap : Nat) (zs : List Int) (wq w : World) (hr : Rd wq A len 1 (ints .i64 zs)) (hq : wq.heap.size ≤ Bs) (hbq : Below Bs wq w) (hlen : len * 8 ≤ 140737488355328) (hB : Boxed w Bs 31 (.slice A len cap)) :
    Calls Tryd.prog 29 #[.func (.func 34) #[] #[.pointer (some ⟨Bs, 0, none⟩)]] w fun e w' =>
      ∃ v, e = .returned v ∧ w'.ownsRow w.heap.size 3 1 v len (ints .i64 zs) ∧ Below Bs w w' := by
  have HA := Lib.hid (appendVals_any Bs A len cap zs wq w hr hq hbq hlen hB)
  clear hB hr hbq
  go_enter Tryd.func29, Tryd.ntmps29
  go_wp2_with fail
  refine HA.out.mono ?_
  rintro e w1 ⟨v, rfl, hown, hb⟩
  obtain ⟨A, c, rfl⟩ := own_slice hown
  have hH := Lib.hid hown
  clear hown HA
  go_wp2
  go_ret
  exact ⟨_, rfl, hH.out, hb⟩
end Go.Proofs.YtonalhedjjobeaaDoor

namespace Go.Proofs.YtonalhedjjobeaaDoor
open Go.Shelf

def sortLaysRen : Go.Shelf.Ren := ⟨fun | 189 => 33 | 125 => 40 | 257 => 39 | 128 => 51 | 129 => 52 | 294 => 42 | 295 => 43 | 296 => 44 | 297 => 45 | 298 => 46 | 299 => 47 | 216 => 48 | 300 => 49 | 301 => 50 | 328 => 53 | 329 => 54 | 330 => 55 | 331 => 56 | 332 => 57 | 215 => 58 | 343 => 59 | n => n, fun | 28 => 31 | 3 => 3 | 46 => 51 | 0 => 0 | 51 => 35 | 53 => 85 | 4 => 4 | 183 => 77 | 182 => 76 | 131 => 82 | 5 => 5 | 9 => 9 | 218 => 86 | 222 => 90 | 228 => 92 | 229 => 93 | n => n, fun n => n⟩
theorem sortLays : Lays.n189 Tryd.prog sortLaysRen where
  mixed := by kernel_rfl
  f125 := Tryd.func40.trans (congrArg some (by kernel_rfl))
  f128 := Tryd.func51.trans (congrArg some (by kernel_rfl))
  f129 := Tryd.func52.trans (congrArg some (by kernel_rfl))
  f189 := Tryd.func33.trans (congrArg some (by kernel_rfl))
  f215 := Tryd.func58.trans (congrArg some (by kernel_rfl))
  f216 := Tryd.func48.trans (congrArg some (by kernel_rfl))
  f257 := Tryd.func39.trans (congrArg some (by kernel_rfl))
  f294 := Tryd.func42.trans (congrArg some (by kernel_rfl))
  f295 := Tryd.func43.trans (congrArg some (by kernel_rfl))
  f296 := Tryd.func44.trans (congrArg some (by kernel_rfl))
  f297 := Tryd.func45.trans (congrArg some (by kernel_rfl))
  f298 := Tryd.func46.trans (congrArg some (by kernel_rfl))
  f299 := Tryd.func47.trans (congrArg some (by kernel_rfl))
  f300 := Tryd.func49.trans (congrArg some (by kernel_rfl))
  f301 := Tryd.func50.trans (congrArg some (by kernel_rfl))
  f328 := Tryd.func53.trans (congrArg some (by kernel_rfl))
  f329 := Tryd.func54.trans (congrArg some (by kernel_rfl))
  f330 := Tryd.func55.trans (congrArg some (by kernel_rfl))
  f331 := Tryd.func56.trans (congrArg some (by kernel_rfl))
  f332 := Tryd.func57.trans (congrArg some (by kernel_rfl))
  f343 := Tryd.func59.trans (congrArg some (by kernel_rfl))
  t0 := Tryd.underlying0
  a0 := Tryd.isAgg0
  z0 := Tryd.sizeOf0
  v0 := Tryd.zeroValue0
  t3 := Tryd.underlying3
  a3 := Tryd.isAgg3
  z3 := Tryd.sizeOf3
  v3 := Tryd.zeroValue3
  t4 := Tryd.underlying4
  a4 := Tryd.isAgg4
  z4 := Tryd.sizeOf4
  v4 := Tryd.zeroValue4
  t5 := Tryd.underlying5
  a5 := Tryd.isAgg5
  z5 := Tryd.sizeOf5
  v5 := Tryd.zeroValue5
  t9 := Tryd.underlying9
  a9 := Tryd.isAgg9
  z9 := Tryd.sizeOf9
  v9 := Tryd.zeroValue9
  t28 := Tryd.underlying31
  a28 := Tryd.isAgg31
  z28 := Tryd.sizeOf31
  v28 := Tryd.zeroValue31
  t46 := Tryd.underlying51
  a46 := Tryd.isAgg51
  z46 := Tryd.sizeOf51
  v46 := Tryd.zeroValue51
  t51 := Tryd.underlying35
  a51 := Tryd.isAgg35
  z51 := Tryd.sizeOf35
  v51 := Tryd.zeroValue35
  t53 := Tryd.underlying85
  a53 := Tryd.isAgg85
  z53 := Tryd.sizeOf85
  v53 := Tryd.zeroValue85
  t131 := Tryd.underlying82
  a131 := Tryd.isAgg82
  z131 := Tryd.sizeOf82
  v131 := Tryd.zeroValue82
  t182 := Tryd.underlying76
  a182 := Tryd.isAgg76
  z182 := Tryd.sizeOf76
  v182 := Tryd.zeroValue76
  t183 := Tryd.underlying77
  a183 := Tryd.isAgg77
  z183 := Tryd.sizeOf77
  v183 := Tryd.zeroValue77
  t218 := Tryd.underlying86
  a218 := Tryd.isAgg86
  z218 := Tryd.sizeOf86
  v218 := Tryd.zeroValue86
  t222 := Tryd.underlying90
  a222 := Tryd.isAgg90
  z222 := Tryd.sizeOf90
  v222 := Tryd.zeroValue90
  t228 := Tryd.underlying92
  a228 := Tryd.isAgg92
  z228 := Tryd.sizeOf92
  v228 := Tryd.zeroValue92
  t229 := Tryd.underlying93
  a229 := Tryd.isAgg93
  z229 := Tryd.sizeOf93
  v229 := Tryd.zeroValue93
end Go.Proofs.YtonalhedjjobeaaDoor

namespace Go.Proofs.YtonalhedjjobeaaDoor
open Go.Shelf

def compLaysRen : Go.Shelf.Ren := ⟨fun | 20 => 15 | n => n, fun | 22 => 31 | 3 => 3 | 4 => 4 | 0 => 0 | n => n, fun n => n⟩
theorem compLays : Lays2.n20 Tryd.prog compLaysRen where
  mixed := by kernel_rfl
  f20 := Tryd.func15.trans (congrArg some (by kernel_rfl))
  t0 := Tryd.underlying0
  a0 := Tryd.isAgg0
  z0 := Tryd.sizeOf0
  v0 := Tryd.zeroValue0
  t3 := Tryd.underlying3
  a3 := Tryd.isAgg3
  z3 := Tryd.sizeOf3
  v3 := Tryd.zeroValue3
  t4 := Tryd.underlying4
  a4 := Tryd.isAgg4
  z4 := Tryd.sizeOf4
  v4 := Tryd.zeroValue4
  t22 := Tryd.underlying31
  a22 := Tryd.isAgg31
  z22 := Tryd.sizeOf31
  v22 := Tryd.zeroValue31
  i3 := by kernel_rfl
end Go.Proofs.YtonalhedjjobeaaDoor

namespace Go.Proofs.YtonalhedjjobeaaDoor
open Go.Shelf

def equLaysRen : Go.Shelf.Ren := ⟨fun | 111 => 28 | n => n, fun | 28 => 31 | 3 => 3 | 4 => 4 | 0 => 0 | n => n, fun n => n⟩
theorem equLays : Lays.n111 Tryd.prog equLaysRen where
  mixed := by kernel_rfl
  f111 := Tryd.func28.trans (congrArg some (by kernel_rfl))
  t0 := Tryd.underlying0
  a0 := Tryd.isAgg0
  z0 := Tryd.sizeOf0
  v0 := Tryd.zeroValue0
  t3 := Tryd.underlying3
  a3 := Tryd.isAgg3
  z3 := Tryd.sizeOf3
  v3 := Tryd.zeroValue3
  t4 := Tryd.underlying4
  a4 := Tryd.isAgg4
  z4 := Tryd.sizeOf4
  v4 := Tryd.zeroValue4
  t28 := Tryd.underlying31
  a28 := Tryd.isAgg31
  z28 := Tryd.sizeOf31
  v28 := Tryd.zeroValue31
end Go.Proofs.YtonalhedjjobeaaDoor

namespace Go.Proofs.YtonalhedjjobeaaDoor
open Go.RowKit Go.Shelf Go.Sort

def srt (zs : List Int) : List Int := zs.mergeSort fun x y => decide (x ≤ y)
theorem srt_length (zs : List Int) : (srt zs).length = zs.length := by unfold srt; rw [List.length_mergeSort]
theorem grow_none (w : World) : grow w #[] = w := by simp [grow]
theorem sortAny (B : Nat) (A : Option Addr) (n c : Nat) (zs : List Int) (w : World) (h : w.ownsRow B 3 1 (.slice A n c) n (ints .i64 zs)) (hn : n < 4611686018427387904) (hB : B ≤ w.heap.size) :
    Calls Tryd.prog 33 #[.slice A n c] w fun e w' => e = .returned (.tuple #[]) ∧ w'.ownsRow B 3 1 (.slice A n c) n (ints .i64 (srt zs)) ∧ Below B w w' := by
  have hzl : zs.length = n := by simpa [ints] using h.1
  rcases h.2 with ⟨hv, h0⟩ | ⟨g, cap, cur, hv, hbase, hheap, hle, hmax, hsize, htake⟩
  · injection hv with hA _ hc
    subst hA; subst hc; subst h0
    obtain rfl := List.length_eq_zero_iff.1 hzl
    refine (Any.slices_Sort_int_none sortLays none 0 w).mono ?_
    rintro e w' ⟨rfl, rfl⟩
    have e0 : srt [] = [] := List.length_eq_zero_iff.1 (by rw [srt_length]; rfl)
    rw [e0]
    exact ⟨rfl, h, Below.refl _ _⟩
  · injection hv with hA _ hc
    subst hA; subst hc; subst hzl
    have hlt : g < w.heap.size := (Array.getElem?_eq_some_iff.1 hheap).1
    have hH : Holds (Value.int .i64) w g 0 zs.toArray := holds_of_blockI hheap (by rw [Nat.mul_one] at htake; exact htake)
    refine (Any.slices_Sort_int sortLays g 0 c zs w hH hlt hn).mono ?_
    rintro e w' ⟨rfl, k, os, rfl⟩
    have h1 := ownsRow_sortedI (n := k) (os := os) (e := 3) (ts := srt zs) (ss := zs) (srt_length zs) hbase hheap hle hmax hsize
    refine ⟨rfl, h1, ?_⟩
    exact (Below.refl B w).grown (grownBy_sortedI _) hB (fun k' e => by cases e; exact hbase)
theorem sorted_any (Bs : Nat) (A : Option Addr) (len cap : Nat) (zs : List Int) (wq w : World) (hr : Rd wq A len 1 (ints .i64 zs)) (hq : wq.heap.size ≤ Bs) (hbq : Below Bs wq w) (hlen : len * 8 ≤ 140737488355328) (hB : Boxed w Bs 31 (.slice A len cap)) :
    Calls Tryd.prog 16 #[.func (.func 34) #[] #[.pointer (some ⟨Bs, 0, none⟩)]] w fun e w' =>
      ∃ v, e = .returned v ∧ w'.ownsRow w.heap.size 3 1 v len (ints .i64 (srt zs)) ∧ Below Bs w w' := by
  have HA := Lib.hid (collectVals_any Bs A len cap zs wq w hr hq hbq hlen hB)
  have hlt := hB.lt
  clear hB hr hbq
  go_enter Tryd.func16, Tryd.ntmps16
  go_wp2_with fail
  refine HA.out.mono ?_
  rintro e w1 ⟨v, rfl, hown, hb⟩
  obtain ⟨A, c, rfl⟩ := own_slice hown
  have hs1 : w.heap.size ≤ w1.heap.size := hb.size
  have HS := Lib.hid (sortAny w.heap.size A len c zs w1 hown (by omega) hs1)
  clear hown HA
  go_wp2_with fail
  refine HS.out.mono ?_
  rintro e w2 ⟨rfl, hown2, hb2⟩
  have hH := Lib.hid hown2
  have hbH := Lib.hid (hb.trans (hb2.mono (by omega)))
  clear hown2 hb hb2 HS
  go_wp2
  go_ret
  exact ⟨_, rfl, hH.out, hbH.out⟩
theorem compactAny (B : Nat) (A : Option Addr) (n c : Nat) (zs : List Int) (w : World) (h : w.ownsRow B 3 1 (.slice A n c) n (ints .i64 zs)) (hn : n ≤ 100) (hB : B ≤ w.heap.size) :
    Calls Tryd.prog 15 #[.slice A n c] w fun e w' => ∃ A' c', e = .returned (.slice A' (Lib.compact zs).length c') ∧ Below B w w' := by
  have hzl : zs.length = n := by simpa [ints] using h.1
  rcases h.2 with ⟨hv, h0⟩ | ⟨g, cap, cur, hv, hbase, hheap, hle, hmax, hsize, htake⟩
  · injection hv with hA _ hc
    subst hA; subst hc; subst h0
    obtain rfl := List.length_eq_zero_iff.1 hzl
    refine (Any.slices_Compact_int_empty compLays none 0 w).mono ?_
    rintro e w' ⟨rfl, rfl⟩
    exact ⟨none, 0, rfl, Below.refl _ _⟩
  · injection hv with hA _ hc
    subst hA; subst hc; subst hzl
    have hH : Holds (Value.int .i64) w g 0 zs.toArray := holds_of_blockI hheap (by rw [Nat.mul_one] at htake; exact htake)
    refine (Any.slices_Compact_int compLays g 0 c zs w hH (by omega) hle).mono ?_
    rintro e w' ⟨rfl, k, rfl⟩
    refine ⟨_, _, rfl, ?_⟩
    have h1 := grownBy_sortedI (w := w) (g := g) (n := k) (os := #[]) (Lib.compact zs ++ List.replicate (zs.length - (Lib.compact zs).length) 0).toArray
    rw [grow_none] at h1
    exact (Below.refl B w).grown h1 hB (fun k' e => by cases e; exact hbase)
theorem equal_any (A : Option Addr) (n c : Nat) (xs : List Int) (A' : Option Addr) (m d : Nat) (ys : List Int) (w : World) (hx : Rd w A n 1 (ints .i64 xs)) (hy : Rd w A' m 1 (ints .i64 ys)) (hn : n ≤ 9223372036854775807) (hm : m ≤ 9223372036854775807) :
    Calls Tryd.prog 28 #[.slice A n c, .slice A' m d] w fun e w' => e = .returned (.bool (xs == ys)) ∧ Below w.heap.size w w' := by
  have hxl : xs.length = n := by simpa [ints] using hx.1
  have hyl : ys.length = m := by simpa [ints] using hy.1
  by_cases hn0 : n = 0
  · subst hn0
    obtain rfl := List.length_eq_zero_iff.1 hxl
    refine (Any.slices_Equal_int_empty equLays A A' c m d w hm).mono ?_
    rintro e w' ⟨rfl, rfl⟩
    refine ⟨?_, Below.refl _ _⟩
    congr 2
    rw [← hyl]
    cases ys <;> simp
  · by_cases hm0 : m = 0
    · subst hm0
      obtain rfl := List.length_eq_zero_iff.1 hyl
      have hne : ((n : Int) != ((0 : Nat) : Int)) = true := by simp; exact hn0
      have hxe : (xs == ([] : List Int)) = false := by cases xs with | nil => simp at hxl; omega | cons a l => rfl
      rw [hxe]
      clear hx hy hxe
      go_enter Tryd.func28, Tryd.ntmps28
      go_wp2
      go_ret
      exact ⟨rfl, Below.refl _ _⟩
    · obtain ⟨b1, o1, rfl, _, _⟩ := hx.int (j := 0) (by omega)
      obtain ⟨b2, o2, rfl, _, _⟩ := hy.int (j := 0) (by omega)
      refine (Any.slices_Equal_int equLays b1 o1 n c b2 o2 m d xs ys w (by omega) (by omega) hn hm (fun j hj => ?_) (fun j hj => ?_)).mono ?_
      · obtain ⟨b, o, e, _, hc⟩ := hx.int (hxl ▸ hj)
        cases e; exact hc
      · obtain ⟨b, o, e, _, hc⟩ := hy.int (hyl ▸ hj)
        cases e; exact hc
      · rintro e w' ⟨rfl, q, rfl⟩
        rw [List.take_of_length_le (by omega), List.take_of_length_le (by omega)]
        exact ⟨rfl, below_drewN (Below.refl _ _) q⟩
end Go.Proofs.YtonalhedjjobeaaDoor

namespace Go.Proofs.YtonalhedjjobeaaDoor
open Go.RowKit Go.Shelf

def rowOkB (N : Int) (es : List E) (l : List Rw) (i : Nat) : Bool := srt (rat l i).zs == natI (bitsL ((nearW N.toNat es).getD i 0))
def mapB (N : Int) (es : List E) (l : List Rw) : Bool := gchk N es == 0 && ((l.length : Int) == N && (List.range l.length).all (rowOkB N es l))
theorem all_yes {n : Nat} {p : Nat → Bool} (h : ∀ j, j < n → p j = true) : (List.range n).all p = true := by rw [List.all_eq_true]; intro j hj; exact h j (List.mem_range.1 hj)
theorem all_no {n : Nat} {p : Nat → Bool} {j : Nat} (hj : j < n) (h : p j = false) : (List.range n).all p = false := by rw [List.all_eq_false]; exact ⟨j, List.mem_range.2 hj, by rw [h]; simp⟩
theorem nearW_lt32 {N : Nat} {es : List E} (hN : N ≤ 10) (hok : ∀ e ∈ es, okE N e) (i : Nat) (hi : i < N) : (nearW N es).getD i 0 < 4294967296 := by
  refine Nat.lt_of_lt_of_le (m := 2 ^ 10) (Nat.lt_pow_two_of_testBit _ fun j hj => ?_) (by decide)
  rw [nearW_bit es hok i j hi]
  cases h : adj es i j with
  | false => rfl
  | true =>
    obtain ⟨e, he, hor⟩ := List.any_eq_true.1 h
    obtain ⟨x, y, hx, hy, hxn, hyn, _⟩ := hok e he
    unfold adjE at hor
    rw [hx, hy] at hor
    simp only [Bool.or_eq_true, Bool.and_eq_true, beq_iff_eq] at hor
    omega
set_option maxHeartbeats 3200000 in
set_option maxRecDepth 100000 in
theorem mapCheck_any (N : Int) (A : Option Addr) (len cap : Nat) (es : List E) (R : Option Addr) (n c : Nat) (l : List Rw) (w : World) (hr : Rd w A len 3 (ps3 .i64 .i64 .i64 es)) (hR : RdR w R n l) (hby : ∀ r ∈ l, r.len * 8 ≤ 140737488355328) (hlen : len ≤ 9223372036854775807) (hn : n ≤ 9223372036854775807) (htb : Tb w) (hg : 0 < w.heap.size) :
    Calls Tryd.prog 13 #[.agg #[.int .i64 N, .slice A len cap], .slice R n c] w fun e w' => ∃ z : Int, e = .returned (.int .i64 z) ∧ (z == 0) = mapB N es l ∧ Below w.heap.size w w' := by
  have gb := (Below.refl _ w).alloc (Nat.le_refl _) (.cells #[.int .i64 N, .slice A len cap] 24)
  have hK := Blk.new w 24 #[.int .i64 N, .slice A len cap]
  have g0 := hK.cell (j := 0) (v := .int .i64 N) rfl
  have g1 := hK.cell (j := 1) (v := .slice A len cap) rfl
  have HC := Lib.hid (check_any N A len cap es _ (hr.later gb) hlen)
  have hnl : l.length = n := hR.1
  have gbH := Lib.hid gb; have hKH := Lib.hid hK
  by_cases hok : gchk N es = 0
  · obtain ⟨h0, h10, h45, hokE, _⟩ := gchk_ok hok
    obtain ⟨m, rfl⟩ := Int.eq_ofNat_of_zero_le h0
    rw [Int.toNat_natCast] at hokE
    have hm10 : m ≤ 10 := by omega
    have hel := ps3_len hr
    rw [hok] at HC
    by_cases hnm : n = m
    · subst hnm
      have hmb := Lib.hid (show mapB n es l = (List.range n).all (rowOkB n es l) by
        unfold mapB; rw [hok, hnl]; simp)
      have hrH := Lib.hid hr; have hRH := Lib.hid hR; have hokH := Lib.hid hokE; have hbyH := Lib.hid hby; have htbH := Lib.hid htb
      have hl45 : len ≤ 45 := by omega
      have hnn : ((n : Int) != (n : Int)) = false := by simp
      clear hr hR gb hK hok hokE hby htb h0 h10 h45 hel hnl
      go_enter Tryd.func13, Tryd.ntmps13
      go_wp2_with fail
      refine HC.out.mono ?_
      rintro _ w1 ⟨rfl, hb1⟩
      have hbw := gbH.out.trans (hb1.mono gbH.out.size)
      have hK1 := hKH.out.below hb1 hKH.out.lt
      have q0 := hK1.cell (j := 0) (v := .int .i64 (n : Int)) rfl
      have q1 := hK1.cell (j := 1) (v := .slice A len cap) rfl
      have HN := Lib.hid (near_any n A len cap es w1 (hrH.out.later hbw) hm10 hl45 hokH.out)
      have hbwH := Lib.hid hbw
      clear HC hb1 hK1 hbw g0 g1
      go_wp2_with fail
      refine HN.out.mono ?_
      rintro _ w2 ⟨gn, rfl, hn2, hb2⟩
      have hbw2 := hbwH.out.trans (hb2.mono hbwH.out.size)
      have hs2 := hbw2.size
      have hnrH := Lib.hid (Rd.of_own hn2)
      have htb2 := Lib.hid (htbH.out.below hg hbw2)
      have hR2 := Lib.hid (hRH.out.later hbw2)
      have hbw2H := Lib.hid hbw2
      clear hn2 hb2 hbw2 HN q0 q1
      go_wp2
      go_loopw [6, 7, 21] (fun _ _ q wr => ∃ k : Nat, k ≤ n ∧ q = .int .i64 k ∧ (∀ j, j < k → rowOkB n es l j = true) ∧ Below w2.heap.size w2 wr) (fun _ _ q _ => n - (intOf q).toNat)
      case atStart => exact ⟨0, Nat.zero_le _, rfl, fun j hj => absurd hj (by omega), Below.refl _ _⟩
      case round =>
        obtain ⟨k, hk, rfl, hp, hb⟩ := hrel
        obtain ⟨wo, rfl⟩ : ∃ wo : World, wo = wr := ⟨_, rfl⟩
        have hpH := Lib.hid hp; clear hp
        by_cases hlt : k < n
        · obtain ⟨bn, on, hbe, hbn, hcn⟩ := (hnrH.out.later hb).wd hlt
          cases hbe
          rw [Nat.zero_add] at hcn
          obtain ⟨bR, oR, rfl, hbR, hcR, hfit⟩ := (hR2.out.later hb).at hlt
          have hnx := nearW_lt32 hm10 hokH.out k hlt
          have hrk : rowOkB n es l k = (srt (rat l k).zs == natI (bitsL ((nearW n es).getD k 0))) := rfl
          have hrbs := hbyH.out _ (rat_mem (l := l) (k := k) (by have := hRH.out.1; omega))
          have hno := Lib.hid (all_no (n := n) (p := rowOkB n es l) hlt)
          have hyes := Lib.hid (show rowOkB n es l k = true → ∀ j, j < k + 1 → rowOkB n es l j = true from fun h j hj => by
            by_cases e : j = k
            · subst e; exact h
            · exact hpH.out j (by omega))
          have hrkH := Lib.hid hrk
          generalize (nearW n es).getD k 0 = x at *
          obtain ⟨rA, rl, rc, rz, hrow⟩ : ∃ a b c z, rat l k = ⟨a, b, c, z⟩ := ⟨_, _, _, _, rfl⟩
          rw [hrow] at hcR hfit hrbs hrkH
          dsimp only at hcR hfit hrbs hrkH
          clear hrk hrow
          have hk0 : (0 : Int) ≤ (k : Int) := by omega
          have hkn : (k : Int) < (n : Int) := by omega
          have hsx := hb.size
          have hrd := hfit.1
          have hrdH := Lib.hid hrd
          have htbo := Lib.hid (htb2.out.below (by omega) hb)
          have hbH := Lib.hid hb
          clear hb hrd hfit
          go_wp2_with fail
          refine (vals_any rA rl rc wo).mono ?_
          rintro _ _ ⟨rfl, rfl⟩
          have hBv := Boxed.new wo 31 (.slice rA rl rc)
          have hba := (Below.refl wo.heap.size wo).alloc (Nat.le_refl _) (.cells #[.slice rA rl rc] 31)
          have HS := Lib.hid (sorted_any wo.heap.size rA rl rc rz wo _ hrdH.out (Nat.le_refl _) hba hrbs hBv)
          have hszA : (wo.alloc (.cells #[.slice rA rl rc] 31)).heap.size = wo.heap.size + 1 := by simp
          have hbaH := Lib.hid hba
          clear hBv hba hcn hcR
          go_wp2_with fail
          refine HS.out.mono ?_
          rintro _ w3 ⟨v3, rfl, hown3, hb3⟩
          obtain ⟨A3, c3, rfl⟩ := own_slice hown3
          have hb03 := hbaH.out.trans hb3
          have hs3 := hb3.size
          have hr3H := Lib.hid (Rd.of_own hown3)
          have hb03H := Lib.hid hb03
          clear HS hown3 hb3 hb03
          go_wp2_with fail
          refine (each_any x w3).mono ?_
          rintro _ _ ⟨rfl, rfl⟩
          have hBe := Boxed.new w3 35 (.int .u32 (x : Int))
          have hbe := (Below.refl w3.heap.size w3).alloc (Nat.le_refl _) (.cells #[.int .u32 (x : Int)] 35)
          have htb3 := (htbo.out.below (by omega) hb03H.out)
          have HE := Lib.hid (collect_any w3.heap.size x _ hnx hBe (htb3.below (by omega) hbe) (by omega))
          have hbeH := Lib.hid hbe
          clear hBe hbe htb3
          go_wp2_with fail
          refine HE.out.mono ?_
          rintro _ w4 ⟨v4, rfl, hown4, hb4⟩
          obtain ⟨A4, c4, rfl⟩ := own_slice hown4
          have hb34 := hbeH.out.trans hb4
          have hr4 := Rd.of_own hown4
          have hbl := bitsL_len32 x
          obtain ⟨m4, hm4⟩ : ∃ m4, (bitsL x).length = m4 := ⟨_, rfl⟩
          rw [hm4] at hr4 hbl ⊢
          have HQ := Lib.hid (equal_any A3 rl c3 (srt rz) A4 m4 c4 _ w4 (hr3H.out.later hb34) hr4 (by omega) (by omega))
          rw [← hrkH.out] at HQ
          have hb04 := hb03H.out.trans (hb34.mono (by omega))
          have hbt := hbH.out.trans (hb04.mono hsx)
          have hbtH := Lib.hid hbt
          clear HE hown4 hb4 hb34 hr4 hm4 hb04 hbt hr3H hrkH
          generalize rowOkB n es l k = bo at *
          go_wp2_with fail
          refine HQ.out.mono ?_
          rintro _ w5 ⟨rfl, hb5⟩
          have hb5t := Lib.hid (hbtH.out.trans (hb5.mono hbtH.out.size))
          clear HQ hb5
          cases bo
          · have hz := Lib.hid (hno.out rfl)
            clear hyes hno
            go_wp2
            go_ret
            exact ⟨3, rfl, by rw [hmb.out, hz.out]; rfl, hbw2H.out.trans (hb5t.out.mono (by omega))⟩
          · have hy := Lib.hid (hyes.out rfl)
            clear hyes hno
            go_wp2
            go_roundw
            case rel => exact ⟨k + 1, by omega, by go_num, hy.out, hb5t.out⟩
            case measure => simp [intOf]; omega
        · obtain rfl : n = k := by omega
          have hz := Lib.hid (all_yes hpH.out)
          have hbH := Lib.hid hb
          clear hb
          go_wp2
          go_ret
          exact ⟨0, rfl, by rw [hmb.out, hz.out]; rfl, hbw2H.out.trans (hbH.out.mono (by omega))⟩
    · have hmb := Lib.hid (show mapB m es l = false by
        unfold mapB; rw [hok, hnl, show ((n : Int) == (m : Int)) = false by rw [beq_eq_false_iff_ne]; omega]; rfl)
      have hnn : ((n : Int) != (m : Int)) = true := by simp; omega
      clear hr hR gb hK hok hokE hby htb h0 h10 h45 hel hnl
      go_enter Tryd.func13, Tryd.ntmps13
      go_wp2_with fail
      refine HC.out.mono ?_
      rintro _ w1 ⟨rfl, hb1⟩
      have hbw := Lib.hid (gbH.out.trans (hb1.mono gbH.out.size))
      have hK1 := hKH.out.below hb1 hKH.out.lt
      have q0 := hK1.cell (j := 0) (v := .int .i64 (m : Int)) rfl
      clear HC hb1 hK1 g0 g1
      go_wp2
      go_ret
      exact ⟨3, rfl, by rw [hmb.out]; rfl, hbw.out⟩
  · have hmb := Lib.hid (show mapB N es l = false by
      unfold mapB; rw [show (gchk N es == 0) = false by simpa using hok]; rfl)
    have hz : (gchk N es != 0) = true := by simpa using hok
    have hzz := Lib.hid (show (gchk N es == 0) = false by simpa using hok)
    clear hr hR gb hK hok hby htb hnl
    generalize gchk N es = q at *
    go_enter Tryd.func13, Tryd.ntmps13
    go_wp2_with fail
    refine HC.out.mono ?_
    rintro _ w1 ⟨rfl, hb1⟩
    have hbw := Lib.hid (gbH.out.trans (hb1.mono gbH.out.size))
    clear HC hb1 g0 g1
    go_wp2
    go_ret
    exact ⟨q, rfl, by rw [hmb.out, hzz.out], hbw.out⟩
end Go.Proofs.YtonalhedjjobeaaDoor

namespace Go.Proofs.YtonalhedjjobeaaDoor
open Go.RowKit
def adjEZ (i j : Int) (e : E) : Bool := (e.1 == i && e.2.1 == j) || (e.1 == j && e.2.1 == i)
def adjZ (es : List E) (i j : Int) : Bool := es.any (adjEZ i j)
theorem adjZ_nat (es : List E) (i j : Nat) : adjZ es i j = adj es i j := rfl
set_option maxHeartbeats 1600000 in
theorem refNearZ_any (n : Nat) (i j : Int) (A : Option Addr) (len cap : Nat) (es : List E) (w : World) (hr : Rd w A len 3 (ps3 .i64 .i64 .i64 es)) (hl : len ≤ 45) (hok : ∀ e ∈ es, okE n e) :
    Calls Tryd.prog 22 #[.agg #[.int .i64 n, .slice A len cap], .int .i64 i, .int .i64 j] w fun e w' => e = .returned (.bool (adjZ es i j)) ∧ Below w.heap.size w w' := by
  have helH := Lib.hid (ps3_len hr)
  have hrH := Lib.hid hr; have hokH := Lib.hid hok
  clear hr hok
  go_enter Tryd.func22, Tryd.ntmps22
  go_wp2
  have hb0 := (Below.refl w.heap.size w).alloc (Nat.le_refl _) (.cells #[.int .i64 n, .slice A len cap] 24)
  go_loopw [12] (fun q wr => ∃ k : Nat, k ≤ len ∧ q = .int .i64 k ∧ (es.take k).any (adjEZ i j) = false ∧ Below w.heap.size w wr) (fun q _ => len - (intOf q).toNat)
  case atStart => exact ⟨0, Nat.zero_le _, rfl, rfl, hb0⟩
  case round =>
    obtain ⟨k, hk, rfl, hp, hb⟩ := hrel
    have hpH := Lib.hid hp; clear hp
    have hSr := hb.size
    by_cases hlt : k < len
    · obtain ⟨bb, oo, rfl, hab, hc1, hc2, hc3⟩ := (hrH.out.later hb).triple hlt
      have hke : k < es.length := by rw [helH.out]; exact hlt
      obtain ⟨x, y, c, hat, hx, hy, _⟩ := ok_at hokH.out hke
      have hyy := any_take_succ' (adjEZ i j) (0, 0, 0) es k hke hpH.out
      have hno := any_of_getD' (adjEZ i j) (0, 0, 0) es k hke
      rw [hat] at hc1 hc2 hc3 hyy hno
      dsimp only at hc1 hc2 hc3
      have hd := Lib.hid (show adjEZ i j ((x : Int), (y : Int), c) = (((x : Int) == i && (y : Int) == j) || ((x : Int) == j && (y : Int) == i)) from rfl)
      have hyH := Lib.hid hyy; have hnoH := Lib.hid hno
      clear hat hke hyy hno
      cases hq : adjEZ i j ((x : Int), (y : Int), c)
      · have hz := Lib.hid (hyH.out hq)
        have hq2 := hd.out.symm.trans hq
        clear hq
        cases a1 : ((x : Int) == i) <;> cases a2 : ((y : Int) == j) <;> cases a3 : ((x : Int) == j) <;> cases a4 : ((y : Int) == i)
        all_goals first
          | (rw [a1, a2, a3, a4] at hq2; cases hq2; done)
          | (clear hq2
             go_wp2
             go_roundw
             case rel => exact ⟨k + 1, by omega, by go_num, hz.out, hb.alloc hSr _⟩
             case measure => simp [intOf]; omega)
      · have hz := Lib.hid (show adjZ es i j = true from hnoH.out hq)
        have hq2 := hd.out.symm.trans hq
        clear hq
        cases a1 : ((x : Int) == i) <;> cases a2 : ((y : Int) == j) <;> cases a3 : ((x : Int) == j) <;> cases a4 : ((y : Int) == i)
        all_goals first
          | (rw [a1, a2, a3, a4] at hq2; cases hq2; done)
          | (clear hq2
             go_wp2
             go_ret
             exact ⟨by rw [hz.out]; rfl, hb.alloc hSr _⟩)
    · have hz := Lib.hid (show adjZ es i j = false by
        have := hpH.out
        rw [List.take_of_length_le (by rw [helH.out]; omega)] at this
        exact this)
      go_wp2
      go_ret
      exact ⟨by rw [hz.out]; rfl, hb⟩
end Go.Proofs.YtonalhedjjobeaaDoor

namespace Go.Proofs.YtonalhedjjobeaaDoor
open Go.RowKit Go.Shelf

def refAt (es : List E) (i : Nat) (zs : List Int) (k : Nat) : Bool := !hasB (zs.take k) (zs.getD k 0) && adjZ es i (zs.getD k 0)
def refRow (es : List E) (l : List Rw) (i : Nat) : Bool := (rat l i).zs.length == degE es i && (List.range (rat l i).zs.length).all (refAt es i (rat l i).zs)
def refB (N : Int) (es : List E) (l : List Rw) : Bool := gchk N es == 0 && ((l.length : Int) == N && (List.range l.length).all (refRow es l))
theorem degE_le (es : List E) (i : Nat) : degE es i ≤ es.length := List.length_filter_le _ _
set_option maxHeartbeats 3200000 in
set_option maxRecDepth 100000 in
theorem mapRef_any (N : Int) (A : Option Addr) (len cap : Nat) (es : List E) (R : Option Addr) (n c : Nat) (l : List Rw) (w : World) (hr : Rd w A len 3 (ps3 .i64 .i64 .i64 es)) (hR : RdR w R n l) (hlen : len ≤ 9223372036854775807) (hcap : len ≤ cap) (hn : n ≤ 9223372036854775807) :
    Calls Tryd.prog 8 #[.agg #[.int .i64 N, .slice A len cap], .slice R n c] w fun e w' => ∃ z : Int, e = .returned (.int .i64 z) ∧ (z == 0) = refB N es l ∧ Below w.heap.size w w' := by
  have gb := (Below.refl _ w).alloc (Nat.le_refl _) (.cells #[.int .i64 N, .slice A len cap] 24)
  have hK := Blk.new w 24 #[.int .i64 N, .slice A len cap]
  have g0 := hK.cell (j := 0) (v := .int .i64 N) rfl
  have g1 := hK.cell (j := 1) (v := .slice A len cap) rfl
  have HC := Lib.hid (graphCheck_any N A len cap es _ (hr.later gb) hlen hcap)
  have hnl : l.length = n := hR.1
  have gbH := Lib.hid gb; have hKH := Lib.hid hK
  by_cases hok : gchk N es = 0
  · obtain ⟨h0, h10, h45, hokE, _⟩ := gchk_ok hok
    obtain ⟨m, rfl⟩ := Int.eq_ofNat_of_zero_le h0
    rw [Int.toNat_natCast] at hokE
    have hm10 : m ≤ 10 := by omega
    have hel := ps3_len hr
    rw [hok] at HC
    by_cases hnm : n = m
    · subst hnm
      have hmb := Lib.hid (show refB n es l = (List.range n).all (refRow es l) by
        unfold refB; rw [hok, hnl]; simp)
      have hl45 : len ≤ 45 := by omega
      have HN := Lib.hid (fun (i : Nat) (z : Int) W (h : Below w.heap.size w W) => refNearZ_any n i z A len cap es W (hr.later h) hl45 hokE)
      have HD := Lib.hid (fun (i : Nat) W (h : Below w.heap.size w W) => degree_any n i A len cap es W (hr.later h) hl45 hokE)
      have hdl := Lib.hid (fun i => Nat.le_trans (degE_le es i) h45)
      have hRH := Lib.hid hR
      have hnn : ((n : Int) != (n : Int)) = false := by simp
      clear hr hR gb hK hok hokE h0 h10 h45 hel hnl
      go_enter Tryd.func8, Tryd.ntmps8
      go_wp2_with fail
      refine HC.out.mono ?_
      rintro _ w1 ⟨rfl, hb1⟩
      have hbw := gbH.out.trans (hb1.mono gbH.out.size)
      have hK1 := hKH.out.below hb1 hKH.out.lt
      have q0 := hK1.cell (j := 0) (v := .int .i64 (n : Int)) rfl
      have hbwH := Lib.hid hbw; have hK1H := Lib.hid hK1
      have hs1 : w.heap.size < w1.heap.size := hK1.lt
      clear HC hb1 hK1 hbw g0 g1
      go_wp2
      clear q0
      go_loopw [6, 7, 22] (fun _ _ q wr => ∃ k : Nat, k ≤ n ∧ q = .int .i64 k ∧ (∀ j, j < k → refRow es l j = true) ∧ Below w1.heap.size w1 wr) (fun _ _ q _ => n - (intOf q).toNat)
      case atStart => exact ⟨0, Nat.zero_le _, rfl, fun j hj => absurd hj (by omega), Below.refl _ _⟩
      case round =>
        obtain ⟨k, hk, rfl, hp, hb⟩ := hrel
        obtain ⟨wo, rfl⟩ : ∃ wo : World, wo = wr := ⟨_, rfl⟩
        have hpH := Lib.hid hp; clear hp
        by_cases hlt : k < n
        · have hbwo := hbwH.out.trans (hb.mono hbwH.out.size)
          obtain ⟨bR, oR, rfl, hbR, hcR, hfit⟩ := (hRH.out.later hbwo).at hlt
          have hrk : refRow es l k = ((rat l k).zs.length == degE es k && (List.range (rat l k).zs.length).all (refAt es k (rat l k).zs)) := rfl
          have hno := Lib.hid (all_no (n := n) (p := refRow es l) hlt)
          have hyes := Lib.hid (show refRow es l k = true → ∀ j, j < k + 1 → refRow es l j = true from fun h j hj => by
            by_cases e : j = k
            · subst e; exact h
            · exact hpH.out j (by omega))
          have hzl := hfit.zl
          rw [hzl] at hrk
          have hrkH := Lib.hid hrk
          obtain ⟨rA, rl, rc, rz, hrow⟩ : ∃ a b c z, rat l k = ⟨a, b, c, z⟩ := ⟨_, _, _, _, rfl⟩
          rw [hrow] at hcR hfit hrkH
          dsimp only at hcR hfit hrkH
          clear hrk hrow hzl
          obtain ⟨hrd, hrl, hrc⟩ := hfit
          unfold maxLen at hrl
          have hzlH := Lib.hid (show rz.length = rl by simpa [ints] using hrd.1)
          have hk0 : (0 : Int) ≤ (k : Int) := by omega
          have hkn : (k : Int) < (n : Int) := by omega
          have hKo := hK1H.out.below hb hs1
          have q0 := hKo.cell (j := 0) (v := .int .i64 (n : Int)) rfl
          have q1 := hKo.cell (j := 1) (v := .slice A len cap) rfl
          have hsx := hb.size
          have HD1 := Lib.hid (HD.out k wo hbwo)
          have hd45 := hdl.out k
          have hrdH := Lib.hid hrd
          have hbH := Lib.hid hb; have hbwoH := Lib.hid hbwo; have hKoH := Lib.hid hKo
          clear hb hrd hbwo hKo
          generalize hdd : degE es k = dg at *
          clear hdd
          by_cases hne : rl = dg
          · subst hne
            have hnn2 : ((rl : Int) != (rl : Int)) = false := by simp
            have hrk2 := Lib.hid (show refRow es l k = (List.range rl).all (refAt es k rz) by rw [hrkH.out]; simp)
            go_wp2_with fail
            refine HD1.out.mono ?_
            rintro _ w2 ⟨rfl, hb2⟩
            have hb02 := hbH.out.trans (hb2.mono hsx)
            have hbw2 := Lib.hid (hbwoH.out.trans (hb2.mono hbwoH.out.size))
            have hK2 := hKoH.out.below hb2 hKoH.out.lt
            have hr2 := Lib.hid (hrdH.out.later hb2)
            have hb02H := Lib.hid hb02; have hK2H := Lib.hid hK2
            have hs2 : w.heap.size < w2.heap.size := hK2.lt
            clear HD1 q0 q1 hcR hrdH hb2 hb02 hK2 hbH hbwoH hKoH hrkH
            go_wp2
            clear hnn2
            go_loopw [8, 9, 35] (fun _ _ q wx => ∃ j : Nat, j ≤ rl ∧ q = .int .i64 j ∧ (∀ t, t < j → refAt es k rz t = true) ∧ Below w2.heap.size w2 wx) (fun _ _ q _ => rl - (intOf q).toNat)
            case atStart => exact ⟨0, Nat.zero_le _, rfl, fun j hj => absurd hj (by omega), Below.refl _ _⟩
            case round =>
              obtain ⟨j, hj, rfl, hpj, hb⟩ := hrel
              obtain ⟨wx, rfl⟩ : ∃ wx : World, wx = wr := ⟨_, rfl⟩
              have hpjH := Lib.hid hpj; clear hpj
              have hs2x := hb.size
              have hb0x := hb02H.out.trans (hb.mono (by have := hb02H.out.size; omega))
              have hb0xH := Lib.hid hb0x
              by_cases hjl : j < rl
              · obtain ⟨bb, oo, rfl, hbb, hcj⟩ := (hr2.out.later hb).int hjl
                have hHas := Lib.hid (fun (a : Int) => has_any a (some ⟨bb, oo, none⟩) j rc (rz.take j) wx ((hr2.out.later hb).part hj) (by omega))
                have hbwx := hbw2.out.trans (hb.mono hbw2.out.size)
                have hNx := Lib.hid (fun (a : Int) => HN.out k a wx hbwx)
                have hKx := hK2H.out.below hb hs2
                have q0 := hKx.cell (j := 0) (v := .int .i64 (n : Int)) rfl
                have q1 := hKx.cell (j := 1) (v := .slice A len cap) rfl
                have hra : refAt es k rz j = (!hasB (rz.take j) (rz.getD j 0) && adjZ es k (rz.getD j 0)) := rfl
                have hyesj := Lib.hid (show refAt es k rz j = true → ∀ t, t < j + 1 → refAt es k rz t = true from fun h t ht => by
                  by_cases e : t = j
                  · subst e; exact h
                  · exact hpjH.out t (by omega))
                have hnoj := Lib.hid (show refAt es k rz j = false → refRow es l k = false from fun h => by rw [hrk2.out]; exact all_no hjl h)
                have hraH := Lib.hid hra
                have hj0 : (0 : Int) ≤ (j : Int) := by omega
                have hjc : (j : Int) ≤ rc := by omega
                have hbH := Lib.hid hb; have hbwxH := Lib.hid hbwx
                clear hb hbwx hKx hra
                generalize rz.getD j 0 = a at *
                generalize hq1 : hasB (rz.take j) a = x1 at *
                generalize hq2 : adjZ es k a = x2 at *
                have hHas2 := Lib.hid (hHas.out a)
                rw [hq1] at hHas2
                have hNx2 := Lib.hid (hNx.out a)
                rw [hq2] at hNx2
                clear hHas hNx hq1 hq2
                cases x1
                · go_wp2_with fail
                  refine hHas2.out.mono ?_
                  rintro _ _ ⟨rfl, rfl⟩
                  clear hHas2
                  go_wp2_with fail
                  refine hNx2.out.mono ?_
                  rintro _ w5 ⟨rfl, hb5⟩
                  have hb5H := Lib.hid (hbH.out.trans (hb5.mono hs2x))
                  have hb05H := Lib.hid (hb0xH.out.trans (hb5.mono (by have := hb0xH.out.size; omega)))
                  clear hNx2 hb5 q0 q1 hcj
                  cases x2
                  · have hf := Lib.hid (hno.out (hnoj.out (by rw [hraH.out]; rfl)))
                    clear hyes hno hyesj hnoj hraH
                    go_wp2
                    go_ret
                    exact ⟨3, rfl, by rw [hmb.out, hf.out]; rfl, hbwH.out.trans (hb05H.out.mono (by omega))⟩
                  · have hy := Lib.hid (hyesj.out (by rw [hraH.out]; rfl))
                    clear hyes hno hyesj hnoj hraH
                    go_wp2
                    go_roundw
                    case rel => exact ⟨j + 1, by omega, by go_num, hy.out, hb5H.out⟩
                    case measure => simp [intOf]; omega
                · have hf := Lib.hid (hno.out (hnoj.out (by rw [hraH.out]; rfl)))
                  clear hyes hno hyesj hnoj hraH hNx2
                  go_wp2_with fail
                  refine hHas2.out.mono ?_
                  rintro _ _ ⟨rfl, rfl⟩
                  clear hHas2
                  go_wp2
                  go_ret
                  exact ⟨3, rfl, by rw [hmb.out, hf.out]; rfl, hbwH.out.trans (hb0xH.out.mono (by omega))⟩
              · obtain rfl : rl = j := by omega
                have hy := Lib.hid (hyes.out (by rw [hrk2.out]; exact all_yes hpjH.out))
                clear hyes hno hb hb0x
                go_wp2
                go_roundw
                case rel => exact ⟨k + 1, by omega, by go_num, hy.out, hb0xH.out⟩
                case measure => simp [intOf]; omega
          · have hnn2 : ((rl : Int) != (dg : Int)) = true := by simp; omega
            have hf := Lib.hid (hno.out (by rw [hrkH.out, show (rl == dg) = false by simpa using hne]; rfl))
            clear hyes hno hrkH hne
            go_wp2_with fail
            refine HD1.out.mono ?_
            rintro _ w2 ⟨rfl, hb2⟩
            have hb02 := Lib.hid (hbH.out.trans (hb2.mono hsx))
            clear HD1 hb2 q0 q1 hcR
            go_wp2
            go_ret
            exact ⟨3, rfl, by rw [hmb.out, hf.out]; rfl, hbwH.out.trans (hb02.out.mono (by omega))⟩
        · obtain rfl : n = k := by omega
          have hz := Lib.hid (all_yes hpH.out)
          have hbH := Lib.hid hb
          clear hb
          go_wp2
          go_ret
          exact ⟨0, rfl, by rw [hmb.out, hz.out]; rfl, hbwH.out.trans (hbH.out.mono (by omega))⟩
    · have hmb := Lib.hid (show refB m es l = false by
        unfold refB; rw [hok, hnl, show ((n : Int) == (m : Int)) = false by rw [beq_eq_false_iff_ne]; omega]; rfl)
      have hnn : ((n : Int) != (m : Int)) = true := by simp; omega
      clear hr hR gb hK hok hokE h0 h10 h45 hel hnl
      go_enter Tryd.func8, Tryd.ntmps8
      go_wp2_with fail
      refine HC.out.mono ?_
      rintro _ w1 ⟨rfl, hb1⟩
      have hbw := Lib.hid (gbH.out.trans (hb1.mono gbH.out.size))
      have hK1 := hKH.out.below hb1 hKH.out.lt
      have q0 := hK1.cell (j := 0) (v := .int .i64 (m : Int)) rfl
      clear HC hb1 hK1 g0 g1
      go_wp2
      go_ret
      exact ⟨3, rfl, by rw [hmb.out]; rfl, hbw.out⟩
  · have hmb := Lib.hid (show refB N es l = false by
      unfold refB; rw [show (gchk N es == 0) = false by simpa using hok]; rfl)
    have hz : (gchk N es != 0) = true := by simpa using hok
    have hzz := Lib.hid (show (gchk N es == 0) = false by simpa using hok)
    clear hr hR gb hK hok hnl
    generalize gchk N es = q at *
    go_enter Tryd.func8, Tryd.ntmps8
    go_wp2_with fail
    refine HC.out.mono ?_
    rintro _ w1 ⟨rfl, hb1⟩
    have hbw := Lib.hid (gbH.out.trans (hb1.mono gbH.out.size))
    clear HC hb1 g0 g1
    go_wp2
    go_ret
    exact ⟨q, rfl, by rw [hmb.out, hzz.out], hbw.out⟩
end Go.Proofs.YtonalhedjjobeaaDoor

namespace Go.Proofs.YtonalhedjjobeaaDoor
open Go.RowKit Go.Shelf

theorem srt_perm (zs : List Int) : (srt zs).Perm zs := List.mergeSort_perm zs _
theorem srt_eq {l l' : List Int} (h : l.Perm l') : srt l = srt l' := mergeSort_of_perm_i h
theorem srt_bits (x : Nat) : srt (natI (bitsL x)) = natI (bitsL x) := by
  unfold srt
  refine List.mergeSort_of_pairwise ?_
  unfold natI
  rw [List.pairwise_map]
  unfold bitsL
  refine (List.pairwise_lt_range.sublist (List.filter_sublist)).imp fun {a b} h => ?_
  simp only [decide_eq_true_eq]
  omega
theorem perm_natI' {z : List Int} {l : List Nat} (h : z.Perm (natI l)) : ∃ l', z = natI l' ∧ l'.Perm l := by
  have hz : z = natI (z.map Int.toNat) := by
    unfold natI
    rw [List.map_map]
    refine (List.map_id z).symm.trans (List.map_congr_left fun a ha => ?_)
    have := h.mem_iff.1 ha
    unfold natI at this
    obtain ⟨i, _, rfl⟩ := List.mem_map.1 this
    simp
  refine ⟨z.map Int.toNat, hz, ?_⟩
  have h2 := h.map Int.toNat
  have e : (natI l).map Int.toNat = l := by
    unfold natI
    rw [List.map_map]
    exact (List.map_congr_left fun a _ => by simp).trans (List.map_id l)
  rw [e] at h2
  exact h2
theorem bitsL_len {N : Nat} {x : Nat} (h : ∀ j, x.testBit j = true → j < N) (hN : N ≤ 10) : (bitsL x).length = popc 10 x := by
  unfold bitsL popc
  have h1 : ∀ m, 10 ≤ m → ((List.range m).filter x.testBit).length = ((List.range 10).filter x.testBit).length := fun m hm => by
    induction m with
    | zero => omega
    | succ m ih =>
      by_cases e : m + 1 = 10
      · rw [e]
      · rw [List.range_succ, List.filter_append, List.length_append, ih (by omega)]
        have : x.testBit m = false := by
          cases hb : x.testBit m with
          | false => rfl
          | true => have := h m hb; omega
        simp [this]
  exact h1 32 (by omega)
section
variable {N : Nat} {es : List E} {l : List Rw}
theorem adjZ_imp (hok : ∀ e ∈ es, okE N e) {i : Nat} {z : Int} (h : adjZ es i z = true) : ∃ b : Nat, z = (b : Int) ∧ adj es i b = true := by
  have h2 := h
  unfold adjZ at h
  obtain ⟨e, he, hor⟩ := List.any_eq_true.1 h
  obtain ⟨x, y, hx, hy, _, _, _⟩ := hok e he
  unfold adjEZ at hor
  rw [hx, hy] at hor
  simp only [Bool.or_eq_true, Bool.and_eq_true, beq_iff_eq] at hor
  rcases hor with ⟨_, rfl⟩ | ⟨rfl, _⟩
  · exact ⟨y, rfl, h2⟩
  · exact ⟨x, rfl, h2⟩
/-- of one node: the list is one of its neighbours, each once -/
theorem row_iff (h0 : gchk N es = 0) {i : Nat} (hi : i < N) (zs : List Int) : srt zs = natI (bitsL ((nearW N es).getD i 0)) ↔ (zs.length = degE es i ∧ ∀ k, k < zs.length → refAt es i zs k = true) := by
  obtain ⟨_, h10, h45, hokE, hat⟩ := gchk_ok h0
  rw [Int.toNat_natCast] at hokE
  have hN : N ≤ 10 := by omega
  have hbit : ∀ j, ((nearW N es).getD i 0).testBit j = adj es i j := fun j => nearW_bit es hokE i j hi
  have hmb : ∀ j, j ∈ bitsL ((nearW N es).getD i 0) ↔ adj es i j = true := fun j => by
    rw [mem_bitsL, hbit]
    exact ⟨fun h => h.2, fun h => ⟨by have := (adj_lt hokE h).2.1; omega, h⟩⟩
  have hlen : (bitsL ((nearW N es).getD i 0)).length = degE es i := by
    rw [bitsL_len (N := N) (fun j hj => by rw [hbit] at hj; exact (adj_lt hokE hj).2.1) hN]
    have := deg_near hN es hokE hat i hi es.length (Nat.le_refl _)
    rwa [List.take_of_length_le (Nat.le_refl _)] at this
  have hnd := bitsL_nodup ((nearW N es).getD i 0)
  have hsb := srt_bits ((nearW N es).getD i 0)
  generalize bitsL ((nearW N es).getD i 0) = bl at *
  constructor
  · intro h
    have hp : zs.Perm (natI bl) := by rw [← h]; exact (srt_perm zs).symm
    obtain ⟨p, rfl, hpp⟩ := perm_natI' hp
    have hpl : (natI p).length = p.length := by simp [natI]
    refine ⟨by rw [hpl, hpp.length_eq, hlen], fun k hk => ?_⟩
    rw [hpl] at hk
    have hpn : p.Nodup := hpp.nodup_iff.2 hnd
    unfold refAt
    rw [natI_at hk, adjZ_nat, (hmb _).1 (hpp.mem_iff.1 (by rw [List.getD, List.getElem?_eq_getElem hk]; exact List.getElem_mem _)), Bool.and_true, Bool.not_eq_true', hasB, List.any_eq_false]
    intro y hy e
    obtain ⟨q, hq, rfl⟩ := List.mem_take_iff_getElem.1 hy
    simp only [natI, List.length_map] at hq
    have hqk : q < k := by omega
    simp [natI, List.getD, hk] at e
    have := (List.nodup_iff_pairwise_ne.1 hpn)
    rw [List.pairwise_iff_getElem] at this
    exact this q k (by omega) hk hqk (by omega)
  · rintro ⟨h1, h2⟩
    have hnat : ∃ p : List Nat, zs = natI p ∧ ∀ b ∈ p, adj es i b = true := by
      refine ⟨zs.map Int.toNat, ?_, fun b hb => ?_⟩
      · unfold natI
        rw [List.map_map]
        refine (List.map_id zs).symm.trans (List.map_congr_left fun a ha => ?_)
        obtain ⟨k, hk, rfl⟩ := List.getElem_of_mem ha
        have := h2 k hk
        unfold refAt at this
        rw [Bool.and_eq_true] at this
        obtain ⟨b, hb, _⟩ := adjZ_imp hokE this.2
        rw [List.getD, List.getElem?_eq_getElem hk, Option.getD_some] at hb
        rw [hb]; simp
      · obtain ⟨a, ha, rfl⟩ := List.mem_map.1 hb
        obtain ⟨k, hk, rfl⟩ := List.getElem_of_mem ha
        have := h2 k hk
        unfold refAt at this
        rw [Bool.and_eq_true] at this
        obtain ⟨b, hb, hadj⟩ := adjZ_imp hokE this.2
        rw [List.getD, List.getElem?_eq_getElem hk, Option.getD_some] at hb
        rw [hb]; simpa using hadj
    obtain ⟨p, rfl, hpa⟩ := hnat
    have hpl : (natI p).length = p.length := by simp [natI]
    rw [hpl] at h1 h2
    have hpn : p.Nodup := by
      rw [List.nodup_iff_pairwise_ne, List.pairwise_iff_getElem]
      intro a b ha hb hab e
      have := h2 b hb
      unfold refAt at this
      rw [Bool.and_eq_true, Bool.not_eq_true', hasB, List.any_eq_false] at this
      refine this.1 (p[a] : Int) ?_ ?_
      · rw [List.mem_take_iff_getElem]
        exact ⟨a, by rw [hpl]; omega, by simp [natI]⟩
      · simp [natI, List.getD, hb, e]
    have hpp : p.Perm bl := by
      have hsub : p ⊆ bl := fun b hb => (hmb b).2 (hpa b hb)
      refine (List.perm_ext_iff_of_nodup hpn hnd).2 fun b => ⟨fun h => hsub h, fun h => ?_⟩
      refine Classical.byContradiction fun hno => ?_
      have h3 : (b :: p).Nodup := List.nodup_cons.2 ⟨hno, hpn⟩
      have h4 := h3.length_le_of_subset (l₂ := bl) fun x hx => by
        rcases List.mem_cons.1 hx with rfl | hx
        · exact h
        · exact hsub hx
      simp at h4
      omega
    have hperm : (natI p).Perm (natI bl) := by unfold natI; exact hpp.map _
    rw [srt_eq hperm]
    exact hsb
theorem mapB_eq (N : Int) (es : List E) (l : List Rw) : mapB N es l = refB N es l := by
  unfold mapB refB
  by_cases h0 : gchk N es = 0
  · obtain ⟨hn, _, _, _, _⟩ := gchk_ok h0
    obtain ⟨n, rfl⟩ := Int.eq_ofNat_of_zero_le hn
    rw [show (gchk n es == 0) = true by rw [h0]; rfl, Bool.true_and, Bool.true_and]
    by_cases hl : l.length = n
    · rw [hl, show ((n : Int) == (n : Int)) = true by simp, Bool.true_and, Bool.true_and, Bool.eq_iff_iff, List.all_eq_true, List.all_eq_true]
      have key : ∀ i, i < n → (rowOkB n es l i = true ↔ refRow es l i = true) := fun i hi => by
        unfold rowOkB refRow
        rw [Int.toNat_natCast, beq_iff_eq, row_iff h0 hi, Bool.and_eq_true, beq_iff_eq, List.all_eq_true]
        exact ⟨fun ⟨a, b⟩ => ⟨a, fun k hk => b k (List.mem_range.1 hk)⟩, fun ⟨a, b⟩ => ⟨a, fun k hk => b k (List.mem_range.2 hk)⟩⟩
      exact ⟨fun h i hi => (key i (List.mem_range.1 hi)).1 (h i hi), fun h i hi => (key i (List.mem_range.1 hi)).2 (h i hi)⟩
    · rw [show ((l.length : Int) == (n : Int)) = false by rw [beq_eq_false_iff_ne]; omega]; rfl
  · rw [show (gchk N es == 0) = false by simpa using h0]; rfl
/-- what there is when Check finds nothing wrong -/
structure MapIs (n : Nat) (es : List E) (l : List Rw) (rs : List (List Nat)) : Prop where
  ok : gchk n es = 0
  le : n ≤ 10
  ed : es.length ≤ 45
  len : l.length = n
  row : ∀ i, i < n → (rat l i).zs = natI (rs.getD i [])
  map : IsMapR n es rs
  dst : Dst n es
theorem map_of {N : Int} (h : mapB N es l = true) : ∃ n rs, N = (n : Nat) ∧ MapIs n es l rs := by
  unfold mapB at h
  rw [Bool.and_eq_true, Bool.and_eq_true, beq_iff_eq, beq_iff_eq, List.all_eq_true] at h
  obtain ⟨h0, hl, hrows⟩ := h
  obtain ⟨hn, h10, h45, hokE, _⟩ := gchk_ok h0
  obtain ⟨n, rfl⟩ := Int.eq_ofNat_of_zero_le hn
  rw [Int.toNat_natCast] at hokE
  have hln : l.length = n := by omega
  have key : ∀ i, i < n → ∃ p : List Nat, (rat l i).zs = natI p ∧ p.Nodup ∧ ∀ b, b ∈ p ↔ adj es i b = true := fun i hi => by
    have := hrows i (List.mem_range.2 (by omega))
    unfold rowOkB at this
    rw [Int.toNat_natCast, beq_iff_eq] at this
    have hp : (rat l i).zs.Perm (natI (bitsL ((nearW n es).getD i 0))) := by rw [← this]; exact (srt_perm _).symm
    obtain ⟨p, hz, hpp⟩ := perm_natI' hp
    refine ⟨p, hz, hpp.nodup_iff.2 (bitsL_nodup _), fun b => ?_⟩
    rw [hpp.mem_iff, mem_bitsL, nearW_bit es hokE i b hi]
    exact ⟨fun h => h.2, fun h => ⟨by have := (adj_lt hokE h).2.1; omega, h⟩⟩
  have hex : ∀ m, m ≤ n → ∃ rs : List (List Nat), rs.length = m ∧ ∀ i, i < m → (rat l i).zs = natI (rs.getD i []) ∧ (rs.getD i []).Nodup ∧ ∀ b, b ∈ rs.getD i [] ↔ adj es i b = true := fun m => by
    induction m with
    | zero => exact fun _ => ⟨[], rfl, fun i hi => absurd hi (by omega)⟩
    | succ m ih =>
      intro hm
      obtain ⟨rs, h1, h2⟩ := ih (by omega)
      obtain ⟨p, hp⟩ := key m (by omega)
      refine ⟨rs ++ [p], by simp [h1], fun i hi => ?_⟩
      by_cases e : i = m
      · subst e
        have : (rs ++ [p]).getD i [] = p := by subst h1; simp [List.getD]
        rw [this]; exact hp
      · have : (rs ++ [p]).getD i [] = rs.getD i [] := by simp only [List.getD]; rw [List.getElem?_append_left (by omega)]
        rw [this]; exact h2 i (by omega)
  obtain ⟨rs, h1, h2⟩ := hex n (Nat.le_refl _)
  exact ⟨n, rs, rfl, h0, by omega, h45, hln, fun i hi => (h2 i hi).1, ⟨h1, fun a ha => (h2 a ha).2.1, fun a ha => (h2 a ha).2.2⟩, ⟨hokE, (gchk_iff.1 h0).2.two⟩⟩
end
end Go.Proofs.YtonalhedjjobeaaDoor

namespace Go.Proofs.YtonalhedjjobeaaDoor
open Go.RowKit Go.Shelf

theorem part_lab {N : Nat} {es : List E} (h : gchk N es = 0) {i : Nat} (hi : i < N) : part (nearW N es) i = lab es i := by
  have g := nearGr h
  obtain ⟨_, _, _, hok, _⟩ := gchk_ok h
  rw [Int.toNat_natCast] at hok
  have hstep : ∀ j m, nb (nearW N es) j m = true → lab es j = lab es m := fun j m hjm => by
    have hj := (g.ok j m hjm).1
    unfold nb at hjm
    rw [nearW_bit es hok j m hj] at hjm
    obtain ⟨e, he, hae⟩ := List.any_eq_true.1 hjm
    have := lab_edge es e he
    unfold adjE at hae
    simp at hae
    rcases hae with ⟨p, q⟩ | ⟨p, q⟩
    · rw [p, q] at this; simpa using this
    · rw [p, q] at this; simpa using this.symm
  have hr : ∀ k m, Rch (nearW N es) k i m → lab es i = lab es m := fun k => by
    induction k with
    | zero => intro m h; rw [Rch.zero] at h; rw [h]
    | succ k ih =>
      intro m h
      rcases (Rch.succ g hi).1 h with h | ⟨j, h1, h2⟩
      · exact ih m h
      · exact (ih j h1).trans (hstep j m h2)
  obtain ⟨p1, p2, p3⟩ := part_at g hi
  have hle : lab es i ≤ part (nearW N es) i := by
    rcases far_cases g (j := part (nearW N es) i) hi with ⟨q, _⟩ | ⟨k, _, _, q, _⟩
    · omega
    · have := hr k _ q
      have := lab_le es (part (nearW N es) i)
      omega
  have hcn := cn_of_lab hok es (fun _ h => h) i hi
  have hR : i = lab es i ∨ (i < N → ∃ k, Rch (nearW N es) k i (lab es i)) :=
    .inr (cn_least (R := fun a b => a < N → ∃ k, Rch (nearW N es) k a b) (fun a _ => ⟨0, Rch.zero.2 rfl⟩) (fun a b c h1 h2 ha => by
      obtain ⟨k, hk⟩ := h1 ha
      obtain ⟨m, hm⟩ := h2 (Rch.lt g ha hk)
      exact ⟨k + m, Rch.trans g ha hk hm⟩) (fun a b hab ha => ⟨1, (Rch.one g ha).2 (.inr (by unfold nb; rw [nearW_bit es hok a b ha]; exact hab))⟩) N i (lab es i) hcn)
  have hex : ∃ k, Rch (nearW N es) k i (lab es i) := by
    rcases hR with e | h
    · exact ⟨0, Rch.zero.2 e⟩
    · exact h hi
  obtain ⟨k, hk⟩ := hex
  rcases Nat.lt_or_ge (lab es i) (part (nearW N es) i) with hlt | hge
  · have := p3 _ hlt
    rcases far_cases g (j := lab es i) hi with ⟨_, q⟩ | ⟨k', q, _⟩
    · exact absurd hk (q k)
    · omega
  · omega
theorem compact_spec {z : List Int} (hs : z.Pairwise fun a b => a ≤ b) : (Lib.compact z).Nodup ∧ ∀ x, x ∈ Lib.compact z ↔ x ∈ z := by
  have hget : ∀ j (hj : j < z.length), z.toArray[j]! = z[j] := fun j hj => by rw [getElem!_pos z.toArray j (by simpa using hj)]; simp
  have hle : ∀ a b (ha : a < z.length) (hb : b < z.length), a ≤ b → z[a] ≤ z[b] := fun a b ha hb hab => by
    by_cases e : a = b
    · subst e; exact Int.le_refl _
    · exact (List.pairwise_iff_getElem.1 hs) a b ha hb (by omega)
  unfold Lib.compact Lib.compactUpTo
  constructor
  · refine nodup_map_on (fun a ha b hb e => ?_) (List.nodup_range.filter _)
    rw [List.mem_filter, List.mem_range] at ha hb
    have key : ∀ a b, a < z.length → b < z.length → Lib.keeps z.toArray b = true → a < b → z.toArray[a]! ≠ z.toArray[b]! := fun a b ha hb hk hab => by
      rw [hget a ha, hget b hb]
      unfold Lib.keeps at hk
      rw [decide_eq_true_eq] at hk
      rcases hk with h0 | hk
      · omega
      · rw [hget b hb, hget (b - 1) (by omega)] at hk
        have h1 := hle a (b - 1) ha (by omega) (by omega)
        have h2 := hle (b - 1) b (by omega) hb (by omega)
        omega
    rcases Nat.lt_trichotomy a b with h | h | h
    · exact absurd e (key a b ha.1 hb.1 hb.2 h)
    · exact h
    · exact absurd e.symm (key b a hb.1 ha.1 ha.2 h)
  · intro x
    rw [List.mem_map]
    constructor
    · rintro ⟨j, hj, rfl⟩
      rw [List.mem_filter, List.mem_range] at hj
      rw [hget j hj.1]; exact List.getElem_mem _
    · intro hx
      obtain ⟨j, hj, rfl⟩ := List.getElem_of_mem hx
      have key : ∀ j (hj : j < z.length), ∃ i, i < z.length ∧ Lib.keeps z.toArray i = true ∧ z.toArray[i]! = z[j] := fun j => by
        induction j with
        | zero => exact fun hj => ⟨0, hj, by simp [Lib.keeps], hget 0 hj⟩
        | succ j ih =>
          intro hj
          by_cases e : z[j + 1] = z[j]
          · obtain ⟨i, h1, h2, h3⟩ := ih (by omega)
            exact ⟨i, h1, h2, by rw [h3, e]⟩
          · refine ⟨j + 1, hj, ?_, hget _ hj⟩
            unfold Lib.keeps
            rw [decide_eq_true_eq, hget _ hj, Nat.add_sub_cancel, hget j (by omega)]
            exact .inr e
      obtain ⟨i, h1, h2, h3⟩ := key j hj
      exact ⟨i, List.mem_filter.2 ⟨List.mem_range.2 h1, h2⟩, h3⟩
theorem srt_pair (zs : List Int) : (srt zs).Pairwise fun a b => a ≤ b := by
  have tr : ∀ a b c : Int, decide (a ≤ b) = true → decide (b ≤ c) = true → decide (a ≤ c) = true := fun a b c h1 h2 => by simp only [decide_eq_true_eq] at *; omega
  have tot : ∀ a b : Int, (decide (a ≤ b) || decide (b ≤ a)) = true := fun a b => by simp only [Bool.or_eq_true, decide_eq_true_eq]; omega
  exact (List.pairwise_mergeSort tr tot zs).imp fun {a b} h => by simpa using h
theorem compact_rts (N : Nat) (es : List E) : (Lib.compact (srt ((List.range N).map fun i => ((lab es i : Nat) : Int)))).length = rts N es := by
  obtain ⟨h1, h2⟩ := compact_spec (srt_pair ((List.range N).map fun i => ((lab es i : Nat) : Int)))
  have h3 : (((List.range N).filter fun i => lab es i == i).map fun (i : Nat) => (i : Int)).Nodup := nodup_map_on (fun a _ b _ e => Int.ofNat.inj e) (List.nodup_range.filter _)
  have hp := (List.perm_ext_iff_of_nodup h1 h3).2 fun x => by
    rw [h2, (srt_perm _).mem_iff, List.mem_map, List.mem_map]
    constructor
    · rintro ⟨i, hi, rfl⟩
      refine ⟨lab es i, List.mem_filter.2 ⟨List.mem_range.2 ?_, by rw [lab_lab]; simp⟩, rfl⟩
      have := lab_le es i
      have := List.mem_range.1 hi
      omega
    · rintro ⟨i, hi, rfl⟩
      rw [List.mem_filter, beq_iff_eq] at hi
      exact ⟨i, hi.1, by rw [hi.2]⟩
  rw [hp.length_eq, List.length_map]
  rfl
end Go.Proofs.YtonalhedjjobeaaDoor

namespace Go.Proofs.YtonalhedjjobeaaDoor
open Go.RowKit Go.Shelf
attribute [local go_sem] Oper.semAt_some

theorem own_capH {w : World} {b e s n c : Nat} {A : Option Addr} {xs : List Value} (h : w.ownsRow b e s (.slice A n c) n xs) : n ≤ c := by
  rcases h.2 with ⟨h1, h2⟩ | ⟨g, cap, cur, h1, h2⟩
  · injection h1; omega
  · injection h1; omega
theorem row_intsH (N : Nat) (F : Nat → Int) : row N F = ints .i64 ((List.range N).map F) := by simp [row, ints]
theorem faces_val (n : Nat) (R : Option Addr) (c : Nat) (l : List Rw) (rs : List (List Nat)) (es : List E) (w : World) (hR : RdR w R n l) (hI : MapIs n es l rs) (m : Nat) (hc : Cyc (dl es) (ph rs) m) :
    Calls Tryd.prog 18 #[.slice R n c] w fun e w' => e = .returned (.int .i64 ((m + isoN rs n : Nat) : Int)) ∧ Below w.heap.size w w' :=
  (faces_any n R c l rs es w hR hI.row hI.map hI.dst hI.le hI.ed).mono fun _ _ ⟨m', he, hc', hb⟩ => ⟨by
    rw [he, Cyc.uniq (ph_perm hI.dst.ok hI.map) hc' hc], hb⟩
set_option maxHeartbeats 1600000 in
theorem facesX_ok (n : Nat) (A : Option Addr) (len cap : Nat) (es : List E) (R : Option Addr) (c : Nat) (l : List Rw) (rs : List (List Nat)) (w : World) (hr : Rd w A len 3 (ps3 .i64 .i64 .i64 es)) (hR : RdR w R n l) (hby : ∀ r ∈ l, r.len * 8 ≤ 140737488355328) (hB : mapB n es l = true) (hI : MapIs n es l rs) (m : Nat) (hc : Cyc (dl es) (ph rs) m) (htb : Tb w) (hg : 0 < w.heap.size) :
    Calls Tryd.prog 7 #[.agg #[.int .i64 n, .slice A len cap], .slice R n c] w fun e w' => e = .returned (.tuple #[.int .i64 ((m + isoN rs n : Nat) : Int), .int .i64 0]) ∧ Below w.heap.size w w' := by
  have hel := ps3_len hr
  have hl45 := hI.ed
  have hn10 := hI.le
  have gb := (Below.refl _ w).alloc (Nat.le_refl _) (.cells #[.int .i64 (n : Int), .slice A len cap] 24)
  have hK := Blk.new w 24 #[.int .i64 (n : Int), .slice A len cap]
  have g0 := hK.cell (j := 0) (v := .int .i64 (n : Int)) rfl
  have g1 := hK.cell (j := 1) (v := .slice A len cap) rfl
  have HC := Lib.hid (mapCheck_any n A len cap es R n c l _ (hr.later gb) (hR.later gb) hby (by omega) (by omega) (htb.below hg gb) (by have := gb.size; omega))
  have HF := Lib.hid (fun W (h : Below w.heap.size w W) => faces_val n R c l rs es W (hR.later h) hI m hc)
  have gbH := Lib.hid gb; have hBH := Lib.hid hB
  clear hr hR hby hI hc htb gb hK hel hl45 hB
  generalize m + isoN rs n = F at *
  go_enter Tryd.func7, Tryd.ntmps7
  go_wp2_with fail
  refine HC.out.mono ?_
  rintro _ w1 ⟨z, rfl, hz, hb1⟩
  obtain rfl : z = 0 := by rw [hBH.out, beq_iff_eq] at hz; exact hz
  have hbw := gbH.out.trans (hb1.mono gbH.out.size)
  have hbwH := Lib.hid hbw
  clear HC hb1 hz g0 g1 hbw
  go_wp2_with fail
  refine (HF.out _ hbwH.out).mono ?_
  rintro _ w2 ⟨rfl, hb2⟩
  have hfin := Lib.hid (hbwH.out.trans (hb2.mono hbwH.out.size))
  clear hb2 HF
  go_wp2
  go_ret2
  exact ⟨rfl, hfin.out⟩
theorem facesX_bad (N : Int) (A : Option Addr) (len cap : Nat) (es : List E) (R : Option Addr) (n c : Nat) (l : List Rw) (w : World) (hr : Rd w A len 3 (ps3 .i64 .i64 .i64 es)) (hR : RdR w R n l) (hby : ∀ r ∈ l, r.len * 8 ≤ 140737488355328) (hlen : len ≤ 9223372036854775807) (hn : n ≤ 9223372036854775807) (hB : mapB N es l = false) (htb : Tb w) (hg : 0 < w.heap.size) :
    Calls Tryd.prog 7 #[.agg #[.int .i64 N, .slice A len cap], .slice R n c] w fun e w' => ∃ z, e = .returned (.tuple #[.int .i64 0, .int .i64 z]) ∧ (z != 0) = true ∧ Below w.heap.size w w' := by
  have gb := (Below.refl _ w).alloc (Nat.le_refl _) (.cells #[.int .i64 N, .slice A len cap] 24)
  have hK := Blk.new w 24 #[.int .i64 N, .slice A len cap]
  have g0 := hK.cell (j := 0) (v := .int .i64 N) rfl
  have g1 := hK.cell (j := 1) (v := .slice A len cap) rfl
  have HC := Lib.hid (mapCheck_any N A len cap es R n c l _ (hr.later gb) (hR.later gb) hby hlen hn (htb.below hg gb) (by have := gb.size; omega))
  have gbH := Lib.hid gb; have hBH := Lib.hid hB
  clear hr hR hby htb gb hK hB
  go_enter Tryd.func7, Tryd.ntmps7
  go_wp2_with fail
  refine HC.out.mono ?_
  rintro _ w1 ⟨z, rfl, hz, hb1⟩
  have hz1 : (z != 0) = true := by
    rw [hBH.out, beq_eq_false_iff_ne] at hz
    simpa using hz
  have hbwH := Lib.hid (gbH.out.trans (hb1.mono gbH.out.size))
  clear HC hb1 hz g0 g1
  go_wp2
  go_ret2
  exact ⟨z, rfl, hz1, hbwH.out⟩
theorem holes_bad (N : Int) (A : Option Addr) (len cap : Nat) (es : List E) (R : Option Addr) (n c : Nat) (l : List Rw) (w : World) (hr : Rd w A len 3 (ps3 .i64 .i64 .i64 es)) (hR : RdR w R n l) (hby : ∀ r ∈ l, r.len * 8 ≤ 140737488355328) (hlen : len ≤ 9223372036854775807) (hn : n ≤ 9223372036854775807) (hB : mapB N es l = false) (htb : Tb w) (hg : 0 < w.heap.size) :
    Calls Tryd.prog 6 #[.agg #[.int .i64 N, .slice A len cap], .slice R n c] w fun e w' => ∃ z, e = .returned (.tuple #[.int .i64 0, .int .i64 z]) ∧ (z != 0) = true ∧ Below w.heap.size w w' := by
  have gb := (Below.refl _ w).alloc (Nat.le_refl _) (.cells #[.int .i64 N, .slice A len cap] 24)
  have hK := Blk.new w 24 #[.int .i64 N, .slice A len cap]
  have g0 := hK.cell (j := 0) (v := .int .i64 N) rfl
  have g1 := hK.cell (j := 1) (v := .slice A len cap) rfl
  have HC := Lib.hid (mapCheck_any N A len cap es R n c l _ (hr.later gb) (hR.later gb) hby hlen hn (htb.below hg gb) (by have := gb.size; omega))
  have gbH := Lib.hid gb; have hBH := Lib.hid hB
  clear hr hR hby htb gb hK hB
  go_enter Tryd.func6, Tryd.ntmps6
  go_wp2_with fail
  refine HC.out.mono ?_
  rintro _ w1 ⟨z, rfl, hz, hb1⟩
  have hz1 : (z != 0) = true := by
    rw [hBH.out, beq_eq_false_iff_ne] at hz
    simpa using hz
  have hbwH := Lib.hid (gbH.out.trans (hb1.mono gbH.out.size))
  clear HC hb1 hz g0 g1
  go_wp2
  go_ret2
  exact ⟨z, rfl, hz1, hbwH.out⟩
set_option maxHeartbeats 3200000 in
set_option maxRecDepth 100000 in
theorem holes_ok (n : Nat) (A : Option Addr) (len cap : Nat) (es : List E) (R : Option Addr) (c : Nat) (l : List Rw) (rs : List (List Nat)) (w : World) (hr : Rd w A len 3 (ps3 .i64 .i64 .i64 es)) (hR : RdR w R n l) (hby : ∀ r ∈ l, r.len * 8 ≤ 140737488355328) (hB : mapB n es l = true) (hI : MapIs n es l rs) (m : Nat) (hc : Cyc (dl es) (ph rs) m) (h : Int) (hh : 2 * h = 2 * (rts n es : Int) - ((n : Int) - (es.length : Int) + ((m + isoN rs n : Nat) : Int))) (htb : Tb w) (hg : 0 < w.heap.size) :
    Calls Tryd.prog 6 #[.agg #[.int .i64 n, .slice A len cap], .slice R n c] w fun e w' => e = .returned (.tuple #[.int .i64 h, .int .i64 0]) ∧ Below w.heap.size w w' := by
  have hel := ps3_len hr
  have hl45 := hI.ed
  have hn10 := hI.le
  have hF200 : m + isoN rs n ≤ 200 := by
    obtain ⟨k, hk, rfl⟩ := hc
    have h1 := hk.nd.length_le_of_subset (l₂ := dl es) fun z hz => hk.sub z hz
    rw [dl_length] at h1
    have := iso_le rs n
    unfold isoN; omega
  have gb := (Below.refl _ w).alloc (Nat.le_refl _) (.cells #[.int .i64 (n : Int), .slice A len cap] 24)
  have hK := Blk.new w 24 #[.int .i64 (n : Int), .slice A len cap]
  have g0 := hK.cell (j := 0) (v := .int .i64 (n : Int)) rfl
  have g1 := hK.cell (j := 1) (v := .slice A len cap) rfl
  have HC := Lib.hid (mapCheck_any n A len cap es R n c l _ (hr.later gb) (hR.later gb) hby (by omega) (by omega) (htb.below hg gb) (by have := gb.size; omega))
  have HF := Lib.hid (fun W (h : Below w.heap.size w W) => faces_val n R c l rs es W (hR.later h) hI m hc)
  have HP := Lib.hid (fun W (hb : Below w.heap.size w W) => parts_ok n A len cap es (nearW n es) rfl W (hr.later hb) hI.ok (htb.below hg hb) (by have := hb.size; omega))
  have hrow : row n (fun i => ((part (nearW n es) i : Nat) : Int)) = ints .i64 ((List.range n).map fun i => ((lab es i : Nat) : Int)) := by
    rw [row_intsH]
    congr 1
    exact List.map_congr_left fun i hi => by rw [part_lab hI.ok (List.mem_range.1 hi)]
  have hcr := Lib.hid (compact_rts n es)
  have hrn : rts n es ≤ n := by unfold rts cntB; exact Nat.le_trans (List.length_filter_le _ _) (by simp)
  have gbH := Lib.hid gb; have hBH := Lib.hid hB; have hKH := Lib.hid hK; have hrowH := Lib.hid hrow
  rw [hel] at hh hl45
  clear hr hR hby hI hc htb gb hK hel hB hrow
  generalize m + isoN rs n = F at *
  generalize (List.range n).map (fun i => ((lab es i : Nat) : Int)) = zs at *
  generalize rts n es = C at *
  have hD : Int.tdiv ((n : Int) - (len : Int) + (F : Int)) 2 = (C : Int) - h := by
    have e : (n : Int) - (len : Int) + (F : Int) = ((C : Int) - h) * 2 := by omega
    rw [e, Int.mul_tdiv_cancel _ (by decide)]
  have hDr := Lib.hid hh
  have hb1 : -1000 ≤ h ∧ h ≤ 1000 := by omega
  clear hh
  go_enter Tryd.func6, Tryd.ntmps6
  go_wp2_with fail
  refine HC.out.mono ?_
  rintro _ w1 ⟨z, rfl, hz, hb1⟩
  obtain rfl : z = 0 := by rw [hBH.out, beq_iff_eq] at hz; exact hz
  have hbw := gbH.out.trans (hb1.mono gbH.out.size)
  have hK1 := hKH.out.below hb1 hKH.out.lt
  have q0 := hK1.cell (j := 0) (v := .int .i64 (n : Int)) rfl
  have q1 := hK1.cell (j := 1) (v := .slice A len cap) rfl
  have hbwH := Lib.hid hbw; have hK1H := Lib.hid hK1
  clear HC hb1 hz g0 g1 hbw hK1
  go_wp2_with fail
  refine (HP.out _ hbwH.out).mono ?_
  rintro _ w2 ⟨v2, rfl, hown2, hb2⟩
  rw [hrowH.out] at hown2
  obtain ⟨A2, c2, rfl⟩ := own_slice hown2
  have hr2 := Lib.hid (Rd.of_own hown2)
  have hK2 := Lib.hid (hK1H.out.below hb2 hK1H.out.lt)
  have hbw2 := Lib.hid (hbwH.out.trans (hb2.mono hbwH.out.size))
  clear HP hown2 hb2 q0 q1 hK1H hrowH
  go_wp2_with fail
  refine (vals_any A2 n c2 w2).mono ?_
  rintro _ _ ⟨rfl, rfl⟩
  have hBv := Boxed.new w2 31 (.slice A2 n c2)
  have hba := (Below.refl w2.heap.size w2).alloc (Nat.le_refl _) (.cells #[.slice A2 n c2] 31)
  have HS := Lib.hid (sorted_any w2.heap.size A2 n c2 zs w2 _ hr2.out (Nat.le_refl _) hba (by omega) hBv)
  have hbaH := Lib.hid hba
  have hszA : (w2.alloc (.cells #[.slice A2 n c2] 31)).heap.size = w2.heap.size + 1 := by simp
  clear hBv hba
  go_wp2_with fail
  refine HS.out.mono ?_
  rintro _ w3 ⟨v3, rfl, hown3, hb3⟩
  obtain ⟨A3, c3, rfl⟩ := own_slice hown3
  have hb23 := hbaH.out.trans hb3
  have hs3 := hb3.size
  have HQ := Lib.hid (compactAny _ A3 n c3 (srt zs) w3 hown3 (by omega) hs3)
  rw [hcr.out] at HQ
  have hb23H := Lib.hid hb23
  clear HS hown3 hb3 hb23 hcr
  go_wp2_with fail
  refine HQ.out.mono ?_
  rintro _ w4 ⟨A4, c4, rfl, hb4⟩
  have hb24 := hb23H.out.trans (hb4.mono (by omega))
  have hK4 := hK2.out.below hb24 (hK2.out.lt)
  have hbw4 := hbw2.out.trans (hb24.mono hbw2.out.size)
  have q0 := hK4.cell (j := 0) (v := .int .i64 (n : Int)) rfl
  have q1 := hK4.cell (j := 1) (v := .slice A len cap) rfl
  have gp0 := fun p : BW w4 => BW.cell (w := w4) q0 p
  have gp1 := fun p : BW w4 => BW.cell (w := w4) q1 p
  have HF4 := Lib.hid (fun p : BW w4 => HF.out p.w' (hbw4.trans (p.hb.mono hbw4.size)))
  have hbw4H := Lib.hid hbw4
  clear HQ hb4 hb24 hK4 hbw4 hb23H hs3 hszA HF q0 q1
  go_upto_region 6 with fail
  refine wp_region_below (by kernel_rfl) (by kernel_rfl) ?_
  repeat (go_big_quiet_step (first | rfl | (with_reducible refine Calls.bel (HF4.out _))))
  refine wpQuiet_nil ?_
  rintro _ ⟨p, rfl⟩
  have hfin := Lib.hid (hbw4H.out.trans (p.hb.mono hbw4H.out.size))
  clear gp0 gp1 HF4
  go_wp2
  go_ret2
  exact ⟨by rw [show ((C : Int) - ((C : Int) - h)) = h by omega]; rfl, hfin.out⟩
end Go.Proofs.YtonalhedjjobeaaDoor
