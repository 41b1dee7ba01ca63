/- bonds: the words of any edges as a graph; Most's own closure: a new maker. -/
import Derived.Test.YtcjokjfiikkpfaaDoorBondMany
import Derived.Test.YtcjokjfiikkpfaaDoorAdj
import Derived.StillTailTactics
namespace Go.Proofs.YtcjokjfiikkpfaaDoor
open Go.RowKit Go.Shelf Go.Maps
attribute [local go_sem] Oper.semAt_some

theorem adj_edge {N : Nat} {es : List E} (hok : ∀ e ∈ es, okE N e) (i j : Nat) : adj es i j = true ↔ EdgeOf es i j := by
  unfold adj EdgeOf
  rw [List.any_eq_true]
  refine exists_congr fun e => and_congr_right fun he => ?_
  obtain ⟨x, y, hx, hy, _⟩ := hok e he
  unfold adjE eA eB
  rw [hx, hy]
  simp
  omega
theorem near_edge {N : Nat} {es : List E} (hok : ∀ e ∈ es, okE N e) (i j : Nat) : nb (nearW N es) i j = true ↔ EdgeOf es i j := by
  by_cases hi : i < N
  · unfold nb
    rw [nearW_bit es hok i j hi]
    exact adj_edge hok i j
  · have h1 : nb (nearW N es) i j = false := by
      unfold nb
      rw [show (nearW N es).getD i 0 = 0 by simp [List.getD, show (nearW N es)[i]? = none by rw [List.getElem?_eq_none_iff, nearW_length]; omega]]
      simp
    rw [h1]
    refine ⟨fun h => (by cases h), ?_⟩
    rintro ⟨e, he, h⟩
    obtain ⟨x, y, hx, hy, h3, h4, _⟩ := hok e he
    unfold eA eB at h
    rw [hx, hy] at h
    simp at h
    omega
theorem nearGrE {N : Nat} {es : List E} (h10 : N ≤ 10) (hok : ∀ e ∈ es, okE N e) : Gr N (nearW N es) := by
  have hok2 : ∀ i j, nb (nearW N es) i j = true → i < N ∧ j < N ∧ nb (nearW N es) j i = true ∧ i ≠ j := fun i j hij => by
    obtain ⟨e, he, h⟩ := (near_edge hok i j).1 hij
    obtain ⟨x, y, hx, hy, h3, h4, h5⟩ := hok e he
    have h' := h
    unfold eA eB at h
    rw [hx, hy] at h
    simp at h
    refine ⟨by omega, by omega, (near_edge hok j i).2 ⟨e, he, h'.symm⟩, by omega⟩
  refine ⟨h10, fun i => Nat.lt_pow_two_of_testBit _ fun m hm => ?_, hok2⟩
  cases hb : ((nearW N es).getD i 0).testBit m
  · rfl
  · have := (hok2 i m hb).2.1; omega
def MkPost (es : List E) (N : Nat) (w : World) (e : Ending) (w' : World) : Prop :=
  ∃ p B A, e = .returned (.pointer (some ⟨p, 0, none⟩)) ∧ Below w.heap.size w w' ∧ BK es (nearW N es) N p B N A w' (fun _ => none) ∧ w.heap.size ≤ B
set_option maxHeartbeats 3200000 in
set_option maxRecDepth 100000 in
theorem mk_any (N c : Nat) (A : Option Addr) (len cap : Nat) (es : List E) (w : World) (hc : Blk w c 24 #[.int .i64 N, .slice A len cap]) (hr : Rd w A len 3 (ps3 .i64 .i64 .i64 es)) (hN : N ≤ 10) (hl : len ≤ 45) (hok : ∀ e ∈ es, okE N e) :
    Calls Tryd.prog 12 #[.pointer (some ⟨c, 0, none⟩)] w (MkPost es N w) := by
  have c0 := hc.cell (j := 0) rfl; have c1 := hc.cell (j := 1) rfl
  have cl := hc.lt
  have HN := Lib.hid (near_any N A len cap es w hr hN hl hok)
  clear hr hok hc
  go_enter Tryd.func12, Tryd.ntmps12
  go_wp2_with fail
  refine HN.out.mono ?_
  rintro _ w1 ⟨g, rfl, hown, hb1⟩
  have hgl := hown.lt g rfl
  have hs1 := hb1.size
  have hrd := Rd.of_own hown
  have hbm := hb1.alloc hb1.size (.map #[] 0)
  have bkS := Blk.new (w1.alloc (.map #[] 0)) 44 #[.slice (some ⟨g, 0, none⟩) N N, .map (some w1.heap.size)]
  rw [World.size_alloc] at bkS
  have hmS := (MMap.made w1).alloc (.cells #[.slice (some ⟨g, 0, none⟩) N N, .map (some w1.heap.size)] 44)
  have hrS := (hrd.alloc (.map #[] 0)).alloc (.cells #[.slice (some ⟨g, 0, none⟩) N N, .map (some w1.heap.size)] 44)
  have hbS := hbm.alloc hbm.size (.cells #[.slice (some ⟨g, 0, none⟩) N N, .map (some w1.heap.size)] 44)
  have hBK : BK es (nearW N es) N (w1.heap.size + 1) w1.heap.size N (some ⟨g, 0, none⟩) _ (fun _ => none) := ⟨bkS, hrS, hmS, fun b o e => by cases e; omega, by omega, fun x c h => by cases h⟩
  have hBH := Lib.hid hBK; have hbH := Lib.hid hbS
  have hmm := @run_makeMap Tryd.prog
  clear hown hrd hb1 HN c0 c1 hbm bkS hmS hrS hBK hbS
  go_wp2
  go_ret
  exact ⟨_, _, _, rfl, hbH.out, hBH.out, hs1⟩
end Go.Proofs.YtcjokjfiikkpfaaDoor
