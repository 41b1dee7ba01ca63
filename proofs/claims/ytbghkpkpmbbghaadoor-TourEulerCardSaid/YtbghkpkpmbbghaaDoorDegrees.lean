/- The program's graph.Degrees. -/
import Derived.Test.YtbghkpkpmbbghaaDoorGood
import Derived.Test.YtbghkpkpmbbghaaDoorOnes
namespace Go.Proofs.YtbghkpkpmbbghaaDoor
open Go.RowKit

def degs (N : Nat) (es : List E) : List Int := (nearW N es).map fun (x : Nat) => ((popc 10 x : Nat) : Int)
def DRes (B : Nat) (w : World) (N : Int) (es : List E) (v : Value) : Prop :=
  if gchk N es = 0 then w.ownsRow B 3 1 v N.toNat (ints .i64 (degs N.toNat es)) else v = .slice none 0 0
theorem ti25 : TI Tryd.prog 25 3 (.int .i64 0) 1 8 := TI.mk' Tryd.underlying25 (by kernel_rfl) rfl (by decide)
theorem degs_take (l : List Nat) (k : Nat) (h : k < l.length) : (l.take (k + 1)).map (fun (x : Nat) => ((popc 10 x : Nat) : Int)) = (l.take k).map (fun (x : Nat) => ((popc 10 x : Nat) : Int)) ++ [((popc 10 (l.getD k 0) : Nat) : Int)] := by
  rw [take_succ_getD' l 0 k h]; simp

set_option maxHeartbeats 1600000 in
set_option maxRecDepth 100000 in
theorem degrees_any (N : Int) (A : Option Addr) (len cap : Nat) (es : List E) (w : World) (hr : Rd w A len 3 (ps3 .i64 .i64 .i64 es)) (hlen : len ≤ 9223372036854775807) :
    Calls Tryd.prog 5 #[.agg #[.int .i64 N, .slice A len cap]] w fun e w' => ∃ v, e = .returned (.tuple #[v, .int .i64 (gchk N es)]) ∧ DRes w.heap.size w' N es v ∧ Below w.heap.size w w' := by
  have hrH := Lib.hid hr; clear hr
  go_enter Tryd.func5, Tryd.ntmps5
  go_wp2_with fail
  refine (check_any N A len cap es _ (hrH.out.alloc _) hlen).mono ?_
  rintro e w1 ⟨rfl, hb⟩
  have hbw : Below w.heap.size w w1 := ((Below.refl _ _).alloc (Nat.le_refl _) _).trans (hb.mono (by simp))
  have g0 : w1.cell? ⟨w.heap.size, 0, none⟩ = some (.int .i64 N) := below_cell hb (by simp) (by go_simp)
  have g1 : w1.cell? ⟨w.heap.size, 1, none⟩ = some (.slice A len cap) := below_cell hb (by simp) (by go_simp)
  clear hb
  by_cases hc0 : gchk N es = 0
  · have hc0b : (gchk N es != 0) = false := by rw [hc0]; rfl
    have hc0H := Lib.hid hc0; clear hc0
    obtain ⟨hN0, hN10, hl45, hok, _⟩ := gchk_ok hc0H.out
    obtain ⟨n, rfl⟩ := Int.eq_ofNat_of_zero_le hN0
    rw [Int.toNat_natCast] at hok
    have hel := ps3_len hrH.out
    rw [hel] at hl45
    have hw := Lib.hid (nearW_lt (n := n) (by omega) hok)
    have hnl := Lib.hid (nearW_length n es)
    have hnear := Lib.hid (near_any n A len cap es w1 (hrH.out.later hbw) (by omega) hl45 hok)
    clear hok hel
    go_wp2_with fail
    refine hnear.out.mono ?_
    rintro e w2 ⟨g, rfl, hown, hb2⟩
    have hr2 := Lib.hid (Rd.of_own hown)
    have hbw2 := hbw.trans (hb2.mono hbw.size)
    clear hown hnear g0 g1
    go_wp2
    go_loopw [5, 16] (fun v i wr => ∃ k : Nat, k ≤ n ∧ i = .int .i64 k ∧ wr.ownsRow w2.heap.size 3 1 v k (ints .i64 (((nearW n es).take k).map fun (x : Nat) => ((popc 10 x : Nat) : Int))) ∧ Below w2.heap.size w2 wr) (fun _ i _ => n - (intOf i).toNat)
    case atStart => exact ⟨0, Nat.zero_le _, rfl, World.ownsRow_nil _ _ _ _, Below.refl _ _⟩
    case round =>
      obtain ⟨k, hk, rfl, hown, hb⟩ := hrel
      have hownH := Lib.hid hown; clear hown
      by_cases hlt : k < n
      · obtain ⟨_, _, hA, _, hc1⟩ := (hr2.out.later hb).wd hlt
        injection hA with hA; injection hA with hA hA2 _
        subst hA; subst hA2
        rw [Nat.zero_add] at hc1
        have hp := getD_lt1024 hw.out k
        have hdt := Lib.hid (degs_take (nearW n es) k (by rw [hnl.out]; exact hlt))
        generalize (nearW n es).getD k 0 = x at *
        have hones := fun W => ones_any x W hp
        have honesH := Lib.hid hones; clear hones
        go_wp2_with fail
        refine (honesH.out _).mono ?_
        rintro e w3 ⟨rfl, d, rfl⟩
        have hbd := below_drewN hb d
        go_wp2_with (at_builtin; refine wpList_app (s := .tmp 20) (x := .tmp 23) _ ti25 ((own_drewN hownH.out d).alloc _) (rd_new1 (wr.drewN d) (.int .i64 (popc 10 x : Nat)) 3) (ints_one (l := [(popc 10 x : Nat)])) (by omega) (by omega) (hbd.alloc hbd.size _).size rfl rfl rfl rfl ?_)
        intro v' w4 hown' hg hat
        have hb' : Below w2.heap.size w2 w4 := (hbd.alloc hbd.size _).grown hg (hbd.alloc hbd.size _).size (fun g hg' => ((own_drewN hownH.out d).lt g hg').1)
        clear hg hat
        go_wp2
        go_roundw
        case rel =>
          refine ⟨k + 1, by omega, by go_num, ?_, hb'⟩
          rw [hdt.out]
          rw [show ints IntKind.i64 (((nearW n es).take k).map (fun (x : Nat) => ((popc 10 x : Nat) : Int)) ++ [((popc 10 x : Nat) : Int)]) = ints .i64 (((nearW n es).take k).map fun (x : Nat) => ((popc 10 x : Nat) : Int)) ++ [.int .i64 (popc 10 x : Nat)] by simp [ints]]
          rw [List.map_take]
          exact hown'
        case measure => simp [intOf]; omega
      · obtain rfl : k = n := by omega
        have hfin := hownH.out
        rw [List.take_of_length_le (by rw [hnl.out]; exact Nat.le_refl _)] at hfin
        go_wp2
        go_ret2
        refine ⟨_, by rw [hc0H.out]; rfl, ?_, hbw2.trans (hb.mono hbw2.size)⟩
        rw [DRes, if_pos hc0H.out, Int.toNat_natCast]
        exact own_base hbw2.size hfin
  · have hc0b : (gchk N es != 0) = true := by simpa using hc0
    have hc0H := Lib.hid hc0; clear hc0
    go_wp2
    go_ret2
    exact ⟨_, rfl, by rw [DRes, if_neg hc0H.out]; rfl, hbw⟩
end Go.Proofs.YtbghkpkpmbbghaaDoor
