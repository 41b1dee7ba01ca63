/- split.places, give, List: the walks. -/
import Derived.Test.YtecillikakfdnaaGive
import Derived.Test.YtecillikakfdnaaMinMax64
import Derived.Test.YtecillikakfdnaaSplitAnyW
namespace Go.Proofs.Ytecillikakfdnaa
open Go.RowKit

theorem tiI : TI Try.prog 23 3 (.int .i64 0) 1 8 := TI.mk' Try.underlying23 (by kernel_rfl) rfl (by decide)
theorem places_any (A : Option Addr) (len cap : Nat) (w : World) (hl : len ≤ 100) :
    Calls Try.prog 17 #[.slice A len cap] w fun e w' => (∃ v, e = .returned v ∧ w'.ownsRow w.heap.size 3 1 v len (row len fun i => (i : Int))) ∧ Below w.heap.size w w' := by
  go_enter Try.func17, Try.ntmps17
  go_wp2
  go_loopw [3, 4, 7] (fun v _ i wr => ∃ k : Nat, k ≤ len ∧ i = .int .i64 k ∧ wr.ownsRow w.heap.size 3 1 v k (row k fun i => (i : Int)) ∧ Below w.heap.size w wr) (fun _ _ i _ => len - (intOf i).toNat)
  case atStart => exact ⟨0, Nat.zero_le _, rfl, World.ownsRow_nil _ _ _ _, Below.refl _ _⟩
  case round =>
    obtain ⟨k, hk, rfl, hown, hb⟩ := hrel
    obtain ⟨Aq, cq, rfl⟩ := own_slice hown
    have hownH := Lib.hid hown
    clear hown
    by_cases hlt : k < len
    · go_wp2_with (at_builtin; refine wpList_app (s := .tmp 10) (x := .tmp 12) _ tiI (hownH.out.alloc _) (rd_new1 wr (.int .i64 k) 3) (ints_one (l := [(k : Int)])) (by omega) (by omega) (hb.alloc hb.size _).size rfl rfl rfl rfl ?_)
      intro v' w5 hown5 hg5 _
      have hb5 : Below w.heap.size w w5 := (hb.alloc hb.size _).grown hg5 (hb.alloc hb.size _).size (fun g hg' => (hownH.out.lt g hg').1)
      clear hg5
      go_wp2
      go_roundw
      case rel => exact ⟨k + 1, by omega, by go_num, by rw [row_snoc]; exact hown5, hb5⟩
      case measure => simp [intOf]; omega
    · obtain rfl : k = len := by omega
      go_wp2
      go_ret
      exact ⟨⟨_, rfl, hownH.out⟩, hb⟩
def tOf (ts : List Int) (i : Nat) : Int := ts.getD i 0
def GivePost (ts : List Int) (h : Nat) (o : List Nat) (w : World) (e : Ending) (w' : World) : Prop :=
  ∃ (g : Nat) (F L : Nat → Int) (j : Nat), e = .returned (.tuple #[.slice (some ⟨g, 0, none⟩) ts.length ts.length, .int .i64 (F j)]) ∧ Rd w' (some ⟨g, 0, none⟩) ts.length 1 (row ts.length L) ∧ Run (tOf ts) h o F L ∧ j < h ∧ (∀ b, b < h → F b ≤ F j) ∧ Below w.heap.size w w'
set_option maxHeartbeats 1600000 in
theorem give_any (A Ao : Option Addr) (len cap no co : Nat) (ts : List Int) (h : Nat) (o : List Nat) (w : World) (hr : Rd w A len 1 (ints .i64 ts)) (hl : len ≤ 8) (h1 : 1 ≤ h) (h4 : h ≤ 4) (ht : ∀ i, 0 ≤ ts.getD i 0 ∧ ts.getD i 0 ≤ 1048576)
    (hro : Rd w Ao no 1 (row no fun i => (o.getD i 0 : Int))) (hon : o.length = no) (hno : no ≤ 8) (ho : ∀ i ∈ o, i < len) :
    Calls Try.prog 16 #[.slice A len cap, .int .i64 h, .slice Ao no co] w (GivePost ts h o w) := by
  have hel : ts.length = len := by simpa [ints] using hr.1
  have hrH := Lib.hid hr; have hroH := Lib.hid hro; have hoH := Lib.hid ho; have htH := Lib.hid ht; have honH := Lib.hid hon; have helH := Lib.hid hel
  clear hr hro ho ht hon hel
  unfold GivePost
  rw [helH.out]
  go_enter Try.func16, Try.ntmps16
  go_wp2_with (at_make; refine wpList_mk1 _ tiL w.heap.size h (by omega) (by omega) (Nat.le_refl _) rfl rfl rfl rfl rfl rfl rfl ?_)
  intro w2 hown2 hg2
  rw [row_replicate] at hown2
  have hb2 := below_grown hg2
  have hs2 := hb2.size
  have hlt2 : w.heap.size < w2.heap.size := (hown2.lt _ rfl).2
  clear hg2
  go_wp2_with (at_make; refine wpList_mk1 _ tiI w2.heap.size len (by omega) (by omega) (Nat.le_refl _) rfl rfl rfl rfl rfl rfl rfl ?_)
  intro w3 hown3 hg3
  rw [row_replicate] at hown3
  have hb3 := below_grown hg3
  have hs3 := hb3.size
  clear hg3
  have hown2' := own_below hown2 hb3
  have hb23 := hb2.trans (hb3.mono hs2)
  clear hown2
  go_wp2
  generalize hgl : w2.heap.size = gl at *
  generalize hgh : w.heap.size = gh at *
  have hgg : gh < gl := by omega
  go_loopw [11, 12, 20] (fun _ _ i wr => ∃ (k : Nat) (F L : Nat → Int), k ≤ no ∧ i = .int .i64 k ∧ Run (tOf ts) h (o.take k) F L ∧ wr.ownsRow gh 2 1 (.slice (some ⟨gh, 0, none⟩) h h) h (row h F) ∧ wr.ownsRow gl 3 1 (.slice (some ⟨gl, 0, none⟩) len len) len (row len L) ∧ Below gh w wr) (fun _ _ i _ => no - (intOf i).toNat)
  case atStart => exact ⟨0, _, _, Nat.zero_le _, rfl, Run.start, hown2', hown3, hb23⟩
  case round =>
    clear hown2' hown3 hb23 hb2 hb3 hs2 hs3
    obtain ⟨k, F, L, hk, rfl, hrun, hownF, hownL, hb⟩ := hrel
    have hbH := Lib.hid hb
    have hrunH := Lib.hid hrun
    have hmx := hrun.le (M := 1048576) (fun i => htH.out i)
    have hps := hrun.pos (fun i => (htH.out i).1)
    have hlk : (o.take k).length ≤ 8 := by rw [List.length_take]; omega
    have hF0 := Lib.hid (Rd.of_own hownF)
    by_cases hlt : k < no
    · obtain ⟨bo, oo, rfl, hab, hci⟩ := (hroH.out.below (by omega) hb).row hlt
      have hmem : o.getD k 0 ∈ o := by simp [List.getD, show k < o.length by rw [honH.out]; exact hlt]
      have hil := hoH.out _ hmem
      have htk : o.take (k + 1) = o.take k ++ [o.getD k 0] := by
        have hh : k < o.length := by rw [honH.out]; exact hlt
        rw [List.take_succ_eq_append_getElem hh]; simp [List.getD, hh]
      have htkH := Lib.hid htk
      obtain ⟨bt, ot, rfl, habt, hct⟩ := (hrH.out.below (by omega) hb).int hil
      have hti := htH.out (o.getD k 0)
      have htO := Lib.hid (show tOf ts (o.getD k 0) = ts.getD (o.getD k 0) 0 from rfl)
      clear htk hmem hrun
      generalize o.getD k 0 = i at *
      generalize ts.getD i 0 = ti at *
      go_wp2_with fail
      refine (min_any (some ⟨gh, 0, none⟩) h h F wr hF0.out (by omega) (by omega)).mono ?_
      rintro e w4 ⟨⟨j, hj, rfl, hmin⟩, rfl⟩
      have hminH := Lib.hid hmin
      clear hmin
      go_wp2_with fail
      refine (index_any (some ⟨gh, 0, none⟩) h h F (F j) wr hF0.out ⟨j, hj, rfl⟩ (by omega)).mono ?_
      rintro e w4 ⟨⟨kk, hkk, rfl, hFk⟩, rfl⟩
      have hminK := Lib.hid (show ∀ b, b < h → F kk ≤ F b from fun b hb => by rw [hFk]; exact hminH.out b hb)
      have e1 := (hownF.cellAt kk (by omega)).trans (row_get hkk)
      have e2 := hownF.frozenAt kk
      have e3 := hownL.frozenAt i
      have e4 := (hownL.cellAt i (by omega)).trans (row_get hil)
      have hne : gl ≠ gh := by omega
      have hgF := (hownF.lt _ rfl).2
      have hgL := (hownL.lt _ rfl).2
      have hownFH := Lib.hid hownF; have hownLH := Lib.hid hownL
      have hmk := hmx kk
      have hpk := hps kk
      clear hFk hb hownF hownL hmx hps hminH
      generalize hFF : F kk = f at *
      have hFFH := Lib.hid hFF
      clear hFF
      generalize L i = li at *
      have hk0 : (0 : Int) ≤ kk := by omega
      have hkh : (kk : Int) < h := by omega
      have hi0 : (0 : Int) ≤ i := by omega
      have hih : (i : Int) < len := by omega
      have hs1 : 0 ≤ f + ti := by omega
      have hs2 : f + ti ≤ 20000000 := by omega
      clear hmk hlk hci
      have e3' : (wr.setCell ⟨gh, kk, none⟩ (.int .i64 (f + ti))).frozen? ⟨gl, i, none⟩ = false := by rw [World.frozen?_setCell]; exact e3
      have e4' : (wr.setCell ⟨gh, kk, none⟩ (.int .i64 (f + ti))).cell? ⟨gl, i, none⟩ = some (.int .i64 li) := cell_set_other hne e4
      go_wp2
      go_region
      go_wp2
      go_roundw
      case rel =>
        refine ⟨k + 1, put1 F kk (f + ti), put1 L i kk, by omega, by go_num, ?_, ?_, ?_, ?_⟩
        · rw [htkH.out, ← hFFH.out]
          have := Run.next (i := i) hrunH.out hkk (by rw [hFFH.out]; exact hminK.out)
          rwa [htO.out] at this
        · have h1 := (hownFH.out.stored kk (.int .i64 (f + ti))).1
          rw [row_set] at h1
          exact own_set_other (own_drew h1) (by simp [Value.ownBlock]; omega) _
        · have h2 := own_drew (own_set_other hownLH.out (a := ⟨gh, kk, none⟩) (by simp [Value.ownBlock]; omega) (.int .i64 (f + ti)))
          have h3 := (h2.stored i (.int .i64 kk)).1
          rw [row_set] at h3
          exact h3
        · exact ((hbH.out.setCell (p := ⟨gh, kk, none⟩) (Nat.le_refl _) _).drew).setCell (p := ⟨gl, i, none⟩) (Nat.le_of_lt hgg) _
      case measure => simp [intOf]; omega
    · obtain rfl : k = no := by omega
      have hfull : o.take k = o := List.take_of_length_le (by rw [honH.out]; exact Nat.le_refl _)
      have hrun := hrunH.out
      rw [hfull] at hrun
      have hrunH2 := Lib.hid hrun
      have hLH := Lib.hid (Rd.of_own hownL)
      clear hrun hownF hownL hmx hps hb
      go_wp2_with fail
      refine (max_any (some ⟨gh, 0, none⟩) h h F wr hF0.out (by omega) (by omega)).mono ?_
      rintro e w4 ⟨⟨j, hj, rfl, hmax⟩, rfl⟩
      have hmaxH := Lib.hid hmax
      clear hmax
      go_wp2
      go_ret2
      exact ⟨gl, F, L, j, rfl, hLH.out, hrunH2.out, hj, hmaxH.out, by rw [hgh]; exact hbH.out⟩
end Go.Proofs.Ytecillikakfdnaa
