/- pairs: many, without. -/
import Derived.Test.YtepphkloghaihaaDoorBerTry
namespace Go.Proofs.YtepphkloghaihaaDoor
open Go.RowKit Go.Shelf

set_option maxHeartbeats 1600000 in
set_option maxRecDepth 100000 in
theorem many_any (A : Option Addr) (n cap : Nat) (ns : List Nat) (w : World) (hr : Rd w A n 1 (wds ns)) (hn8 : n ≤ 8) (hns : ∀ i, ns.getD i 0 < 256) (htb : Tb w) (hg : 0 < w.heap.size) :
    Calls Tryd.prog 16 #[.slice A n cap] w fun e w' => (∃ k : Nat, e = .returned (.int .i64 k) ∧ Mx ns k) ∧ Below w.heap.size w w' := by
  have hel : ns.length = n := by simpa [wds] using hr.1
  have hAl : ∀ b o, A = some ⟨b, o, none⟩ → 0 < n → b < w.heap.size := fun b o e hn => by
    obtain ⟨b', o', e', hlt, _⟩ := hr.2 hn
    rw [e] at e'; cases e'; exact hlt
  have hB0 : Blk (w.alloc (.cells #[.int .i64 0, .int .i64 0, .int .i64 0, .int .i64 0, .int .i64 0, .int .i64 0, .int .i64 0, .int .i64 0] 50)) w.heap.size 50 (row 8 fun j => if j < 0 then -1 else 0).toArray := Blk.new w 50 #[.int .i64 0, .int .i64 0, .int .i64 0, .int .i64 0, .int .i64 0, .int .i64 0, .int .i64 0, .int .i64 0]
  have hb0 := (Below.refl _ w).alloc (Nat.le_refl _) (.cells #[.int .i64 0, .int .i64 0, .int .i64 0, .int .i64 0, .int .i64 0, .int .i64 0, .int .i64 0, .int .i64 0] 50)
  have hrH := Lib.hid hr; have hAlH := Lib.hid hAl; have helH := Lib.hid hel; have htbH := Lib.hid htb; have hnsH := Lib.hid hns
  clear hr hAl hel htb hns
  go_enter Tryd.func16, Tryd.ntmps16
  go_wp2
  generalize w.alloc (.cells #[.int .i64 0, .int .i64 0, .int .i64 0, .int .i64 0, .int .i64 0, .int .i64 0, .int .i64 0, .int .i64 0] 50) = w1 at *
  go_loopw [4, 8] (fun _ i wr => ∃ k : Nat, k ≤ 8 ∧ i = .int .i64 k ∧ Blk wr w.heap.size 50 (row 8 fun j => if j < k then -1 else 0).toArray ∧ Below w.heap.size w wr) (fun _ i _ => 8 - (intOf i).toNat)
  case atStart => exact ⟨0, by omega, rfl, hB0, hb0⟩
  case round =>
    obtain ⟨k, hk, rfl, hB, hb⟩ := hrel
    by_cases hlt : k < 8
    · have c0 := hB.cell (j := k) (by rw [List.getElem?_toArray]; exact row_get hlt)
      have f0 := hB.frozen k; have l0 := hB.lt
      have hk1 : (k : Int) < 8 := by omega
      have hk0 : (0 : Int) ≤ k := by omega
      have hB2 := Lib.hid (hB.set k (.int .i64 (-1)))
      have hb2 := Lib.hid (hb.setCell (p := ⟨w.heap.size, k, none⟩) (Nat.le_refl _) (.int .i64 (-1)))
      clear hB hb
      go_wp2
      go_roundw
      case rel =>
        refine ⟨k + 1, by omega, by go_num, ?_, hb2.out⟩
        have := hB2.out
        rw [setIf_row] at this
        have e : (fun j => if j < k + 1 then (-1 : Int) else 0) = updP (fun j => if j < k then -1 else 0) k (-1) := by
          funext j; show (if j < k + 1 then (-1 : Int) else 0) = if j = k then -1 else if j < k then -1 else 0; split <;> split <;> (try split) <;> omega
        rw [e]; exact this
      case measure => simp [intOf]; omega
    · obtain rfl : k = 8 := by omega
      have hB' : Blk wr w.heap.size 50 (row 8 fun _ => -1).toArray := by
        have e : row 8 (fun j => if j < 8 then (-1 : Int) else 0) = row 8 fun _ => -1 := row_congr fun j hj => if_pos hj
        rw [← e]; exact hB
      have hBH := Lib.hid hB'; have hbH := Lib.hid hb
      clear hB hB' hb
      go_wp2
      rw [show ((8 : Nat) : Int) = 8 from rfl]
      go_loopw [5, 6, 7, 16] (fun q _ _ i wr => ∃ (k cnt : Nat) (P : Nat → Int) (S : Nat → Bool), k ≤ n ∧ cnt ≤ k ∧ i = .int .i64 k ∧ q = .int .i64 cnt ∧ MI ns k P cnt S ∧ Blk wr w.heap.size 50 (row 8 P).toArray ∧ Below w.heap.size w wr) (fun _ _ _ i _ => n - (intOf i).toNat)
      case atStart => exact ⟨0, 0, _, _, Nat.zero_le _, Nat.le_refl _, rfl, rfl, MI.start ns, hBH.out, hbH.out⟩
      case round =>
        obtain ⟨k, cnt, P, S, hk, hcn, rfl, rfl, hM, hB, hb⟩ := hrel
        by_cases hlt : k < n
        · have hbs : w.heap.size < wr.heap.size := hB.lt
          have hTS : TS w.heap.size w.heap.size wr.heap.size ns A n (wr.alloc (.cells #[.int .u32 0] 30)) P 0 :=
            ⟨(hrH.out.later hb).alloc _, fun b o e => by have := hAlH.out b o e (by omega); exact ⟨by omega, by omega⟩, hB.alloc _, Boxed.new wr 30 (.int .u32 0), by omega, Nat.le_refl _, by omega, by omega⟩
          have hba := hb.alloc (by omega) (.cells #[.int .u32 0] 30)
          have hno : ¬ Im 0 P k := fun h => by have := hM.im k h; omega
          have HT := Lib.hid (try_any w.heap.size w.heap.size wr.heap.size ns A n cap helH.out hn8 hnsH.out hg 9 0 k P _ (by simp [popc]) hTS (htbH.out.below hg hba) (by simp; omega) hlt hM.pm hno)
          have hMH := Lib.hid hM; have hbaH := Lib.hid hba; have hnoH := Lib.hid hno
          have hsz : (wr.alloc (.cells #[.int .u32 0] 30)).heap.size = wr.heap.size + 1 := by simp
          have hw1 : IntKind.i64.wrap ((cnt : Int) + 1) = (cnt : Int) + 1 := IntWalk.i64_in _ (by omega)
          clear hTS hM hB hb hba hno
          go_wp2_with fail
          refine HT.out.mono ?_
          rintro e w3 ⟨hg3, hcase⟩
          have hb3 := hbaH.out.trans (hg3.below (B := w.heap.size) (Nat.le_refl _) (by omega) (by omega))
          have hb3H := Lib.hid hb3
          clear HT hg3 hb3 hbaH
          rcases hcase with ⟨P', a', rfl, hT, hTP⟩ | ⟨a', rfl, hT, hTF⟩
          · have hM2 := Lib.hid (hMH.out.more hnoH.out hTP)
            have hB2 := Lib.hid hT.bk
            clear hT hTP
            go_wp2
            go_roundw
            case rel => exact ⟨k + 1, cnt + 1, P', S, by omega, by omega, by go_num, by go_num, hM2.out, hB2.out, hb3H.out⟩
            case measure => simp [intOf]; omega
          · have hM2 := Lib.hid (hMH.out.none (by rw [helH.out]; exact hn8) (by rw [helH.out]; exact hlt) hT.lt hTF)
            have hB2 := Lib.hid hT.bk
            clear hT hTF
            go_wp2
            go_roundw
            case rel => exact ⟨k + 1, cnt, P, _, by omega, by omega, by go_num, rfl, hM2.out, hB2.out, hb3H.out⟩
            case measure => simp [intOf]; omega
        · obtain rfl : k = n := by omega
          have hMx := Lib.hid (show Mx ns cnt from MI.mx (P := P) (S := S) (by rw [helH.out]; exact hM))
          have hbH := Lib.hid hb
          clear hM hB hb
          go_wp2
          go_ret
          exact ⟨⟨cnt, rfl, hMx.out⟩, hbH.out⟩
def andN (a b : Nat) : Nat := a &&& (4294967295 - b)
theorem testBit_andN {a b : Nat} (hb : b < 4294967296) (ha : a < 4294967296) (i : Nat) : (andN a b).testBit i = (a.testBit i && !b.testBit i) := by
  unfold andN
  rw [Nat.testBit_and, show 4294967295 - b = 2 ^ 32 - (b + 1) by omega, Nat.testBit_two_pow_sub_succ (by omega)]
  by_cases hi : i < 32
  · simp [hi]
  · have : a.testBit i = false := Nat.testBit_lt_two_pow (Nat.lt_of_lt_of_le ha (Nat.pow_le_pow_right (n := 2) (by omega) (show 32 ≤ i by omega)))
    simp [this]
theorem andN_le (a b : Nat) : andN a b ≤ a := Nat.and_le_left
/-- the words of those from one on, without some on the right -/
def cutW (ns : List Nat) (f m : Nat) : List Nat := (ns.drop f).map fun x => andN x m
theorem tiW : TI Tryd.prog 22 30 (.int .u32 0) 1 4 := TI.mk' Tryd.underlying22 (by kernel_rfl) rfl (by decide)
theorem without_any (b o n cap : Nat) (ns : List Nat) (f m : Nat) (w : World) (hr : Rd w (some ⟨b, o, none⟩) n 1 (wds ns)) (hn8 : n ≤ 8) (hcap : n ≤ cap) (hcap2 : cap ≤ 9223372036854775807) (hns : ∀ i, ns.getD i 0 < 256) (hf : f ≤ n) (hm : m < 4294967296) :
    Calls Tryd.prog 18 #[.slice (some ⟨b, o, none⟩) n cap, .int .i64 f, .int .u32 m] w fun e w' => (∃ v, e = .returned v ∧ w'.ownsRow w.heap.size 30 1 v (n - f) (wds (cutW ns f m))) ∧ Below w.heap.size w w' := by
  have hel : ns.length = n := by simpa [wds] using hr.1
  have hrH := Lib.hid hr; have helH := Lib.hid hel; have hnsH := Lib.hid hns
  clear hr hel hns
  have hfn : (f : Int) ≤ n := by omega
  have hf0 : (0 : Int) ≤ f := by omega
  have hnc : (n : Int) ≤ cap := by omega
  by_cases hcf : f = cap
  · obtain rfl : n = f := by omega
    subst hcf
    clear hfn hf0 hnc hf
    have hcut := Lib.hid (show cutW ns n m = [] by unfold cutW; rw [← helH.out]; simp)
    have hz : n - n = 0 := by omega
    have hnn : (n : Int) ≤ n := by omega
    have hn0 : (0 : Int) ≤ n := by omega
    go_enter Tryd.func18, Tryd.ntmps18
    go_wp2
    go_loopw [7, 9, 14] (fun v _ i wr => i = .int .i64 0 ∧ v = .slice none 0 0 ∧ w = wr) (fun _ _ _ _ => 0)
    case atStart => exact ⟨rfl, rfl, rfl⟩
    case round =>
      obtain ⟨rfl, rfl, rfl⟩ := hrel
      go_wp2
      go_ret
      refine ⟨⟨_, rfl, ?_⟩, Below.refl _ _⟩
      rw [hcut.out, hz]
      exact ⟨rfl, .inl ⟨rfl, rfl⟩⟩
  have hfc : (f : Int) < cap := by omega
  have hcp : ¬ (cap - f = 0) := by omega
  have hcp2 : (cap - f == 0) = false := by simp; omega
  clear hcf
  have hsp : f + (n - f) = n := by omega
  have hct : (cutW ns f m).length = n - f := by unfold cutW; rw [List.length_map, List.length_drop, helH.out]
  have hcg : ∀ j, j < n - f → (cutW ns f m).getD j 0 = andN (ns.getD (f + j) 0) m := fun j hj => by
    unfold cutW
    rw [List.getD, List.getElem?_map, List.getElem?_drop, List.getElem?_eq_getElem (by rw [helH.out]; omega)]
    simp [List.getD, show f + j < ns.length by rw [helH.out]; omega]
  have hctH := Lib.hid hct; have hcgH := Lib.hid hcg
  clear hct hcg
  generalize hzs : cutW ns f m = zs at *
  clear hzs
  go_enter Tryd.func18, Tryd.ntmps18
  go_wp2
  generalize hq : n - f = q at *
  go_loopw [7, 9, 14] (fun v _ i wr => ∃ k : Nat, k ≤ q ∧ i = .int .i64 k ∧ wr.ownsRow w.heap.size 30 1 v k (wds (zs.take k)) ∧ Below w.heap.size w wr) (fun _ _ i _ => q - (intOf i).toNat)
  case atStart => exact ⟨0, Nat.zero_le _, rfl, ⟨rfl, .inl ⟨rfl, rfl⟩⟩, Below.refl _ _⟩
  case round =>
    obtain ⟨k, hk, rfl, hown, hb⟩ := hrel
    by_cases hlt : k < q
    · obtain ⟨b', o', hA, hlb, hc⟩ := (hrH.out.later hb).wd (show f + k < n by omega)
      cases hA
      rw [← Nat.add_assoc] at hc
      have hx := hnsH.out (f + k)
      have hg := hcgH.out k hlt
      have htk := Lib.hid (show zs.take (k + 1) = zs.take k ++ [andN (ns.getD (f + k) 0) m] by
        rw [List.take_succ_eq_append_getElem (by rw [hctH.out]; exact hlt), ← hg]
        simp [List.getD, show k < zs.length by rw [hctH.out]; exact hlt])
      generalize ns.getD (f + k) 0 = x at *
      have hco : bits .andNot .u32 (x : Int) (m : Int) = ((andN x m : Nat) : Int) := u32_andNot_nat x m (by omega) hm
      have hownH := Lib.hid hown; have hbH := Lib.hid hb
      clear hown hb hg
      generalize andN x m = y at *
      have hkq : (k : Int) < q := by omega
      go_wp2_with (at_builtin; refine wpList_app (s := .tmp 18) (x := .tmp 22) _ tiW (hownH.out.alloc _) (rd_new1 _ (.int .u32 y) 30) (wds_one (l := [y])) (by omega) (by omega) (hbH.out.alloc hbH.out.size _).size rfl rfl rfl rfl ?_)
      intro v' w5 hown5 hg5 _
      have hb5 := (hbH.out.alloc hbH.out.size _).grown hg5 (hbH.out.alloc hbH.out.size _).size (fun g e => (hownH.out.lt g e).1)
      have h1 := Lib.hid hown5; have h2 := Lib.hid hb5
      clear hown5 hb5 hg5
      go_wp2
      go_roundw
      case rel => exact ⟨k + 1, by omega, by go_num, by rw [htk.out]; simpa [wds] using h1.out, h2.out⟩
      case measure => simp [intOf]; omega
    · obtain rfl : k = q := by omega
      have hownH := Lib.hid hown; have hbH := Lib.hid hb
      clear hown hb
      go_wp2
      go_ret
      refine ⟨⟨_, rfl, ?_⟩, hbH.out⟩
      have := hownH.out
      rw [List.take_of_length_le (by rw [hctH.out]; exact Nat.le_refl _)] at this
      rw [hq]; exact this
end Go.Proofs.YtepphkloghaihaaDoor
