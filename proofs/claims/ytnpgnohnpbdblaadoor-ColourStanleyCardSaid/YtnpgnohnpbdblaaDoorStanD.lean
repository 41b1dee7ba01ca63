/- teamsterkeep.round: does something come round? -/
import Derived.Test.YtnpgnohnpbdblaaDoorStanC
import Derived.Test.YtnpgnohnpbdblaaDoorRefBit
namespace Go.Proofs.YtnpgnohnpbdblaaDoor
open Go.RowKit Go.Shelf

/-- who comes to i, of the first k edges -/
def comP (es : List E) (u : Nat) (g : Nat → Bool) (i k : Nat) : Bool := (List.range k).any fun k => tE (aOf es) (bOf es) u k == i && !g (sE (aOf es) (bOf es) u k)
theorem comP_succ (es : List E) (u : Nat) (g : Nat → Bool) (i k : Nat) : comP es u g i (k + 1) = (comP es u g i k || (tE (aOf es) (bOf es) u k == i && !g (sE (aOf es) (bOf es) u k))) := by
  unfold comP
  rw [List.range_succ, List.any_append]
  simp
theorem tiB6 : TI Tryd.prog 58 4 (.bool false) 1 1 := TI.mk' Tryd.underlying58 (by kernel_rfl) rfl (by decide)
def allG (n : Nat) (g : Nat → Bool) : Bool := (List.range n).all g
theorem natBeq (a b : Nat) : ((a : Int) == (b : Int)) = (a == b) := by
  by_cases h : a = b
  · subst h; simp
  · have : ¬ (a : Int) = b := by omega
    rw [beq_eq_false_iff_ne.2 h, beq_eq_false_iff_ne.2 this]
set_option maxHeartbeats 6400000 in
set_option maxRecDepth 100000 in
theorem round_any (N u : Nat) (A : Option Addr) (len cap : Nat) (es : List E) (w : World) (hr : Rd w A len 3 (ps3 .i64 .i64 .i64 es)) (hN : N ≤ 10) (hl : len ≤ 9) (hok : ∀ e ∈ es, okE N e) (hu : u < 1024) :
    Calls Tryd.prog 15 #[.agg #[.int .i64 N, .slice A len cap], .int .u32 (u : Int)] w fun e w' => e = .returned (.bool (!allG N (turnsB es.length (aOf es) (bOf es) N u N))) ∧ Below w.heap.size w w' := by
  have hel : es.length = len := ps3_len hr
  have gb := (Below.refl _ w).alloc (Nat.le_refl _) (.cells #[.int .i64 N, .slice A len cap] 24)
  have hK := Blk.new w 24 #[.int .i64 (N : Int), .slice A len cap]
  have g0 := hK.cell (j := 0) rfl
  have g1 := hK.cell (j := 1) rfl
  have hrH := Lib.hid hr; have hokH := Lib.hid hok; have gbH := Lib.hid gb; have hKH := Lib.hid hK; have helH := Lib.hid hel
  clear hr hok gb hK hel
  rw [helH.out]
  go_enter Tryd.func15, Tryd.ntmps15
  go_wp2_with (at_make; refine wpList_mk1 _ tiB6 (w.heap.size + 1) N (by omega) (by omega) (by simp) rfl rfl rfl rfl rfl rfl rfl ?_)
  intro w1 hown hg
  rw [brow_replicate] at hown
  have hb1 := below_grown hg
  have hK1 := hKH.out.below hb1 hKH.out.lt
  have hsz0 : (w.alloc (.cells #[.int .i64 (N : Int), .slice A len cap] 24)).heap.size = w.heap.size + 1 := by simp
  have hbw := Lib.hid (gbH.out.trans (hb1.mono (by rw [hsz0]; omega)))
  have hownH := Lib.hid hown; have hK1H := Lib.hid hK1
  have hlt1 := (hown.lt _ rfl).2
  dsimp only at hlt1
  clear hown hg hb1 hK1 g0 g1
  obtain ⟨wi, hwi⟩ : ∃ wi : World, wi = w1 := ⟨_, rfl⟩
  go_wp2
  go_loopw [6] (fun x wr => ∃ t : Nat, x = .int .i64 t ∧ t ≤ N ∧ wr.ownsRow (w.heap.size + 1) 4 1 (.slice (some ⟨w.heap.size + 1, 0, none⟩) N N) N (brow N (turnsB len (aOf es) (bOf es) N u t)) ∧ Below (w.heap.size + 1) w1 wr) (fun x _ => N - (intOf x).toNat)
  case atStart => exact ⟨0, rfl, Nat.zero_le _, hownH.out, Below.refl _ _⟩
  case round =>
    clear hwi
    obtain ⟨t, rfl, ht, hown, hb⟩ := hrel
    have hKr := hK1H.out.below hb (by omega)
    have q0 := hKr.cell (j := 0) rfl
    have q1 := hKr.cell (j := 1) rfl
    by_cases hlt : t < N
    · have hlt' : (t : Int) < N := by omega
      have hownH2 := Lib.hid hown; have hbH := Lib.hid hb
      clear hown hb hKr
      have hnxt := Lib.hid (show turnsB len (aOf es) (bOf es) N u (t + 1) = passB len (aOf es) (bOf es) u (turnsB len (aOf es) (bOf es) N u t) N from rfl)
      generalize turnsB len (aOf es) (bOf es) N u t = g0 at *
      have hwt : IntKind.i64.wrap ((t : Int) + 1) = (t : Int) + 1 := IntWalk.i64_in _ (by omega)
      go_wp2
      go_loopw [7] (fun x wx => ∃ i : Nat, x = .int .i64 i ∧ i ≤ N ∧ wx.ownsRow (w.heap.size + 1) 4 1 (.slice (some ⟨w.heap.size + 1, 0, none⟩) N N) N (brow N (passB len (aOf es) (bOf es) u g0 i)) ∧ Below (w.heap.size + 1) w1 wx) (fun x _ => N - (intOf x).toNat)
      case atStart => exact ⟨0, rfl, Nat.zero_le _, hownH2.out, hbH.out⟩
      case round =>
        clear hownH2 hbH q0 q1
        obtain ⟨i, rfl, hi, hown, hb⟩ := hrel
        have hKr := hK1H.out.below hb (by omega)
        have q0 := hKr.cell (j := 0) rfl
        have q1 := hKr.cell (j := 1) rfl
        have hownI := Lib.hid hown; have hbI := Lib.hid hb
        clear hown hb hKr
        by_cases hlti : i < N
        · have hlti' : (i : Int) < N := by omega
          have hi0 : (0 : Int) ≤ i := by omega
          have hwi : IntKind.i64.wrap ((i : Int) + 1) = (i : Int) + 1 := IntWalk.i64_in _ (by omega)
          have hgo := Lib.hid (show passB len (aOf es) (bOf es) u g0 (i + 1) = goesB len (aOf es) (bOf es) u (passB len (aOf es) (bOf es) u g0 i) i from rfl)
          generalize passB len (aOf es) (bOf es) u g0 i = g at *
          go_wp2
          go_loopw [8, 32] (fun c x wx => ∃ k : Nat, x = .int .i64 k ∧ k ≤ len ∧ c = .bool (comP es u g i k) ∧ wx.ownsRow (w.heap.size + 1) 4 1 (.slice (some ⟨w.heap.size + 1, 0, none⟩) N N) N (brow N g) ∧ Below (w.heap.size + 1) w1 wx) (fun _ x _ => len - (intOf x).toNat)
          case atStart => exact ⟨0, rfl, Nat.zero_le _, rfl, hownI.out, hbI.out⟩
          case round =>
            clear hownI hbI q0 q1
            obtain ⟨k, rfl, hk, rfl, hown, hb⟩ := hrel
            have hKr := hK1H.out.below hb (by omega)
            have q0 := hKr.cell (j := 0) rfl
            have q1 := hKr.cell (j := 1) rfl
            have hszr : w.heap.size + 1 ≤ wr.heap.size := by have := hb.size; omega
            by_cases hltk : k < len
            · have hltk' : (k : Int) < len := by omega
              obtain ⟨bb, oo, rfl, hab, e0, e1, e2⟩ := (hrH.out.later (hbw.out.trans (hb.mono (by omega)))).triple hltk
              have hmem : es.getD k (0, 0, 0) ∈ es := by simp [List.getD, show k < es.length by rw [helH.out]; exact hltk]
              obtain ⟨x, y, hx, hy, hxn, hyn, hne⟩ := hokH.out _ hmem
              have eA : aOf es k = x := by unfold aOf; rw [hx]; rfl
              have eB : bOf es k = y := by unfold bOf; rw [hy]; rfl
              rw [hx] at e0
              rw [hy] at e1
              have hcs := Lib.hid (show comP es u g i (k + 1) = (comP es u g i k || ((if u.testBit k then x else y) == i && !g (if u.testBit k then y else x))) by
                rw [comP_succ]; unfold tE sE; rw [eA, eB])
              generalize (es.getD k (0, 0, 0)).2.2 = ew at *
              have hb2 := hb.alloc hszr (.cells #[.int .i64 (x : Int), .int .i64 (y : Int), .int .i64 ew] 60)
              have hKE := Blk.new wr 60 #[.int .i64 (x : Int), .int .i64 (y : Int), .int .i64 ew]
              have j0 := hKE.cell (j := 0) rfl
              have j1 := hKE.cell (j := 1) rfl
              have hown2 := hown.alloc (.cells #[.int .i64 (x : Int), .int .i64 (y : Int), .int .i64 ew] 60)
              have cx := (hown2.cellAt x (by omega)).trans (brow_get hxn)
              have cy := (hown2.cellAt y (by omega)).trans (brow_get hyn)
              have HB := Lib.hid (fun W => bit_any u k W (by omega) (by omega))
              have hx0 : (0 : Int) ≤ x := by omega
              have hy0 : (0 : Int) ≤ y := by omega
              have hxN : (x : Int) < N := by omega
              have hyN : (y : Int) < N := by omega
              have hb2H := Lib.hid hb2; have hown2H := Lib.hid hown2
              clear hb hown hb2 hown2 hKE hx hy eA eB hmem hab hKr
              generalize comP es u g i k = c at *
              cases hbit : u.testBit k
              · rw [hbit] at HB
                have hcs2 := Lib.hid (show comP es u g i (k + 1) = (c || (y == i && !g x)) by rw [hcs.out, hbit]; rfl)
                have hyi := natBeq y i
                generalize (y == i) = yi at *
                generalize g x = gx at *
                clear hcs hbit
                go_wp2_with fail
                refine (HB.out _).mono ?_
                rintro _ _ ⟨rfl, rfl⟩
                cases c
                · cases yi
                  · go_wp2
                    go_roundw
                    case rel => exact ⟨k + 1, by go_num, by omega, by rw [hcs2.out]; rfl, hown2H.out, hb2H.out⟩
                    case measure => simp [intOf]; omega
                  · go_wp2
                    go_roundw
                    case rel => exact ⟨k + 1, by go_num, by omega, by rw [hcs2.out]; rfl, hown2H.out, hb2H.out⟩
                    case measure => simp [intOf]; omega
                · go_wp2
                  go_roundw
                  case rel => exact ⟨k + 1, by go_num, by omega, by rw [hcs2.out]; rfl, hown2H.out, hb2H.out⟩
                  case measure => simp [intOf]; omega
              · rw [hbit] at HB
                have hcs2 := Lib.hid (show comP es u g i (k + 1) = (c || (x == i && !g y)) by rw [hcs.out, hbit]; rfl)
                have hyi := natBeq x i
                generalize (x == i) = yi at *
                generalize g y = gx at *
                clear hcs hbit
                go_wp2_with fail
                refine (HB.out _).mono ?_
                rintro _ _ ⟨rfl, rfl⟩
                cases c
                · cases yi
                  · go_wp2
                    go_roundw
                    case rel => exact ⟨k + 1, by go_num, by omega, by rw [hcs2.out]; rfl, hown2H.out, hb2H.out⟩
                    case measure => simp [intOf]; omega
                  · go_wp2
                    go_roundw
                    case rel => exact ⟨k + 1, by go_num, by omega, by rw [hcs2.out]; rfl, hown2H.out, hb2H.out⟩
                    case measure => simp [intOf]; omega
                · go_wp2
                  go_roundw
                  case rel => exact ⟨k + 1, by go_num, by omega, by rw [hcs2.out]; rfl, hown2H.out, hb2H.out⟩
                  case measure => simp [intOf]; omega
            · obtain rfl : k = len := by omega
              have hcm := Lib.hid (show comP es u g i k = comesB k (aOf es) (bOf es) u g i from rfl)
              have hst := Lib.hid (show ∀ v, (wr.setCell ⟨w.heap.size + 1, i, none⟩ (.bool v)).ownsRow (w.heap.size + 1) 4 1 (.slice (some ⟨w.heap.size + 1, 0, none⟩) N N) N (brow N fun j => if j = i then v else g j) from fun v => by have := (hown.stored i (.bool v)).1; rwa [brow_set] at this)
              have hbst := Lib.hid (fun v => hb.setCell (p := ⟨w.heap.size + 1, i, none⟩) (Nat.le_refl _) (.bool v))
              have ci := (hown.cellAt i (by omega)).trans (brow_get hlti)
              have fi := hown.frozenAt i
              have hgo2 := Lib.hid (show (fun j => if j = i then g i || !comP es u g i k else g j) = passB k (aOf es) (bOf es) u g0 (i + 1) from hgo.out.symm)
              clear hown hb hKr hgo
              generalize comP es u g i k = c at *
              generalize hgi : g i = gi at *
              cases gi
              · go_wp2
                go_roundw
                case rel => exact ⟨i + 1, by go_num, by omega, by rw [← hgo2.out]; exact hst.out _, hbst.out _⟩
                case measure => simp [intOf]; omega
              · go_wp2
                go_roundw
                case rel => exact ⟨i + 1, by go_num, by omega, by rw [← hgo2.out]; exact hst.out _, hbst.out _⟩
                case measure => simp [intOf]; omega
        · obtain rfl : i = N := by omega
          go_wp2
          go_roundw
          case rel => exact ⟨t + 1, by go_num, by omega, by rw [hnxt.out]; exact hownI.out, hbI.out⟩
          case measure => simp [intOf]; omega
    · obtain rfl : t = N := by omega
      obtain ⟨g, hgd⟩ : ∃ g, turnsB len (aOf es) (bOf es) t u t = g := ⟨_, rfl⟩
      rw [hgd] at hown
      have hownE := Lib.hid hown
      have hgdH := Lib.hid hgd
      have hbE := Lib.hid (hbw.out.trans (hb.mono (by omega)))
      clear hown hb hKr hgd
      go_wp2
      obtain ⟨wo, hwo⟩ : ∃ wo : World, wo = wr := ⟨_, rfl⟩
      go_loopw [13] (fun x wx => ∃ i : Nat, x = .int .i64 i ∧ i ≤ t ∧ allG i g = true ∧ wx = wo) (fun x _ => t - (intOf x).toNat)
      case atStart => exact ⟨0, rfl, Nat.zero_le _, rfl, hwo.symm⟩
      case round =>
        obtain ⟨i, rfl, hi, hall, rfl⟩ := hrel
        subst hwo
        obtain ⟨wb, rfl⟩ : ∃ wb : World, wb = wr := ⟨_, rfl⟩
        by_cases hlti : i < t
        · have ci := (hownE.out.cellAt i (by omega)).trans (brow_get hlti)
          have hlti' : (i : Int) < t := by omega
          have hi0 : (0 : Int) ≤ i := by omega
          have hwi : IntKind.i64.wrap ((i : Int) + 1) = (i : Int) + 1 := IntWalk.i64_in _ (by omega)
          have hs : allG (i + 1) g = g i := by
            unfold allG at hall ⊢
            rw [List.range_succ, List.all_append, hall]; simp
          cases hgi : g i
          · have hno := Lib.hid (show allG t g = false by
              unfold allG
              rw [List.all_eq_false]
              exact ⟨i, List.mem_range.2 hlti, by simp [hgi]⟩)
            rw [hgi] at ci
            clear hs hgi hall
            go_wp2
            go_ret
            exact ⟨by rw [hgdH.out, hno.out]; rfl, hbE.out⟩
          · rw [hgi] at ci hs
            have hsH := Lib.hid hs
            clear hs hgi hall
            go_wp2
            go_roundw
            case rel => exact ⟨i + 1, by go_num, by omega, hsH.out, by trivial⟩
            case measure => simp [intOf]; omega
        · obtain rfl : i = t := by omega
          have hallH := Lib.hid hall
          clear hall
          go_wp2
          go_ret
          exact ⟨by rw [hgdH.out, hallH.out]; rfl, hbE.out⟩
end Go.Proofs.YtnpgnohnpbdblaaDoor
