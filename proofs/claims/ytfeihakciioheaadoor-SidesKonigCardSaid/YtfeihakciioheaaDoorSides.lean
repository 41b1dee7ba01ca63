/- sides.Sides. -/
import Derived.Test.YtfeihakciioheaaDoorSideFn
import Derived.Test.YtfeihakciioheaaDoorSideTwo
import Derived.Test.YtfeihakciioheaaDoorNearGr
import Derived.Test.YtfeihakciioheaaDoorRefNearA
import Derived.Test.YtfeihakciioheaaDoorBlk
import Derived.Deep.RegionLaw
import Derived.BigQuiet
namespace Go.Proofs.YtfeihakciioheaaDoor
open Go.RowKit
attribute [local go_sem] Oper.semAt_some

theorem tiId : TI Tryd.prog 25 3 (.int .i64 0) 1 8 := TI.mk' Tryd.underlying25 (by kernel_rfl) rfl (by decide)
def sdV (ns : List Nat) (i : Nat) : Int := ((sd ns i : Nat) : Int)
def sameSd (ns : List Nat) (e : E) : Bool := decide (sdV ns e.1.toNat = sdV ns e.2.1.toNat)
set_option maxHeartbeats 800000 in
theorem sides2_any (N lB : Nat) (ns : List Nat) (A' : Option Addr) (c' : Nat) (a : E) (w : World) (hok : okE N a) (hc : w.cell? ⟨lB, 0, none⟩ = some (.slice A' N c')) (hr : Rd w A' N 1 (row N (sdV ns))) :
    Calls Tryd.prog 12 (#[eagg a] ++ #[.pointer (some ⟨lB, 0, none⟩)]) w fun e w' => e = .returned (.bool (sameSd ns a)) ∧ Below w.heap.size w w' := by
  obtain ⟨x, y, hx, hy, hxN, hyN, _⟩ := hok
  obtain ⟨a1, a2, a3⟩ := a
  simp only at hx hy
  subst hx; subst hy
  have hb := (Below.refl _ w).alloc (Nat.le_refl _) (.cells #[.int .i64 (x : Int), .int .i64 (y : Int), .int .i64 a3] 32)
  have bE := Blk.new w 32 #[.int .i64 (x : Int), .int .i64 (y : Int), .int .i64 a3]
  have hcA := alloc_cell (World.block_lt_of_cell? w _ hc) hc (.cells #[.int .i64 (x : Int), .int .i64 (y : Int), .int .i64 a3] 32)
  have hrA := hr.alloc (.cells #[.int .i64 (x : Int), .int .i64 (y : Int), .int .i64 a3] 32)
  obtain ⟨b, o, rfl, _, cx⟩ := hrA.row hxN
  obtain ⟨_, _, e, _, cy⟩ := hrA.row hyN
  injection e with e; injection e with e1 e2 _
  subst e1; subst e2
  have hres : sameSd ns ((x : Int), (y : Int), a3) = decide (sdV ns x = sdV ns y) := rfl
  have hbq : (sdV ns x == sdV ns y) = decide (sdV ns x = sdV ns y) := by simp [Bool.beq_eq_decide_eq]
  rw [hres, ← hbq]
  clear hres hbq
  generalize sdV ns x = s1 at *
  generalize sdV ns y = s2 at *
  have e0 := bE.cell (j := 0) (v := .int .i64 (x : Int)) rfl
  have e1 := bE.cell (j := 1) (v := .int .i64 (y : Int)) rfl
  have hx0 : (0 : Int) ≤ x := by omega
  have hxn : (x : Int) < N := by omega
  have hy0 : (0 : Int) ≤ y := by omega
  have hyn : (y : Int) < N := by omega
  have hbH := Lib.hid hb
  clear hr hrA hc bE hb
  unfold eagg
  go_enter Tryd.func12, Tryd.ntmps12
  go_upto_region 1 with fail
  generalize w.alloc (.cells #[.int .i64 (x : Int), .int .i64 (y : Int), .int .i64 a3] 32) = wE at *
  go_quiet (fail)
  have hbq := Lib.hid (below_drewN hbH.out nq)
  clear e0 e1 cx cy hcA
  go_wp2
  go_ret
  exact ⟨rfl, hbq.out⟩
def SdPost (N : Nat) (es : List E) (w : World) (e : Ending) (w' : World) : Prop :=
  Below w.heap.size w w' ∧ ((∃ (A' : Option Addr) (c' : Nat), e = .returned (.tuple #[.slice A' N c', .int .i64 0]) ∧ Rd w' A' N 1 (row N (sdV (nearW N es))) ∧ es.any (sameSd (nearW N es)) = false) ∨ (e = .returned (.tuple #[.slice none 0 0, .int .i64 5]) ∧ es.any (sameSd (nearW N es)) = true))
theorem sides_bad (N : Int) (A : Option Addr) (len cap : Nat) (es : List E) (w : World) (hr : Rd w A len 3 (ps3 .i64 .i64 .i64 es)) (hlen : len ≤ 9223372036854775807) (h : gchk N es ≠ 0) :
    Calls Tryd.prog 4 #[.agg #[.int .i64 N, .slice A len cap]] w fun e w' => e = .returned (.tuple #[.slice none 0 0, .int .i64 (gchk N es)]) ∧ Below w.heap.size w w' := by
  have gb := (Below.refl _ w).alloc (Nat.le_refl _) (.cells #[.int .i64 N, .slice A len cap] 24)
  have bG := Blk.new w 24 #[.int .i64 N, .slice A len cap]
  have g0 := bG.cell (j := 0) rfl; have g1 := bG.cell (j := 1) rfl
  have HC := Lib.hid (dist_bad N A len cap es _ (hr.later gb) hlen h)
  have hne : (gchk N es != 0) = true := bne_iff_ne.2 h
  have gbH := Lib.hid gb
  generalize gchk N es = z at *
  clear hr h bG gb
  go_enter Tryd.func4, Tryd.ntmps4
  go_wp2_with fail
  refine HC.out.mono ?_
  rintro _ w1 ⟨rfl, hb⟩
  go_wp2
  go_ret2
  exact ⟨rfl, gbH.out.trans (hb.mono gbH.out.size)⟩
set_option maxHeartbeats 3200000 in
set_option maxRecDepth 100000 in
theorem sides_ok (N : Nat) (A : Option Addr) (len cap : Nat) (es : List E) (w : World) (hr : Rd w A len 3 (ps3 .i64 .i64 .i64 es)) (hlen : len ≤ 9223372036854775807) (htb : Tb w) (h : gchk N es = 0) :
    Calls Tryd.prog 4 #[.agg #[.int .i64 N, .slice A len cap]] w (SdPost N es w) := by
  have gb := (Below.refl _ w).alloc (Nat.le_refl _) (.cells #[.int .i64 N, .slice A len cap] 24)
  have bG := Blk.new w 24 #[.int .i64 N, .slice A len cap]
  have hgr := nearGr h
  obtain ⟨_, h10, hl45, hokE, _⟩ := gchk_ok h
  rw [Int.toNat_natCast] at hokE
  have h10 : N ≤ 10 := by omega
  have hel := ps3_len hr
  rw [hel] at hl45
  have hsz : (w.alloc (.cells #[.int .i64 N, .slice A len cap] 24)).heap.size = w.heap.size + 1 := by simp
  have htl : 0 < w.heap.size := World.block_lt_of_cell? w _ (htb 0 (by decide))
  have HD := Lib.hid (dist_ok N A len cap es (nearW N es) rfl _ (hr.later gb) h (htb.below htl gb) (by omega))
  have gbH := Lib.hid gb; have bGH := Lib.hid bG; have hrH := Lib.hid hr; have hokH := Lib.hid hokE; have hgrH := Lib.hid hgr
  clear hr h gb hokE hel htb hgr
  have g0 := bG.cell (j := 0) rfl; have g1 := bG.cell (j := 1) rfl
  clear bG
  go_enter Tryd.func4, Tryd.ntmps4
  go_wp2_with fail
  refine HD.out.mono ?_
  rintro _ w1 ⟨v, G, rfl, hoD, hrD, hb⟩
  clear HD
  have bG1 := bGH.out.below hb (by omega)
  have hb1 := gbH.out.trans (hb.mono gbH.out.size)
  have hs1 := hb.size
  have g0 := bG1.cell (j := 0) (v := .int .i64 (N : Int)) rfl; have g1 := bG1.cell (j := 1) (v := .slice A len cap) rfl
  have bG1H := Lib.hid bG1; have hb1H := Lib.hid hb1; have hoDH := Lib.hid hoD; have hrDH := Lib.hid hrD
  have hbL := (Below.refl _ w1).alloc (Nat.le_refl _) (.cells #[.slice none 0 0] 25)
  have bL := Boxed.new w1 25 (.slice none 0 0)
  have hbLH := Lib.hid hbL; have bLH := Lib.hid bL
  have g0L := (bG1.below hbL bG1.lt).cell (j := 0) (v := .int .i64 (N : Int)) rfl
  clear bG1 hb hb1 gbH bGH hoD hrD hbL bL
  go_wp2
  go_loopw [19] (fun kv wr => ∃ (k : Nat) (u : Value), k ≤ N ∧ kv = .int .i64 k ∧ Boxed wr w1.heap.size 25 u ∧ wr.ownsRow (w1.heap.size + 1) 3 1 u k (row k (sdV (nearW N es))) ∧ Below w1.heap.size w1 wr) (fun kv _ => N - (intOf kv).toNat)
  case atStart => exact ⟨0, _, by omega, rfl, bLH.out, World.ownsRow_nil _ _ _ _, hbLH.out⟩
  case round =>
    clear bLH hbLH
    obtain ⟨k, u, hk, rfl, bu, hown, hb⟩ := hrel
    obtain ⟨w2, rfl⟩ : ∃ w2 : World, w2 = wr := ⟨_, rfl⟩
    have hszb := hb.size
    have hbl := bu.lt
    by_cases hkN : k < N
    · have hkN' : (k : Int) < N := by omega
      have hk0 : (0 : Int) ≤ k := by omega
      obtain ⟨Au, cu, rfl⟩ := own_slice hown
      obtain ⟨gD, cD, hvD⟩ : ∃ g c, v = .slice (some ⟨g, 0, none⟩) N c := by
        rcases hoDH.out.2 with ⟨_, e⟩ | ⟨g, c, _, e, _⟩
        · omega
        · exact ⟨g, c, e⟩
      subst hvD
      obtain ⟨hpN, hp0, hpl⟩ := part_far hgrH.out hkN
      have hsd : sdV (nearW N es) k = (((far (nearW N es) (part (nearW N es) k) k).toNat % 2 : Nat) : Int) := rfl
      have hbI := (Below.refl _ w2).alloc (Nat.le_refl _) (.cells #[.int .i64 (k : Int)] 3)
      have hb12 := hb.trans (hbI.mono hszb)
      have hoI := own_below hoDH.out hb12
      have hrI := fun m (hm : m < N) => own_below (hrDH.out m hm) hb12
      have cI := (Boxed.new w2 3 (.int .i64 (k : Int))).cell
      have IR := Lib.hid (indexRow_any N k w2.heap.size (part (nearW N es) k) (fun m j => far (nearW N es) m j) G _ (.slice (some ⟨gD, 0, none⟩) N cD) _ hkN hoI hrI cI h10 hpN hp0 hpl)
      have cOut := hoI.cellAt (part (nearW N es) k) (by omega)
      rw [show (rowsV N G N)[part (nearW N es) k]? = some (.slice (some ⟨G (part (nearW N es) k), 0, none⟩) N N) by simp [rowsV, hpN]] at cOut
      have cRow := ((hrI _ hpN).cellAt k (by omega)).trans (row_get hkN)
      obtain ⟨q, hq⟩ := Int.eq_ofNat_of_zero_le hp0
      rw [hq] at cRow hsd
      rw [Int.toNat_natCast] at hsd
      obtain ⟨pt, hpt⟩ : ∃ pt, part (nearW N es) k = pt := ⟨_, rfl⟩
      rw [hpt] at IR cOut cRow hpN
      clear hpt hq hp0 hpl hoI hrI
      have hpN' : (pt : Int) < N := by omega
      have hpt0 : (0 : Int) ≤ pt := by omega
      have buI := bu.alloc (.cells #[.int .i64 (k : Int)] 3)
      have cL := buI.cell; have fL := buI.frozen; have lL := buI.lt
      have hownI := hown.alloc (.cells #[.int .i64 (k : Int)] 3)
      have hsI : w2.heap.size + 1 ≤ (w2.alloc (.cells #[.int .i64 (k : Int)] 3)).heap.size := by simp
      have hsdH := Lib.hid hsd; have buIH := Lib.hid buI; have hownIH := Lib.hid hownI; have hb12H := Lib.hid hb12
      have hrs := Lib.hid (row_snoc k (sdV (nearW N es)))
      clear hsd buI hownI hb12 hbI hb bu hown fL
      go_wp2_with fail
      refine IR.out.mono ?_
      rintro _ _ ⟨rfl, rfl⟩
      clear IR
      go_upto_region 9 with fail
      generalize w2.alloc (.cells #[.int .i64 (k : Int)] 3) = wI at *
      go_region_law (
        refine step_app (s := .tmp 25) (x := .tmp 34) _ tiId (own_drew (hownIH.out.alloc _)) ((rd_new1 wI _ 3).drew) (fun u hu => by simp at hu; subst hu; rfl) (by omega) (by omega) (by simp; omega) rfl rfl rfl rfl ?_
        intro v' w4 hown4 hg4 _
        obtain ⟨g', cap', rfl⟩ := ownsRow_succ hown4
        have hne3 : (some w1.heap.size : Option Nat) ≠ (Value.slice Au k cu).ownBlock := fun e => by
          have := (hownIH.out.lt w1.heap.size e.symm).1
          omega
        have bu4 := (show Boxed (wI.alloc (.cells #[.int .i64 (Int.tmod (q : Int) 2)] 3)).drew w1.heap.size 25 (.slice Au k cu) from buIH.out.alloc _).kept hg4 hne3
        have c4 := bu4.cell; have f4 := bu4.frozen; have l4 := bu4.lt
        have hb4 := (hb12H.out.alloc (by omega) (.cells #[.int .i64 (Int.tmod (q : Int) 2)] 3)).drew.grown hg4 (by simp; omega) (fun g e => by have := (hownIH.out.lt g e).1; omega)
        have hgl4 := hown4.lt g' rfl)
      all_goals
        have hq2 : Int.tmod (q : Int) 2 = sdV (nearW N es) k := by rw [hsdH.out, Int.tmod_eq_emod_of_nonneg (by omega)]; omega
        have hne4 : (Value.slice (some ⟨g', 0, none⟩) (k + 1) cap').ownBlock ≠ some (⟨w1.heap.size, 0, none⟩ : Addr).block := fun e => by
          have := (hown4.lt _ e).1
          simp only at this
          omega
        rw [hq2, ← hrs.out] at hown4
        have hownF := Lib.hid (own_set_other hown4 hne4 (.slice (some ⟨g', 0, none⟩) (k + 1) cap'))
        have buF := Lib.hid (bu4.set (.slice (some ⟨g', 0, none⟩) (k + 1) cap'))
        have hbF := Lib.hid (hb4.setCell (p := ⟨w1.heap.size, 0, none⟩) (Nat.le_refl _) (.slice (some ⟨g', 0, none⟩) (k + 1) cap'))
        clear hne4 hown4 bu4 hb4 hg4 hq2
        go_wp2
        go_roundw
        case rel => exact ⟨k + 1, .slice (some ⟨g', 0, none⟩) (k + 1) cap', by omega, by go_num, buF.out, hownF.out, hbF.out⟩
        case measure => simp [intOf] <;> omega
    · obtain rfl : k = N := by omega
      obtain ⟨Au, cu, rfl⟩ := own_slice hown
      have hrL := Rd.of_own hown
      have bL2 := Lib.hid (bG1H.out.below hb (by omega))
      have cLB := bu.cell
      have hcs := Lib.hid (containsFuncE A len cap es 12 #[.pointer (some ⟨w1.heap.size, 0, none⟩)] (sameSd (nearW k es)) w2 (hrH.out.later (hb1H.out.trans (hb.mono (by omega)))) hlen (fun _ _ => rfl) (fun a w' ha hbw => sides2_any k w1.heap.size (nearW k es) Au cu a w' (hokH.out a ha) ((hbw.cell (p := ⟨w1.heap.size, 0, none⟩) hbl).trans cLB) (hrL.later hbw)))
      have hrLH := Lib.hid hrL; have buH := Lib.hid bu
      have hbH := Lib.hid (hb1H.out.trans (hb.mono (by omega)))
      have g1 := bL2.out.cell (j := 1) (v := .slice A len cap) rfl
      have g0 := bL2.out.cell (j := 0) (v := .int .i64 (k : Int)) rfl
      clear hown hrL bu hb
      go_wp2_with fail
      refine hcs.out.mono ?_
      rintro _ w3 ⟨rfl, hb3⟩
      clear hcs
      have cL3 := (hb3.cell (p := ⟨w1.heap.size, 0, none⟩) hbl).trans buH.out.cell
      have hrF := Lib.hid (hrLH.out.later hb3)
      have hbF := Lib.hid (hbH.out.trans (hb3.mono hbH.out.size))
      cases hany : es.any (sameSd (nearW k es))
      · have hanyH := Lib.hid hany
        clear hb3 hany
        go_wp2
        go_ret2
        exact ⟨hbF.out, Or.inl ⟨_, _, rfl, hrF.out, hanyH.out⟩⟩
      · have hanyH := Lib.hid hany
        clear hb3 hany
        go_wp2
        go_ret2
        exact ⟨hbF.out, Or.inr ⟨rfl, hanyH.out⟩⟩
end Go.Proofs.YtfeihakciioheaaDoor
