/- graph.Spread. -/
import Derived.Test.YtnkmfnnkophccaaDoorSpreadLaw
import Derived.Test.YtnkmfnnkophccaaDoorEachBits
import Derived.Test.YtnkmfnnkophccaaDoorMarks
import Derived.Test.YtnkmfnnkophccaaDoorCalm
import Derived.Test.YtnkmfnnkophccaaDoorLast
namespace Go.Proofs.YtnkmfnnkophccaaDoor
open Go.RowKit Go.Shelf
attribute [local go_sem] Oper.semAt_some

set_option maxHeartbeats 3200000 in
set_option maxRecDepth 100000 in
theorem spread_any (A : Option Addr) (len cap : Nat) (ns : List Nat) (x wi : Nat) (w : World) (hr : Rd w A len 1 (wds ns)) (hlen : len ≤ 10) (hlt : ∀ i, ns.getD i 0 < 2 ^ len) (hx : x < 2 ^ len) (hwi : wi < 4294967296) (htb : Tb w) (hg : 0 < w.heap.size) :
    Calls Tryd.prog 13 #[.slice A len cap, .int .u32 x, .int .u32 wi] w fun e w' => (∃ R : Nat, e = .returned (.int .u32 R) ∧ R < 2 ^ len ∧ IsSpread ns wi x R) ∧ Below w.heap.size w w' := by
  have hrH := Lib.hid hr; have htbH := Lib.hid htb
  have hltH := Lib.hid hlt
  have hn32 : len ≤ 32 := by omega
  have hpH := Lib.hid (show 2 ^ len ≤ 2 ^ 10 from Nat.pow_le_pow_right (by omega) hlen)
  have hst := Lib.hid (SpI.start (ns := ns) (wi := wi) hx)
  clear hr htb hlt
  refine calls_of_wp_calm 4 Tryd.func13 rfl ?_
  simp only [Tryd.ntmps13, List.size_toArray, List.length_cons, List.length_nil, Nat.reduceAdd, Nat.reduceSub, Array.replicate_succ, Array.replicate_zero, List.push_toArray, List.append_toArray, List.nil_append, List.cons_append]
  have hbx := Boxed.new w 41 (.slice A len cap)
  have hbb := (Below.refl _ w).alloc (Nat.le_refl _) (.cells #[.slice A len cap] 41)
  have hcx := hbx.cell
  go_wp2
  refine wp_loop (fun a' wr => ∃ (ds : List Deferred), a' = { tmps := #[(a'.tmps.getD 0 undef), (a'.tmps.getD 1 undef), (.int .u32 (wi : Int)), (.pointer (some ⟨w.heap.size, 0, none⟩)), (a'.tmps.getD 4 undef), (a'.tmps.getD 5 undef), (a'.tmps.getD 6 undef), (a'.tmps.getD 7 undef), (a'.tmps.getD 8 undef), (a'.tmps.getD 9 undef), (a'.tmps.getD 10 undef), (a'.tmps.getD 11 undef), (a'.tmps.getD 12 undef), (a'.tmps.getD 13 undef), (a'.tmps.getD 14 undef), (a'.tmps.getD 15 undef), (a'.tmps.getD 16 undef), (a'.tmps.getD 17 undef), (a'.tmps.getD 18 undef), (a'.tmps.getD 19 undef), (a'.tmps.getD 20 undef), (a'.tmps.getD 21 undef), (a'.tmps.getD 22 undef), (a'.tmps.getD 23 undef), (a'.tmps.getD 24 undef), (a'.tmps.getD 25 undef), (a'.tmps.getD 26 undef), (a'.tmps.getD 27 undef), (a'.tmps.getD 28 undef), (a'.tmps.getD 29 undef), (a'.tmps.getD 30 undef), (a'.tmps.getD 31 undef), (a'.tmps.getD 32 undef)], defers := ds } ∧ (∃ all next : Nat, (a'.tmps.getD 7 undef) = .int .u32 (all : Int) ∧ (a'.tmps.getD 8 undef) = .int .u32 (next : Int) ∧ SpI len ns wi x all next ∧ Boxed wr w.heap.size 41 (.slice A len cap) ∧ Marks w.heap.size wr.heap.size ds wr ∧ Below w.heap.size w wr)) (fun a' _ => spM len (intOf (a'.tmps.getD 7 undef)).toNat (intOf (a'.tmps.getD 8 undef)).toNat) ?atStart ?round
  case atStart =>
    refine ⟨_, rfl, ?_⟩
    exact ⟨x, x, rfl, rfl, hst.out, hbx, trivial, hbb⟩
  case round =>
    clear hbx hbb hcx
    rintro a' wr ⟨ds, ha, hrel⟩
    generalize a'.tmps.getD 0 undef = x0 at ha hrel
    generalize a'.tmps.getD 1 undef = x1 at ha hrel
    generalize a'.tmps.getD 4 undef = x4 at ha hrel
    generalize a'.tmps.getD 5 undef = x5 at ha hrel
    generalize a'.tmps.getD 6 undef = x6 at ha hrel
    generalize a'.tmps.getD 7 undef = x7 at ha hrel
    generalize a'.tmps.getD 8 undef = x8 at ha hrel
    generalize a'.tmps.getD 9 undef = x9 at ha hrel
    generalize a'.tmps.getD 10 undef = x10 at ha hrel
    generalize a'.tmps.getD 11 undef = x11 at ha hrel
    generalize a'.tmps.getD 12 undef = x12 at ha hrel
    generalize a'.tmps.getD 13 undef = x13 at ha hrel
    generalize a'.tmps.getD 14 undef = x14 at ha hrel
    generalize a'.tmps.getD 15 undef = x15 at ha hrel
    generalize a'.tmps.getD 16 undef = x16 at ha hrel
    generalize a'.tmps.getD 17 undef = x17 at ha hrel
    generalize a'.tmps.getD 18 undef = x18 at ha hrel
    generalize a'.tmps.getD 19 undef = x19 at ha hrel
    generalize a'.tmps.getD 20 undef = x20 at ha hrel
    generalize a'.tmps.getD 21 undef = x21 at ha hrel
    generalize a'.tmps.getD 22 undef = x22 at ha hrel
    generalize a'.tmps.getD 23 undef = x23 at ha hrel
    generalize a'.tmps.getD 24 undef = x24 at ha hrel
    generalize a'.tmps.getD 25 undef = x25 at ha hrel
    generalize a'.tmps.getD 26 undef = x26 at ha hrel
    generalize a'.tmps.getD 27 undef = x27 at ha hrel
    generalize a'.tmps.getD 28 undef = x28 at ha hrel
    generalize a'.tmps.getD 29 undef = x29 at ha hrel
    generalize a'.tmps.getD 30 undef = x30 at ha hrel
    generalize a'.tmps.getD 31 undef = x31 at ha hrel
    generalize a'.tmps.getD 32 undef = x32 at ha hrel
    subst ha
    obtain ⟨all, next, rfl, rfl, hsp, hbx, hmk, hb⟩ := hrel
    have hcx := hbx.cell
    obtain ⟨wo, rfl⟩ : ∃ wo : World, wo = wr := ⟨_, rfl⟩
    have hal := hsp.lt
    have hp10 := hpH.out
    by_cases hne : next = 0
    · subst hne
      have hfin := Lib.hid hsp.done
      go_wp2
      refine leaves_marks hmk fun w' hb' => ⟨.int .u32 (all : Int), by simp [results, Tryd.results13, go_sem], ⟨all, rfl, hal, hfin.out⟩, hb.trans hb'⟩
    · have hnl : next < 2 ^ len := by
        refine Nat.lt_pow_two_of_testBit _ fun m hm => ?_
        cases hb2 : next.testBit m
        · rfl
        · have := lt_bit hal (hsp.nx m hb2); omega
      have hx32 : next < 4294967296 := by omega
      have hneb : ((next : Int) != 0) = true := by rw [bne_iff_ne]; omega
      have hstep := Lib.hid (hsp.step hn32 hltH.out)
      have hless := Lib.hid (hsp.less hn32 hltH.out hne)
      have hnxs := Lib.hid (show nxS ns wi all next = (orN ns (bitsL next) &&& wi) &&& (4294967295 - all) from rfl)
      have hyN := Lib.hid (fun y (hy : next.testBit y = true) => show y < len from lt_bit hnl hy)
      have horl := Lib.hid (fun l => orN_lt' hltH.out l)
      have hszo := hb.size
      have hszx : w.heap.size < wo.heap.size := hbx.lt
      clear hne hsp
      go_wp2_with fail
      refine (each_any next _).mono ?_
      rintro e w6 ⟨rfl, rfl⟩
      have bW := (Boxed.new wo 43 (.int .u32 0)).alloc (.cells #[.int .u32 (next : Int)] 43)
      have bB := Boxed.new (wo.alloc (.cells #[.int .u32 0] 43)) 43 (.int .u32 (next : Int))
      rw [World.size_alloc] at bB
      have bX := (hbx.alloc (.cells #[.int .u32 0] 43)).alloc (.cells #[.int .u32 (next : Int)] 43)
      have hbB := (hb.alloc hszo (.cells #[.int .u32 0] 43)).alloc (by simp; omega) (.cells #[.int .u32 (next : Int)] 43)
      have hszB : ((wo.alloc (.cells #[.int .u32 0] 43)).alloc (.cells #[.int .u32 (next : Int)] 43)).heap.size = wo.heap.size + 2 := by simp
      have hmB : Marks w.heap.size wo.heap.size ds ((wo.alloc (.cells #[.int .u32 0] 43)).alloc (.cells #[.int .u32 (next : Int)] 43)) := (hmk.keeps (KeepsOthers.alloc _ _)).keeps (KeepsOthers.alloc _ _)
      have htB := htbH.out.below hg hbB
      clear hbx hmk hb
      go_wp2
      refine (wpIn_wide (n := 4)).1 ?_
      generalize (wo.alloc (.cells #[.int .u32 0] 43)).alloc (.cells #[.int .u32 (next : Int)] 43) = wB at *
      generalize hbo : wo.heap.size = ba at *
      refine' rangeFunc_box (n := 4) (α := Bt next) (gf := 22) (lb := #[.pointer (some ⟨ba + 1, 0, none⟩)]) (by omega) rfl (enters_of Tryd.func22 (by kernel_rfl) rfl)
        (each_stops 3 (by omega) (ba + 1) w.heap.size next hx32 wB htB hg (by omega) bB (by omega)) (by omega) (fun h h' => KpE.trans h h') (kpE_b (by omega) (by omega)) (Below.refl _ _) (fun _ => rfl)
        (fun pre W => (Boxed W ba 43 (.int .u32 ((orN ns (pre.map (·.1)) : Nat) : Int)) ∧ Boxed W w.heap.size 41 (.slice A len cap)) ∧ Marks w.heap.size ba ds W ∧ Below w.heap.size w W)
        (fun _ _ _ => False) ?hI ?hIb (fun _ _ _ _ _ h _ _ => h) (fun _ _ _ _ _ h _ _ => h) ⟨⟨bW, bX⟩, hmB, hbB⟩ _ ?assign ?body ?done (fun _ _ _ _ _ _ h _ => h.elim)
      case hI => exact OwnFrom.and (OwnFrom.and (Own.from (boxed_own _ _ _) _) (Own.from (boxed_own _ _ _) _)) (OwnFrom.and (marks_own (by omega)) (ownFrom_below (Nat.le_refl _) (by omega)))
      case hIb => exact Boxy.and (Boxy.and (boxed_boxy _ (by omega)) (boxed_boxy _ (by omega))) (Boxy.and (marks_boxy (by omega)) (below_boxy (Nat.le_refl _) (by omega)))
      case assign =>
        intro l0 y W K hK
        gi_wp2
        exact hK
      case body =>
        rintro l0 pre y W ⟨⟨hba, hbx⟩, hmk, hb⟩ _
        have hjn := hyN.out y.1 y.2.2
        obtain ⟨b, o, rfl, hab, hcy⟩ := (hrH.out.later hb).wd hjn
        have hzl := hltH.out y.1
        have hcl := horl.out (pre.map (·.1))
        have hp10 := hpH.out
        have hsn := Lib.hid (show orN ns ((pre ++ [y]).map (·.1)) = orN ns (pre.map (·.1)) ||| ns.getD y.1 0 by rw [List.map_append]; exact orN_snoc ns _ y.1)
        have hcA := hba.cell
        have hfA := hba.frozen
        have hcX := hbx.cell
        generalize orN ns (pre.map (·.1)) = cur at *
        generalize ns.getD y.1 0 = z at *
        have ho2 := u32_or_nat cur z (by omega) (by omega)
        have hyi : (y.1 : Int) < len := by omega
        have hy0 : (0 : Int) ≤ (y.1 : Int) := by omega
        have hmkH := Lib.hid hmk; have hbH2 := Lib.hid hb; have hbaH := Lib.hid hba; have hbxH := Lib.hid hbx
        clear hmk hb hba hbx
        gi_wp2
        refine region_round_lit (by kernel_rfl) rfl (by kernel_rfl) (by kernel_rfl) ?_
        dsimp only [List.dropLast]
        repeat (gi_big_quiet_step (fail))
        refine wpQuietIn_nil ?_
        rintro _ ⟨nq, rfl⟩
        gi_wp2
        have hdk : KeepsOthers W (W.drewN nq) := ⟨Nat.le_refl _, fun _ _ h _ => h⟩
        refine ⟨(hdk.trans (KeepsOthers.setCell _ _ _)).from _, ((KpE.refl _ _ W).drewN nq).set (g := ba) (by omega) (by omega) _, ⟨?_, ?_⟩, (hmkH.out.keeps hdk).keeps (KeepsOthers.setCell _ _ _), (below_drewN hbH2.out nq).setCell (p := ⟨ba, 0, none⟩) (by omega) _⟩
        · rw [hsn.out]
          exact Boxed.set (W := W.drewN nq) _ hbaH.out
        · exact Boxed.kept (W := W.drewN nq) hbxH.out (grownBy_setCell' _ ba _) (by simp; omega)
      case done =>
        rintro D ys W hD hys ⟨⟨hba, hbx⟩, hmk, hb⟩ hK
        have hys' : ys.map (·.1) = bitsL next := hys
        rw [hys'] at hba
        have hcl := horl.out (bitsL next)
        have hp10 := hpH.out
        have hcA := hba.cell
        have hmkH := Lib.hid hmk; have hbH2 := Lib.hid hb; have hbxH := Lib.hid hbx; have hKH := Lib.hid hK
        clear hmk hb hba hbx hK hys hys'
        have hcx := hbxH.out.cell
        generalize orN ns (bitsL next) = ow at *
        have hand := u32_and_nat ow wi (by omega) (by omega)
        have hal2 : ow &&& wi ≤ ow := Nat.and_le_left
        have han2 := u32_andNot_nat (ow &&& wi) all (by omega) (by omega)
        rw [← hnxs.out] at han2
        have hnxl : nxS ns wi all next ≤ ow &&& wi := by rw [hnxs.out]; exact Nat.and_le_left
        have hor2 := u32_or_nat all (nxS ns wi all next) (by omega) (by omega)
        have hDl : D < W.heap.size := (Array.getElem?_eq_some_iff.1 hKH.out).1
        generalize nxS ns wi all next = nx at *
        generalize all ||| nx = al2 at *
        go_wp2
        refine ⟨⟨_, rfl, ?rel⟩, ?measure⟩
        case rel => exact ⟨al2, nx, rfl, rfl, hstep.out, hbxH.out, (Marks.push (T := ba) hmkH.out (by omega) (by omega) hKH.out).mono hDl, hbH2.out⟩
        case measure =>
          have := hless.out
          simpa [intOf] using this
end Go.Proofs.YtnkmfnnkophccaaDoor
