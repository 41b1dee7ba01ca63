/- SpanCut: the walk. -/
import Derived.Test.YtdmbbddkbfknlaaCutLaw
import Derived.Test.YtdmbbddkbfknlaaBitR
import Derived.Test.YtdmbbddkbfknlaaInside
namespace Go.Proofs.Ytdmbbddkbfknlaa
open Go.RowKit

set_option maxHeartbeats 3200000 in
set_option maxRecDepth 100000 in
theorem cut_walk (N : Int) (A : Option Addr) (len cap : Nat) (es : List E) (x : Nat) (w : World) (hr : Rd w A len 3 (ps3 .i64 .i64 .i64 es)) (hlen : len ≤ 9223372036854775807) (hcap : len ≤ cap) (hx : x < 4294967296) :
    Calls Try.prog 4 #[.agg #[.int .i64 N, .slice A len cap], .int .u32 (x : Int)] w fun e w' => e = .returned (.bool true) ∧ Below w.heap.size w w' := by
  have hel : es.length = len := ps3_len hr
  have gb := (Below.refl _ w).alloc (Nat.le_refl _) (.cells #[.int .i64 N, .slice A len cap] 24)
  have hK := Blk.new w 24 #[.int .i64 (N : Int), .slice A len cap]
  have g0 := hK.cell (j := 0) rfl
  have g1 := hK.cell (j := 1) rfl
  by_cases hok : gchk N es = 0
  · obtain ⟨h0, h10, h45, hokE, _⟩ := gchk_ok hok
    obtain ⟨n, rfl⟩ := Int.eq_ofNat_of_zero_le h0
    rw [Int.toNat_natCast] at hokE
    have hn10 : n ≤ 10 := by omega
    have hl45 : len ≤ 45 := by omega
    have HT := Lib.hid (spanLeast_ok n A len cap es _ (hr.later gb) hok)
    have HG := Lib.hid (fun W (h : Below w.heap.size w W) => good_any n A len cap es W (hr.later h) hlen hcap)
    rw [hok] at HG
    have hrH := Lib.hid hr; have hokH := Lib.hid hokE; have helH := Lib.hid hel
    have gbH := Lib.hid gb; have hKH := Lib.hid hK
    clear hr gb hK hok hokE hel h0 h10 h45
    go_enter Try.func4, Try.ntmps4
    go_wp2_with fail
    refine HT.out.mono ?_
    rintro _ w1 ⟨v, l, G, rfl, hown, hFG, hSr, hlp, hlN, hb1⟩
    obtain ⟨AL, cL, rfl⟩ := own_slice hown
    have hbw := gbH.out.trans (hb1.mono (by simp))
    have hK1 := hKH.out.below hb1 hKH.out.lt
    have q0 := hK1.cell (j := 0) rfl
    have q1 := hK1.cell (j := 1) rfl
    have HG1 := Lib.hid (HG.out w1 hbw)
    have hbwH := Lib.hid hbw; have hK1H := Lib.hid hK1; have hownH := Lib.hid hown
    have hFGH := Lib.hid hFG; have hSrH := Lib.hid hSr; have hlpH := Lib.hid hlp
    clear hb1 hbw hK1 g0 g1 HT hown hFG hSr hlp HG
    go_wp2_with fail
    refine HG1.out.mono ?_
    rintro _ w2 ⟨rfl, hb2⟩
    have hbw2 := Lib.hid (hbwH.out.trans (hb2.mono hbwH.out.size))
    have hK2 := Lib.hid (hK1H.out.below hb2 hK1H.out.lt)
    have hown2 := Lib.hid (own_below hownH.out hb2)
    have q0 := hK2.out.cell (j := 0) rfl
    have q1 := hK2.out.cell (j := 1) rfl
    have hS2 : w.heap.size < w2.heap.size := hK2.out.lt
    clear hb2 HG1 hbwH hK1H hownH
    go_wp2
    go_loopw [7, 26] (fun v i wr => ∃ k : Nat, k ≤ len ∧ i = .int .i64 (k : Int) ∧ v = .int .i64 (lcK x es k) ∧ Below w2.heap.size w2 wr) (fun _ i _ => len - (intOf i).toNat)
    case atStart => exact ⟨0, Nat.zero_le _, rfl, rfl, Below.refl _ _⟩
    case round =>
      obtain ⟨k, hk, rfl, rfl, hb⟩ := hrel
      have hKr := hK2.out.below hb hS2
      have q0 := hKr.cell (j := 0) rfl
      have q1 := hKr.cell (j := 1) rfl
      have hSr' : w.heap.size < wr.heap.size := hKr.lt
      have hSp := lcK_spec x es k
      have hsx := hb.size
      have hrr := hrH.out.later (hbw2.out.trans (hb.mono (by omega)))
      have hbH := Lib.hid hb
      by_cases hlt : k < len
      · obtain ⟨b, o, rfl, hab, hc1, hc2, hc3⟩ := hrr.triple hlt
        obtain ⟨p, q, hp, hq, hpN, hqN, _⟩ := hokH.out (eAt es k) (by unfold eAt; rw [List.getD, List.getElem?_eq_getElem (by rw [helH.out]; exact hlt)]; exact List.getElem_mem _)
        rw [show (es.getD k (0, 0, 0)).1 = (p : Int) from hp] at hc1
        rw [show (es.getD k (0, 0, 0)).2.1 = (q : Int) from hq] at hc2
        rw [show (es.getD k (0, 0, 0)).2.2 = wE es k from rfl] at hc3
        have hcr : crs x es k = (x.testBit p != x.testBit q) := by unfold crs; rw [hp, hq]; simp
        have HB1 := Lib.hid (fun W => bitR_any x p W hx (by omega))
        have HB2 := Lib.hid (fun W => bitR_any x q W hx (by omega))
        have hlc : lcK x es (k + 1) = if crs x es k && (decide (lcK x es k < 0) || decide (wE es k < wE es (lcK x es k).toNat)) then (k : Int) else lcK x es k := rfl
        have hba : Below w2.heap.size w2 (wr.alloc (.cells #[.int .i64 (p : Int), .int .i64 (q : Int), .int .i64 (wE es k)] 34)) := hb.alloc hsx _
        have hbaH := Lib.hid hba
        generalize x.testBit p = sp at *
        generalize x.testBit q = sq at *
        generalize hwk : wE es k = wk at *
        clear hp hq hpN hqN hb hba hKr
        rcases hSp with ⟨hneg, hm1, _⟩ | ⟨i, hi1, hi2, _, _⟩
        · rw [hm1] at hlc ⊢
          clear hrr hwk hneg hm1
          by_cases hss : sp = sq
          · subst hss
            have hz := Lib.hid (show lcK x es (k + 1) = -1 by rw [hlc, hcr]; cases sp <;> rfl)
            clear hlc hcr
            cases sp
            all_goals
              go_wp2
              go_quiet ((go_at_call 9; first | (with_reducible exact quiet_add_left (HB1.out _)) | (with_reducible exact quiet_left (HB1.out _)) | (with_reducible exact quiet_add_left (HB2.out _)) | (with_reducible exact quiet_left (HB2.out _))))
              go_wp2
              go_roundw
              case rel => exact ⟨k + 1, by omega, by go_num, by rw [hz.out], below_drewN hbaH.out _⟩
              case measure => simp [intOf]; omega
          · have hz := Lib.hid (show lcK x es (k + 1) = (k : Int) by rw [hlc, hcr]; cases sp <;> cases sq <;> first | exact absurd rfl hss | rfl)
            clear hlc hcr
            cases sp <;> cases sq <;> first | exact absurd rfl hss | skip
            all_goals
              clear hss
              go_wp2
              go_quiet ((go_at_call 9; first | (with_reducible exact quiet_add_left (HB1.out _)) | (with_reducible exact quiet_left (HB1.out _)) | (with_reducible exact quiet_add_left (HB2.out _)) | (with_reducible exact quiet_left (HB2.out _))))
              go_wp2
              go_roundw
              case rel => exact ⟨k + 1, by omega, by go_num, by rw [hz.out], below_drewN hbaH.out _⟩
              case measure => simp [intOf]; omega
        · have hil : i < len := by omega
          obtain ⟨_, _, hA, _, _, _, hci⟩ := hrr.triple hil
          cases hA
          rw [hi1] at hlc ⊢
          rw [show (es.getD i (0, 0, 0)).2.2 = wE es i from rfl] at hci
          rw [Int.toNat_natCast] at hlc
          clear hrr hwk hi1
          generalize wE es i = wi at *
          have hi0 : ¬ (i : Int) < 0 := by omega
          have hi0' : decide ((i : Int) < 0) = false := decide_eq_false hi0
          by_cases hss : sp = sq
          · subst hss
            have hz := Lib.hid (show lcK x es (k + 1) = (i : Int) by rw [hlc, hcr]; cases sp <;> rfl)
            clear hlc hcr
            cases sp
            all_goals
              go_wp2
              go_quiet ((go_at_call 9; first | (with_reducible exact quiet_add_left (HB1.out _)) | (with_reducible exact quiet_left (HB1.out _)) | (with_reducible exact quiet_add_left (HB2.out _)) | (with_reducible exact quiet_left (HB2.out _))))
              go_wp2
              go_roundw
              case rel => exact ⟨k + 1, by omega, by go_num, by rw [hz.out], below_drewN hbaH.out _⟩
              case measure => simp [intOf]; omega
          · by_cases hw : wk < wi
            · have hwd : decide (wk < wi) = true := decide_eq_true hw
              have hz := Lib.hid (show lcK x es (k + 1) = (k : Int) by rw [hlc, hcr, hwd, hi0']; cases sp <;> cases sq <;> first | exact absurd rfl hss | rfl)
              clear hlc hcr hw
              cases sp <;> cases sq <;> first | exact absurd rfl hss | skip
              all_goals
                clear hss
                go_wp2
                go_quiet ((go_at_call 9; first | (with_reducible exact quiet_add_left (HB1.out _)) | (with_reducible exact quiet_left (HB1.out _)) | (with_reducible exact quiet_add_left (HB2.out _)) | (with_reducible exact quiet_left (HB2.out _))))
                go_wp2
                go_roundw
                case rel => exact ⟨k + 1, by omega, by go_num, by rw [hz.out], below_drewN hbaH.out _⟩
                case measure => simp [intOf]; omega
            · have hwd : decide (wk < wi) = false := decide_eq_false hw
              have hz := Lib.hid (show lcK x es (k + 1) = (i : Int) by rw [hlc, hcr, hwd, hi0']; cases sp <;> cases sq <;> first | exact absurd rfl hss | rfl)
              clear hlc hcr hw
              cases sp <;> cases sq <;> first | exact absurd rfl hss | skip
              all_goals
                clear hss
                go_wp2
                go_quiet ((go_at_call 9; first | (with_reducible exact quiet_add_left (HB1.out _)) | (with_reducible exact quiet_left (HB1.out _)) | (with_reducible exact quiet_add_left (HB2.out _)) | (with_reducible exact quiet_left (HB2.out _))))
                go_wp2
                go_roundw
                case rel => exact ⟨k + 1, by omega, by go_num, by rw [hz.out], below_drewN hbaH.out _⟩
                case measure => simp [intOf]; omega
      · obtain rfl : k = len := by omega
        have hkr := kr_for (N := n) hokH.out (G := G) (by rw [helH.out]; exact hFGH.out)
        rw [helH.out] at hkr
        have hin : insideB (k : Int) (natI l) = true := by
          unfold insideB
          rw [List.all_eq_true]
          intro y hy
          obtain ⟨z, hz, rfl⟩ := List.mem_map.1 hy
          have := hkr.ins z (hlpH.out.mem_iff.1 hz)
          have h2 := helH.out
          have q1 : (0 : Int) ≤ ((z : Nat) : Int) := by omega
          have q2 : ((z : Nat) : Int) < (k : Int) := by omega
          unfold inB
          simp <;> omega
        have hownr := own_below hown2.out hb
        have HI := Lib.hid (inside_any (k : Int) AL l.length cL (natI l) wr (Rd.of_own hownr) (by omega))
        rw [hin] at HI
        have hownR := Lib.hid hownr
        clear hkr hin hownr
        rcases hSp with ⟨hneg, hm1, _⟩ | ⟨i, hi1, hi2, hi3, hi4⟩
        · rw [hm1]
          clear hneg hm1 hrr hb hKr hlt
          go_wp2_with fail
          refine HI.out.mono ?_
          rintro _ _ ⟨rfl, rfl⟩
          go_wp2
          go_ret
          exact ⟨rfl, hbw2.out.trans (hbH.out.mono (by omega))⟩
        · have hex := Lib.hid (cut_law (x := x) (es := es) (G := G) (l := l) (i := i) (by rw [helH.out]; exact hFGH.out) (by rw [helH.out]; exact hSrH.out) (by rw [helH.out]; exact hlpH.out) (by rw [helH.out]; exact hi2) hi3 (by rw [helH.out]; exact hi4))
          have hlin := Lib.hid (fun z (hz : z ∈ l) => show z < k from by
            have := kr_for (N := n) hokH.out (G := G) (by rw [helH.out]; exact hFGH.out)
            rw [helH.out] at this
            have h1 := this.ins z (hlpH.out.mem_iff.1 hz)
            have h2 := helH.out
            omega)
          rw [hi1]
          have hi0 : ¬ (i : Int) < 0 := by omega
          clear hi1 hi3 hi4 hrr hb hKr hlt hk
          go_wp2_with fail
          refine HI.out.mono ?_
          rintro _ _ ⟨rfl, rfl⟩
          clear HI
          obtain ⟨wo, hwo⟩ : ∃ wo : World, wo = wr := ⟨_, rfl⟩
          rw [← hwo] at hbH hownR
          go_wp2
          go_loopw [71] (fun jv wx => ∃ j : Nat, j ≤ l.length ∧ jv = .int .i64 (j : Int) ∧ (∀ y ∈ l.take j, crs x es y = true → wE es y ≠ wE es i) ∧ Below wo.heap.size wo wx) (fun jv _ => l.length - (intOf jv).toNat)
          case atStart => exact ⟨0, Nat.zero_le _, rfl, fun y hy => by simp at hy, hwo ▸ Below.refl _ _⟩
          case round =>
            obtain ⟨j, hj, rfl, hno, hb⟩ := hrel
            have hsx := hb.size
            have hs0 := hbH.out.size
            have hbw3 := hbw2.out.trans (hbH.out.mono (by omega))
            have hKr := (hK2.out.below hbH.out hS2).below hb (by have := (hK2.out.below hbH.out hS2).lt; exact this)
            have hSr' : w.heap.size < wr.heap.size := hKr.lt
            have q0 := hKr.cell (j := 0) rfl
            have q1 := hKr.cell (j := 1) rfl
            have hbwx := hbw3.trans (hb.mono hbw3.size)
            have hrr := hrH.out.later hbwx
            have hbwH := Lib.hid hbwx
            by_cases hlt : j < l.length
            · have hown3 := own_below hownR.out hb
              obtain ⟨bl, ol, rfl, hbl, hcl⟩ := (Rd.of_own hown3).int hlt
              rw [natI_at hlt] at hcl
              obtain ⟨y, hy⟩ : ∃ y, l.getD j 0 = y := ⟨_, rfl⟩
              have hym : y ∈ l := by rw [← hy, List.getD, List.getElem?_eq_getElem hlt]; exact List.getElem_mem _
              have hyk := hlin.out y hym
              have htk : l.take (j + 1) = l.take j ++ [y] := by rw [List.take_add_one, List.getElem?_eq_getElem hlt, ← hy, List.getD, List.getElem?_eq_getElem hlt]; rfl
              rw [hy] at hcl
              obtain ⟨b, o, rfl, hab, hc1, hc2, hc3⟩ := hrr.triple hyk
              obtain ⟨_, _, hA, _, _, _, hci⟩ := hrr.triple hi2
              cases hA
              obtain ⟨p, q, hp, hq, hpN, hqN, _⟩ := hokH.out (eAt es y) (by unfold eAt; rw [List.getD, List.getElem?_eq_getElem (by rw [helH.out]; exact hyk)]; exact List.getElem_mem _)
              rw [show (es.getD y (0, 0, 0)).1 = (p : Int) from hp] at hc1
              rw [show (es.getD y (0, 0, 0)).2.1 = (q : Int) from hq] at hc2
              rw [show (es.getD y (0, 0, 0)).2.2 = wE es y from rfl] at hc3
              rw [show (es.getD i (0, 0, 0)).2.2 = wE es i from rfl] at hci
              have hcr : crs x es y = (x.testBit p != x.testBit q) := by unfold crs; rw [hp, hq]; simp
              have HB1 := Lib.hid (fun W => bitR_any x p W hx (by omega))
              have HB2 := Lib.hid (fun W => bitR_any x q W hx (by omega))
              have hba := Lib.hid (hb.alloc hsx (.cells #[.int .i64 (p : Int), .int .i64 (q : Int), .int .i64 (wE es y)] 34))
              have hba2 := Lib.hid (hbwx.alloc hbwx.size (.cells #[.int .i64 (p : Int), .int .i64 (q : Int), .int .i64 (wE es y)] 34))
              have hnext := Lib.hid (fun (h : crs x es y = true → wE es y ≠ wE es i) => (show ∀ z ∈ l.take (j + 1), crs x es z = true → wE es z ≠ wE es i from fun z hz => by
                rw [htk] at hz
                rcases List.mem_append.1 hz with hz | hz
                · exact hno z hz
                · rw [List.mem_singleton.1 hz]; exact h))
              rw [hcr] at hnext
              generalize x.testBit p = sp at *
              generalize x.testBit q = sq at *
              generalize wE es y = wy at *
              generalize wE es i = wi at *
              clear hp hq hpN hqN hb hKr hown3 hy hym htk hno hrr hcr hbwx hbw3 hwo
              by_cases hss : sp = sq
              · subst hss
                have hz := Lib.hid (hnext.out fun h => absurd h (by cases sp <;> decide))
                clear hnext
                cases sp
                all_goals
                  go_wp2
                  go_quiet ((go_at_call 9; first | (with_reducible exact quiet_add_left (HB1.out _)) | (with_reducible exact quiet_left (HB1.out _)) | (with_reducible exact quiet_add_left (HB2.out _)) | (with_reducible exact quiet_left (HB2.out _))))
                  go_wp2
                  go_roundw
                  case rel => exact ⟨j + 1, by omega, by go_num, hz.out, below_drewN hba.out _⟩
                  case measure => simp [intOf]; omega
              · by_cases hw : wy = wi
                · subst hw
                  clear hnext
                  cases sp <;> cases sq <;> first | exact absurd rfl hss | skip
                  all_goals
                    clear hss
                    go_wp2
                    go_quiet ((go_at_call 9; first | (with_reducible exact quiet_add_left (HB1.out _)) | (with_reducible exact quiet_left (HB1.out _)) | (with_reducible exact quiet_add_left (HB2.out _)) | (with_reducible exact quiet_left (HB2.out _))))
                    go_wp2
                    go_ret
                    exact ⟨rfl, below_drewN hba2.out _⟩
                · have hwd : (wy == wi) = false := by simpa using hw
                  have hz := Lib.hid (hnext.out fun _ => hw)
                  clear hnext hw
                  cases sp <;> cases sq <;> first | exact absurd rfl hss | skip
                  all_goals
                    clear hss
                    go_wp2
                    go_quiet ((go_at_call 9; first | (with_reducible exact quiet_add_left (HB1.out _)) | (with_reducible exact quiet_left (HB1.out _)) | (with_reducible exact quiet_add_left (HB2.out _)) | (with_reducible exact quiet_left (HB2.out _))))
                    go_wp2
                    go_roundw
                    case rel => exact ⟨j + 1, by omega, by go_num, hz.out, below_drewN hba.out _⟩
                    case measure => simp [intOf]; omega
            · exfalso
              obtain ⟨y, hy, hy1, hy2⟩ := hex.out
              exact hno y (by rw [List.take_of_length_le (by omega)]; exact hy) hy1 hy2
  · have HT := Lib.hid (spanLeast_bad N A len cap es _ (hr.later gb) hlen (by simpa using hok))
    have HG := Lib.hid (fun W (h : Below w.heap.size w W) => good_any N A len cap es W (hr.later h) hlen hcap)
    have e1 : (gchk N es == 0) = false := by simpa using hok
    rw [e1] at HG
    have gbH := Lib.hid gb; have hKH := Lib.hid hK
    clear hr gb hK hok hel
    generalize gchk N es = q at *
    go_enter Try.func4, Try.ntmps4
    go_wp2_with fail
    refine HT.out.mono ?_
    rintro _ w1 ⟨z, rfl, hz, hb1⟩
    have hbw := gbH.out.trans (hb1.mono (by simp))
    have hK1 := hKH.out.below hb1 hKH.out.lt
    have q0 := hK1.cell (j := 0) rfl
    have q1 := hK1.cell (j := 1) rfl
    have HG1 := Lib.hid (HG.out w1 hbw)
    have hbwH := Lib.hid hbw; have hK1H := Lib.hid hK1
    clear hb1 hbw hK1 g0 g1 HT
    go_wp2_with fail
    refine HG1.out.mono ?_
    rintro _ w2 ⟨rfl, hb2⟩
    have hbw2 := hbwH.out.trans (hb2.mono hbwH.out.size)
    go_wp2
    go_ret
    exact ⟨rfl, hbw2⟩
theorem spanCut_any (N : Int) (A : Option Addr) (len cap : Nat) (es : List E) (x : Int) (w : World) (_ : (Lit.int .i64 N).wf = true) (hr : Rd w A len 3 (ps3 .i64 .i64 .i64 es)) (hlen : len ≤ maxLen) (hcap : len ≤ cap) (_ : ∀ a ∈ es, (Lit.int .i64 a.1).wf = true ∧ (Lit.int .i64 a.2.1).wf = true ∧ (Lit.int .i64 a.2.2).wf = true) (hx : (Lit.int .u32 x).wf = true) :
    Calls Try.prog 4 #[.agg #[.int .i64 N, .slice A len cap], .int .u32 x] w fun e w' => e = .returned (.bool true) ∧ Below w.heap.size w w' := by
  unfold maxLen at hlen
  have h2 : IntKind.u32.min ≤ x ∧ x ≤ IntKind.u32.max := by simpa [Lit.wf, IntKind.bits, IntKind.signed] using hx
  rw [show IntKind.u32.min = 0 by decide, show IntKind.u32.max = 4294967295 by decide] at h2
  obtain ⟨y, rfl⟩ := Int.eq_ofNat_of_zero_le h2.1
  exact cut_walk N A len cap es y w hr (by omega) hcap (by omega)
end Go.Proofs.Ytdmbbddkbfknlaa
