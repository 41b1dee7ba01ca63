/- SpanPrufer: the walk. -/
import Derived.Test.YtdmbbddkbfknlaaDoorCode
import Derived.Test.YtdmbbddkbfknlaaDoorDecode
import Derived.Test.YtdmbbddkbfknlaaDoorTreeRef
import Derived.Test.YtdmbbddkbfknlaaDoorInside
import Derived.Test.YtdmbbddkbfknlaaDoorIntsEq
import Derived.Test.YtdmbbddkbfknlaaDoorSameEdges
namespace Go.Proofs.YtdmbbddkbfknlaaDoor
open Go.RowKit Go.Shelf
attribute [local go_sem] Oper.semAt_some

theorem inside_nat {n : Nat} {zs : List Int} (h : insideB (n : Int) zs = true) : zs = natI (zs.map Int.toNat) ∧ ∀ c ∈ zs.map Int.toNat, c < n := by
  unfold insideB at h
  have h' : ∀ z ∈ zs, 0 ≤ z ∧ z < n := fun z hz => by
    have := List.all_eq_true.1 h z hz
    simpa [inB] using this
  constructor
  · unfold natI
    rw [List.map_map]
    exact (List.map_id zs).symm.trans (List.map_congr_left fun z hz => by have := h' z hz; simp; omega)
  · intro c hc
    obtain ⟨z, hz, rfl⟩ := List.mem_map.1 hc
    have := h' z hz
    omega
theorem inside_not {n : Nat} {zs : List Int} {len : Nat} (hl : zs.length = len) (h : insideB (n : Int) zs = false) : ∃ j, j < len ∧ ¬ (0 ≤ zs.getD j 0 ∧ zs.getD j 0 < (n : Int)) := by
  unfold insideB at h
  obtain ⟨z, hz, hn⟩ := List.all_eq_false.1 h
  obtain ⟨j, hj, rfl⟩ := List.mem_iff_getElem.1 hz
  refine ⟨j, by omega, fun hc => hn ?_⟩
  rw [show zs.getD j 0 = zs[j] by simp [List.getD, hj]] at hc
  simpa [inB] using hc
set_option maxHeartbeats 3200000 in
theorem spanPrufer_any (A : Option Addr) (len cap : Nat) (zs : List Int) (N : Int) (A2 : Option Addr) (len2 cap2 : Nat) (es : List E) (w : World) (hz : Rd w A len 1 (ints .i64 zs)) (hl : len ≤ 9223372036854775807)
    (hr : Rd w A2 len2 3 (ps3 .i64 .i64 .i64 es)) (hcap2 : len2 ≤ cap2) (hl2 : len2 ≤ 9223372036854775807) (htb : Tb w) (htl : 0 < w.heap.size) :
    Calls Tryd.prog 3 #[.slice A len cap, .agg #[.int .i64 N, .slice A2 len2 cap2]] w fun e w' => e = .returned (.bool true) ∧ Below w.heap.size w w' := by
  have hzl : zs.length = len := by simpa [ints] using hz.1
  have gb := (Below.refl _ w).alloc (Nat.le_refl _) (.cells #[.int .i64 N, .slice A2 len2 cap2] 25)
  have bG := Blk.new w 25 #[.int .i64 N, .slice A2 len2 cap2]
  have gs : (w.alloc (.cells #[.int .i64 N, .slice A2 len2 cap2] 25)).heap.size = w.heap.size + 1 := by simp
  have hzg := hz.later gb
  have gbH := Lib.hid gb; have bGH := Lib.hid bG
  have hrH := Lib.hid hr; have htbH := Lib.hid htb; have hzH := Lib.hid hz
  by_cases h8 : 8 < len
  · have HD := Lib.hid (decode_long A len cap (w.alloc (.cells #[.int .i64 N, .slice A2 len2 cap2] 25)) h8)
    have hd : (8 : Int) < len := by omega
    clear hz hzg gb bG hr htb hzl
    go_enter Tryd.func3, Tryd.ntmps3
    go_wp2_with fail
    refine HD.out.mono ?_
    rintro _ w1 ⟨rfl, hb⟩
    have hb1 := gbH.out.trans (hb.mono gbH.out.size)
    go_wp2_with fail
    go_ret
    exact ⟨rfl, hb1.alloc (by have := hb1.size; omega) _⟩
  · obtain ⟨n, hn⟩ : ∃ n, len + 2 = n := ⟨_, rfl⟩
    have hnI : (n : Int) = (len : Int) + 2 := by omega
    cases hin : insideB (n : Int) zs
    · have HD := Lib.hid (decode_bad A len cap zs (w.alloc (.cells #[.int .i64 N, .slice A2 len2 cap2] 25)) hzg (by omega) (by rw [hn]; exact inside_not hzl hin))
      have hd : decide ((8 : Int) < len) = false := decide_eq_false (by omega)
      have HI := Lib.hid (fun W (h : Below w.heap.size w W) => inside_any ((len : Int) + 2) A len cap zs W (hzH.out.later h) hl)
      rw [← hnI, hin, hnI] at HI
      clear hz hzg gb bG hr htb hin hzl hn hnI
      go_enter Tryd.func3, Tryd.ntmps3
      go_wp2_with fail
      refine HD.out.mono ?_
      rintro _ w1 ⟨rfl, hb⟩
      have hb1 := gbH.out.trans (hb.mono gbH.out.size)
      have hb2 := Lib.hid (hb1.alloc (show w.heap.size ≤ w1.heap.size from hb1.size) (.cells #[.int .i64 0, .slice none 0 0] 25))
      clear hb hb1
      go_wp2_with fail
      refine (HI.out _ hb2.out).mono ?_
      rintro _ _ ⟨rfl, rfl⟩
      go_wp2_with fail
      go_ret
      exact ⟨rfl, hb2.out⟩
    · obtain ⟨hzn, hcl⟩ := inside_nat hin
      obtain ⟨code, hcode⟩ : ∃ code, zs.map Int.toNat = code := ⟨_, rfl⟩
      rw [hcode] at hzn hcl
      have HD := Lib.hid (decode_ok A len cap zs code (w.alloc (.cells #[.int .i64 N, .slice A2 len2 cap2] 25)) hzg (by omega) hzn (by rw [hn]; exact hcl))
      rw [hn] at HD
      have hd : decide ((8 : Int) < len) = false := decide_eq_false (by omega)
      have HI := Lib.hid (fun W (h : Below w.heap.size w W) => inside_any ((len : Int) + 2) A len cap zs W (hzH.out.later h) hl)
      rw [← hnI, hin, hnI] at HI
      have hznH := Lib.hid hzn; have hnH := Lib.hid hn; have hclH := Lib.hid hcl
      have hn10 : n ≤ 10 := by omega
      clear hz hzg gb bG hr htb hin hzl hn hnI hcode hzn hcl
      go_enter Tryd.func3, Tryd.ntmps3
      go_wp2_with fail
      refine HD.out.mono ?_
      rintro _ w1 ⟨hb, A', c', ps, rfl, hrP, hcP, hDR⟩
      have hb1 := gbH.out.trans (hb.mono gbH.out.size)
      have hb2 := Lib.hid (hb1.alloc (show w.heap.size ≤ w1.heap.size from hb1.size) (.cells #[.int .i64 (n : Int), .slice A' ps.length c'] 25))
      have hT := Blk.new w1 25 #[.int .i64 (n : Int), .slice A' ps.length c']
      have bG1 := (bGH.out.below hb (by simp)).alloc (.cells #[.int .i64 (n : Int), .slice A' ps.length c'] 25)
      have hwb : Below w1.heap.size w1 (w1.alloc (.cells #[.int .i64 (n : Int), .slice A' ps.length c'] 25)) := (Below.refl _ _).alloc (Nat.le_refl _) _
      have hrP2 := Lib.hid (hrP.later hwb)
      have hz1 : w.heap.size < w1.heap.size := by have := hb.size; omega
      have hs2 : (w1.alloc (.cells #[.int .i64 (n : Int), .slice A' ps.length c'] 25)).heap.size = w1.heap.size + 1 := by simp
      have hTH := Lib.hid hT; have bG1H := Lib.hid bG1
      obtain ⟨hgT, hcT, hPR⟩ := hDR.tree hn10
      have hgTH := Lib.hid hgT; have hcTH := Lib.hid hcT; have hPRH := Lib.hid hPR; have hDRH := Lib.hid hDR
      have hpsl : ps.length ≤ 9 := by have := hDR.len; rw [List.length_range] at this; omega
      clear hT bG1 hwb hrP hb hb1 hgT hcT hPR hDR HD
      go_wp2_with fail
      generalize w1.alloc (.cells #[.int .i64 (n : Int), .slice A' ps.length c'] 25) = w2 at *
      refine (HI.out _ hb2.out).mono ?_
      rintro _ _ ⟨rfl, rfl⟩
      have t0 := hTH.out.cell (j := 0) (v := .int .i64 (n : Int)) rfl
      have t1 := hTH.out.cell (j := 1) (v := .slice A' ps.length c') rfl
      have HC := Lib.hid (code_ok n A' ps.length c' (toE ps) w2 hrP2.out (by omega) (htbH.out.below htl hb2.out) hgTH.out hcTH.out)
      clear HI
      go_wp2_with fail
      refine HC.out.mono ?_
      rintro _ w3 ⟨hb3, v3, l, rfl, hown3, hPR3⟩
      clear t0 t1 HC
      have hlc : l = code := hPR3.uniq hPRH.out
      subst hlc
      obtain ⟨A3, c3, rfl⟩ := own_slice hown3
      have hb03 := hb2.out.trans (hb3.mono hb2.out.size)
      have HN := Lib.hid (ints_any A3 l.length c3 (natI l) A len cap zs w3 (Rd.of_own hown3) (by have := hPR3.len; rw [List.length_range] at this; omega) (hzH.out.later hb03))
      rw [decide_eq_true hznH.out.symm] at HN
      have hT3 := hTH.out.below hb3 (by omega)
      have bG3 := Lib.hid (bG1H.out.below hb3 (by omega))
      have hrP3 := Lib.hid (hrP2.out.later hb3)
      have hT3H := Lib.hid hT3
      have hb03H := Lib.hid hb03
      have hz3 : w1.heap.size < w3.heap.size := by have := hb3.size; omega
      clear hown3 hPR3 hb3 hb03 hT3 bG1H hrP2 hTH
      go_wp2_with fail
      refine HN.out.mono ?_
      rintro _ w4 ⟨rfl, hb4⟩
      have hT4 := hT3H.out.below hb4 hz3
      have t0 := hT4.cell (j := 0) (v := .int .i64 (n : Int)) rfl
      have t1 := hT4.cell (j := 1) (v := .slice A' ps.length c') rfl
      have HT := Lib.hid (tree_any n A' ps.length c' (toE ps) w4 (hrP3.out.later hb4) hgTH.out true ⟨fun _ => hcTH.out, fun _ => rfl⟩)
      have hb04 := Lib.hid (hb03H.out.trans (hb4.mono hb03H.out.size))
      have bG4 := Lib.hid (bG3.out.below hb4 (by omega))
      have hs4 := hb4.size
      clear hb4 hT4 HN hT3H bG3
      go_wp2_with fail
      refine HT.out.mono ?_
      rintro _ w5 ⟨rfl, hb5⟩
      have bG5 := bG4.out.below hb5 (by omega)
      have k0 := bG5.cell (j := 0) (v := .int .i64 N) rfl
      have k1 := bG5.cell (j := 1) (v := .slice A2 len2 cap2) rfl
      have hb05 := Lib.hid (hb04.out.trans (hb5.mono hb04.out.size))
      have hr5 := Lib.hid (hrH.out.later hb05.out)
      have bG5H := Lib.hid bG5
      have hs5 := hb5.size
      clear t0 t1 HT bG4 hb04 hb5 bG5
      by_cases hok : gchk N es = 0
      case neg =>
        have HC := Lib.hid (code_bad N A2 len2 cap2 es w5 hr5.out hl2 hok)
        have HG := Lib.hid (fun W (h : Below w5.heap.size w5 W) => good_any N A2 len2 cap2 es W (hr5.out.later h) hl2 hcap2)
        rw [show (gchk N es == 0) = false from beq_eq_false_iff_ne.2 hok] at HG
        have hne : (gchk N es != 0) = true := bne_iff_ne.2 hok
        generalize gchk N es = z at *
        clear hok
        go_wp2_with fail
        refine HC.out.mono ?_
        rintro _ w6 ⟨rfl, hb6⟩
        have bG6 := bG5H.out.below hb6 (by omega)
        have k0 := bG6.cell (j := 0) (v := .int .i64 N) rfl
        have k1 := bG6.cell (j := 1) (v := .slice A2 len2 cap2) rfl
        have hG := Lib.hid (HG.out _ hb6)
        have hb06 := Lib.hid (hb05.out.trans (hb6.mono hb05.out.size))
        clear hb6 bG6
        go_wp2_with fail
        refine hG.out.mono ?_
        rintro _ w7 ⟨rfl, hb7⟩
        have hfin := Lib.hid (hb06.out.trans (hb7.mono hb06.out.size))
        clear hb7
        go_wp2_with fail
        go_ret
        exact ⟨rfl, hfin.out⟩
      obtain ⟨hN0, hN10, hl45, hokE, _⟩ := gchk_ok hok
      obtain ⟨m, rfl⟩ := Int.eq_ofNat_of_zero_le hN0
      rw [Int.toNat_natCast] at hokE
      rw [ps3_len hr5.out] at hl45
      have hm10 : m ≤ 10 := by omega
      have htb5 := Lib.hid (htbH.out.below htl hb05.out)
      by_cases hT : Tcond m es
      case neg =>
        have HC := Lib.hid (code_form m A2 len2 cap2 es w5 hr5.out hl2 htb5.out hok hT)
        have HG := Lib.hid (fun W (h : Below w5.heap.size w5 W) => good_any m A2 len2 cap2 es W (hr5.out.later h) hl2 hcap2)
        rw [show (gchk m es == 0) = true from beq_iff_eq.2 hok] at HG
        have HT := Lib.hid (fun W (h : Below w5.heap.size w5 W) => tree_any m A2 len2 cap2 es W (hr5.out.later h) hok false ⟨fun h => Bool.noConfusion h, fun h => absurd h hT⟩)
        clear hok hT hokE
        go_wp2_with fail
        refine HC.out.mono ?_
        rintro _ w6 ⟨rfl, hb6⟩
        have bG6 := bG5H.out.below hb6 (by omega)
        have k0 := bG6.cell (j := 0) (v := .int .i64 (m : Int)) rfl
        have k1 := bG6.cell (j := 1) (v := .slice A2 len2 cap2) rfl
        have hG := Lib.hid (HG.out _ hb6)
        have hb56 := Lib.hid hb6
        clear hb6
        go_wp2_with fail
        refine hG.out.mono ?_
        rintro _ w7 ⟨rfl, hb7⟩
        have hb57 := Lib.hid (hb56.out.trans (hb7.mono hb56.out.size))
        have bG7 := bG6.below hb7 (by have := hb56.out.size; omega)
        have k2 := bG7.cell (j := 0) (v := .int .i64 (m : Int)) rfl
        have k3 := bG7.cell (j := 1) (v := .slice A2 len2 cap2) rfl
        have hT := Lib.hid (HT.out _ hb57.out)
        clear hb7 bG6 bG7
        go_wp2_with fail
        refine hT.out.mono ?_
        rintro _ w8 ⟨rfl, hb8⟩
        have hfin := Lib.hid (hb05.out.trans ((hb57.out.trans (hb8.mono hb57.out.size)).mono hb05.out.size))
        clear hb8
        go_wp2_with fail
        go_ret
        exact ⟨rfl, hfin.out⟩
      have HC := Lib.hid (code_ok m A2 len2 cap2 es w5 hr5.out hl2 htb5.out hok hT)
      have HG := Lib.hid (fun W (h : Below w5.heap.size w5 W) => good_any m A2 len2 cap2 es W (hr5.out.later h) hl2 hcap2)
      rw [show (gchk m es == 0) = true from beq_iff_eq.2 hok] at HG
      have HT := Lib.hid (fun W (h : Below w5.heap.size w5 W) => tree_any m A2 len2 cap2 es W (hr5.out.later h) hok true ⟨fun _ => hT, fun _ => rfl⟩)
      have hokH := Lib.hid hokE
      have hlT := Lib.hid (show len2 + 1 = m from by have := hT.2.1; rw [ps3_len hr5.out] at this; exact this)
      clear hok hT hokE
      go_wp2_with fail
      refine HC.out.mono ?_
      rintro _ w6 ⟨hb6, v6, l6, rfl, hown6, hPR6⟩
      obtain ⟨A6, c6, rfl⟩ := own_slice hown6
      have hl6 := hPR6.len
      rw [List.length_range] at hl6
      have hl6H := Lib.hid hl6
      have hl68 : l6.length ≤ 8 := by omega
      have hr6 := Lib.hid (Rd.of_own hown6)
      have hsub := Lib.hid (fun c (hc : c ∈ l6) => List.mem_range.1 (hPR6.sub c hc))
      have hPR6H := Lib.hid hPR6
      have bG6 := bG5H.out.below hb6 (by omega)
      have k0 := bG6.cell (j := 0) (v := .int .i64 (m : Int)) rfl
      have k1 := bG6.cell (j := 1) (v := .slice A2 len2 cap2) rfl
      have hG := Lib.hid (HG.out _ hb6)
      have hb56 := Lib.hid hb6
      clear hb6 hl6 hown6 hPR6
      go_wp2_with fail
      refine hG.out.mono ?_
      rintro _ w7 ⟨rfl, hb7⟩
      have hb57 := Lib.hid (hb56.out.trans (hb7.mono hb56.out.size))
      have hr7 := Lib.hid (hr6.out.later hb7)
      have bG7 := bG6.below hb7 (by have := hb56.out.size; omega)
      have k2 := bG7.cell (j := 0) (v := .int .i64 (m : Int)) rfl
      have k3 := bG7.cell (j := 1) (v := .slice A2 len2 cap2) rfl
      have hT := Lib.hid (HT.out _ hb57.out)
      have bG7H := Lib.hid bG7
      clear hb7 bG6 bG7
      go_wp2_with fail
      refine hT.out.mono ?_
      rintro _ w8 ⟨rfl, hb8⟩
      have bG8 := bG7H.out.below hb8 (by have := hb57.out.size; omega)
      have hr8 := hr7.out.later hb8
      have hb58 := Lib.hid (hb57.out.trans (hb8.mono hb57.out.size))
      have HD := decode_ok A6 l6.length c6 (natI l6) l6 w8 hr8 hl68 rfl (fun c hc => by have := hsub.out c hc; have := hl6H.out; omega)
      rw [← hl6H.out] at HD
      have HDH := Lib.hid HD
      have bG8H := Lib.hid bG8
      clear hb8 bG8 hr8 HD k0 k1 k2 k3
      go_wp2_with fail
      refine HDH.out.mono ?_
      rintro _ w9 ⟨hb9, A9, c9, ps9, rfl, hr9, hc9, hDR9⟩
      have hl9 : len2 = ps9.length := by
        have h1 := hDR9.len
        rw [List.length_range] at h1
        have := hlT.out
        omega
      generalize ps9.length = L9 at *
      obtain rfl : len2 = L9 := hl9
      have hb59 := Lib.hid (hb58.out.trans (hb9.mono hb58.out.size))
      have bG9 := (bG8H.out.below hb9 (by have := hb58.out.size; omega)).alloc (.cells #[.int .i64 (m : Int), .slice A9 len2 c9] 25)
      have hU9 := Blk.new w9 25 #[.int .i64 (m : Int), .slice A9 len2 c9]
      have hwb : Below w9.heap.size w9 (w9.alloc (.cells #[.int .i64 (m : Int), .slice A9 len2 c9] 25)) := (Below.refl _ _).alloc (Nat.le_refl _) _
      have hb510 := Lib.hid (hb59.out.trans (hwb.mono hb59.out.size))
      have k0 := bG9.cell (j := 0) (v := .int .i64 (m : Int)) rfl
      have k1 := bG9.cell (j := 1) (v := .slice A2 len2 cap2) rfl
      have u0 := hU9.cell (j := 0) (v := .int .i64 (m : Int)) rfl
      have u1 := hU9.cell (j := 1) (v := .slice A9 len2 c9) rfl
      obtain ⟨hg9, hc9', hPR9⟩ := hDR9.tree hm10
      obtain ⟨_, _, _, hok9, _⟩ := gchk_ok hg9
      rw [Int.toNat_natCast] at hok9
      have hadj := fun x y => (show adj es x y = adj (toE ps9) x y from Bool.eq_iff_iff.2 (hPR6H.out.one List.nodup_range hPR9 x y))
      have HS := Lib.hid (sameEdges_true m A2 A9 len2 cap2 c9 es (toE ps9) _ (hr5.out.later hb510.out) (hr9.later hwb) hl45 hokH.out hok9 hadj)
      have hb010 := Lib.hid (hb05.out.trans (hb510.out.mono hb05.out.size))
      clear hU9 bG9 hwb hg9 hc9' hPR9 hok9 hadj hDR9 hr9 hc9 hb9
      go_wp2_with fail
      refine HS.out.mono ?_
      rintro _ w10 ⟨rfl, hb11⟩
      have hfin := Lib.hid (hb010.out.trans (hb11.mono hb010.out.size))
      clear hb11
      go_wp2_with fail
      go_ret
      exact ⟨rfl, hfin.out⟩
end Go.Proofs.YtdmbbddkbfknlaaDoor
