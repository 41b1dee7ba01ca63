/- lots.base.add: a word is put to a base. -/
import Derived.Test.YtglbabcefanooaaLotsLaw
import Derived.Test.YtglbabcefanooaaNMap
import Derived.Test.YtglbabcefanooaaLen32
namespace Go.Proofs.Ytglbabcefanooaa
open Go.RowKit Go.Maps

abbrev BMap (w : World) (b s : Nat) (f : Int → Option Int) : Prop := NMap Try.prog 3 24 .u32 w b s f
theorem zeroU (w : World) : (zeroValue 24).run Try.prog w = .ok (.int .u32 0) w := by go_simp
theorem BMap.look {w : World} {b s : Nat} {f : Int → Option Int} (h : BMap w b s f) {i : Int} (hi : (Lit.int .i64 i).wf = true) : (Instr.lookup 42 (.map (some b)) (.int .i64 i) true).run Try.prog w = .ok (.tuple #[.int .u32 ((f i).getD 0), .bool (f i).isSome]) w :=
  h.imap.lookup_ok Try.underlying3 Try.underlying42 Try.underlying24 zeroU hi
theorem wf_i64n {n : Nat} (h : n < 100000) : (Lit.int .i64 (n : Int)).wf = true := by
  have : IntKind.i64.min ≤ (n : Int) ∧ (n : Int) ≤ IntKind.i64.max := by
    rw [show IntKind.i64.min = -9223372036854775808 from rfl, show IntKind.i64.max = 9223372036854775807 from rfl]
    omega
  simpa [Lit.wf] using this
theorem wf_u32n {n : Nat} (h : n < 100000) : (Lit.int .u32 (n : Int)).wf = true := by
  have : IntKind.u32.min ≤ (n : Int) ∧ (n : Int) ≤ IntKind.u32.max := by
    rw [show IntKind.u32.min = 0 from rfl, show IntKind.u32.max = 4294967295 from rfl]
    omega
  simpa [Lit.wf] using this
def AddPost (b : Nat) (ws : List Nat) (x s : Nat) (w : World) (e : Ending) (w' : World) : Prop :=
  ∃ (bo : Bool) (f' : Int → Option Int) (s' : Nat), e = .returned (.bool bo) ∧ BMap w' b s' f' ∧ Bs f' s' (x :: ws) ∧ (s' ≤ s + 1 ∧ bo = decide (s' = s + 1)) ∧ w.mapTurned w' b
set_option maxHeartbeats 1600000 in
theorem add_any (b s x : Nat) (f : Int → Option Int) (ws : List Nat) (w : World) (hm : BMap w b s f) (hB : Bs f s ws) (hx : x < 1024) (hs : s ≤ 1000) :
    Calls Try.prog 16 #[.map (some b), .int .u32 (x : Int)] w (AddPost b ws x s w) := by
  have hmH := Lib.hid hm; have hBH := Lib.hid hB
  have htr := Lib.hid (show w.mapTurned w b by obtain ⟨D, h, _⟩ := hm; exact h.turned_refl)
  clear hm hB
  go_enter Try.func16, Try.ntmps16
  go_wp2
  go_loop [1] (fun v => ∃ y : Nat, v = .int .u32 (y : Int) ∧ y < 1024 ∧ Sp ws (x ^^^ y) = true) (fun v => (intOf v).toNat)
  case atStart => exact ⟨x, rfl, hx, by rw [Nat.xor_self]; exact Sp_zero ws⟩
  case round =>
    obtain ⟨y, rfl, hy, hsp⟩ := hrel
    by_cases hy0 : y = 0
    · subst hy0
      rw [Nat.xor_zero] at hsp
      have hd := Lib.hid (hBH.out.dep hsp)
      clear hsp
      go_wp2
      go_ret
      exact ⟨false, f, s, rfl, hmH.out, hd.out, ⟨by omega, by simp⟩, htr.out⟩
    · obtain ⟨h1, h2, h3⟩ := lenW_pos hy0
      obtain ⟨i, hi⟩ : ∃ i, lenW y = i + 1 := ⟨lenW y - 1, by omega⟩
      have hi1 : 2 ^ i ≤ y := by rw [hi] at h1; simpa using h1
      have hi2 : y < 2 ^ (i + 1) := by rw [← hi]; exact h2
      have hi10 : i < 10 := by
        refine Classical.byContradiction fun h => ?_
        have : 2 ^ 10 ≤ 2 ^ i := Nat.pow_le_pow_right (by omega) (by omega)
        omega
      have HL := Lib.hid (fun W => len32_any y i W hi1 hi2 hy)
      have hyb : ((y : Int) != 0) = true := by rw [bne_iff_ne]; omega
      have hspH := Lib.hid hsp
      clear h1 h2 h3 hsp hi1 hi2
      have hlk := hmH.out.look (wf_i64n (n := i + 1) (by omega))
      rw [show ((i + 1 : Nat) : Int) = (i : Int) + 1 by omega] at hlk
      cases hf : f ((i : Int) + 1) with
      | none =>
        rw [hf] at hlk
        have hput := Lib.hid (hBH.out.put hy0 hy hspH.out (by rw [hi, show ((i + 1 : Nat) : Int) = (i : Int) + 1 by omega]; exact hf))
        rw [hi, show ((i + 1 : Nat) : Int) = (i : Int) + 1 by omega] at hput
        have hwf := wf_i64n (n := i + 1) (by omega)
        rw [show ((i + 1 : Nat) : Int) = (i : Int) + 1 by omega] at hwf
        go_wp2_with fail
        refine (HL.out _).mono ?_
        rintro e w3 ⟨rfl, rfl⟩
        go_wp2_with (at_mapUpdate; refine wp_nmap_update _ rfl _ _ _ 42 rfl Try.underlying3 Try.underlying42 Try.underlying24 rfl hmH.out (by unfold maxLen; omega) rfl rfl hwf (wf_u32n (by omega)) hf ?_)
        intro w' hm' ht'
        go_wp2
        go_ret
        exact ⟨true, _, _, rfl, hm', hput.out, ⟨Nat.le_refl _, by simp⟩, ht'⟩
      | some c =>
        rw [hf] at hlk
        obtain ⟨v, rfl, hv0, hv, ht, hvs⟩ := hBH.out.at' _ _ hf
        have hlv : lenW v = i + 1 := by omega
        have hxl := lenW_xor hy0 hv0 (by rw [hi, hlv])
        obtain ⟨q1, _, _⟩ := lenW_pos hy0
        have hxo := u32_xor_nat y v (by omega) (by omega)
        have hyv : y ^^^ v < 1024 := xor_lt hy hv
        have hsp2 := Lib.hid (show Sp ws (x ^^^ (y ^^^ v)) = true by rw [← Nat.xor_assoc]; exact Sp_xor ws hspH.out hvs)
        simp only [Option.getD_some, Option.isSome_some] at hlk
        clear hf hvs ht
        go_wp2_with fail
        refine (HL.out _).mono ?_
        rintro e w3 ⟨rfl, rfl⟩
        go_wp2
        go_round
        case rel => exact ⟨y ^^^ v, rfl, hyv, hsp2.out⟩
        case measure => simp [intOf]; omega
theorem add_bo {ws : List Nat} {x s s' : Nat} {f f' : Int → Option Int} (h : Bs f s ws) (h' : Bs f' s' (x :: ws)) : decide (s' = s + 1) = !Sp ws x := by
  have h1 := h.sz
  have h2 := h'.sz
  rw [rkL_cons] at h2
  cases hs : Sp ws x
  · rw [hs] at h2; simp at h2; simp; omega
  · rw [hs] at h2; simp at h2; simp; omega
end Go.Proofs.Ytglbabcefanooaa
