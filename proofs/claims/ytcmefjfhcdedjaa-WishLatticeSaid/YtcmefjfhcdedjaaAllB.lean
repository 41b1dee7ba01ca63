/- wish.All: the whole. -/
import Derived.Test.YtcmefjfhcdedjaaAll
namespace Go.Proofs.Ytcmefjfhcdedjaa
open Go.RowKit

theorem all_bad (A : Option Addr) (n c : Nat) (l : List Rw) (B : Option Addr) (m d : Nat) (r : List Rw) (w : World) (hL : RdR w A n l) (hR : RdR w B m r) (hn : n ≤ 9223372036854775807) (hm : m ≤ 9223372036854775807) (hc : wchk l r ≠ 0) :
    Calls Try.prog 7 #[.agg #[.slice A n c, .slice B m d]] w fun e w' => e = .returned (.tuple #[.slice none 0 0, .int .i64 (wchk l r)]) ∧ Below w.heap.size w w' := by
  have HC := Lib.hid (wishCheck_any A n c l B m d r _ (hL.alloc (.cells #[.slice A n c, .slice B m d] 24)) (hR.alloc (.cells #[.slice A n c, .slice B m d] 24)) hn hm)
  have hcb : (wchk l r != 0) = true := by simpa using hc
  clear hL hR hc
  go_enter Try.func7, Try.ntmps7
  go_wp2_with fail
  refine HC.out.mono ?_
  rintro e w1 ⟨rfl, hb⟩
  have hbb := ((Below.refl _ w).alloc (Nat.le_refl _) (.cells #[.slice A n c, .slice B m d] 24)).trans (hb.mono (by simp))
  clear HC hb
  go_wp2
  go_ret2
  exact ⟨rfl, hbb⟩
def AllPost (n : Nat) (l r : List Rw) (w : World) (e : Ending) (w' : World) : Prop :=
  ∃ (v : Value) (rs : List Rw), e = .returned (.tuple #[v, .int .i64 0]) ∧ w'.ownsRow w.heap.size 29 1 v rs.length (rs.map rv) ∧ (∀ q ∈ rs, w'.ownsRow w.heap.size 3 1 (rv q) n (ints .i64 q.zs)) ∧ (∀ q ∈ rs, Stab n (rowF l) (rowF r) (mAt q.zs)) ∧
    (∀ F, Stab n (rowF l) (rowF r) F → ∃ q ∈ rs, Match n q F) ∧ Below w.heap.size w w'
set_option maxHeartbeats 3200000 in
set_option maxRecDepth 100000 in
theorem all_ok (A : Option Addr) (n c : Nat) (l : List Rw) (B : Option Addr) (d : Nat) (r : List Rw) (w : World) (hL : RdR w A n l) (hR : RdR w B n r) (hc : wchk l r = 0) :
    Calls Try.prog 7 #[.agg #[.slice A n c, .slice B n d]] w (AllPost n l r w) := by
  obtain ⟨h8, _, _, _⟩ := wchk_ok hc
  rw [hL.1] at h8
  have HC := Lib.hid (wishCheck_any A n c l B n d r _ (hL.alloc (.cells #[.slice A n c, .slice B n d] 24)) (hR.alloc (.cells #[.slice A n c, .slice B n d] 24)) (by omega) (by omega))
  rw [hc] at HC
  have hLH := Lib.hid hL; have hRH := Lib.hid hR; have hcH := Lib.hid hc
  have HR := Lib.hid (fun W b (h : Rd W (some ⟨b, 0, none⟩) 1 1 [Value.int .i64 (-1)]) => repeat_one b 1 (-1) n W h (by omega))
  rw [row_fill] at HR
  have g0 : (w.alloc (.cells #[.slice A n c, .slice B n d] 24)).cell? ⟨w.heap.size, 0, none⟩ = some (.slice A n c) := by go_simp
  have g1 : (w.alloc (.cells #[.slice A n c, .slice B n d] 24)).cell? ⟨w.heap.size, 1, none⟩ = some (.slice B n d) := by go_simp
  have gs : (w.alloc (.cells #[.slice A n c, .slice B n d] 24)).heap.size = w.heap.size + 1 := by simp
  have gb := (Below.refl _ w).alloc (Nat.le_refl _) (.cells #[.slice A n c, .slice B n d] 24)
  clear hL hR hc
  go_enter Try.func7, Try.ntmps7
  go_wp2_with fail
  generalize w.alloc (.cells #[.slice A n c, .slice B n d] 24) = wg at *
  refine HC.out.mono ?_
  rintro e w1 ⟨rfl, hb1⟩
  have c0 := below_cell hb1 (by omega) g0
  have c1 := below_cell hb1 (by omega) g1
  have hs1 := hb1.size
  have hbb := gb.trans (hb1.mono (by omega))
  clear HC g0 g1 gb hb1
  go_upto_region 5 with fail
  have kn := Boxed.new w1 3 (.int .i64 n)
  have hW1 : (w1.alloc (.cells #[.int .i64 (n : Int)] 3)).heap.size = w1.heap.size + 1 := by simp
  have d0 := alloc_cell (by omega) c0 (.cells #[.int .i64 (n : Int)] 3)
  have d1 := alloc_cell (by omega) c1 (.cells #[.int .i64 (n : Int)] 3)
  have hb1 := hbb.alloc (by omega) (.cells #[.int .i64 (n : Int)] 3)
  generalize w1.alloc (.cells #[.int .i64 (n : Int)] 3) = W1 at *
  generalize w1.heap.size = bn at *
  have hW1' : bn < W1.heap.size := by omega
  clear hW1
  clear c0 c1 hbb
  go_upto_region 6 with fail
  have kn2 := kn.alloc (.cells #[.slice none 0 0] 22)
  have ka2 := Boxed.new W1 22 (.slice none 0 0)
  have hW2 : (W1.alloc (.cells #[.slice none 0 0] 22)).heap.size = W1.heap.size + 1 := by simp
  have d0 := alloc_cell (by omega) d0 (.cells #[.slice none 0 0] 22)
  have d1 := alloc_cell (by omega) d1 (.cells #[.slice none 0 0] 22)
  have hb2 := hb1.alloc (by omega) (.cells #[.slice none 0 0] 22)
  generalize W1.alloc (.cells #[.slice none 0 0] 22) = W2 at *
  generalize W1.heap.size = ba at *
  have hW2' : ba < W2.heap.size := by omega
  clear hW2
  clear kn hb1
  have knc := kn2.cell
  have knl := kn2.lt
  go_wp2_with fail
  refine (HR.out _ _ (rd_lit1 (by first | rfl | simp) (.int .i64 (-1)) 3)).mono ?_
  rintro e wA ⟨rfl, ownA, bA⟩
  have e1 : (W2.alloc (Obj.cells #[Value.int .i64 (-1)] 3)).heap.size = W2.heap.size + 1 := by simp
  rw [e1] at ownA bA
  rw [e1]
  have hAl : W2.heap.size + 1 < wA.heap.size := (ownA.lt _ rfl).2
  have bA2 : Below W2.heap.size W2 wA := ((Below.refl _ W2).alloc (Nat.le_refl _) _).trans (bA.mono (by omega))
  have knA : Boxed wA bn 3 (.int .i64 n) := (bA2.block bn knl).trans kn2
  have kaA : Boxed wA ba 22 (.slice none 0 0) := (bA2.block ba ka2.lt).trans ka2
  have dA0 := below_cell bA2 (by omega) d0
  have dA1 := below_cell bA2 (by omega) d1
  have hbA := hb2.trans (bA2.mono (by omega))
  obtain ⟨gl, hgl⟩ : ∃ gl, gl = W2.heap.size + 1 := ⟨_, rfl⟩
  rw [← hgl] at ownA hAl
  rw [← hgl]
  clear kn2 ka2 d0 d1 hb2 knc bA bA2 e1
  have hgl1 : ba < gl := by omega
  have hgl2 : gl < wA.heap.size := hAl
  clear hgl hAl
  go_upto_region 7 with fail
  have kn3 := knA.alloc (.cells #[.slice (some ⟨gl, 0, none⟩) n n] 29)
  have ka3 := kaA.alloc (.cells #[.slice (some ⟨gl, 0, none⟩) n n] 29)
  have kl3 := Boxed.new wA 29 (.slice (some ⟨gl, 0, none⟩) n n)
  have ol3 := ownA.alloc (.cells #[.slice (some ⟨gl, 0, none⟩) n n] 29)
  have d0 := alloc_cell (by omega) dA0 (.cells #[.slice (some ⟨gl, 0, none⟩) n n] 29)
  have d1 := alloc_cell (by omega) dA1 (.cells #[.slice (some ⟨gl, 0, none⟩) n n] 29)
  have hW3 : (wA.alloc (.cells #[.slice (some ⟨gl, 0, none⟩) n n] 29)).heap.size = wA.heap.size + 1 := by simp
  have hb3 := hbA.alloc (by omega) (.cells #[.slice (some ⟨gl, 0, none⟩) n n] 29)
  generalize wA.alloc (.cells #[.slice (some ⟨gl, 0, none⟩) n n] 29) = W3 at *
  generalize wA.heap.size = bl at *
  have hW3' : bl < W3.heap.size := by omega
  clear hW3 knA kaA ownA dA0 dA1 hbA
  obtain ⟨bo, hbo⟩ : ∃ bo, bo = W3.heap.size := ⟨_, rfl⟩
  have hbw : w.heap.size < bn := by omega
  have hf : AF w.heap.size (W3.heap.size + 1) bn w.heap.size bl ba bo gl := ⟨by omega, by omega, by omega, by omega⟩
  have hbo3 : bo < W3.heap.size + 1 := by omega
  obtain ⟨W4, hW4⟩ : ∃ W4, W4 = W3.alloc (.cells #[onV bn w.heap.size bl ba bo] 39) := ⟨_, rfl⟩
  have hs4 : W4.heap.size = W3.heap.size + 1 := by rw [hW4]; simp
  have hAS : AS w.heap.size (W3.heap.size + 1) w n c d A B bn w.heap.size bl ba bo gl W4 (fun _ => -1) [] := by
    rw [hW4]
    refine ⟨(kn3.alloc _).cell, alloc_cell (by omega) d0 _, alloc_cell (by omega) d1 _, (kl3.alloc _).cell, ?_, own_base (by omega) (ol3.alloc _), ⟨_, ka3.alloc _, World.ownsRow_nil _ _ _ _⟩, (fun q hq => absurd hq (by simp)), hb3.alloc (by omega) _, by simp⟩
    rw [hbo]
    exact (Boxed.new W3 _ _).cell
  have HO := Lib.hid (on_any (W3.heap.size + 1) w n c d A B bn w.heap.size bl ba bo gl hf l r hLH.out hRH.out hcH.out n 0 0 (fun _ => -1) [] W4 (by omega) PM.start hAS (by
    have : 9 ^ n ≤ 9 ^ 8 := Nat.pow_le_pow_right (by omega) h8
    simpa using this))
  have hf1 := hf.hi
  have hASH := Lib.hid hAS
  have ko4 := hAS.ko
  have hboW : bo < W4.heap.size := by omega
  unfold onV at hW4 ko4
  have hW4H := Lib.hid hW4; have hboH := Lib.hid hbo
  clear hAS hW4 hbo kn3 ka3 kl3 ol3 d0 d1 hb3 HR
  go_upto_region 9 with fail
  rw [← hboH.out, ← hW4H.out]
  go_wp2_with fail
  refine HO.out.mono ?_
  rintro e w6 ⟨rs, rfl, hs6, _, hext⟩
  obtain ⟨v, kv, hov⟩ := hs6.ka
  have kvc := kv.cell
  have hs6H := Lib.hid hs6; have hextH := Lib.hid hext; have hovH := Lib.hid hov
  clear hs6 hext kv hov HO ko4
  go_wp2
  go_ret2
  refine ⟨v, rs, rfl, own_base (by omega) hovH.out, fun q hq => own_base (by omega) (hs6H.out.cl q hq), fun q hq => ?_, fun F hF => hextH.out.all F hF fun k hk => absurd hk (by omega), hs6H.out.hb⟩
  rcases hextH.out.good q hq with h | h
  · cases h
  · exact h
end Go.Proofs.Ytcmefjfhcdedjaa
