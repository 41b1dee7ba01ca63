/- wish.All. -/
import Derived.Test.YtcmefjfhcdedjaaAllState
namespace Go.Proofs.Ytcmefjfhcdedjaa
open Go.RowKit

theorem row_intsA (n : Nat) (F : Nat → Int) : row n F = ints .i64 ((List.range n).map F) := by simp [row, ints]
theorem mAt_rangeA {n : Nat} {F : Nat → Int} {i : Nat} (h : i < n) : mAt ((List.range n).map F) i = F i := by simp [mAt, List.getD, h]
theorem tiRI : TI Try.prog 22 29 (.slice none 0 0) 1 24 := TI.mk' Try.underlying22 (by kernel_rfl) rfl (by decide)
def OnPost (B1 : Nat) (W0 : World) (n c d : Nat) (A B : Option Addr) (bn bw bl ba bo gl : Nat) (l r : List Rw) (i m : Nat) (M : Nat → Int) (rs : List Rw) (e : Ending) (w' : World) : Prop :=
  ∃ rs', e = .returned (.tuple #[]) ∧ AS W0.heap.size B1 W0 n c d A B bn bw bl ba bo gl w' M rs' ∧ rs'.length ≤ rs.length + 9 ^ m ∧ Ext n (rowF l) (rowF r) (fun F => ∀ k, k < i → F k = M k) rs rs'
set_option maxHeartbeats 3200000 in
set_option maxRecDepth 100000 in
theorem on_leaf (B1 : Nat) (W0 : World) (n c d : Nat) (A B : Option Addr) (bn bw bl ba bo gl : Nat) (f : AF W0.heap.size B1 bn bw bl ba bo gl) (l r : List Rw) (hL : RdR W0 A n l) (hR : RdR W0 B n r) (hc : wchk l r = 0)
    (used : Nat) (M : Nat → Int) (hM : PM n n used M) (rs : List Rw) (W : World) (hs : AS W0.heap.size B1 W0 n c d A B bn bw bl ba bo gl W M rs) (hcnt : rs.length < 43046721) :
    Calls Try.prog 15 #[.int .i64 n, .int .i64 used, .pointer (some ⟨bn, 0, none⟩), .pointer (some ⟨bw, 0, none⟩), .pointer (some ⟨bl, 0, none⟩), .pointer (some ⟨ba, 0, none⟩), .pointer (some ⟨bo, 0, none⟩)] W (OnPost B1 W0 n c d A B bn bw bl ba bo gl l r n 0 M rs) := by
  have hrd := Rd.of_own hs.ol
  rw [row_intsA] at hrd
  have hok : OkM n (mAt ((List.range n).map M)) := ⟨fun i hi => by rw [mAt_rangeA hi]; exact hM.inn i hi, fun i i' hi hi' e h0 => by rw [mAt_rangeA hi, mAt_rangeA hi'] at e; rw [mAt_rangeA hi] at h0; exact hM.inj i i' hi hi' e h0⟩
  have HH := Lib.hid (holds_any A n c l B d r (some ⟨gl, 0, none⟩) n _ W (hL.later hs.hb) (hR.later hs.hb) hrd hc hok)
  have hrdH := Lib.hid hrd
  have hokH := Lib.hid hok
  have kn := hs.kn; have kw0 := hs.kw0; have kw1 := hs.kw1; have kl := hs.kl
  have hfi := f.hi
  have hsz := hs.sz
  have hsH := Lib.hid hs
  have hn8 := (wchk_ok hc).1
  rw [hL.1] at hn8
  have hnn : ((n : Int) == (n : Int)) = true := by simp
  clear hs hrd hok hL hR hc hM
  go_enter Try.func15, Try.ntmps15
  go_wp2_with fail
  refine HH.out.mono ?_
  rintro e W1 ⟨⟨b, rfl, hb⟩, hb1⟩
  have hs1 := Lib.hid (hsH.out.later f hb1)
  have hbH := Lib.hid hb
  cases b
  · have hext : Ext n (rowF l) (rowF r) (fun F => ∀ k, k < n → F k = M k) rs rs := Ext.refl fun F hF hQ => by
      have h := hbH.out.2 ⟨fun i hi j hj => hF.acc i hi j (by rw [hQ i hi, ← mAt_rangeA (F := M) hi]; exact hj), fun i hi p hp hq j hj h8 => by
        obtain ⟨i', h1, h2, h3⟩ := hF.nob i hi p hp (fun q hq' => by rw [hQ i hi, ← mAt_rangeA (F := M) hi]; exact hq q hq') j hj h8
        exact ⟨i', h1, by rw [mAt_rangeA h1, ← hQ i' h1]; exact h2, h3⟩⟩
      cases h
    have hextH := Lib.hid hext
    clear hext hb hbH HH hb1
    go_wp2
    refine bodyPost_ret (results_none rfl _ _ _) rfl ?_
    exact ⟨rs, rfl, hs1.out, by simp, hextH.out⟩
  · have hst : Stab n (rowF l) (rowF r) (mAt ((List.range n).map M)) := ⟨hokH.out, (hb.1 rfl).1, (hb.1 rfl).2⟩
    have hstH := Lib.hid hst
    obtain ⟨v, kb, hall⟩ := hs1.out.ka
    have kl := hs1.out.kl
    have kbc := kb.cell
    have kbf := kb.frozen
    have kbH := Lib.hid kb
    have hallH := Lib.hid hall
    have hsz1 := hs1.out.sz
    have HCl := Lib.hid (fun X (hX : Below W1.heap.size W1 X) => cloneI_any gl n n _ X ((hrdH.out.later hb1).later hX) (by omega))
    have r0 := Below.refl W1.heap.size W1
    clear hst hb hbH HH kb hall kn kw0 kw1
    go_upto_region 2 with fail
    have hbl1 : bl < W1.heap.size := by omega
    have hba1 : ba < W1.heap.size := by omega
    go_region_law (first
      | (refine step_app (s := .tmp 17) (x := .tmp 20) _ tiRI (allA.alloc _) (rd_new1 wA (.slice (some ⟨g', 0, none⟩) n cap') 29) (fun u hu => by simp at hu; subst hu; rfl) (by omega) (by omega) (by simp; omega) rfl rfl rfl rfl ?_
         intro v' wC ownC gC atC
         obtain ⟨AC, cC, rfl⟩ := own_slice ownC
         have kbC := (kbA.out.alloc (.cells #[.slice (some ⟨g', 0, none⟩) n cap'] 29)).kept gC (fun e => own_neb hallH.out hfi.2.2.2.1 e.symm)
         have kbCc := kbC.cell
         have kbCf := kbC.frozen)
      | (go_simp
         go_at_call 17
         (go_loud (with_reducible refine (HCl.out _ (Below.drew r0)).mono ?_))
         rintro e wA ⟨g', cap', rfl, ownA, bA0⟩
         have bA := (Below.drew r0).trans bA0
         have bAs := bA.size
         have allA := own_below (own_drew hallH.out) bA0
         have kbA := Lib.hid (show Boxed wA ba 22 v from (bA.block ba hba1).trans kbH.out)
         have kbAc := kbA.out.cell
         have hbaA : ba < wA.heap.size := by omega)
      | fail)
    all_goals
      have hpush := Lib.hid (AS.push f hs1.out (W2 := wA) (v := v) (r := ⟨some ⟨g', 0, none⟩, n, cap', (List.range n).map M⟩) bA ownA kbc ownC gC)
      have hext : Ext n (rowF l) (rowF r) (fun F => ∀ k, k < n → F k = M k) rs (rs ++ [⟨some ⟨g', 0, none⟩, n, cap', (List.range n).map M⟩]) := ⟨fun _ h => List.mem_append_left _ h, fun q hq => by
        rcases List.mem_append.1 hq with h | h
        · exact .inl h
        · right
          rw [show q = ⟨some ⟨g', 0, none⟩, n, cap', (List.range n).map M⟩ by simpa using h]
          exact hstH.out, fun F _ hQ => ⟨_, List.mem_append_right _ (List.mem_singleton.2 rfl), fun i hi => by rw [hQ i hi]; exact mAt_rangeA hi⟩⟩
      have hextH := Lib.hid hext
      clear hext
      go_wp2
      refine bodyPost_ret (results_none rfl _ _ _) rfl ?_
      exact ⟨_, rfl, hpush.out, by simp, hextH.out⟩
set_option maxHeartbeats 6400000 in
set_option maxRecDepth 100000 in
theorem on_any (B1 : Nat) (W0 : World) (n c d : Nat) (A B : Option Addr) (bn bw bl ba bo gl : Nat) (f : AF W0.heap.size B1 bn bw bl ba bo gl) (l r : List Rw) (hL : RdR W0 A n l) (hR : RdR W0 B n r) (hc : wchk l r = 0) :
    ∀ (m i used : Nat) (M : Nat → Int) (rs : List Rw) (W : World), i + m = n → PM n i used M → AS W0.heap.size B1 W0 n c d A B bn bw bl ba bo gl W M rs → rs.length + 9 ^ m ≤ 43046721 →
    Calls Try.prog 15 #[.int .i64 i, .int .i64 used, .pointer (some ⟨bn, 0, none⟩), .pointer (some ⟨bw, 0, none⟩), .pointer (some ⟨bl, 0, none⟩), .pointer (some ⟨ba, 0, none⟩), .pointer (some ⟨bo, 0, none⟩)] W (OnPost B1 W0 n c d A B bn bw bl ba bo gl l r i m M rs) := by
  obtain ⟨hn8, _, hokL, hokR⟩ := wchk_ok hc
  rw [hL.1] at hn8 hokL hokR
  intro m
  induction m with
  | zero =>
    intro i used M rs W him hM hs hcnt
    obtain rfl : n = i := by omega
    exact on_leaf B1 W0 n c d A B bn bw bl ba bo gl f l r hL hR hc used M hM rs W hs (by rw [Nat.pow_zero] at hcnt; omega)
  | succ m ih =>
    intro i used M rs W him hM hs hcnt
    have hin : i < n := by omega
    have h9 : 9 ^ (m + 1) = 9 * 9 ^ m := by rw [Nat.pow_succ, Nat.mul_comm]
    rw [h9] at hcnt
    have h90 : 0 < 9 ^ m := Nat.pow_pos (by omega)
    obtain ⟨T, hT⟩ : ∃ T, T = 9 ^ m := ⟨_, rfl⟩
    rw [← hT] at hcnt h90 ih
    have h9H := Lib.hid (show 9 ^ (m + 1) = 9 * T by rw [h9, hT])
    have hTH := Lib.hid hT
    have hMi : M i = -1 := hM.rest i (Nat.le_refl _)
    have hfi := f.hi
    have hLH := Lib.hid hL; have hokLH := Lib.hid hokL
    have hMH := Lib.hid hM; have ihH := Lib.hid ih
    have h0 := Lib.hid hs
    have kn := hs.kn
    have hbn : bn < W.heap.size := by have := hs.sz; omega
    have hie : ((i : Int) == (n : Int)) = false := by rw [beq_eq_false_iff_ne]; omega
    have hi0 : (0 : Int) ≤ i := by omega
    have hinI : (i : Int) < n := by omega
    have hiw : IntKind.i64.wrap ((i : Int) + 1) = (i : Int) + 1 := IntWalk.i64_in _ (by omega)
    clear hL hR hc hokL hokR hM ih h9 hT
    go_enter Try.func15, Try.ntmps15
    go_wp2_with fail
    clear kn hbn hie
    go_loopw [9] (fun jv ws => ∃ (p : Nat) (x : Int) (rs' : List Rw), p ≤ n + 1 ∧ jv = .int .i64 ((p : Int) - 1) ∧ AS W0.heap.size B1 W0 n c d A B bn bw bl ba bo gl ws (updH M i x) rs' ∧ rs'.length ≤ rs.length + p * T ∧ Ext n (rowF l) (rowF r) (fun F => (∀ k, k < i → F k = M k) ∧ F i < (p : Int) - 1) rs rs') (fun jv _ => ((n : Int) - intOf jv).toNat)
    case atStart => exact ⟨0, M i, rs, by omega, by simp, by rw [updH_self rfl]; exact h0.out, by omega, Ext.refl fun F hF hQ => by have := (hF.ok.1 i hin).1; omega⟩
    case round =>
      clear hs h0
      obtain ⟨p, x, rs', hp, rfl, hs, hlen, hext⟩ := hrel
      have hsH := Lib.hid hs; have hextH := Lib.hid hext
      have kn := hs.kn; have kw0 := hs.kw0; have kl := hs.kl
      have ko : wr.cell? ⟨bo, 0, none⟩ = some (.func (.func 15) #[] #[.pointer (some ⟨bn, 0, none⟩), .pointer (some ⟨bw, 0, none⟩), .pointer (some ⟨bl, 0, none⟩), .pointer (some ⟨ba, 0, none⟩), .pointer (some ⟨bo, 0, none⟩)]) := hs.ko
      have hsz := hs.sz
      have zg := hs.ol.frozenAt i
      have kg : wr.cell? ⟨gl, i, none⟩ = some (.int .i64 (updH M i x i)) := (hs.ol.cellAt i (by omega)).trans (row_get hin)
      have hngl := f.ng
      by_cases hpn : p ≤ n
      · have hcnt2 : rs'.length + T ≤ 43046721 := by
          have : p * T ≤ 8 * T := Nat.mul_le_mul_right _ (by omega)
          omega
        have hsuc : (p + 1) * T = p * T + T := by rw [Nat.add_mul, Nat.one_mul]
        rcases Nat.eq_zero_or_pos p with hp0 | hp0
        · subst hp0
          have hst := hs.setL f i (-1)
          rw [updH_updH, updH_self hMi] at hst
          have HI := Lib.hid (ihH.out (i + 1) used M rs' _ (by omega) (hMH.out.none) hst hcnt2)
          rw [show (((0 : Nat) : Int) - 1) = -1 from rfl]
          have hpn' : (-1 : Int) < n := by omega
          clear hs hext hst
          go_wp2_with fail
          refine HI.out.mono ?_
          rintro e w5 ⟨rs2, rfl, hs2, hlen2, hext2⟩
          rw [← hTH.out] at hlen2
          have hs2H := Lib.hid hs2
          have hnew := Lib.hid ((hextH.out.trans hext2).weak (Q' := fun F => (∀ k, k < i → F k = M k) ∧ F i < ((0 + 1 : Nat) : Int) - 1) fun F hF hQ => .inr fun k hk => by
            by_cases hki : k = i
            · subst hki
              have := (hF.ok.1 k hin).1
              have := hQ.2
              omega
            · exact hQ.1 k (by omega))
          clear hs2 hext2 HI
          go_wp2
          go_roundw
          case rel => exact ⟨1, M i, rs2, by omega, by go_num, by rw [updH_self rfl]; exact hs2H.out, by omega, hnew.out⟩
          case measure => simp [intOf]
        · obtain ⟨q, rfl⟩ : ∃ q, p = q + 1 := ⟨p - 1, by omega⟩
          have hq1 : (((q + 1 : Nat) : Int) - 1) = q := by omega
          rw [hq1]
          have hqn : q < n := by omega
          have hq0 : (0 : Int) ≤ q := by omega
          have hqnI : (q : Int) < n := by omega
          have hbit := bit_i64W used q (by have := hMH.out.lt; omega)
          have hu8 := hMH.out.lt
          have hskip := Lib.hid (fun (h : ∀ F, Stab n (rowF l) (rowF r) F → (∀ k, k < i → F k = M k) → F i ≠ q) => hextH.out.weak (Q' := fun F => (∀ k, k < i → F k = M k) ∧ F i < ((q + 1 + 1 : Nat) : Int) - 1) fun F hF hQ => ⟨hQ.1, by have := h F hF hQ.1; have := hQ.2; omega⟩)
          cases hbq : used.testBit q
          · rw [hbq] at hbit
            simp only [Bool.false_eq_true, if_false] at hbit
            have hfit := hLH.out.2.2 _ (rat_mem (l := l) (k := i) (by rw [hLH.out.1]; exact hin))
            obtain ⟨bL, oL, hAL, hbL, hcL, _⟩ := (hLH.out.later hs.hb).at hin
            have HC := Lib.hid (contains_any (rat l i).A (rat l i).len (rat l i).cap (rowF l i) (q : Int) wr (hfit.1.later hs.hb) (by have := hfit.2.1; unfold maxLen at this; omega))
            have hacc := Lib.hid (fun F (hF : Stab n (rowF l) (rowF r) F) (h : F i = q) => (rkI_lt (hokLH.out.len i hin)).1 (hF.acc i hin q h).1)
            generalize rat l i = ra0 at *
            obtain ⟨A1, l1, c1, zs1⟩ := ra0
            by_cases hpo : pos (rowF l i) q < (rowF l i).length
            · rw [decide_eq_true hpo] at HC
              have hst := hs.setL f i (q : Int)
              rw [updH_updH] at hst
              have HI := Lib.hid (ihH.out (i + 1) (used ||| 2 ^ q) (updH M i q) rs' _ (by omega) (hMH.out.take hn8 hqn hbq) hst hcnt2)
              have hw2 := two_i64W q (by omega)
              have hor : bits .or .i64 (used : Int) ((2 : Int) ^ q) = ((used ||| 2 ^ q : Nat) : Int) := by
                have := i64_orW used (2 ^ q) (by omega) (by have : 2 ^ q ≤ 2 ^ 8 := Nat.pow_le_pow_right (by omega) (by omega); omega)
                rw [← this]; simp
              have hqw : IntKind.i64.wrap ((q : Int) + 1) = (q : Int) + 1 := IntWalk.i64_in _ (by omega)
              subst hAL
              clear hs hext hst hfit hbq hpo hacc hskip
              go_wp2_with fail
              refine HC.out.mono ?_
              rintro e w4 ⟨rfl, rfl⟩
              go_wp2_with fail
              refine HI.out.mono ?_
              rintro e w5 ⟨rs2, rfl, hs2, hlen2, hext2⟩
              rw [← hTH.out] at hlen2
              have hs2H := Lib.hid hs2
              have hnew := Lib.hid ((hextH.out.trans hext2).weak (Q' := fun F => (∀ k, k < i → F k = M k) ∧ F i < ((q + 1 + 1 : Nat) : Int) - 1) fun F hF hQ => by
                by_cases hFq : F i = q
                · right
                  intro k hk
                  unfold updH
                  by_cases hki : k = i
                  · subst hki
                    rw [if_pos rfl, hFq]
                  · rw [if_neg hki]
                    exact hQ.1 k (by omega)
                · left
                  exact ⟨hQ.1, by have := hQ.2; omega⟩)
              clear hs2 hext2 HI HC
              go_wp2
              go_roundw
              case rel => exact ⟨q + 1 + 1, q, rs2, by omega, by go_num, hs2H.out, by omega, hnew.out⟩
              case measure => simp [intOf]; omega
            · rw [decide_eq_false hpo] at HC
              have hnew := Lib.hid (hskip.out fun F hF _ h => hpo (hacc.out F hF h))
              have hqw : IntKind.i64.wrap ((q : Int) + 1) = (q : Int) + 1 := IntWalk.i64_in _ (by omega)
              subst hAL
              clear hs hext hfit hbq hpo hacc hskip
              go_wp2_with fail
              refine HC.out.mono ?_
              rintro e w4 ⟨rfl, rfl⟩
              go_wp2
              go_roundw
              case rel => exact ⟨q + 1 + 1, x, rs', by omega, by go_num, hsH.out, by omega, hnew.out⟩
              case measure => simp [intOf]; omega
          · rw [hbq] at hbit
            simp only [if_true] at hbit
            have hnew := Lib.hid (hskip.out fun F hF hQ h => by
              obtain ⟨k, hk, hMk⟩ := (hMH.out.bit q).1 hbq
              have := hF.ok.2 k i (by omega) hin (by rw [hQ k hk, hMk, h]) (by rw [hQ k hk, hMk]; omega)
              omega)
            have hqw : IntKind.i64.wrap ((q : Int) + 1) = (q : Int) + 1 := IntWalk.i64_in _ (by omega)
            clear hs hext hbq hskip
            go_wp2
            go_roundw
            case rel => exact ⟨q + 1 + 1, x, rs', by omega, by go_num, hsH.out, by omega, hnew.out⟩
            case measure => simp [intOf]; omega
      · obtain rfl : p = n + 1 := by omega
        have hst := hs.setL f i (-1)
        rw [updH_updH, updH_self hMi] at hst
        have hstH := Lib.hid hst
        have hq1 : (((n + 1 : Nat) : Int) - 1) = n := by omega
        rw [hq1]
        have hextF := Lib.hid (hext.weak (Q' := fun F => ∀ k, k < i → F k = M k) fun F hF hQ => ⟨hQ, by have := (hF.ok.1 i hin).2; omega⟩)
        clear hs hext hst
        go_wp2
        go_end0
        refine ⟨rs', rfl, hstH.out, ?_, hextF.out⟩
        rw [h9H.out]
        have : (n + 1) * T ≤ 9 * T := Nat.mul_le_mul_right _ (by omega)
        omega
end Go.Proofs.Ytcmefjfhcdedjaa
