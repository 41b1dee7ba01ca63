/- slices.IndexFunc, slices.DeleteFunc at int. -/
import Derived.Test.YticffbcbfgboeaaRows
import Derived.Test.YticffbcbfgboeaaBase
import Derived.OwnWalkIn
import Derived.Lib.SliceRun
namespace Go.Proofs.Yticffbcbfgboeaa
open Go.RowKit

def idxI (p : Int → Bool) (cs : List Int) : Int := match cs.findIdx? p with | some k => k | none => -1
theorem idxI_none {p : Int → Bool} {cs : List Int} (h : ∀ j, j < cs.length → p (cs.getD j 0) = false) : idxI p cs = -1 := by
  unfold idxI
  rw [List.findIdx?_eq_none_iff.2]
  intro x hx
  obtain ⟨j, hj, rfl⟩ := List.mem_iff_getElem.1 hx
  simpa [List.getD, hj] using h j hj
theorem idxI_some {p : Int → Bool} {cs : List Int} {k : Nat} (hk : k < cs.length) (h : ∀ j, j < k → p (cs.getD j 0) = false) (hp : p (cs.getD k 0) = true) : idxI p cs = k := by
  unfold idxI
  rw [List.findIdx?_eq_some_iff_getElem.2 ⟨hk, by simpa [List.getD, hk] using hp, fun j hj => by simpa [List.getD, Nat.lt_trans hj hk] using h j hj⟩]
theorem idxI_ge (p : Int → Bool) (cs : List Int) : decide (0 ≤ idxI p cs) = cs.any p := by
  unfold idxI
  cases h : cs.findIdx? p with
  | none => simp [List.findIdx?_eq_none_iff] at h; simp; exact fun a hab => by simp [h a hab]
  | some k =>
    obtain ⟨hk, hp, _⟩ := List.findIdx?_eq_some_iff_getElem.1 h
    have : cs.any p = true := List.any_eq_true.2 ⟨cs[k], List.getElem_mem _, hp⟩
    simp [this]
set_option maxHeartbeats 400000 in
theorem indexFuncI (A : Option Addr) (len cap : Nat) (cs : List Int) (f : FuncId) (env : Array Value) (p : Int → Bool) (w : World) (hp : Rd w A len 1 (ints .i64 cs)) (hl : len ≤ 9223372036854775807)
    (hent : ∀ args w, (callFunc f args).run Try.prog w = .ok (.enter f args) w)
    (hcall : ∀ a w', a ∈ cs → Below w.heap.size w w' → Calls Try.prog f (#[.int .i64 a] ++ env) w' fun e w'' => e = .returned (.bool (p a)) ∧ Below w'.heap.size w' w'') :
    Calls Try.prog 37 #[.slice A len cap, .func (.func f) #[] env] w fun e w' => e = .returned (.int .i64 (idxI p cs)) ∧ Below w.heap.size w w' := by
  have hzl : cs.length = len := by simpa [ints] using hp.1
  have hzl := Lib.hid hzl
  have hpH := Lib.hid hp
  have hcallH := Lib.hid hcall
  clear hp hcall
  go_enter Try.func37, Try.ntmps37
  go_wp2
  go_loopw [8] (fun i wr => ∃ k : Nat, k ≤ len ∧ i = .int .i64 k ∧ (∀ j, j < k → p (cs.getD j 0) = false) ∧ Below w.heap.size w wr) (fun i _ => len - (intOf i).toNat)
  case atStart => exact ⟨0, Nat.zero_le _, rfl, fun j hj => absurd hj (by omega), Below.refl _ _⟩
  case round =>
    obtain ⟨k, hk, rfl, hn, hb⟩ := hrel
    have hnH := Lib.hid hn; clear hn
    by_cases hlt : k < len
    · obtain ⟨b, o, rfl, hab, hc1⟩ := (hpH.out.later hb).int hlt
      have hmem := Lib.hid (show cs.getD k 0 ∈ cs by simp [List.getD, show k < cs.length by rw [hzl.out]; exact hlt])
      have hsome := Lib.hid (idxI_some (p := p) (cs := cs) (k := k) (by rw [hzl.out]; exact hlt) hnH.out)
      have hnext : p (cs.getD k 0) = false → ∀ j, j < k + 1 → p (cs.getD j 0) = false := by
        intro h j hj
        rcases Nat.lt_or_ge j k with h' | h'
        · exact hnH.out j h'
        · obtain rfl : j = k := by omega
          exact h
      have hnextH := Lib.hid hnext; clear hnext
      generalize cs.getD k 0 = a at *
      go_wp2_with fail
      refine (hcallH.out a _ hmem.out hb).mono ?_
      rintro e w' ⟨rfl, hb'⟩
      have hb2 := hb.trans (hb'.mono hb.size)
      cases hpk : p a
      · have hpH' := Lib.hid hpk
        go_wp2
        go_roundw
        case rel => exact ⟨k + 1, by omega, by go_num, hnextH.out hpH'.out, hb2⟩
        case measure => simp [intOf]; omega
      · have hpH' := Lib.hid (hsome.out hpk)
        go_wp2
        go_ret
        exact ⟨by rw [hpH'.out]; rfl, hb2⟩
    · go_wp2
      go_ret
      exact ⟨by rw [idxI_none (by rw [hzl.out]; intro j hj; exact hnH.out j (by omega))]; rfl, hb⟩

theorem grown_trans {a b c : World} {r : Option Nat} (h : a.grownBy b r) (h' : b.grownBy c r) : a.grownBy c r :=
  ⟨h'.os.trans h.os, h'.tape.trans h.tape, h'.output.trans h.output, Nat.le_trans h.size h'.size, fun j hj hne => (h'.block j (Nat.lt_of_lt_of_le hj h.size) hne).trans (h.block j hj hne)⟩
theorem grown_of_below {a b : World} (hb : Below a.heap.size a b) (r : Option Nat) : a.grownBy b r := ⟨hb.os, hb.tape, hb.output, hb.size, fun j hj _ => hb.block j hj⟩
/-- a row cut short -/
theorem own_short {w : World} {b e n cap g : Nat} {xs : List Value} (h : w.ownsRow b e 1 (.slice (some ⟨g, 0, none⟩) n cap) n xs) {i : Nat} (hi : i ≤ n) : w.ownsRow b e 1 (.slice (some ⟨g, 0, none⟩) i cap) i (xs.take i) := by
  refine ⟨by rw [List.length_take, h.1]; omega, .inr ?_⟩
  rcases h.2 with ⟨h1, _⟩ | ⟨g', cap', cur, h1, h2, h3, h4, h5, h6, h7⟩
  · cases h1
  · cases h1
    exact ⟨g, cap, cur, rfl, h2, h3, by omega, h5, h6, by rw [← h7, List.take_take]; congr 1; omega⟩
theorem own_cleared {b e n cap g i : Nat} (z : Value) : ∀ (m o : Nat) (w : World) (xs : List Value), i ≤ o → o + m ≤ n → w.ownsRow b e 1 (.slice (some ⟨g, 0, none⟩) n cap) n xs →
    (∃ ys, (w.setCells g o (List.replicate m z)).ownsRow b e 1 (.slice (some ⟨g, 0, none⟩) n cap) n ys ∧ ys.take i = xs.take i) ∧ w.grownBy (w.setCells g o (List.replicate m z)) (some g)
  | 0, o, w, xs, _, _, h => ⟨⟨xs, h, rfl⟩, World.grownBy.refl _ _⟩
  | m + 1, o, w, xs, hi, ho, h => by
    have hs := h.stored o z
    have ih := own_cleared (i := i) z m (o + 1) _ _ (by omega) (by omega) hs.1
    refine ⟨?_, ?_⟩
    · obtain ⟨ys, h1, h2⟩ := ih.1
      exact ⟨ys, h1, by rw [h2, List.take_set, List.set_eq_of_length_le (by rw [List.length_take]; omega)]⟩
    · exact grown_trans hs.2 ih.2

def filN (p : Int → Bool) (xs : List Int) : List Int := xs.filter fun x => !p x
theorem filN_snoc (p : Int → Bool) (xs : List Int) (k : Nat) (hk : k < xs.length) : filN p (xs.take (k + 1)) = filN p (xs.take k) ++ if p (xs.getD k 0) then [] else [xs.getD k 0] := by
  unfold filN
  rw [List.take_add_one, List.filter_append, List.getElem?_eq_getElem hk]
  simp only [List.getD, List.getElem?_eq_getElem hk, Option.getD_some, Option.toList_some]
  cases h : p xs[k] <;> simp [h]
theorem ints_setK (l : List Int) (k : Nat) (a : Int) : (ints .i64 l).set k (.int .i64 a) = ints .i64 (l.set k a) := by simp [ints, List.map_set]
theorem ints_take (l : List Int) (k : Nat) : (ints .i64 l).take k = ints .i64 (l.take k) := by simp [ints]
set_option maxHeartbeats 1600000 in
set_option maxRecDepth 100000 in
theorem delI (base n : Nat) (v : Value) (xs : List Int) (f : FuncId) (env : Array Value) (p : Int → Bool) (w : World) (hown : w.ownsRow base 3 1 v n (ints .i64 xs)) (hn : n ≤ 65536)
    (hent : ∀ args w, (callFunc f args).run Try.prog w = .ok (.enter f args) w)
    (hcall : ∀ a W, w.grownBy W v.ownBlock → Calls Try.prog f (#[.int .i64 a] ++ env) W fun e w'' => e = .returned (.bool (p a)) ∧ W = w'') :
    Calls Try.prog 30 #[v, .func (.func f) #[] env] w fun e w' => ∃ v', e = .returned v' ∧ w'.ownsRow base 3 1 v' (filN p xs).length (ints .i64 (filN p xs)) ∧ v'.ownBlock = v.ownBlock ∧ w.grownBy w' v.ownBlock := by
  have hlen : xs.length = n := by simpa [ints] using hown.1
  obtain ⟨A, cap, rfl⟩ := own_slice hown
  have HI := Lib.hid (indexFuncI A n cap xs f env p w (Rd.of_own hown) (by omega) hent (fun a W _ hb => (hcall a W (grown_of_below hb _)).mono fun e w'' h => ⟨h.1, by rw [← h.2]; exact Below.refl _ _⟩))
  have hownH := Lib.hid hown; have hcallH := Lib.hid hcall; have hlenH := Lib.hid hlen
  clear hown hcall hlen
  by_cases hany : ∃ k, k < n ∧ p (xs.getD k 0) = true
  case neg =>
    have hno : ∀ j, j < n → p (xs.getD j 0) = false := fun j hj => Bool.eq_false_iff.2 fun h => hany ⟨j, hj, h⟩
    have hf : filN p xs = xs := by
      unfold filN
      refine List.filter_eq_self.2 fun a ha => ?_
      obtain ⟨j, hj, rfl⟩ := List.mem_iff_getElem.1 ha
      have := hno j (by rw [← hlenH.out]; exact hj)
      simp only [List.getD, List.getElem?_eq_getElem hj, Option.getD_some] at this
      rw [this]; rfl
    rw [idxI_none (by rw [hlenH.out]; exact hno)] at HI
    have hfin := Lib.hid (show w.ownsRow base 3 1 (.slice A n cap) (filN p xs).length (ints .i64 (filN p xs)) by rw [hf, hlenH.out]; exact hownH.out)
    clear hno hany hf
    go_enter Try.func30, Try.ntmps30
    go_wp2_with fail
    refine HI.out.mono ?_
    rintro e w1 ⟨rfl, hb1⟩
    have hg1 := grown_of_below hb1 (Value.ownBlock (.slice A n cap))
    have hfin2 := Lib.hid (own_below hfin.out hb1)
    clear hb1
    go_wp2
    go_ret
    exact ⟨_, rfl, hfin2.out, rfl, hg1⟩
  -- some one goes
  obtain ⟨k0, hk0, hp0, hbefore⟩ : ∃ k, k < n ∧ p (xs.getD k 0) = true ∧ ∀ j, j < k → p (xs.getD j 0) = false := by
    obtain ⟨k, hk, hpk⟩ := hany
    have : ∀ (m k : Nat), k < m → k < n → p (xs.getD k 0) = true → ∃ k, k < n ∧ p (xs.getD k 0) = true ∧ ∀ j, j < k → p (xs.getD j 0) = false := by
      intro m
      induction m with
      | zero => intro k hk; omega
      | succ m ih =>
        intro k hk hkn hpk
        by_cases h : ∃ j, j < k ∧ p (xs.getD j 0) = true
        · obtain ⟨j, hj, hpj⟩ := h
          exact ih j (by omega) (by omega) hpj
        · exact ⟨k, hkn, hpk, fun j hj => Bool.eq_false_iff.2 fun h' => h ⟨j, hj, h'⟩⟩
    exact this _ k (Nat.lt_succ_self _) hk hpk
  rw [idxI_some (by rw [hlenH.out]; exact hk0) hbefore hp0] at HI
  obtain ⟨g, rfl⟩ : ∃ g, A = some ⟨g, 0, none⟩ := by
    rcases hownH.out.2 with ⟨_, h⟩ | ⟨g, _, _, h, _⟩
    · omega
    · cases h; exact ⟨g, rfl⟩
  have hcap : n ≤ cap ∧ cap ≤ 9223372036854775807 := by
    rcases hownH.out.2 with ⟨h, _⟩ | ⟨g', cap', cur, h, _, _, h4, h5, _⟩
    · cases h
    · cases h; exact ⟨h4, h5⟩
  have hfirst : filN p (xs.take (k0 + 1)) = xs.take k0 := by
    rw [filN_snoc p xs k0 (by rw [hlenH.out]; exact hk0), hp0]
    simp only [if_true, List.append_nil]
    refine List.filter_eq_self.2 fun a ha => ?_
    obtain ⟨j, hj, rfl⟩ := List.mem_iff_getElem.1 ha
    rw [List.length_take] at hj
    have := hbefore j (by omega)
    rw [List.getElem_take]
    simp only [List.getD, List.getElem?_eq_getElem (show j < xs.length by omega), Option.getD_some] at this
    rw [this]; rfl
  have hfirstH := Lib.hid hfirst
  have hsn := Lib.hid (fun k (hk : k < n) => filN_snoc p xs k (by rw [hlenH.out]; exact hk))
  clear hbefore hp0 hany hfirst
  have hk01 : IntKind.i64.wrap ((k0 : Int) + 1) = ((k0 + 1 : Nat) : Int) := by rw [IntWalk.i64_in _ (by omega)]; omega
  have hneg : ((k0 : Int) == -1) = false := beq_false_of_ne (by omega)
  go_enter Try.func30, Try.ntmps30
  go_wp2_with fail
  refine HI.out.mono ?_
  rintro e w1 ⟨rfl, hb1⟩
  have hg1 := Lib.hid (grown_of_below hb1 (some g))
  have hown1 := Lib.hid (own_below hownH.out hb1)
  clear hb1 HI
  go_wp2
  go_loopw [5, 6, 7] (fun i j _ wr => ∃ (a b : Nat) (ys : List Int), a < b ∧ b ≤ n ∧ i = .int .i64 a ∧ j = .int .i64 b ∧ wr.ownsRow base 3 1 (.slice (some ⟨g, 0, none⟩) n cap) n (ints .i64 ys) ∧ ys.length = n ∧ ys.take a = filN p (xs.take b) ∧ (∀ q, b ≤ q → ys.getD q 0 = xs.getD q 0) ∧ w.grownBy wr (some g)) (fun _ j _ _ => n - (intOf j).toNat)
  case atStart => exact ⟨k0, k0 + 1, xs, by omega, by omega, rfl, rfl, hown1.out, hlenH.out, hfirstH.out.symm, fun _ _ => rfl, hg1.out⟩
  case round =>
    obtain ⟨wo, rfl⟩ : ∃ wo : World, wo = wr := ⟨_, rfl⟩
    obtain ⟨a, b, ys, hab, hb, rfl, rfl, ho, hyl, hta, hdr, hg⟩ := hrel
    by_cases hlt : b < n
    · have hc := (ho.cellAt b (by omega)).trans (ints_get (k := .i64) (zs := ys) (j := b) (by omega))
      have hz := hdr b (Nat.le_refl _)
      rw [hz] at hc
      have hs := Lib.hid (hsn.out b hlt)
      have hst := fun z => ho.stored a (.int .i64 z)
      have hca := Lib.hid (ho.cellAt a (by omega)); have hfa := Lib.hid (ho.frozenAt a)
      have hcc := Lib.hid (hcallH.out (xs.getD b 0) wo hg)
      have hstH := Lib.hid hst
      have hoH := Lib.hid ho; have htaH := Lib.hid hta; have hdrH := Lib.hid hdr; have hgH := Lib.hid hg
      clear ho hta hdr hg hz hst
      have hb1 : IntKind.i64.wrap ((b : Int) + 1) = ((b + 1 : Nat) : Int) := by rw [IntWalk.i64_in _ (by omega)]; omega
      have ha1 : IntKind.i64.wrap ((a : Int) + 1) = ((a + 1 : Nat) : Int) := by rw [IntWalk.i64_in _ (by omega)]; omega
      have hbn : (b : Int) < n := by omega
      have hb0 : (0 : Int) ≤ b := by omega
      have han : (a : Int) < n := by omega
      have ha0 : (0 : Int) ≤ a := by omega
      have hyaH := Lib.hid (ints_get (k := .i64) (zs := ys) (j := a) (by omega))
      generalize xs.getD b 0 = z at *
      go_wp2_with fail
      refine hcc.out.mono ?_
      rintro e w2 ⟨rfl, rfl⟩
      clear hcc
      cases hpz : p z
      · rw [hpz] at hs
        have h1 := Lib.hid (hstH.out z)
        rw [ints_setK] at h1
        have hca' := hca.out.trans hyaH.out
        have hfa' := hfa.out
        have hfin := Lib.hid (And.intro h1.out.1 (And.intro (show (ys.set a z).length = n by rw [List.length_set]; exact hyl) (And.intro (show (ys.set a z).take (a + 1) = filN p (xs.take (b + 1)) by
          rw [hs.out, ← htaH.out, List.take_add_one, List.take_set, List.set_eq_of_length_le (by rw [List.length_take]; omega), List.getElem?_set_self (by omega)]; simp) (And.intro (show ∀ q, b + 1 ≤ q → (ys.set a z).getD q 0 = xs.getD q 0 from fun q hq => by
          rw [← hdrH.out q (by omega)]
          simp only [List.getD]
          rw [List.getElem?_set_ne (by omega)]) (grown_trans hgH.out h1.out.2)))))
        clear h1 hstH hoH htaH hdrH hgH hs hca hfa hyaH hsn
        go_wp2
        go_roundw
        case rel => exact ⟨a + 1, b + 1, ys.set a z, by omega, by omega, by go_num, by go_num, hfin.out.1, hfin.out.2.1, hfin.out.2.2.1, hfin.out.2.2.2.1, hfin.out.2.2.2.2⟩
        case measure => simp [intOf]; omega
      · rw [hpz] at hs
        have hfin := Lib.hid (And.intro hoH.out (And.intro hyl (And.intro (show ys.take a = filN p (xs.take (b + 1)) by rw [hs.out, ← htaH.out]; simp) (And.intro (show ∀ q, b + 1 ≤ q → ys.getD q 0 = xs.getD q 0 from fun q hq => hdrH.out q (by omega)) hgH.out))))
        clear hstH hoH htaH hdrH hgH hs hca hfa hyaH hsn
        go_wp2
        go_roundw
        case rel => exact ⟨a, b + 1, ys, by omega, by omega, rfl, by go_num, hfin.out.1, hfin.out.2.1, hfin.out.2.2.1, hfin.out.2.2.2.1, hfin.out.2.2.2.2⟩
        case measure => simp [intOf]; omega
    · obtain rfl : b = n := by omega
      have hxb : xs.take b = xs := List.take_of_length_le (by rw [hlenH.out]; exact Nat.le_refl _)
      rw [hxb] at hta
      have hal : (filN p xs).length = a := by rw [← hta, List.length_take]; omega
      have hcl : ∀ ty, (Builtin.clear_ #[29] ty #[.slice (some ⟨g, a, none⟩) (b - a) (cap - a)]).run Try.prog wo = .ok (.tuple #[]) (wo.setCells g a (List.replicate (b - a) (.int .i64 0))) :=
        fun ty => Lib.run_clear_slice wo _ _ ty _ Try.underlying29 (by intro w; rfl) rfl rfl g a _ _ (by omega) (fun j hj => by
          have := (ho.cellAt (a + j) (by omega)).trans (ints_get (k := .i64) (zs := ys) (j := a + j) (by omega))
          rw [this]; rfl) (fun j hj => ho.frozenAt (a + j))
      obtain ⟨⟨zs, hz1, hz2⟩, hz3⟩ := own_cleared (i := a) (.int .i64 0) (b - a) a wo _ (Nat.le_refl _) (by omega) ho
      have hz4 := own_short hz1 (Nat.le_of_lt hab)
      rw [hz2, ints_take, hta] at hz4
      have hfin := Lib.hid (And.intro hz4 (grown_trans hg hz3))
      have halH := Lib.hid hal
      have hab2 : (a : Int) ≤ b := by omega
      have hac : (a : Int) ≤ cap := by omega
      have hbc : (b : Int) ≤ cap := by omega
      clear ho hdr hg hta hz1 hz2 hz3 hz4 hal hsn
      go_wp2
      go_ret
      exact ⟨_, rfl, by rw [halH.out]; exact hfin.out.1, rfl, hfin.out.2⟩
end Go.Proofs.Yticffbcbfgboeaa
