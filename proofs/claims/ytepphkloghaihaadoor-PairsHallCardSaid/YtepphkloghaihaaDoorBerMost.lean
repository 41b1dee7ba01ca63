/- pairs.Most: one by one, the least that lets as many be paired as can be. -/
import Derived.Test.YtepphkloghaihaaDoorBerLawB
import Derived.Test.YtepphkloghaihaaDoorHeld
import Derived.Test.YtepphkloghaihaaDoorMarks
import Derived.Test.YtepphkloghaihaaDoorEachBits
import Derived.Test.YtepphkloghaihaaDoorCalm
import Derived.Test.YtepphkloghaihaaDoorLast
namespace Go.Proofs.YtepphkloghaihaaDoor
open Go.RowKit Go.Shelf
attribute [local go_sem] Oper.semAt_some

theorem tiIm : TI Tryd.prog 23 3 (.int .i64 0) 1 8 := TI.mk' Tryd.underlying23 (by kernel_rfl) rfl (by decide)
/-- what the variables of Most hold -/
structure MoS (A : Option Addr) (cap n s bL bU k u t : Nat) (l : List Int) (v : Value) (W : World) : Prop where
  bN : Boxed W s 22 (.slice A n cap)
  bl : Boxed W bL 23 v
  bu : Boxed W bU 30 (.int .u32 u)
  bt : Boxed W (bU + 1) 3 (.int .i64 t)
  own : W.ownsRow (bU + 2) 3 1 v k (ints .i64 l)
  lt : s < bL ∧ bL < bU
section
variable {A : Option Addr} {cap n s bL bU k u t : Nat} {l : List Int} {v : Value} {W W' : World}
theorem MoS.grown {row : Option Nat} (h : MoS A cap n s bL bU k u t l v W) (hg : W.grownBy W' row) (hr : ∀ r, row = some r → bU + 2 ≤ r) (hv : v.ownBlock = none ∨ v.ownBlock ≠ row) : MoS A cap n s bL bU k u t l v W' := by
  have ne : ∀ b, b < bU + 2 → some b ≠ row := fun b hb e => by have := hr b e.symm; omega
  have := h.lt
  exact ⟨h.bN.kept hg (ne _ (by omega)), h.bl.kept hg (ne _ (by omega)), h.bu.kept hg (ne _ (by omega)), h.bt.kept hg (ne _ (by omega)), h.own.kept hg hv, h.lt⟩
theorem MoS.later (h : MoS A cap n s bL bU k u t l v W) (hb : Below W.heap.size W W') : MoS A cap n s bL bU k u t l v W' :=
  h.grown (row := none) ⟨hb.os, hb.tape, hb.output, hb.size, fun j hj _ => hb.block j hj⟩ (fun r e => by cases e) (by cases hv : v.ownBlock <;> simp)
theorem MoS.alloc (h : MoS A cap n s bL bU k u t l v W) (o : Obj) : MoS A cap n s bL bU k u t l v (W.alloc o) := h.later ((Below.refl _ W).alloc (Nat.le_refl _) o)
theorem MoS.size (h : MoS A cap n s bL bU k u t l v W) : bU + 2 ≤ W.heap.size := h.bt.lt
theorem MoS.drewN (h : MoS A cap n s bL bU k u t l v W) (m : Nat) : MoS A cap n s bL bU k u t l v (W.drewN m) := h.later (below_drewN (Below.refl _ W) m)
end
theorem Marks.own {B T : Nat} {ds : List Deferred} {W W' : World} {b e s n : Nat} {v : Value} {xs : List Value} (hm : Marks B T ds W) (hown : W.ownsRow b e s v n xs) (hg : W.grownBy W' v.ownBlock) : Marks B T ds W' :=
  hm.keep fun k o _ hk ho => (hg.block k (Array.getElem?_eq_some_iff.1 hk).1 fun he => by
    rcases hown.2 with ⟨rfl, _⟩ | ⟨g, c, cur, rfl, _, hgg, _⟩
    · cases he
    · cases he; rw [hgg] at hk; cases hk; cases ho).trans hk
/-- none of those tried lets as many be paired -/
def NoB (ns : List Nat) (k u t : Nat) (pre : List Nat) : Prop := ∀ j ∈ pre, ∃ b u', u' < 256 ∧ plusB u u' j ∧ IsMax (cutW ns (k + 1) u') b ∧ 1 + b ≠ t
theorem ints_set (l : List Int) (a b : Int) : (ints .i64 (l ++ [a])).set l.length (.int .i64 b) = ints .i64 (l ++ [b]) := by
  simp [ints]
theorem own_form {W : World} {b e k : Nat} {v : Value} {xs : List Value} (h : W.ownsRow b e 1 v (k + 1) xs) : ∃ g c, v = .slice (some ⟨g, 0, none⟩) (k + 1) c ∧ b ≤ g ∧ g < W.heap.size := by
  rcases h.2 with ⟨_, h0⟩ | ⟨g, c, cur, rfl, hb, hg, _⟩
  · cases h0
  · exact ⟨g, c, rfl, hb, (Array.getElem?_eq_some_iff.1 hg).1⟩
theorem most_bad (A : Option Addr) (len cap : Nat) (ns : List Nat) (w : World) (hr : Rd w A len 1 (wds ns)) (hl : len ≤ 9223372036854775807) (hbad : bchk ns ≠ 0) :
    Calls Tryd.prog 6 #[.slice A len cap] w fun e w' => e = .returned (.tuple #[.slice none 0 0, .int .i64 (bchk ns)]) ∧ Below w.heap.size w w' := by
  have hb0 := (Below.refl _ w).alloc (Nat.le_refl _) (.cells #[.slice A len cap] 22)
  have HW := Lib.hid (bcheck_any A len cap ns _ (hr.later hb0) hl)
  have hb : (bchk ns != 0) = true := bne_iff_ne.2 hbad
  have hb0H := Lib.hid hb0
  clear hr hbad hb0
  generalize bchk ns = c at *
  go_enter Tryd.func6, Tryd.ntmps6
  go_wp2_with fail
  refine HW.out.mono ?_
  rintro e w1 ⟨rfl, hb1⟩
  have hb2 := hb0H.out.trans (hb1.mono hb0H.out.size)
  go_wp2
  go_ret2
  exact ⟨rfl, hb2⟩
set_option maxHeartbeats 3200000 in
set_option maxRecDepth 100000 in
set_option linter.unusedSimpArgs false in
theorem most_ok (A : Option Addr) (n cap : Nat) (ns : List Nat) (w : World) (hr : Rd w A n 1 (wds ns)) (hok : BOk ns) (hcap : n ≤ cap) (hcap2 : cap ≤ 9223372036854775807) (htb : Tb w) (hg : 0 < w.heap.size) :
    Calls Tryd.prog 6 #[.slice A n cap] w fun e w' => ∃ (v : Value) (l : List Int), e = .returned (.tuple #[v, .int .i64 0]) ∧ w'.ownsRow w.heap.size 3 1 v n (ints .i64 l) ∧ Pg ns l ∧ Mx ns (prd l n) ∧ Below w.heap.size w w' := by
  have hel : ns.length = n := by simpa [wds] using hr.1
  have hn8 : n ≤ 8 := by rw [← hel]; exact hok.1
  have hns := hok.at
  have hb0 := (Below.refl _ w).alloc (Nat.le_refl _) (.cells #[.slice A n cap] 22)
  have HW := Lib.hid (bcheck_any A n cap ns _ (hr.later hb0) (by omega))
  rw [bchk_ok.2 hok] at HW
  have hrH := Lib.hid hr; have htbH := Lib.hid htb; have helH := Lib.hid hel; have hnsH := Lib.hid hns; have hb0H := Lib.hid hb0
  clear hr htb hel hns hok hb0
  refine calls_of_wp_calm 4 Tryd.func6 rfl ?_
  simp only [Tryd.ntmps6, List.size_toArray, List.length_cons, List.length_nil, Nat.reduceAdd, Nat.reduceSub, Array.replicate_succ, Array.replicate_zero, List.push_toArray, List.append_toArray, List.nil_append, List.cons_append]
  go_wp2_with fail
  refine HW.out.mono ?_
  rintro e w1 ⟨rfl, hb1⟩
  have hbn1 : Boxed w1 w.heap.size 22 (.slice A n cap) := (hb1.block w.heap.size (by simp)).trans (Boxed.new w _ _)
  have hbb1 := hb0H.out.trans (hb1.mono hb0H.out.size)
  have hs1 : w.heap.size < w1.heap.size := hbn1.lt
  have hbn2 := hbn1.alloc (.cells #[.slice none 0 0] 23)
  have hbl2 := Boxed.new w1 23 (.slice none 0 0)
  have hbb2 := hbb1.alloc (by omega) (.cells #[.slice none 0 0] 23)
  have hsz2 : (w1.alloc (.cells #[.slice none 0 0] 23)).heap.size = w1.heap.size + 1 := by simp
  have cn2 := hbn2.cell
  clear HW hb1 hbn1 hbb1
  go_wp2_with fail
  generalize w1.alloc (.cells #[.slice none 0 0] 23) = w2 at *
  generalize hbLe : w1.heap.size = bL at *
  refine (many_any A n cap ns w2 (hrH.out.later hbb2) hn8 hnsH.out (htbH.out.below hg hbb2) (by omega)).mono ?_
  rintro e w3 ⟨⟨K, rfl, hMx⟩, hb3⟩
  have hK8 : K ≤ n := by
    obtain ⟨⟨P, hP, rfl⟩, _⟩ := hMx
    have := hP.le (by rw [helH.out]; exact hn8) (S := fun _ => false) (fun _ h => by cases h)
    have e0 : cnt8 (fun _ => false) = 0 := by decide
    have e1 : cnt8 (NS ns fun _ => false) = 0 := by
      have : cnt8 (NS ns fun _ => false) ≤ cnt8 fun _ => false := cnt_mono fun j _ h => by simp [NS] at h
      omega
    rw [helH.out] at this; omega
  have hIM := Lib.hid (hMx.isMax (by rw [helH.out]; exact hn8)); have hMxH := Lib.hid hMx
  have hbn3 : Boxed w3 w.heap.size 22 (.slice A n cap) := (hb3.block _ (by omega)).trans hbn2
  have hbl3 : Boxed w3 bL 23 (.slice none 0 0) := (hb3.block _ (by omega)).trans hbl2
  have hbb3 := hbb2.trans (hb3.mono (by omega))
  have hs3 := hb3.size
  have bA := (Boxed.new w3 30 (.int .u32 0)).alloc (.cells #[.int .i64 (K : Int)] 3)
  have bB := Boxed.new (w3.alloc (.cells #[.int .u32 0] 30)) 3 (.int .i64 (K : Int))
  rw [World.size_alloc] at bB
  have hbn5 := (hbn3.alloc (.cells #[.int .u32 0] 30)).alloc (.cells #[.int .i64 (K : Int)] 3)
  have hbl5 := (hbl3.alloc (.cells #[.int .u32 0] 30)).alloc (.cells #[.int .i64 (K : Int)] 3)
  have hbb5 := (hbb3.alloc (by omega) (.cells #[.int .u32 0] 30)).alloc (by simp; omega) (.cells #[.int .i64 (K : Int)] 3)
  have cn5 := hbn5.cell
  have hsz5 : ((w3.alloc (.cells #[.int .u32 0] 30)).alloc (.cells #[.int .i64 (K : Int)] 3)).heap.size = w3.heap.size + 2 := by simp
  clear hMx hb3 hbn2 hbl2 hbb2 hbn3 hbl3 hbb3 cn2
  go_wp2
  generalize (w3.alloc (.cells #[.int .u32 0] 30)).alloc (.cells #[.int .i64 (K : Int)] 3) = w5 at *
  generalize hbUe : w3.heap.size = bU at *
  have hM0 : MoS A cap n w.heap.size bL bU 0 0 K [] (.slice none 0 0) w5 := ⟨hbn5, hbl5, bA, bB, World.ownsRow_nil _ _ _ _, by omega, by omega⟩
  clear hbn5 hbl5 bA bB cn5
  refine wp_loop (fun a' wr => ∃ (ds : List Deferred), a' = { tmps := #[(a'.tmps.getD 0 undef), (.pointer (some ⟨w.heap.size, 0, none⟩)), (a'.tmps.getD 2 undef), (a'.tmps.getD 3 undef), (a'.tmps.getD 4 undef), (.pointer (some ⟨bL, 0, none⟩)), (.pointer (some ⟨bU, 0, none⟩)), (.pointer (some ⟨bU + 1, 0, none⟩)), (a'.tmps.getD 8 undef), (a'.tmps.getD 9 undef), (a'.tmps.getD 10 undef), (a'.tmps.getD 11 undef), (a'.tmps.getD 12 undef), (a'.tmps.getD 13 undef), (a'.tmps.getD 14 undef), (a'.tmps.getD 15 undef), (a'.tmps.getD 16 undef), (a'.tmps.getD 17 undef), (.slice A n cap), (.int .i64 (n : Int)), (a'.tmps.getD 20 undef), (a'.tmps.getD 21 undef), (a'.tmps.getD 22 undef), (a'.tmps.getD 23 undef), (a'.tmps.getD 24 undef), (a'.tmps.getD 25 undef), (a'.tmps.getD 26 undef), (a'.tmps.getD 27 undef), (a'.tmps.getD 28 undef), (a'.tmps.getD 29 undef), (a'.tmps.getD 30 undef), (a'.tmps.getD 31 undef), (a'.tmps.getD 32 undef), (a'.tmps.getD 33 undef), (a'.tmps.getD 34 undef), (a'.tmps.getD 35 undef), (a'.tmps.getD 36 undef), (a'.tmps.getD 37 undef), (a'.tmps.getD 38 undef), (a'.tmps.getD 39 undef), (a'.tmps.getD 40 undef), (a'.tmps.getD 41 undef), (a'.tmps.getD 42 undef), (a'.tmps.getD 43 undef), (a'.tmps.getD 44 undef), (a'.tmps.getD 45 undef), (a'.tmps.getD 46 undef), (a'.tmps.getD 47 undef), (a'.tmps.getD 48 undef), (a'.tmps.getD 49 undef), (a'.tmps.getD 50 undef), (a'.tmps.getD 51 undef), (a'.tmps.getD 52 undef), (a'.tmps.getD 53 undef), (a'.tmps.getD 54 undef), (a'.tmps.getD 55 undef), (a'.tmps.getD 56 undef)], defers := ds } ∧ (∃ (k u t : Nat) (l : List Int) (v : Value), k ≤ n ∧ (a'.tmps.getD 20 undef) = .int .i64 (k : Int) ∧ GI ns K k u t l ∧ MoS A cap n w.heap.size bL bU k u t l v wr ∧ Marks w.heap.size wr.heap.size ds wr ∧ Below w.heap.size w wr)) (fun a' _ => n - (intOf (a'.tmps.getD 20 undef)).toNat) ?atStart ?round
  case atStart =>
    refine ⟨_, rfl, ?_⟩
    exact ⟨0, 0, K, [], .slice none 0 0, Nat.zero_le _, rfl, GI.start hnsH.out hIM.out, hM0, trivial, hbb5⟩
  case round =>
    clear hM0 hbb5
    rintro a' wr ⟨ds, ha, hrel⟩
    generalize a'.tmps.getD 0 undef = x0 at ha hrel
    generalize a'.tmps.getD 2 undef = x2 at ha hrel
    generalize a'.tmps.getD 3 undef = x3 at ha hrel
    generalize a'.tmps.getD 4 undef = x4 at ha hrel
    generalize a'.tmps.getD 8 undef = x8 at ha hrel
    generalize a'.tmps.getD 9 undef = x9 at ha hrel
    generalize a'.tmps.getD 10 undef = x10 at ha hrel
    generalize a'.tmps.getD 11 undef = x11 at ha hrel
    generalize a'.tmps.getD 12 undef = x12 at ha hrel
    generalize a'.tmps.getD 13 undef = x13 at ha hrel
    generalize a'.tmps.getD 14 undef = x14 at ha hrel
    generalize a'.tmps.getD 15 undef = x15 at ha hrel
    generalize a'.tmps.getD 16 undef = x16 at ha hrel
    generalize a'.tmps.getD 17 undef = x17 at ha hrel
    generalize a'.tmps.getD 20 undef = x20 at ha hrel
    generalize a'.tmps.getD 21 undef = x21 at ha hrel
    generalize a'.tmps.getD 22 undef = x22 at ha hrel
    generalize a'.tmps.getD 23 undef = x23 at ha hrel
    generalize a'.tmps.getD 24 undef = x24 at ha hrel
    generalize a'.tmps.getD 25 undef = x25 at ha hrel
    generalize a'.tmps.getD 26 undef = x26 at ha hrel
    generalize a'.tmps.getD 27 undef = x27 at ha hrel
    generalize a'.tmps.getD 28 undef = x28 at ha hrel
    generalize a'.tmps.getD 29 undef = x29 at ha hrel
    generalize a'.tmps.getD 30 undef = x30 at ha hrel
    generalize a'.tmps.getD 31 undef = x31 at ha hrel
    generalize a'.tmps.getD 32 undef = x32 at ha hrel
    generalize a'.tmps.getD 33 undef = x33 at ha hrel
    generalize a'.tmps.getD 34 undef = x34 at ha hrel
    generalize a'.tmps.getD 35 undef = x35 at ha hrel
    generalize a'.tmps.getD 36 undef = x36 at ha hrel
    generalize a'.tmps.getD 37 undef = x37 at ha hrel
    generalize a'.tmps.getD 38 undef = x38 at ha hrel
    generalize a'.tmps.getD 39 undef = x39 at ha hrel
    generalize a'.tmps.getD 40 undef = x40 at ha hrel
    generalize a'.tmps.getD 41 undef = x41 at ha hrel
    generalize a'.tmps.getD 42 undef = x42 at ha hrel
    generalize a'.tmps.getD 43 undef = x43 at ha hrel
    generalize a'.tmps.getD 44 undef = x44 at ha hrel
    generalize a'.tmps.getD 45 undef = x45 at ha hrel
    generalize a'.tmps.getD 46 undef = x46 at ha hrel
    generalize a'.tmps.getD 47 undef = x47 at ha hrel
    generalize a'.tmps.getD 48 undef = x48 at ha hrel
    generalize a'.tmps.getD 49 undef = x49 at ha hrel
    generalize a'.tmps.getD 50 undef = x50 at ha hrel
    generalize a'.tmps.getD 51 undef = x51 at ha hrel
    generalize a'.tmps.getD 52 undef = x52 at ha hrel
    generalize a'.tmps.getD 53 undef = x53 at ha hrel
    generalize a'.tmps.getD 54 undef = x54 at ha hrel
    generalize a'.tmps.getD 55 undef = x55 at ha hrel
    generalize a'.tmps.getD 56 undef = x56 at ha hrel
    subst ha
    obtain ⟨k, u, t, l, v, hk, rfl, hG, hM, hmk, hb⟩ := hrel
    obtain ⟨wo, rfl⟩ : ∃ wo : World, wo = wr := ⟨_, rfl⟩
    have hszo := hb.size
    have hMsz := hM.size
    have hMlt := hM.lt
    by_cases hlt : k < n
    · obtain ⟨b, o, rfl, hab, hc⟩ := (hrH.out.later hb).wd hlt
      have hll := hG.ll
      have hu8 := hG.u8
      have hx8 := hnsH.out k
      have hxe := Lib.hid (show ∀ j, nbr ns k j = (ns.getD k 0).testBit j from fun _ => rfl)
      obtain ⟨x, hx⟩ : ∃ x, ns.getD k 0 = x := ⟨_, rfl⟩
      rw [hx] at hc hxe hx8
      clear hx
      have hGH := Lib.hid hG
      clear hG
      have hba := hb.alloc hszo (.cells #[.int .i64 (k : Int)] 3)
      have hbi := Boxed.new wo 3 (.int .i64 (k : Int))
      have hMa := hM.alloc (.cells #[.int .i64 (k : Int)] 3)
      have hma := hmk.keeps (KeepsOthers.alloc wo (.cells #[.int .i64 (k : Int)] 3))
      have cl := hMa.bl.cell; have fl := hMa.bl.frozen; have ll := hMa.bl.lt
      have hsza : (wo.alloc (.cells #[.int .i64 (k : Int)] 3)).heap.size = wo.heap.size + 1 := by simp
      have hvb := fun r (e : v.ownBlock = some r) => hM.own.lt r e
      have hMb := hMa.alloc (.cells #[.int .i64 (-1)] 3)
      have hbb := hba.alloc (by omega) (.cells #[.int .i64 (-1)] 3)
      have hbib := hbi.alloc (.cells #[.int .i64 (-1)] 3)
      have hmb := hma.keeps (KeepsOthers.alloc _ (.cells #[.int .i64 (-1)] 3))
      have hszb : ((wo.alloc (.cells #[.int .i64 (k : Int)] 3)).alloc (.cells #[.int .i64 (-1)] 3)).heap.size = wo.heap.size + 2 := by simp
      have hrd := rd_new1 (wo.alloc (.cells #[.int .i64 (k : Int)] 3)) (.int .i64 (-1)) 3
      rw [World.size_alloc] at hrd
      have hrdH := Lib.hid hrd
      clear hrd
      have hMbH := Lib.hid hMb; have hbbH := Lib.hid hbb; have hbibH := Lib.hid hbib; have hmbH := Lib.hid hmb
      clear hM hMa hMb hb hba hbb hbi hbib hmk hma hmb
      go_wp2_with (at_builtin; (refine wpList_app (s := .tmp 25) (x := .tmp 26) _ tiIm hMbH.out.own hrdH.out (ints_one (l := [(-1 : Int)])) (by omega) (by omega) (by omega) rfl rfl rfl rfl ?_))
      intro v' w6 hown6 hg6 _
      obtain ⟨g, c6, rfl, hgB, hgS⟩ := own_form hown6
      have h6ne : ∀ b, b < bU + 2 → some b ≠ v.ownBlock := fun b hb e => by have := hvb b e.symm; omega
      have hvR : ∀ r, v.ownBlock = some r → bU + 2 ≤ r ∧ r < wo.heap.size := fun r e => hvb r e
      have hs6 := hg6.size
      have bN6 := hMbH.out.bN.kept hg6 (h6ne _ (by omega)); have bl6 := hMbH.out.bl.kept hg6 (h6ne _ (by omega)); have bu6 := hMbH.out.bu.kept hg6 (h6ne _ (by omega)); have bt6 := hMbH.out.bt.kept hg6 (h6ne _ (by omega))
      have bi6 := hbibH.out.kept hg6 (fun e => by have := hvR _ e.symm; omega)
      have hm6 := hmbH.out.own hMbH.out.own hg6
      have hb6 := hbbH.out.grown hg6 hbbH.out.size (fun r e => by have := hvR r e; omega)
      have cl6 := bl6.cell; have fl6 := bl6.frozen; have ll6 := bl6.lt
      have hgs7 := grownBy_setCell' w6 bL (.slice (some ⟨g, 0, none⟩) (k + 1) c6)
      have hM7 : MoS (some ⟨b, o, none⟩) cap n w.heap.size bL bU (k + 1) u t (l ++ [-1]) (.slice (some ⟨g, 0, none⟩) (k + 1) c6) (w6.setCell ⟨bL, 0, none⟩ (.slice (some ⟨g, 0, none⟩) (k + 1) c6)) :=
        ⟨bN6.kept hgs7 (by simp; omega), bl6.set _, bu6.kept hgs7 (by simp; omega), bt6.kept hgs7 (by simp; omega), by
          have := hown6.kept hgs7 (.inr (by simp [Value.ownBlock]; omega))
          simpa [ints] using this, hMlt⟩
      have bi7 := bi6.kept hgs7 (by simp; omega)
      have hm7 := hm6.keeps (KeepsOthers.setCell w6 ⟨bL, 0, none⟩ (.slice (some ⟨g, 0, none⟩) (k + 1) c6))
      have hb7 := hb6.setCell (p := ⟨bL, 0, none⟩) (by show w.heap.size ≤ bL; omega) (.slice (some ⟨g, 0, none⟩) (k + 1) c6)
      have hs7 : (w6.setCell ⟨bL, 0, none⟩ (.slice (some ⟨g, 0, none⟩) (k + 1) c6)).heap.size = w6.heap.size := by simp
      have hM7H := Lib.hid hM7; have bi7H := Lib.hid bi7; have hm7H := Lib.hid hm7; have hb7H := Lib.hid hb7
      clear hMbH hbbH hbibH hmbH hrdH hg6 hown6 h6ne bN6 bl6 bu6 bt6 bi6 hm6 hb6 hgs7 hM7 bi7 hm7 hb7
      have cu7 := hM7H.out.bu.cell
      have hand : bits .andNot .u32 (x : Int) (u : Int) = ((andN x u : Nat) : Int) := u32_andNot_nat x u (by omega) (by omega)
      have hyx := andN_le x u
      have hyb := Lib.hid (fun j => testBit_andN (a := x) (b := u) (by omega) (by omega) j)
      obtain ⟨y, hye⟩ : ∃ y, andN x u = y := ⟨_, rfl⟩
      rw [hye] at hyx hyb hand
      clear hye
      go_wp2_with fail
      generalize w6.setCell ⟨bL, 0, none⟩ (.slice (some ⟨g, 0, none⟩) (k + 1) c6) = w7 at *
      refine (each_any y _).mono ?_
      rintro e w8 ⟨rfl, rfl⟩
      have bE := Boxed.new w7 30 (.int .u32 (y : Int))
      rw [hs7] at bE
      have hb8 := hb7H.out.alloc hb7H.out.size (.cells #[.int .u32 (y : Int)] 30)
      have ht8 := htbH.out.below hg hb8
      have hsz8 : (w7.alloc (.cells #[.int .u32 (y : Int)] 30)).heap.size = w7.heap.size + 1 := by simp
      have h0I : MoS (some ⟨b, o, none⟩) cap n w.heap.size bL bU (k + 1) u t (l ++ [-1]) (.slice (some ⟨g, 0, none⟩) (k + 1) c6) (w7.alloc (.cells #[.int .u32 (y : Int)] 30)) ∧ Boxed (w7.alloc (.cells #[.int .u32 (y : Int)] 30)) wo.heap.size 3 (.int .i64 (k : Int)) ∧ Marks w.heap.size wo.heap.size ds (w7.alloc (.cells #[.int .u32 (y : Int)] 30)) ∧ Below w.heap.size w (w7.alloc (.cells #[.int .u32 (y : Int)] 30)) ∧ w6.heap.size < (w7.alloc (.cells #[.int .u32 (y : Int)] 30)).heap.size ∧ NoB ns k u t (unB ([] : List (Bt y))) :=
        ⟨hM7H.out.alloc _, bi7H.out.alloc _, hm7H.out.keeps (KeepsOthers.alloc _ _), hb8, by omega, fun j hj => by cases hj⟩
      clear cu7 hb8
      go_wp2
      refine (wpIn_wide (n := 4)).1 ?_
      generalize w7.alloc (.cells #[.int .u32 (y : Int)] 30) = w8 at *
      generalize hbEe : w6.heap.size = bEx at *
      generalize hbIe : wo.heap.size = bI at *
      refine' rangeFunc_box (n := 4) (α := Bt y) (gf := 27) (lb := #[.pointer (some ⟨bEx, 0, none⟩)]) (by omega) rfl (enters_of Tryd.func27 (by kernel_rfl) rfl)
        (each_stops 3 (by omega) bEx w.heap.size y (by omega) w8 ht8 hg (by omega) bE (by omega)) (by omega) (fun h h' => KpE.trans h h') (kpE_b (by omega) (by omega)) (Below.refl _ _) (fun _ => rfl)
        (fun pre W => MoS (some ⟨b, o, none⟩) cap n w.heap.size bL bU (k + 1) u t (l ++ [-1]) (.slice (some ⟨g, 0, none⟩) (k + 1) c6) W ∧ Boxed W bI 3 (.int .i64 (k : Int)) ∧ Marks w.heap.size bI ds W ∧ Below w.heap.size w W ∧ bEx < W.heap.size ∧ NoB ns k u t (unB pre))
        (fun c pre W => c = .exit 2 ∧ ∃ j u' b', MoS (some ⟨b, o, none⟩) cap n w.heap.size bL bU (k + 1) u' b' (l ++ [(j : Int)]) (.slice (some ⟨g, 0, none⟩) (k + 1) c6) W ∧ Marks w.heap.size bI ds W ∧ Below w.heap.size w W ∧ GI ns K (k + 1) u' b' (l ++ [(j : Int)])) ?hI ?hIb ?hX ?hXb h0I _ ?assign ?body ?done ?stop
      case hI =>
        rintro pre W1 W2 row ⟨h1, h2, h3, h4, h6, h5⟩ hg' hr
        have hr' : ∀ r, row = some r → w8.heap.size ≤ r := fun r e => (hr r e).1
        exact ⟨h1.grown hg' (fun r e => by have := hr' r e; omega) (.inr fun e => by have := hr' g e.symm; omega), h2.kept hg' (fun e => by have := hr' _ e.symm; omega), h3.grown hg' (fun r e => by have := hr' r e; omega), h4.grown hg' (by have := h1.size; omega) (fun r e => by have := hr' r e; omega), Nat.lt_of_lt_of_le h6 hg'.size, h5⟩
      case hIb =>
        rintro pre W1 W2 row ⟨h1, h2, h3, h4, h6, h5⟩ hg' hr
        have hr' : ∀ r, row = some r → r = bEx := hr
        exact ⟨h1.grown hg' (fun r e => by have := hr' r e; omega) (.inr fun e => by have := hr' g e.symm; omega), h2.kept hg' (fun e => by have := hr' _ e.symm; omega), h3.grown hg' (fun r e => by have := hr' r e; omega), h4.grown hg' (by have := h1.size; omega) (fun r e => by have := hr' r e; omega), Nat.lt_of_lt_of_le h6 hg'.size, h5⟩
      case hX =>
        rintro c pre W1 W2 row ⟨h0, j, u', b', h1, h3, h4, h5⟩ hg' hr
        have hr' : ∀ r, row = some r → w8.heap.size ≤ r := fun r e => (hr r e).1
        exact ⟨h0, j, u', b', h1.grown hg' (fun r e => by have := hr' r e; omega) (.inr fun e => by have := hr' g e.symm; omega), h3.grown hg' (fun r e => by have := hr' r e; omega), h4.grown hg' (by have := h1.size; omega) (fun r e => by have := hr' r e; omega), h5⟩
      case hXb =>
        rintro c pre W1 W2 row ⟨h0, j, u', b', h1, h3, h4, h5⟩ hg' hr
        have hr' : ∀ r, row = some r → r = bEx := hr
        exact ⟨h0, j, u', b', h1.grown hg' (fun r e => by have := hr' r e; omega) (.inr fun e => by have := hr' g e.symm; omega), h3.grown hg' (fun r e => by have := hr' r e; omega), h4.grown hg' (by have := h1.size; omega) (fun r e => by have := hr' r e; omega), h5⟩
      case assign =>
        intro l0 y W K hK
        gi_wp2
        exact hK
      case body =>
        rintro l0 pre yy W ⟨h1, h2, h3, h4, h6, h5⟩ hpl
        have hjy := yy.2.2
        have hj32 := yy.2.1
        have hsn := unB_snoc pre yy
        obtain ⟨j, hje⟩ : ∃ j, yy.1 = j := ⟨_, rfl⟩
        rw [hje] at hjy hj32 hsn
        simp only [hje]
        clear hje
        have hsnH := Lib.hid hsn
        clear hsn
        have hjb := hjy
        rw [hyb.out, ← hxe.out] at hjb
        simp only [Bool.and_eq_true, Bool.not_eq_true'] at hjb
        obtain ⟨hnj, huj⟩ := hjb
        have hj8 : j < 8 := Nat.lt_of_not_le fun hle => by
          have := Nat.testBit_lt_two_pow (Nat.lt_of_lt_of_le (show y < 2 ^ 8 by omega) (Nat.pow_le_pow_right (n := 2) (by omega) hle))
          rw [hjy] at this; cases this
        have hpj : 2 ^ j ≤ 2 ^ 7 := Nat.pow_le_pow_right (by omega) (by omega)
        have hpw : IntKind.u32.wrap ((2 : Int) ^ j) = ((2 ^ j : Nat) : Int) := by rw [IntKind.wrap_u32']; exact two_pow_u32 j (by omega)
        have hor := u32_or_nat u (2 ^ j) (by omega) (by omega)
        have hu'8 : u ||| 2 ^ j < 256 := Nat.or_lt_two_pow (n := 8) (by omega) (by omega)
        have hplus : plusB u (u ||| 2 ^ j) j := fun q => by
          rw [Nat.testBit_or, Nat.testBit_two_pow]
          congr 1
          by_cases h : j = q
          · subst h; simp
          · rw [decide_eq_false h, beq_false_of_ne (Ne.symm h)]
        have hplH := Lib.hid hplus
        clear hplus
        obtain ⟨u', hu'⟩ : ∃ u', u ||| 2 ^ j = u' := ⟨_, rfl⟩
        rw [hu'] at hor hu'8 hplH
        have hor2 : bits .or .u32 (u : Int) ((2 : Int) ^ j) = (u' : Int) := by rw [show ((2 : Int) ^ j) = ((2 ^ j : Nat) : Int) by simp]; exact hor
        clear hu'
        have hki : IntKind.i64.wrap ((k : Int) + 1) = ((k + 1 : Nat) : Int) := by rw [IntWalk.i64_in _ (by omega)]; omega
        have hszW := h1.size
        have cN := h1.bN.cell; have lN := h1.bN.lt; have cI := h2.cell; have lI := h2.lt; have cU := h1.bu.cell; have lU := h1.bu.lt; have cT := h1.bt.cell; have lT := h1.bt.lt
        have hbt := fun (X : World) (h : Below W.heap.size W X) => h4.trans (h.mono h4.size)
        have HW := fun (X : World) (h : Below W.heap.size W X) => without_any b o n cap ns (k + 1) u' X (hrH.out.later (hbt X h)) hn8 hcap hcap2 hnsH.out (by omega) (by omega)
        have HM := fun (X : World) (h : Below W.heap.size W X) (v : Value) (c : Nat) (A : Option Addr) (he : v = .slice A (n - (k + 1)) c) (hr : Rd X A (n - (k + 1)) 1 (wds (cutW ns (k + 1) u'))) => many_any A (n - (k + 1)) c (cutW ns (k + 1) u') X hr (by omega) (fun i => by
          unfold cutW; rw [List.getD, List.getElem?_map, List.getElem?_drop]
          have h1 := hnsH.out (k + 1 + i)
          cases he : ns[k + 1 + i]? with
          | none => simp
          | some z => simp [List.getD, he] at h1; simp; have := andN_le z u'; omega) (htbH.out.below hg (hbt X h)) (by have := (hbt X h).size; omega)
        have h1H := Lib.hid h1; have h2H := Lib.hid h2; have h3H := Lib.hid h3; have h4H := Lib.hid h4; have h5H := Lib.hid h5; have hbtH := Lib.hid hbt; have HWH := Lib.hid HW; have HMH := Lib.hid HM
        clear h1 h2 h3 h4 h5 hbt HW HM
        gi_wp2
        refine region_round_held (fun w' => Below W.heap.size W w') (by kernel_rfl) (by kernel_rfl) (by rintro ⟨a, w, h⟩; exact h) ((Below.refl _ W).drew) (fun hHeld => ?_)
        refine wpAnyH_take (i := 0) (v := .slice (some ⟨b, o, none⟩) n cap) rfl (by kernel_rfl) (by kernel_rfl) (by kernel_rfl) (fun _ _ _ h => h) (Or.inl ⟨by rfl, fun w' hSw => by have k := below_cell hSw lN cN; go_simp⟩) hHeld ?_
        simp only [Act.put, List.setIfInBounds_toArray, List.set_cons_zero, List.set_cons_succ]
        refine wpAnyH_take (i := 1) (v := .int .i64 (k : Int)) rfl (by kernel_rfl) (by kernel_rfl) (by kernel_rfl) (fun _ _ _ h => h) (Or.inl ⟨by rfl, fun w' hSw => by have k := below_cell hSw lI cI; go_simp⟩) hHeld ?_
        simp only [Act.put, List.setIfInBounds_toArray, List.set_cons_zero, List.set_cons_succ]
        refine wpAnyH_take (i := 2) (v := .int .i64 ((k + 1 : Nat) : Int)) rfl (by kernel_rfl) (by kernel_rfl) (by kernel_rfl) (fun _ _ _ h => h) (Or.inl ⟨by rfl, fun w' hSw => by go_simp⟩) hHeld ?_
        simp only [Act.put, List.setIfInBounds_toArray, List.set_cons_zero, List.set_cons_succ]
        refine wpAnyH_take (i := 3) (v := .int .u32 (u : Int)) rfl (by kernel_rfl) (by kernel_rfl) (by kernel_rfl) (fun _ _ _ h => h) (Or.inl ⟨by rfl, fun w' hSw => by have k := below_cell hSw lU cU; go_simp⟩) hHeld ?_
        simp only [Act.put, List.setIfInBounds_toArray, List.set_cons_zero, List.set_cons_succ]
        refine wpAnyH_take (i := 4) (v := .int .i64 (j : Int)) rfl (by kernel_rfl) (by kernel_rfl) (by kernel_rfl) (fun _ _ _ h => h) (Or.inl ⟨by rfl, fun w' hSw => by go_simp⟩) hHeld ?_
        simp only [Act.put, List.setIfInBounds_toArray, List.set_cons_zero, List.set_cons_succ]
        refine wpAnyH_take (i := 5) (v := .int .u32 ((2 ^ j : Nat) : Int)) rfl (by kernel_rfl) (by kernel_rfl) (by kernel_rfl) (fun _ _ _ h => h) (Or.inl ⟨by rfl, fun w' hSw => by go_simp⟩) hHeld ?_
        simp only [Act.put, List.setIfInBounds_toArray, List.set_cons_zero, List.set_cons_succ]
        refine wpAnyH_take (i := 6) (v := .int .u32 (u' : Int)) rfl (by kernel_rfl) (by kernel_rfl) (by kernel_rfl) (fun _ _ _ h => h) (Or.inl ⟨by rfl, fun w' hSw => by go_simp⟩) hHeld ?_
        simp only [Act.put, List.setIfInBounds_toArray, List.set_cons_zero, List.set_cons_succ]
        refine wpAnyH_take (i := 10) (v := .int .i64 (t : Int)) rfl (by kernel_rfl) (by kernel_rfl) (by kernel_rfl) (fun _ _ _ h => h) (Or.inl ⟨by rfl, fun w' hSw => by have k := below_cell hSw lT cT; go_simp⟩) hHeld ?_
        simp only [Act.put, List.setIfInBounds_toArray, List.set_cons_zero, List.set_cons_succ]
        refine wpAnyH_ready (rs := [7]) (by kernel_rfl) (by simp) ?_
        refine AllReadyH.cons rfl (fun K hK => ?_) AllReadyH.nil
        go_simp
        refine (HWH.out _ ((Below.refl _ W).drew)).mono ?_
        rintro e wA ⟨⟨vA, rfl, ownA⟩, hbA⟩
        have hbA' : Below W.heap.size W wA := ((Below.refl _ W).drew).trans hbA
        obtain ⟨A', cA, rfl⟩ := own_slice ownA
        have HM2 := Lib.hid (HMH.out wA hbA' _ cA A' rfl (Rd.of_own ownA))
        refine hK.out _ _ hbA' (fun _ => ?_)
        clear hK K ownA hbA
        (try simp only [Act.put, List.setIfInBounds_toArray, List.set_cons_zero, List.set_cons_succ])
        refine wpAnyH_ready (rs := [8]) (by kernel_rfl) (by simp) ?_
        refine AllReadyH.cons rfl (fun K hK => ?_) AllReadyH.nil
        go_simp
        refine HM2.out.mono ?_
        rintro e wD ⟨⟨kk, rfl, hMx2⟩, hbD⟩
        have hbWD := hbA'.trans (hbD.mono hbA'.size)
        refine hK.out _ _ hbWD (fun hHeld => ?_)
        clear hK K hbA' HM2
        have hIM2 := Lib.hid (hMx2.isMax (by rw [cut_len]; have := helH.out; omega))
        have hkk8 : kk ≤ 8 := by
          obtain ⟨⟨P, hP, rfl⟩, _⟩ := hMx2
          exact Nat.le_trans (List.length_filter_le _ _) (by simp)
        have ht8' : t ≤ 8 := by have := hGH.out.ct; omega
        have hw1 : IntKind.i64.wrap (1 + (kk : Int)) = 1 + (kk : Int) := IntWalk.i64_in _ (by omega)
        clear hMx2
        refine wpAnyH_take (i := 9) (v := .int .i64 (1 + (kk : Int))) rfl (by kernel_rfl) (by kernel_rfl) (by kernel_rfl) (fun _ _ _ h => h) (Or.inl ⟨by rfl, fun w' hSw => by go_simp⟩) hHeld ?_
        simp only [Act.put, List.setIfInBounds_toArray, List.set_cons_zero, List.set_cons_succ]
        have mv : ∀ {k : Nat} {T : Nat} {v : Value}, Boxed W k T v → Boxed wD k T v := fun b => (hbWD.block _ b.lt).trans b
        have h1D := h1H.out.later hbWD
        have h2D := mv h2H.out
        have h3D := h3H.out.later hbWD
        have h4D := hbtH.out wD hbWD
        have hKFD : KeepsFrom w8.heap.size W wD := KeepsFrom.of_grownBy ⟨hbWD.os, hbWD.tape, hbWD.output, hbWD.size, fun k hk _ => hbWD.block k hk⟩ (row := none) (fun j e => by cases e)
        have hKpD : KpE w.heap.size bEx W wD := ⟨hbWD.mono (by have := h4H.out.size; omega), hbWD.block bEx h6⟩
        clear mv hbD
        by_cases hkt : 1 + kk = t
        · have hq : (1 + (kk : Int) == (t : Int)) = true := by simp; omega
          have hwt : IntKind.i64.wrap ((t : Int) - 1) = (kk : Int) := by rw [IntWalk.i64_in _ (by omega)]; omega
          refine wpAnyH_take (i := 11) (v := .bool true) rfl (by kernel_rfl) (by kernel_rfl) (by kernel_rfl) (fun _ _ _ h => h) (Or.inl ⟨by rfl, fun w' hSw => by go_simp; (try simp [hq])⟩) hHeld ?_
          simp only [Act.put, List.setIfInBounds_toArray, List.set_cons_zero, List.set_cons_succ]
          refine wpAnyH_done (by kernel_rfl) ?_ _
          have hGt := Lib.hid (hGH.out.take hj8 hnj huj hu'8 hplH.out hIM2.out hkt)
          have cl1 := h1D.bl.cell; have ci1 := h2D.cell; have fz1 := h1D.own.frozenAt k; have lg1 := (h1D.own.lt g rfl).2
          have cg1 := (h1D.own.cellAt k (by omega)).trans (ints_get (k := .i64) (zs := l ++ [-1]) (j := k) (by simp; omega))
          have hki1 : (k : Int) < ((k + 1 : Nat) : Int) := by omega
          have hki2 : (k : Int) < (k : Int) + 1 := by omega
          have hki0 : (0 : Int) ≤ k := by omega
          have hst := h1D.own.stored k (.int .i64 (j : Int))
          have e1 : (ints .i64 (l ++ [-1])).set k (.int .i64 (j : Int)) = ints .i64 (l ++ [(j : Int)]) := by rw [← hll]; exact ints_set l (-1) j
          rw [e1] at hst
          have hM1 : MoS (some ⟨b, o, none⟩) cap n w.heap.size bL bU (k + 1) u t (l ++ [(j : Int)]) (.slice (some ⟨g, 0, none⟩) (k + 1) c6) (wD.setCell ⟨g, k, none⟩ (.int .i64 (j : Int))) :=
            ⟨h1D.bN.kept hst.2 (by simp; omega), h1D.bl.kept hst.2 (by simp; omega), h1D.bu.kept hst.2 (by simp; omega), h1D.bt.kept hst.2 (by simp; omega), hst.1, hMlt⟩
          have hm1 := h3D.keeps (KeepsOthers.setCell wD ⟨g, k, none⟩ (.int .i64 (j : Int)))
          have hb1 := h4D.setCell (p := ⟨g, k, none⟩) (by show w.heap.size ≤ g; omega) (.int .i64 (j : Int))
          have hKF1 := hKFD.trans ((KeepsOthers.setCell wD ⟨g, k, none⟩ (.int .i64 (j : Int))).from w8.heap.size)
          have cU1 := hM1.bu.cell; have fU1 := hM1.bu.frozen; have lU1 := hM1.bu.lt
          have hM1H := Lib.hid hM1; have hm1H := Lib.hid hm1; have hb1H := Lib.hid hb1; have hKF1H := Lib.hid hKF1
          clear h1D h2D h3D h4D hKFD hKpD hbWD hst hM1 hm1 hb1 hKF1 e1
          gi_wp2
          generalize wD.setCell ⟨g, k, none⟩ (.int .i64 (j : Int)) = W1 at *
          refine region_round_lit (by kernel_rfl) rfl (by kernel_rfl) (by kernel_rfl) ?_
          dsimp only [List.dropLast]
          repeat (gi_big_quiet_step (fail))
          refine wpQuietIn_nil ?_
          rintro _ ⟨nq, rfl⟩
          have hM1q := hM1H.out.drewN nq
          have hdk : KeepsOthers W1 (W1.drewN nq) := ⟨Nat.le_refl _, fun _ _ h _ => h⟩
          have hm1q := hm1H.out.keeps hdk
          have hb1q := below_drewN hb1H.out nq
          have hKF1q := hKF1H.out.trans (hdk.from w8.heap.size)
          clear hM1H hm1H hb1H hKF1H hdk cU1 fU1 lU1 cl1 ci1 fz1 lg1 cg1
          generalize W1.drewN nq = W2 at *
          have hgs2 := grownBy_setCell' W2 bU (.int .u32 (u' : Int))
          have hM2 : MoS (some ⟨b, o, none⟩) cap n w.heap.size bL bU (k + 1) u' t (l ++ [(j : Int)]) (.slice (some ⟨g, 0, none⟩) (k + 1) c6) (W2.setCell ⟨bU, 0, none⟩ (.int .u32 (u' : Int))) :=
            ⟨hM1q.bN.kept hgs2 (by simp; omega), hM1q.bl.kept hgs2 (by simp; omega), hM1q.bu.set _, hM1q.bt.kept hgs2 (by simp), hM1q.own.kept hgs2 (.inr (by simp [Value.ownBlock]; omega)), hMlt⟩
          have hm2 := hm1q.keeps (KeepsOthers.setCell W2 ⟨bU, 0, none⟩ (.int .u32 (u' : Int)))
          have hb2 := hb1q.setCell (p := ⟨bU, 0, none⟩) (by show w.heap.size ≤ bU; omega) (.int .u32 (u' : Int))
          have hKF2 := hKF1q.trans ((KeepsOthers.setCell W2 ⟨bU, 0, none⟩ (.int .u32 (u' : Int))).from w8.heap.size)
          have cT2 := hM2.bt.cell; have fT2 := hM2.bt.frozen; have lT2 := hM2.bt.lt
          have cU2 := hM1q.bu.cell; have fU2 := hM1q.bu.frozen; have lU2 := hM1q.bu.lt
          have hM2H := Lib.hid hM2; have hm2H := Lib.hid hm2; have hb2H := Lib.hid hb2; have hKF2H := Lib.hid hKF2
          clear hM2 hm2 hb2 hKF2 hgs2 hM1q hm1q hb1q hKF1q
          gi_wp2
          generalize W2.setCell ⟨bU, 0, none⟩ (.int .u32 (u' : Int)) = W3 at *
          have hgs3 := grownBy_setCell' W3 (bU + 1) (.int .i64 (kk : Int))
          have hM2 := hM2H.out
          have hM3 : MoS (some ⟨b, o, none⟩) cap n w.heap.size bL bU (k + 1) u' kk (l ++ [(j : Int)]) (.slice (some ⟨g, 0, none⟩) (k + 1) c6) (W3.setCell ⟨bU + 1, 0, none⟩ (.int .i64 (kk : Int))) :=
            ⟨hM2.bN.kept hgs3 (by simp; omega), hM2.bl.kept hgs3 (by simp; omega), hM2.bu.kept hgs3 (by simp), hM2.bt.set _, hM2.own.kept hgs3 (.inr (by simp [Value.ownBlock]; omega)), hMlt⟩
          exact ⟨hKF2H.out.trans ((KeepsOthers.setCell W3 ⟨bU + 1, 0, none⟩ (.int .i64 (kk : Int))).from w8.heap.size), rfl, j, u', kk, hM3, hm2H.out.keeps (KeepsOthers.setCell W3 ⟨bU + 1, 0, none⟩ (.int .i64 (kk : Int))), hb2H.out.setCell (p := ⟨bU + 1, 0, none⟩) (by show w.heap.size ≤ bU + 1; omega) _, hGt.out⟩
        · have hq : (1 + (kk : Int) == (t : Int)) = false := by simp; omega
          refine wpAnyH_take (i := 11) (v := .bool false) rfl (by kernel_rfl) (by kernel_rfl) (by kernel_rfl) (fun _ _ _ h => h) (Or.inl ⟨by rfl, fun w' hSw => by go_simp; (try simp [hq])⟩) hHeld ?_
          simp only [Act.put, List.setIfInBounds_toArray, List.set_cons_zero, List.set_cons_succ]
          refine wpAnyH_done (by kernel_rfl) ?_ _
          have hI5 : NoB ns k u t (unB (pre ++ [yy])) := by
            rw [hsnH.out]
            intro j' hj'
            rcases List.mem_append.1 hj' with h | h
            · exact h5H.out j' h
            · obtain rfl : j' = j := by simpa using h
              exact ⟨kk, u', hu'8, hplH.out, hIM2.out, hkt⟩
          have hI := Lib.hid (And.intro h1D (And.intro h2D (And.intro h3D (And.intro h4D (And.intro (Nat.lt_of_lt_of_le h6 hbWD.size) hI5)))))
          have hKFH := Lib.hid hKFD; have hKpH := Lib.hid hKpD
          clear h1D h2D h3D h4D hI5 hKFD hKpD hbWD
          gi_wp2
          exact ⟨by rw [show bEx + 1 = w8.heap.size by omega]; exact hKFH.out, hKpH.out, hI.out⟩
      case done =>
        rintro D ys W hD hys ⟨h1, h2, h3, h4, h6, h5⟩ hK
        have hys' : unB ys = bitsL y := hys
        have hG2 := Lib.hid (hGH.out.left (leave hnsH.out (by rw [helH.out]; exact hlt) hu8 hGH.out.mx fun j hj8 hnj huj => by
          refine h5 j ?_
          rw [hys', mem_bitsL]
          refine ⟨by omega, ?_⟩
          rw [hyb.out, ← hxe.out, hnj, huj]; rfl))
        have hmp : Marks w.heap.size (D + 1) ({ target := .collected D, args := #[] } :: ds) W := Marks.push (T := bI) h3 (by omega) (by omega) hK
        have hmp2 := hmp.mono (Array.getElem?_eq_some_iff.1 hK).1
        have h1H := Lib.hid h1; have h4H := Lib.hid h4; have hmH := Lib.hid hmp2
        have hki : IntKind.i64.wrap ((k : Int) + 1) = ((k + 1 : Nat) : Int) := by rw [IntWalk.i64_in _ (by omega)]; omega
        clear h1 h2 h3 h4 h5 h6 hmp hmp2 hK hys hys'
        go_wp2
        refine ⟨⟨_, rfl, ?rel⟩, ?measure⟩
        case rel => exact ⟨k + 1, u, t, _, _, by omega, by go_num, hG2.out, h1H.out, hmH.out, h4H.out⟩
        case measure => simp [intOf]; omega
      case stop =>
        rintro D c pre W hD _ ⟨rfl, j, u', b', h1, h3, h4, h5⟩ hK
        have hmp : Marks w.heap.size (D + 1) ({ target := .collected D, args := #[] } :: ds) W := Marks.push (T := bI) h3 (by omega) (by omega) hK
        have hmp2 := hmp.mono (Array.getElem?_eq_some_iff.1 hK).1
        have h1H := Lib.hid h1; have h4H := Lib.hid h4; have hmH := Lib.hid hmp2; have h5H := Lib.hid h5
        have hki : IntKind.i64.wrap ((k : Int) + 1) = ((k + 1 : Nat) : Int) := by rw [IntWalk.i64_in _ (by omega)]; omega
        clear h1 h3 h4 h5 hmp hmp2 hK
        gi_wp2
        go_wp2
        refine ⟨⟨_, rfl, ?rel⟩, ?measure⟩
        case rel => exact ⟨k + 1, u', b', _, _, by omega, by go_num, h5H.out, h1H.out, hmH.out, h4H.out⟩
        case measure => simp [intOf]; omega
    · obtain rfl : k = n := by omega
      have cl := hM.bl.cell
      have hfin := Lib.hid (GI.done (ns := ns) (K := K) (u := u) (t := t) (l := l) (by rw [helH.out]; exact hG))
      have hownH := Lib.hid (own_base (b' := w.heap.size) (by omega) hM.own); have hbH := Lib.hid hb; have hmkH := Lib.hid hmk
      clear hG hM hb hmk
      go_wp2
      refine leaves_marksJ (B := w.heap.size) (J := fun W' => W'.ownsRow w.heap.size 3 1 v k (ints .i64 l) ∧ Below w.heap.size w W' ∧ w.heap.size ≤ W'.heap.size) hmkH.out ⟨hownH.out, hbH.out, by omega⟩
        (fun V r o' hV hd hr => ⟨hV.1.kept (grownBy_putObj' V r o') (by
            rcases hV.1.2 with ⟨rfl, _⟩ | ⟨g, c, cur, rfl, _, hgg, _⟩
            · exact .inl rfl
            · right; intro e; cases e; rw [hgg] at hd; cases hd), hV.2.1.grown (grownBy_putObj' V r o') hV.2.2 (fun r' e => by cases e; omega), by have := (grownBy_putObj' V r o').size; omega⟩)
        fun w' hw' => ⟨.tuple #[v, .int .i64 0], by simp [results, Tryd.results6, go_sem], v, l, rfl, hw'.1, hfin.out.1, by rw [← helH.out, hfin.out.2]; exact hMxH.out, hw'.2.1⟩
end Go.Proofs.YtepphkloghaihaaDoor
