/- queue.Many. -/
import Derived.Test.YtnpmmmicgpngpaaCloneJ
import Derived.Test.YtnpmmmicgpngpaaDel64
import Derived.Test.YtnpmmmicgpngpaaMooreLaw
namespace Go.Proofs.Ytnpmmmicgpngpaa
open Go.RowKit

theorem own_two {W : World} {b b' e e' sz sz' n n' : Nat} {v v' : Value} {xs xs' : List Value} (h : W.ownsRow b e sz v n xs) (h' : W.ownsRow b' e' sz' v' n' xs') (hne : e ≠ e') {g : Nat} (hg : v.ownBlock = some g) : v'.ownBlock ≠ some g := by
  rcases h.2 with ⟨rfl, _⟩ | ⟨g1, c1, cur1, rfl, _, h1, _⟩
  · cases hg
  · cases hg
    rcases h'.2 with ⟨rfl, _⟩ | ⟨g2, c2, cur2, rfl, _, h2, _⟩
    · simp [Value.ownBlock]
    · intro e2
      cases e2
      rw [h1] at h2
      cases h2
      exact hne rfl
theorem own_weak {w : World} {b b' e s n : Nat} {v : Value} {xs : List Value} (h : w.ownsRow b e s v n xs) (hb : b' ≤ b) : w.ownsRow b' e s v n xs :=
  ⟨h.1, h.2.imp id fun ⟨g, cap, cur, h1, h2, h3⟩ => ⟨g, cap, cur, h1, Nat.le_trans hb h2, h3⟩⟩
theorem row_ints {K : List Int} {n : Nat} (hl : K.length = n) : ints .i64 K = row n fun i => K.getD i 0 := by
  refine List.ext_getElem (by simp [ints, row, hl]) fun i h1 h2 => ?_
  have : i < K.length := by simpa [ints] using h1
  simp [ints, row, List.getD, this]
theorem tiI64 : TI Try.prog 38 2 (.int .i64 0) 1 8 := TI.mk' Try.underlying38 (by kernel_rfl) rfl (by decide)
def ptime (l : List Jb) (i : Nat) : Int := (jat l i).time
def pdue (l : List Jb) (i : Nat) : Int := (jat l i).due
def KBd (K : List Int) : Prop := ∀ x ∈ K, 0 ≤ x ∧ x ≤ 1048576
theorem KBd.sum : ∀ {K : List Int}, KBd K → 0 ≤ K.sum ∧ K.sum ≤ 1048576 * K.length
  | [], _ => by simp
  | a :: K, h => by
    have ih := KBd.sum (K := K) fun x hx => h x (List.mem_cons_of_mem _ hx)
    have := h a (by simp)
    simp only [List.sum_cons, List.length_cons]
    omega
theorem KBd.snoc {K : List Int} (h : KBd K) {x : Int} (hx : 0 ≤ x ∧ x ≤ 1048576) : KBd (K ++ [x]) := fun y hy => by
  rcases List.mem_append.1 hy with hy | hy
  · exact h y hy
  · simp at hy; subst hy; exact hx
theorem sum_erase {K : List Int} {i : Nat} (hi : i < K.length) : (K.eraseIdx i).sum = K.sum - K.getD i 0 := by
  have := psumI (erase_perm hi)
  simp only [List.sum_cons] at this
  rw [List.getD, List.getElem?_eq_getElem hi, Option.getD_some]
  omega
theorem rev_succ {p d : Nat → Int} {o : List Nat} {k : Nat} (hk : k < o.length) : rev p d (o.take (k + 1)) = (p (o.getD k 0), d (o.getD k 0)) :: rev p d (o.take k) := by
  have ht : o.take (k + 1) = o.take k ++ [o.getD k 0] := by
    rw [List.take_succ_eq_append_getElem (by omega)]; simp [List.getD, show k < o.length by omega]
  unfold rev; rw [ht, List.map_append, List.reverse_append]; rfl
/-- what Many has in hand -/
structure MI (l : List Jb) (o : List Nat) (k : Nat) (K : List Int) : Prop where
  st : MSt (rev (ptime l) (pdue l) (o.take k)) K
  bd : KBd K
  len : K.length ≤ k
theorem MI.start (l : List Jb) (o : List Nat) : MI l o 0 [] := ⟨MSt.start, fun _ hx => (List.not_mem_nil hx).elim, Nat.le_refl _⟩
theorem MI.keep {l : List Jb} {o : List Nat} {k : Nat} {K : List Int} (h : MI l o k K) (hk : k < o.length) (hp : 0 ≤ ptime l (o.getD k 0) ∧ ptime l (o.getD k 0) ≤ 1048576) : MI l o (k + 1) (K ++ [ptime l (o.getD k 0)]) :=
  ⟨by rw [rev_succ hk]; exact h.st.keep _ _, h.bd.snoc hp, by have := h.len; simp; omega⟩
theorem MI.drop {l : List Jb} {o : List Nat} {k : Nat} {K : List Int} (h : MI l o k K) (hk : k < o.length) (hp : 0 ≤ ptime l (o.getD k 0) ∧ ptime l (o.getD k 0) ≤ 1048576) (hd : pdue l (o.getD k 0) < (K ++ [ptime l (o.getD k 0)]).sum)
    {i : Nat} (hi : i < (K ++ [ptime l (o.getD k 0)]).length) (hmax : ∀ b, b < (K ++ [ptime l (o.getD k 0)]).length → (K ++ [ptime l (o.getD k 0)]).getD b 0 ≤ (K ++ [ptime l (o.getD k 0)]).getD i 0) : MI l o (k + 1) ((K ++ [ptime l (o.getD k 0)]).eraseIdx i) :=
  ⟨by
    rw [rev_succ hk]
    refine h.st.drop _ _ hd hi fun x hx => ?_
    obtain ⟨b, hb, rfl⟩ := List.getElem_of_mem hx
    have := hmax b hb
    rwa [List.getD, List.getElem?_eq_getElem hb] at this,
   fun x hx => h.bd.snoc hp x (List.mem_of_mem_eraseIdx hx), by rw [List.length_eraseIdx, if_pos hi]; have := h.len; simp; omega⟩
theorem many_bad (A : Option Addr) (len cap : Nat) (l : List Jb) (w : World) (hr : RdJ w A len l) (hl : len ≤ 9223372036854775807) (hq : qchk 1 l ≠ 0) :
    Calls Try.prog 4 #[.slice A len cap] w fun e w' => (∃ z : Int, e = .returned (.tuple #[.int .i64 0, .int .i64 z]) ∧ (z != 0) = true) ∧ Below w.heap.size w w' := by
  have HW := Lib.hid (wrong_any 1 9 entD1 due1_any A len cap l w hr hl)
  have hne := bne_iff_ne.2 hq
  generalize qchk 1 l = z at *
  clear hr hq
  go_enter Try.func4, Try.ntmps4
  go_wp2_with fail
  refine HW.out.mono ?_
  rintro _ w1 ⟨rfl, hb⟩
  go_wp2
  go_ret2
  exact ⟨⟨z, rfl, hne⟩, hb⟩
set_option maxHeartbeats 1600000 in
theorem many_ok (A : Option Addr) (len cap : Nat) (l : List Jb) (w : World) (hr : RdJ w A len l) (hq : qchk 1 l = 0) :
    Calls Try.prog 4 #[.slice A len cap] w fun e w' => (∃ K o, e = .returned (.tuple #[.int .i64 (K.length : Int), .int .i64 0]) ∧ o.Perm (List.range len) ∧ SrI (KD l) o len ∧ MI l o len K) ∧ Below w.heap.size w w' := by
  obtain ⟨h7, hbt, hbf⟩ := qchk_zero hq
  have hel := hr.1
  rw [hel] at h7
  have hdb : DueB l := hbf
  have hpb : ∀ i, 0 ≤ ptime l i ∧ ptime l i ≤ 1048576 := hbt
  have HW := Lib.hid (wrong_any 1 9 entD1 due1_any A len cap l w hr (by omega))
  rw [hq] at HW
  have HC := Lib.hid (fun W (h : Below w.heap.size w W) => cloneJ A len cap l W (hr.later h) (by omega))
  have hdbH := Lib.hid hdb; have hpbH := Lib.hid hpb
  clear hr hq hbt hbf hdb hpb
  go_enter Try.func4, Try.ntmps4
  go_wp2_with fail
  refine HW.out.mono ?_
  rintro _ w1 ⟨rfl, hb1⟩
  have hb1H := Lib.hid hb1
  have HC1 := Lib.hid (HC.out w1 hb1)
  clear hb1 HC HW
  go_wp2_with fail
  refine HC1.out.mono ?_
  rintro _ w2 ⟨v, rfl, hown, hb2⟩
  obtain ⟨A2, c2, rfl⟩ := own_slice hown
  have hb2H := Lib.hid (hb1H.out.trans (hb2.mono hb1H.out.size))
  have HS := Lib.hid (sort_any l A2 len c2 w.heap.size _ w2 (own_weak hown hb1H.out.size) (List.Perm.refl _) (by omega) hdbH.out)
  clear hown hb2 HC1 hb1H
  go_wp2_with fail
  refine HS.out.mono ?_
  rintro _ w3 ⟨rfl, o, hp, hsr, hown, hb3⟩
  have hb3H := Lib.hid (hb2H.out.trans hb3)
  have hownH := Lib.hid hown; have hpH := Lib.hid hp; have hsrH := Lib.hid hsr
  have hol := Lib.hid (show o.length = len by simpa using hp.length_eq)
  clear hown hp hsr hb3 HS hb2H
  go_wp2
  go_loopw [6, 7, 9, 10, 11, 23] (fun v t _ _ _ q wr => ∃ (k : Nat) (K : List Int), k ≤ len ∧ q = .int .i64 k ∧ t = .int .i64 K.sum ∧ wr.ownsRow w.heap.size 2 1 v K.length (ints .i64 K) ∧ MI l o k K ∧ wr.ownsRow w.heap.size 31 4 (.slice A2 len c2) len (JR l o) ∧ Below w.heap.size w wr) (fun _ _ _ _ _ q _ => len - (intOf q).toNat)
  case atStart => exact ⟨0, [], by omega, rfl, rfl, World.ownsRow_nil _ _ _ _, MI.start l o, hownH.out, hb3H.out⟩
  case round =>
    clear hownH hb3H
    obtain ⟨k, K, hk, rfl, rfl, hownK, hM, hownJ, hb⟩ := hrel
    by_cases hlt : k < len
    · obtain ⟨g, rfl, hBg, hgl, a0, a1, a2, a3⟩ := own_atJ hownJ hlt
      have hpt := hpbH.out (o.getD k 0)
      have hdt := hdbH.out (o.getD k 0)
      have hKs := hM.bd.sum
      have hKl := hM.len
      have hkeep := Lib.hid (hM.keep (by rw [hol.out]; exact hlt) hpt)
      have hdrop := Lib.hid (fun h (i : Nat) => hM.drop (by rw [hol.out]; exact hlt) hpt h (i := i))
      have hpd := Lib.hid (show pdue l (o.getD k 0) = (jat l (o.getD k 0)).due from rfl)
      unfold ptime at hkeep hdrop hpt
      obtain ⟨JX, hJX⟩ : ∃ J, jat l (o.getD k 0) = J := ⟨_, rfl⟩
      rw [hJX] at a0 a1 a2 a3 hkeep hdrop hpt hdt hpd
      clear hJX hM
      obtain ⟨t, A', l', c', du, wo, af⟩ := JX
      dsimp only at a0 a1 a2 a3 hkeep hdrop hpt hdt hpd
      obtain ⟨wi, rfl⟩ : ∃ wi : World, wi = wr := ⟨_, rfl⟩
      have bJ := (Blk.new wi 31 #[.int .i64 t, .slice A' l' c', .int .i64 du, .int .i64 wo]).alloc (.cells #[.int .i64 t] 2)
      have q0 := (Blk.new wi 31 #[.int .i64 t, .slice A' l' c', .int .i64 du, .int .i64 wo]).cell (j := 0) (v := .int .i64 t) rfl
      have hownKH := Lib.hid hownK; have hownJH := Lib.hid hownJ; have hbH := Lib.hid hb; have bJH := Lib.hid bJ
      have hs1 : IntKind.i64.wrap (K.sum + t) = K.sum + t := IntWalk.i64_in _ (by omega)
      have hK1 : (K ++ [t]).length = K.length + 1 := by simp
      have hK2 : (K ++ [t]).sum = K.sum + t := by simp
      have hK3 : ints .i64 (K ++ [t]) = ints .i64 K ++ ints .i64 [t] := by simp [ints]
      have hK1H := Lib.hid hK1; have hK2H := Lib.hid hK2; have hK3H := Lib.hid hK3
      clear hownK hownJ hb bJ hK1 hK2 hK3
      have hszw := hbH.out.size
      have hrd := rd_new1 (wi.alloc (.cells #[.int .i64 t, .slice A' l' c', .int .i64 du, .int .i64 wo] 31)) (.int .i64 t) 2
      rw [World.size_alloc] at hrd
      have hrdH := Lib.hid hrd
      clear hrd
      go_wp2_with (at_builtin; refine wpList_app (s := .tmp 27) (x := .tmp 30) _ tiI64 ((hownKH.out.alloc _).alloc _) hrdH.out (ints_one (l := [t])) (by omega) (by omega) (by simp; omega) rfl rfl rfl rfl ?_)
      intro v' w5 ownA gA atA
      have hnb : u6.ownBlock ≠ some wi.heap.size := fun e => by have := (hownKH.out.lt _ e).2; omega
      have bJ5 := bJH.out.kept gA (fun e => hnb e.symm)
      have j0 := bJ5.cell (j := 0) (v := .int .i64 t) rfl
      have j2 := bJ5.cell (j := 2) (v := .int .i64 du) rfl
      have hJ5 : w5.ownsRow w.heap.size 31 4 (.slice (some ⟨g, 0, none⟩) len c2) len (JR l o) := ((hownJH.out.alloc _).alloc _).kept gA (.inr fun e => own_two hownJH.out hownKH.out (by decide) (g := g) rfl e.symm)
      have hb5 := ((hbH.out.alloc hbH.out.size (.cells #[.int .i64 t, .slice A' l' c', .int .i64 du, .int .i64 wo] 31)).alloc (by simp; omega) (.cells #[.int .i64 t] 2)).grown gA (by simp; omega) (fun r e => (hownKH.out.lt r e).1)
      rw [show ints .i64 K ++ [Value.int .i64 t] = ints .i64 (K ++ [t]) from hK3H.out.symm] at ownA
      obtain ⟨A6, c6, rfl⟩ := own_slice ownA
      have hR6 := Rd.of_own ownA
      rw [row_ints hK1H.out] at hR6
      have HM := Lib.hid (max_any A6 (K.length + 1) c6 _ w5 hR6 (by omega) (by omega))
      have HI := Lib.hid (fun r hx => index_any A6 (K.length + 1) c6 _ r w5 hR6 hx (by omega))
      have HD := Lib.hid (fun (i : Nat) hi => del_any w.heap.size (K.length + 1) (.slice A6 (K.length + 1) c6) (K ++ [t]) w5 ownA (by omega) i hi)
      have hse := Lib.hid (fun (i : Nat) (hi : i < K.length + 1) => sum_erase (K := K ++ [t]) (i := i) (by rw [hK1H.out]; exact hi))
      have hbd6 := Lib.hid (fun (i : Nat) (hi : i < K.length + 1) => show 0 ≤ (K ++ [t]).getD i 0 ∧ (K ++ [t]).getD i 0 ≤ 1048576 from hkeep.out.bd _ (by rw [List.getD, List.getElem?_eq_getElem (by rw [hK1H.out]; exact hi)]; exact List.getElem_mem _))
      have ownAH := Lib.hid ownA; have hJ5H := Lib.hid hJ5; have hb5H := Lib.hid hb5
      clear ownA gA atA bJ5 hJ5 hb5 hR6 hownKH hownJH hbH bJH hrdH
      rw [hK2H.out] at hse hdrop
      rw [hK1H.out] at hdrop
      by_cases hlate : du < K.sum + t
      · have hgt : decide (du < K.sum + t) = true := decide_eq_true hlate
        go_wp2_with fail
        refine HM.out.mono ?_
        rintro _ _ ⟨⟨j, hj, rfl, hmax⟩, rfl⟩
        have hbj := hbd6.out j hj
        have HI1 := Lib.hid (HI.out _ ⟨j, hj, rfl⟩)
        have hmaxH := Lib.hid hmax
        clear hmax HM HI
        obtain ⟨x, hx⟩ : ∃ x, (K ++ [t]).getD j 0 = x := ⟨_, rfl⟩
        rw [hx] at HI1 hmaxH hbj ⊢
        clear hx
        have hs2 : IntKind.i64.wrap (K.sum + t - x) = K.sum + t - x := IntWalk.i64_in _ (by omega)
        go_wp2_with fail
        refine HI1.out.mono ?_
        rintro _ _ ⟨⟨i, hi, rfl, hFi⟩, rfl⟩
        have hi1 : IntKind.i64.wrap ((i : Int) + 1) = ((i + 1 : Nat) : Int) := by rw [IntWalk.i64_in _ (by omega)]; omega
        have HD1 := Lib.hid (HD.out i hi)
        have hsei := hse.out i hi
        rw [hFi] at hsei
        have hnew := Lib.hid (hdrop.out (by rw [hpd.out]; exact hlate) i hi (by rw [hFi]; exact hmaxH.out))
        clear HD hdrop hkeep
        go_wp2_with fail
        refine HD1.out.mono ?_
        rintro _ w6 ⟨v6, rfl, own6, g6⟩
        have hJ6 := Lib.hid (hJ5H.out.kept g6 (.inr fun e => own_two hJ5H.out ownAH.out (by decide) (g := g) rfl e.symm))
        have hb6 := Lib.hid (hb5H.out.grown g6 hb5H.out.size (fun r e => (ownAH.out.lt r e).1))
        have hel6 : ((K ++ [t]).eraseIdx i).length = K.length := by rw [List.length_eraseIdx, if_pos (by rw [hK1H.out]; exact hi), hK1H.out]; omega
        have own6H := Lib.hid (show w6.ownsRow w.heap.size 2 1 v6 ((K ++ [t]).eraseIdx i).length (ints .i64 ((K ++ [t]).eraseIdx i)) by rw [hel6]; exact own6)
        have hseH := Lib.hid hsei
        clear own6 g6 hel6 hsei HD1 HI1
        go_wp2
        go_roundw
        case rel => exact ⟨k + 1, (K ++ [t]).eraseIdx i, by omega, by go_num, by rw [hseH.out], own6H.out, hnew.out, hJ6.out, hb6.out⟩
        case measure => simp [intOf]; omega
      · have hgt : decide (du < K.sum + t) = false := decide_eq_false hlate
        go_wp2
        go_roundw
        case rel => exact ⟨k + 1, K ++ [t], by omega, by go_num, by rw [hK2H.out], by rw [hK1H.out]; exact ownAH.out, hkeep.out, hJ5H.out, hb5H.out⟩
        case measure => simp [intOf]; omega
    · obtain rfl : k = len := by omega
      have hownKH := Lib.hid hownK
      obtain ⟨A6, c6, rfl⟩ := own_slice hownK
      clear hownK hownJ
      go_wp2
      go_ret2
      exact ⟨⟨K, o, rfl, hpH.out, hsrH.out, hM⟩, hb⟩
end Go.Proofs.Ytnpmmmicgpngpaa
