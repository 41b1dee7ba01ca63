/- ColourOrder: in the order in which the best colouring has its nodes, colour by colour, who goes node by node needs no more colours. -/
import Derived.Test.YtnpgnohnpbdblaaDoorGreedy
import Derived.Test.YtnpgnohnpbdblaaDoorInside
import Derived.Test.YtnpgnohnpbdblaaDoorCard
namespace Go.Proofs.YtnpgnohnpbdblaaDoor
open Go.RowKit Go.Shelf

/-- the nodes with the first c colours, and of the next one those below i -/
def ordI (n : Nat) (L : Nat → Int) (c i : Nat) : List Nat := (List.range c).flatMap (fun (c : Nat) => (List.range n).filter fun j => L j == (c : Int)) ++ (List.range i).filter fun j => L j == (c : Int)
theorem ordI_zero (n : Nat) (L : Nat → Int) : ordI n L 0 0 = [] := rfl
theorem ordI_turn (n : Nat) (L : Nat → Int) (c : Nat) : ordI n L (c + 1) 0 = ordI n L c n := by simp [ordI, List.range_succ]
theorem ordI_take (n : Nat) (L : Nat → Int) (c i : Nat) (h : L i = c) : ordI n L c (i + 1) = ordI n L c i ++ [i] := by
  simp [ordI, List.range_succ, List.filter_append, h]
theorem ordI_skip (n : Nat) (L : Nat → Int) (c i : Nat) (h : L i ≠ c) : ordI n L c (i + 1) = ordI n L c i := by
  simp [ordI, List.range_succ, List.filter_append, h]
theorem ordI_mem {n : Nat} {L : Nat → Int} {c i j : Nat} (_hi : i ≤ n) : j ∈ ordI n L c i ↔ (∃ d : Nat, d < c ∧ j < n ∧ L j = d) ∨ (j < i ∧ L j = c) := by
  unfold ordI
  simp only [List.mem_append, List.mem_flatMap, List.mem_range, List.mem_filter, beq_iff_eq]
theorem ordI_nodup {n : Nat} (L : Nat → Int) (i : Nat) (_hi : i ≤ n) : ∀ c, (ordI n L c i).Nodup := by
  have hblk : ∀ c i, ((List.range i).filter fun j => L j == ((c : Nat) : Int)).Nodup := fun c i => List.nodup_range.filter _
  have hall : ∀ c : Nat, ((List.range c).flatMap (fun (c : Nat) => (List.range n).filter fun j => L j == ((c : Nat) : Int))).Nodup := by
    intro c
    induction c with
    | zero => simp
    | succ c ih =>
      rw [List.range_succ, List.flatMap_append, List.nodup_append]
      refine ⟨ih, by simpa using hblk c n, fun a ha b hb e => ?_⟩
      subst e
      simp only [List.mem_flatMap, List.mem_range, List.mem_filter, beq_iff_eq, List.mem_singleton] at ha hb
      obtain ⟨d, hd, _, h1⟩ := ha
      obtain ⟨e, rfl, _, h2⟩ := hb
      omega
  intro c
  unfold ordI
  rw [List.nodup_append]
  refine ⟨hall c, hblk c i, fun a ha b hb e => ?_⟩
  subst e
  simp only [List.mem_flatMap, List.mem_range, List.mem_filter, beq_iff_eq] at ha hb
  obtain ⟨d, hd, _, h1⟩ := ha
  omega
theorem ordI_len {n : Nat} {L : Nat → Int} {c i : Nat} (hi : i ≤ n) : (ordI n L c i).length ≤ n := by
  have := List.Nodup.length_le_of_subset (l₂ := List.range n) (ordI_nodup L i hi c) (fun j hj => by
    rcases (ordI_mem hi).1 hj with ⟨_, _, h, _⟩ | ⟨h, _⟩ <;> exact List.mem_range.2 (by omega))
  simpa using this
theorem ordI_perm {ns : List Nat} {n k : Nat} {L : Nat → Int} (h : Col ns n k L) : (ordI n L k 0).Perm (List.range n) :=
  (List.perm_ext_iff_of_nodup (ordI_nodup L 0 (Nat.zero_le _) k) List.nodup_range).2 fun j => by
    rw [ordI_mem (Nat.zero_le _), List.mem_range]
    constructor
    · rintro (⟨_, _, h, _⟩ | ⟨h, _⟩)
      · exact h
      · omega
    · intro hj
      obtain ⟨h1, h2, _⟩ := h j hj
      obtain ⟨d, hd⟩ := Int.eq_ofNat_of_zero_le h1
      exact .inl ⟨d, by omega, hj, hd⟩
/-- colour by colour -/
theorem ordI_pw (n : Nat) (L : Nat → Int) (i : Nat) : ∀ c, (ordI n L c i).Pairwise fun a b => L a ≤ L b := by
  have hblk : ∀ (c i : Nat), ((List.range i).filter fun j => L j == ((c : Nat) : Int)).Pairwise fun a b => L a ≤ L b := fun c i => by
    refine List.Pairwise.imp_of_mem ?_ (List.Pairwise.filter _ (List.pairwise_lt_range (n := i)))
    intro a b ha hb _
    simp only [List.mem_filter, beq_iff_eq] at ha hb
    omega
  have hall : ∀ c : Nat, ((List.range c).flatMap (fun (c : Nat) => (List.range n).filter fun j => L j == ((c : Nat) : Int))).Pairwise fun a b => L a ≤ L b := by
    intro c
    induction c with
    | zero => simp
    | succ c ih =>
      rw [List.range_succ, List.flatMap_append, List.pairwise_append]
      refine ⟨ih, by simpa using hblk c n, fun a ha b hb => ?_⟩
      simp only [List.mem_flatMap, List.mem_range, List.mem_filter, beq_iff_eq, List.mem_singleton] at ha hb
      obtain ⟨d, hd, _, h1⟩ := ha
      obtain ⟨e, rfl, _, h2⟩ := hb
      omega
  intro c
  unfold ordI
  rw [List.pairwise_append]
  refine ⟨hall c, hblk c i, fun a ha b hb => ?_⟩
  simp only [List.mem_flatMap, List.mem_range, List.mem_filter, beq_iff_eq] at ha hb
  obtain ⟨d, hd, _, h1⟩ := ha
  omega
theorem pw_getD {L : Nat → Int} {y : List Nat} {n : Nat} (hl : y.length = n) (h : y.Pairwise fun a b => L a ≤ L b) (i j : Nat) (hij : i ≤ j) (hj : j < n) : L (y.getD i 0) ≤ L (y.getD j 0) := by
  rcases Nat.lt_or_ge i j with hlt | hge
  · have := List.pairwise_iff_getElem.1 h i j (by omega) (by omega) hlt
    simpa [List.getD, show i < y.length by omega, show j < y.length by omega] using this
  · obtain rfl : i = j := by omega
    exact Int.le_refl _
theorem row_intsO (n : Nat) (F : Nat → Int) : row n F = ints .i64 ((List.range n).map F) := by simp [row, ints]
theorem own_capO {w : World} {b e s n c m : Nat} {A : Option Addr} {xs : List Value} (h : w.ownsRow b e s (.slice A n c) m xs) : n ≤ c := by
  rcases h.2 with ⟨h1, h2⟩ | ⟨g, cap, cur, h1, h2⟩
  · injection h1 with h3 h4 h5; omega
  · injection h1 with h3 h4 h5
    subst h5
    have := h2.2.2.1; omega
theorem natI_len (y : List Nat) : (natI y).length = y.length := by simp [natI]
theorem natI_snoc (y : List Nat) (i : Nat) : natI (y ++ [i]) = natI y ++ [(i : Int)] := by simp [natI]
set_option maxHeartbeats 3200000 in
set_option maxRecDepth 100000 in
theorem order_walk (N : Int) (A : Option Addr) (len cap : Nat) (es : List E) (w : World) (hr : Rd w A len 3 (ps3 .i64 .i64 .i64 es)) (hlen : len ≤ 9223372036854775807) (hcap : len ≤ cap) (htb : Tb w) (hg : 0 < w.heap.size) :
    Calls Tryd.prog 9 #[.agg #[.int .i64 N, .slice A len cap]] w fun e w' => e = .returned (.bool true) ∧ Below w.heap.size w w' := by
  have gb := (Below.refl _ w).alloc (Nat.le_refl _) (.cells #[.int .i64 N, .slice A len cap] 24)
  have g0 : (w.alloc (.cells #[.int .i64 N, .slice A len cap] 24)).cell? ⟨w.heap.size, 0, none⟩ = some (.int .i64 N) := by go_simp
  have g1 : (w.alloc (.cells #[.int .i64 N, .slice A len cap] 24)).cell? ⟨w.heap.size, 1, none⟩ = some (.slice A len cap) := by go_simp
  have gs : (w.alloc (.cells #[.int .i64 N, .slice A len cap] 24)).heap.size = w.heap.size + 1 := by simp
  have HG := Lib.hid (fun W (h : Below w.heap.size w W) => good_any N A len cap es W (hr.later h) hlen hcap)
  cases hq : gchk N es == 0
  · have HL := Lib.hid (least_bad N A len cap es _ (hr.later gb) hlen hq)
    rw [hq] at HG
    clear hr hq htb
    go_enter Tryd.func9, Tryd.ntmps9
    go_wp2_with fail
    generalize w.alloc (.cells #[.int .i64 N, .slice A len cap] 24) = wg at *
    refine HL.out.mono ?_
    rintro _ w1 ⟨z, rfl, hz, hb1⟩
    have q0 := below_cell hb1 (by omega) g0
    have q1 := below_cell hb1 (by omega) g1
    have hbw := gb.trans (hb1.mono (by omega))
    have HG1 := Lib.hid (HG.out w1 hbw)
    clear hb1
    go_wp2_with fail
    refine HG1.out.mono ?_
    rintro _ w2 ⟨rfl, hb2⟩
    go_wp2
    go_ret
    exact ⟨rfl, hbw.trans (hb2.mono hbw.size)⟩
  · have hok : gchk N es = 0 := by simpa using hq
    obtain ⟨h0, h10, h45, hokE, _⟩ := gchk_ok hok
    obtain ⟨n, rfl⟩ := Int.eq_ofNat_of_zero_le h0
    rw [Int.toNat_natCast] at hokE
    rw [ps3_len hr] at h45
    have hN : n ≤ 10 := by omega
    have g := nearGr hok
    rw [hq] at HG
    have HL := Lib.hid (least_ok n A len cap es _ (hr.later gb) h45 hok (htb.below hg gb) (by omega))
    have HGr := Lib.hid (fun W (h : Below w.heap.size w W) A' m c zs (hR : Rd W A' m 1 (ints .i64 zs)) hm => greedy_ok n A len cap es A' m c zs W (hr.later h) h45 hok hR hm (htb.below hg h) (Nat.lt_of_lt_of_le hg h.size))
    have gH := Lib.hid g
    clear hr hq htb hok hokE g
    go_enter Tryd.func9, Tryd.ntmps9
    go_wp2_with fail
    generalize w.alloc (.cells #[.int .i64 (n : Int), .slice A len cap] 24) = wg at *
    refine HL.out.mono ?_
    rintro _ w1 ⟨k, gl, L, rfl, hown, hcol, hchi, hkN, hb1⟩
    have q0 := below_cell hb1 (by omega) g0
    have q1 := below_cell hb1 (by omega) g1
    have hs1 := hb1.size
    have hbw := gb.trans (hb1.mono (by omega))
    have HG1 := Lib.hid (HG.out w1 hbw)
    have hownH := Lib.hid hown; have hcolH := Lib.hid hcol; have hchiH := Lib.hid hchi
    clear hb1 g0 g1 hown hcol hchi gb
    go_wp2_with fail
    refine HG1.out.mono ?_
    rintro _ w2 ⟨rfl, hb2⟩
    have q0 := below_cell hb2 (by omega) q0
    have q1 := below_cell hb2 (by omega) q1
    have hs2 := hb2.size
    have hbw2 := hbw.trans (hb2.mono hbw.size)
    have hRl := Lib.hid ((Rd.of_own hownH.out).later hb2)
    have hS2 : w.heap.size < w2.heap.size := by omega
    have hbw2H := Lib.hid hbw2
    have q0H := Lib.hid q0; have q1H := Lib.hid q1
    clear hb2 hbw hownH hbw2
    go_wp2
    go_loopw [6, 7, 8] (fun v c _ wr => ∃ c' : Nat, c' ≤ k ∧ c = .int .i64 c' ∧ wr.ownsRow w2.heap.size 3 1 v (ordI n L c' 0).length (ints .i64 (natI (ordI n L c' 0))) ∧ Below w2.heap.size w2 wr) (fun _ c _ _ => k - (intOf c).toNat)
    case atStart => exact ⟨0, Nat.zero_le _, rfl, World.ownsRow_nil _ _ _ _, Below.refl _ _⟩
    case round =>
      clear q0 q1
      obtain ⟨c, hc, rfl, hown, hb⟩ := hrel
      have hownH := Lib.hid hown; clear hown
      have q0 := below_cell hb hS2 q0H.out
      by_cases hck : c < k
      · go_wp2
        go_loopw [6, 8] (fun v i wx => ∃ i' : Nat, i' ≤ n ∧ i = .int .i64 i' ∧ wx.ownsRow w2.heap.size 3 1 v (ordI n L c i').length (ints .i64 (natI (ordI n L c i'))) ∧ Below w2.heap.size w2 wx) (fun _ i _ => n - (intOf i).toNat)
        case atStart => exact ⟨0, Nat.zero_le _, rfl, hownH.out, hb⟩
        case round =>
          clear q0 hb hownH
          obtain ⟨i, hi, rfl, hown, hb⟩ := hrel
          have q0 := below_cell hb hS2 q0H.out
          by_cases hin : i < n
          · obtain ⟨_, _, hA, hgl, hcl⟩ := (hRl.out.later hb).row hin
            cases hA
            rw [Nat.zero_add] at hcl
            have hoh := Lib.hid hown
            have hbH := Lib.hid hb
            have hlen2 := ordI_len (n := n) (L := L) (c := c) (i := i) (by omega)
            have hii : (i : Int) < n := by omega
            by_cases he : L i = c
            · have htk := Lib.hid (ordI_take n L c i he)
              rw [he] at hcl
              generalize ordI n L c i = y at *
              clear hown hb he
              go_wp2_with (at_builtin; refine wpList_app (s := .tmp 48) (x := .tmp 50) _ tiI (hoh.out.alloc _) (rd_new1 _ (.int .i64 i) 3) (ints_one (l := [(i : Int)])) (by omega) (by omega) (hbH.out.alloc hbH.out.size _).size rfl rfl rfl rfl ?_)
              intro v' w5 hown5 hg5 hat5
              have hb5 : Below w2.heap.size w2 w5 := (hbH.out.alloc hbH.out.size _).grown hg5 (hbH.out.alloc hbH.out.size _).size (fun g hg' => (hoh.out.lt g hg').1)
              clear hg5 hat5
              go_wp2
              go_roundw
              case rel => exact ⟨i + 1, by omega, by go_num, by rw [htk.out, natI_snoc, List.length_append]; simpa [ints] using hown5, hb5⟩
              case measure => simp [intOf]; omega
            · have hsk := Lib.hid (ordI_skip n L c i he)
              have hne : (L i == (c : Int)) = false := by simpa using he
              generalize L i = li at *
              clear hown hb he
              go_wp2
              go_roundw
              case rel => exact ⟨i + 1, by omega, by go_num, by rw [hsk.out]; exact hoh.out, hbH.out⟩
              case measure => simp [intOf]; omega
          · obtain rfl : i = n := by omega
            have hoh := Lib.hid hown
            have hbH := Lib.hid hb
            have htn := Lib.hid (ordI_turn i L c)
            clear hown hb
            go_wp2
            go_roundw
            case rel => exact ⟨c + 1, by omega, by go_num, by rw [htn.out]; exact hoh.out, hbH.out⟩
            case measure => simp [intOf]; omega
      · obtain rfl : c = k := by omega
        have hp := ordI_perm hcolH.out
        have hyl : (ordI n L c 0).length = n := by simpa using hp.length_eq
        have hpw := pw_getD hyl (ordI_pw n L 0 c)
        have hbT := hbw2H.out.trans (hb.mono (by omega))
        obtain ⟨A', c', hv⟩ := own_slice hownH.out
        subst hv
        have HGr1 := HGr.out wr hbT A' (ordI n L c 0).length c' _ (Rd.of_own hownH.out) (by omega)
        have hE := (eachB_iff n (natI (ordI n L c 0))).2 ⟨_, hp, rfl⟩
        have HGrH := Lib.hid HGr1
        have q1 := below_cell hb hS2 q1H.out
        have hS3 : w.heap.size < wr.heap.size := by have := hb.size; omega
        have hbTH := Lib.hid hbT; have hpH := Lib.hid hp; have hpwH := Lib.hid hpw; have hEH := Lib.hid hE
        clear hb hbT HGr1 hp hpw hE hyl
        generalize ordI n L c 0 = y at *
        go_wp2_with fail
        refine HGrH.out.mono ?_
        rintro _ w6 ⟨hb6, ⟨hf, _⟩ | ⟨y', gl2, L2, hp2, hy2, rfl, hown2, hG⟩⟩
        · rw [hEH.out] at hf; cases hf
        · have q0 := below_cell hb6 hS3 q0
          have hyy : y' = y := by
            have h1 : (natI y).map Int.toNat = (natI y').map Int.toNat := by rw [hy2]
            have h2 : ∀ z : List Nat, (natI z).map Int.toNat = z := fun z => by simp [natI, Function.comp_def]
            rw [h2, h2] at h1; exact h1.symm
          subst hyy
          have hun := hG.under hp2 hcolH.out hpwH.out
          have hcolG := hG.col gH.out hp2
          have hall : insideB (c : Int) ((List.range n).map L2) = true := List.all_eq_true.2 fun z hz => by
            obtain ⟨j, hj, rfl⟩ := List.mem_map.1 hz
            have hj := List.mem_range.1 hj
            obtain ⟨i, hi, he⟩ := List.getElem_of_mem (hp2.mem_iff.2 (List.mem_range.2 hj))
            have hyl : y'.length = n := by simpa using hp2.length_eq
            have h1 := hun i (by omega)
            have h2 : y'.getD i 0 = j := by rw [← he]; simp [List.getD, hi]
            rw [h2] at h1
            have h3 := (hcolH.out j hj).2.1
            have h4 := (hcolG j hj).1
            unfold inB; simp; omega
          have hR6 := Rd.of_own hown2
          rw [row_intsO] at hR6
          have HI := inside_any (c : Int) (some ⟨gl2, 0, none⟩) n n _ w6 hR6 (by omega)
          rw [hall] at HI
          have HIH := Lib.hid HI
          have hb7 := hbTH.out.trans (hb6.mono hbTH.out.size)
          clear hb6 hp2 hy2 hown2 hG hun hcolG hall hR6 HI
          go_wp2_with fail
          refine HIH.out.mono ?_
          rintro _ w7 ⟨rfl, rfl⟩
          go_wp2
          go_ret
          exact ⟨rfl, hb7⟩
theorem colourOrder_any (N : Int) (A : Option Addr) (len cap : Nat) (es : List E) (w : World) (_ : (Lit.int .i64 N).wf = true) (hr : Rd w A len 3 (ps3 .i64 .i64 .i64 es)) (hlen : len ≤ maxLen) (hcap : len ≤ cap) (_ : ∀ a ∈ es, (Lit.int .i64 a.1).wf = true ∧ (Lit.int .i64 a.2.1).wf = true ∧ (Lit.int .i64 a.2.2).wf = true) (htb : Tb w) (hg : 0 < w.heap.size) :
    Calls Tryd.prog 9 #[.agg #[.int .i64 N, .slice A len cap]] w fun e w' => e = .returned (.bool true) ∧ Below w.heap.size w w' := by
  unfold maxLen at hlen
  exact order_walk N A len cap es w hr (by omega) hcap htb hg
end Go.Proofs.YtnpgnohnpbdblaaDoor
