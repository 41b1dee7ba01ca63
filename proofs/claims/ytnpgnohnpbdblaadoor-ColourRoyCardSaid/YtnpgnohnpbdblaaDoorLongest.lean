/- teamsterkeep.longest: how many nodes the longest row has that goes along edges, as an order has them. -/
import Derived.Test.YtnpgnohnpbdblaaDoorGreedyLaw
import Derived.Test.YtnpgnohnpbdblaaDoorRefNearA
import Derived.Test.YtnpgnohnpbdblaaDoorRepeat
import Derived.Test.YtnpgnohnpbdblaaDoorBel
namespace Go.Proofs.YtnpgnohnpbdblaaDoor
open Go.RowKit

/-- of the first k each how long the longest row is that ends there -/
structure LoI (ns : List Nat) (y : List Nat) (k : Nat) (B : Nat → Int) (most : Int) : Prop where
  bd : ∀ j, j < k → 1 ≤ B (y.getD j 0) ∧ B (y.getD j 0) ≤ j + 1
  up : ∀ j, j < k → ∀ i, i < j → nb ns (y.getD j 0) (y.getD i 0) = true → B (y.getD i 0) + 1 ≤ B (y.getD j 0)
  why : ∀ j, j < k → B (y.getD j 0) = 1 ∨ ∃ i, i < j ∧ nb ns (y.getD j 0) (y.getD i 0) = true ∧ B (y.getD j 0) = B (y.getD i 0) + 1
  top : ∀ j, j < k → B (y.getD j 0) ≤ most
  at' : (k = 0 ∧ most = 0) ∨ ∃ j, j < k ∧ most = B (y.getD j 0)
/-- the same of the next one, along the first t -/
structure LoJ (ns : List Nat) (y : List Nat) (k t : Nat) (B : Nat → Int) : Prop where
  bd : 1 ≤ B (y.getD k 0) ∧ B (y.getD k 0) ≤ t + 1
  up : ∀ i, i < t → nb ns (y.getD k 0) (y.getD i 0) = true → B (y.getD i 0) + 1 ≤ B (y.getD k 0)
  why : B (y.getD k 0) = 1 ∨ ∃ i, i < t ∧ nb ns (y.getD k 0) (y.getD i 0) = true ∧ B (y.getD k 0) = B (y.getD i 0) + 1
section
variable {ns y : List Nat} {n k t : Nat} {B : Nat → Int} {most : Int}
theorem perm_ne (hp : y.Perm (List.range n)) {i j : Nat} (hi : i < n) (hj : j < n) (h : i ≠ j) : y.getD i 0 ≠ y.getD j 0 := by
  have hl : y.length = n := by simpa using hp.length_eq
  have hnd : y.Nodup := hp.nodup_iff.2 List.nodup_range
  have e1 : y.getD i 0 = y[i]'(by omega) := by simp [List.getD, show i < y.length by omega]
  have e2 : y.getD j 0 = y[j]'(by omega) := by simp [List.getD, show j < y.length by omega]
  rw [e1, e2]
  intro he
  rcases Nat.lt_or_ge i j with h1 | h1
  · exact (List.pairwise_iff_getElem.1 hnd) i j (by omega) (by omega) h1 he
  · exact (List.pairwise_iff_getElem.1 hnd) j i (by omega) (by omega) (by omega) he.symm
theorem LoI.start : LoI ns y 0 B 0 := ⟨fun _ h => absurd h (by omega), fun _ h => absurd h (by omega), fun _ h => absurd h (by omega), fun _ h => absurd h (by omega), .inl ⟨rfl, rfl⟩⟩
theorem LoI.other (hp : y.Perm (List.range n)) (hk : k < n) (h : LoI ns y k B most) (x : Int) : LoI ns y k (updN B (y.getD k 0) x) most := by
  have e : ∀ j, j < k → updN B (y.getD k 0) x (y.getD j 0) = B (y.getD j 0) := fun j hj => by unfold updN; rw [if_neg (perm_ne hp (by omega) hk (by omega))]
  refine ⟨fun j hj => ?_, fun j hj i hi hnb => ?_, fun j hj => ?_, fun j hj => ?_, ?_⟩
  · rw [e j hj]; exact h.bd j hj
  · rw [e j hj, e i (by omega)]; exact h.up j hj i hi hnb
  · rw [e j hj]
    rcases h.why j hj with h1 | ⟨i, h1, h2, h3⟩
    · exact .inl h1
    · exact .inr ⟨i, h1, h2, by rw [e i (by omega)]; exact h3⟩
  · rw [e j hj]; exact h.top j hj
  · rcases h.at' with h1 | ⟨j, h1, h2⟩
    · exact .inl h1
    · exact .inr ⟨j, h1, by rw [e j h1]; exact h2⟩
theorem LoJ.start : LoJ ns y k 0 (updN B (y.getD k 0) 1) := ⟨by simp [updN], fun _ h => absurd h (by omega), .inl (by simp [updN])⟩
theorem LoJ.take (hp : y.Perm (List.range n)) (hk : k < n) (ht : t < k) (hI : LoI ns y k B most) (h : LoJ ns y k t B) (hnb : nb ns (y.getD k 0) (y.getD t 0) = true) (hgt : B (y.getD k 0) < B (y.getD t 0) + 1) :
    LoJ ns y k (t + 1) (updN B (y.getD k 0) (B (y.getD t 0) + 1)) := by
  have e : ∀ j, j < k → updN B (y.getD k 0) (B (y.getD t 0) + 1) (y.getD j 0) = B (y.getD j 0) := fun j hj => by unfold updN; rw [if_neg (perm_ne hp (by omega) hk (by omega))]
  have e0 : updN B (y.getD k 0) (B (y.getD t 0) + 1) (y.getD k 0) = B (y.getD t 0) + 1 := by simp [updN]
  have hb := hI.bd t ht
  refine ⟨by rw [e0]; omega, fun i hi hn => ?_, .inr ⟨t, by omega, hnb, by rw [e0, e t ht]⟩⟩
  rw [e0, e i (by omega)]
  rcases Nat.lt_or_ge i t with h1 | h1
  · have := h.up i h1 hn; omega
  · obtain rfl : i = t := by omega
    exact Int.le_refl _
theorem LoJ.skip (h : LoJ ns y k t B) (hno : nb ns (y.getD k 0) (y.getD t 0) = true → B (y.getD t 0) + 1 ≤ B (y.getD k 0)) : LoJ ns y k (t + 1) B := by
  refine ⟨by have := h.bd; omega, fun i hi hn => ?_, ?_⟩
  · rcases Nat.lt_or_ge i t with h1 | h1
    · exact h.up i h1 hn
    · obtain rfl : i = t := by omega
      exact hno hn
  · rcases h.why with h1 | ⟨i, h1, h2⟩
    · exact .inl h1
    · exact .inr ⟨i, by omega, h2⟩
theorem LoI.step (h : LoI ns y k B most) (hJ : LoJ ns y k k B) {m' : Int} (hm : m' = if most < B (y.getD k 0) then B (y.getD k 0) else most) : LoI ns y (k + 1) B m' := by
  have hle : most ≤ m' := by rw [hm]; split <;> omega
  have hle2 : B (y.getD k 0) ≤ m' := by rw [hm]; split <;> omega
  have cs : ∀ j, j < k + 1 → j < k ∨ j = k := fun j hj => by omega
  refine ⟨fun j hj => ?_, fun j hj i hi hnb => ?_, fun j hj => ?_, fun j hj => ?_, .inr ?_⟩
  · rcases cs j hj with h1 | rfl
    · exact h.bd j h1
    · exact hJ.bd
  · rcases cs j hj with h1 | rfl
    · exact h.up j h1 i hi hnb
    · exact hJ.up i hi hnb
  · rcases cs j hj with h1 | rfl
    · exact h.why j h1
    · exact hJ.why
  · rcases cs j hj with h1 | rfl
    · have := h.top j h1; omega
    · exact hle2
  · by_cases hlt : most < B (y.getD k 0)
    · exact ⟨k, by omega, by rw [hm, if_pos hlt]⟩
    · rw [hm, if_neg hlt]
      rcases h.at' with ⟨h1, h2⟩ | ⟨j, h1, h2⟩
      · have := hJ.bd; omega
      · exact ⟨j, by omega, h2⟩
/-- who goes by how long the longest row is has a colouring -/
theorem LoI.col (g : Gr n ns) (hp : y.Perm (List.range n)) (h : LoI ns y n B most) : Col ns n most.toNat fun j => B j - 1 := by
  have hl : y.length = n := by simpa using hp.length_eq
  have hidx : ∀ j, j < n → ∃ q, q < n ∧ y.getD q 0 = j := fun j hj => by
    obtain ⟨q, hq, he⟩ := List.getElem_of_mem (hp.mem_iff.2 (List.mem_range.2 hj))
    exact ⟨q, by omega, by simp [List.getD, hq, he]⟩
  intro j hj
  obtain ⟨q, hq, rfl⟩ := hidx j hj
  have hb := h.bd q hq
  have ht := h.top q hq
  refine ⟨by dsimp only; omega, by dsimp only; omega, fun m hm => ?_⟩
  dsimp only
  obtain ⟨_, hmn, hs, _⟩ := g.ok _ _ hm
  obtain ⟨r, hr, rfl⟩ := hidx m hmn
  rcases Nat.lt_trichotomy r q with h1 | rfl | h1
  · have := h.up q hq r h1 hm; omega
  · exact absurd rfl (g.ok _ _ hm).2.2.2
  · have := h.up r hr q h1 hs; omega
/-- in an order by a colouring none is longer than how many colours there are by then -/
theorem LoI.under (hp : y.Perm (List.range n)) (h : LoI ns y n B most) {K : Nat} {M : Nat → Int} (hM : Col ns n K M) (hs : ∀ i j, i ≤ j → j < n → M (y.getD i 0) ≤ M (y.getD j 0)) : most ≤ K := by
  have key : ∀ j, j < n → B (y.getD j 0) ≤ M (y.getD j 0) + 1 := by
    intro j
    induction j using Nat.strongRecOn with
    | _ j ih =>
      intro hj
      obtain ⟨h1, _⟩ := perm_at hp hj
      have h2 := hM _ h1
      rcases h.why j hj with h3 | ⟨i, h3, h4, h5⟩
      · omega
      · have h6 := ih i h3 (by omega)
        have h7 := hs i j (by omega) hj
        have h8 := h2.2.2 _ h4
        omega
  rcases h.at' with ⟨_, h1⟩ | ⟨j, h1, h2⟩
  · omega
  · have h3 := key j h1
    have h4 := (hM _ (perm_at hp h1).1).2.1
    omega
end
def LongPost (ns : List Nat) (n : Nat) (y : List Nat) (w : World) (e : Ending) (w' : World) : Prop := ∃ (B : Nat → Int) (most : Int), e = .returned (.int .i64 most) ∧ 0 ≤ most ∧ most ≤ 10 ∧ LoI ns y n B most ∧ Below w.heap.size w w'
set_option maxHeartbeats 3200000 in
set_option maxRecDepth 100000 in
theorem longest_any (N : Nat) (A : Option Addr) (len cap : Nat) (es : List E) (A2 : Option Addr) (cap2 : Nat) (y : List Nat) (w : World) (hr : Rd w A len 3 (ps3 .i64 .i64 .i64 es)) (hl : len ≤ 45) (hok : gchk N es = 0)
    (hr2 : Rd w A2 N 1 (ints .i64 (natI y))) (hcap2 : N ≤ cap2) (hp : y.Perm (List.range N)) :
    Calls Tryd.prog 23 #[.agg #[.int .i64 N, .slice A len cap], .slice A2 N cap2] w (LongPost (nearW N es) N y w) := by
  obtain ⟨_, h10, _, hokE, _⟩ := gchk_ok hok
  rw [Int.toNat_natCast] at hokE
  have hN : N ≤ 10 := by omega
  have hyl : y.length = N := by simpa using hp.length_eq
  have gb := (Below.refl _ w).alloc (Nat.le_refl _) (.cells #[.int .i64 N, .slice A len cap] 24)
  have g0 : (w.alloc (.cells #[.int .i64 N, .slice A len cap] 24)).cell? ⟨w.heap.size, 0, none⟩ = some (.int .i64 N) := by go_simp
  have g1 : (w.alloc (.cells #[.int .i64 N, .slice A len cap] 24)).cell? ⟨w.heap.size, 1, none⟩ = some (.slice A len cap) := by go_simp
  have gs : (w.alloc (.cells #[.int .i64 N, .slice A len cap] 24)).heap.size = w.heap.size + 1 := by simp
  have HNr := Lib.hid (fun W (h : Below w.heap.size w W) i j => refNear_any N i j A len cap es W (hr.later h) hl hokE)
  have hnb := Lib.hid (fun i j (hi : i < N) => show nb (nearW N es) i j = adj es i j from nearW_bit es hokE i j hi)
  have hr2H := Lib.hid hr2; have hpH := Lib.hid hp; have hylH := Lib.hid hyl
  clear hr hok hokE hr2 hp
  go_enter Tryd.func23, Tryd.ntmps23
  go_wp2_with (at_make; refine wpList_mk1 _ tiI (w.heap.size + 1) N (by omega) (by omega) (by simp) rfl rfl rfl rfl rfl rfl rfl ?_)
  generalize w.alloc (.cells #[.int .i64 N, .slice A len cap] 24) = wg at *
  intro w1 hown hg1
  rw [row_replicate] at hown
  have hbg := below_grown hg1
  have q0 := below_cell hbg (by omega) g0
  have q1 := below_cell hbg (by omega) g1
  have hbw := gb.trans (hbg.mono (by omega))
  have hs1 := hbg.size
  clear hbg hg1 g0 g1 gb
  go_wp2
  go_loopw [6, 7, 8, 10, 16] (fun m _ _ _ i wr => ∃ (k : Nat) (B : Nat → Int) (most : Int), k ≤ N ∧ i = .int .i64 k ∧ m = .int .i64 most ∧ LoI (nearW N es) y k B most ∧ 0 ≤ most ∧ most ≤ 10 ∧ wr.ownsRow (w.heap.size + 1) 3 1 (.slice (some ⟨w.heap.size + 1, 0, none⟩) N N) N (row N B) ∧ Below w.heap.size w wr ∧ wr.cell? ⟨w.heap.size, 0, none⟩ = some (.int .i64 N) ∧ wr.cell? ⟨w.heap.size, 1, none⟩ = some (.slice A len cap)) (fun _ _ _ _ i _ => N - (intOf i).toNat)
  case atStart => exact ⟨0, _, 0, Nat.zero_le _, rfl, rfl, LoI.start, by omega, by omega, hown, hbw, q0, q1⟩
  case round =>
    clear hown hbw q0 q1
    obtain ⟨k, B, most, hk, rfl, rfl, hI, hm0, hm1, hown, hb, q0, q1⟩ := hrel
    by_cases hlt : k < N
    · obtain ⟨b2, o2, rfl, hab2, hz⟩ := (hr2H.out.later hb).int hlt
      rw [natI_at (by rw [hylH.out]; exact hlt)] at hz
      obtain ⟨hin, _⟩ := perm_at hpH.out hlt
      have hI2 := Lib.hid (hI.other hpH.out hlt 1)
      have hJ0v := Lib.hid (LoJ.start (ns := nearW N es) (y := y) (k := k) (B := B))
      obtain ⟨hgl, hcg⟩ := row_at' hown hin
      have hfz := hown.frozenAt (y.getD k 0)
      have hst := (hown.stored (y.getD k 0) (.int .i64 1)).1
      rw [row_set] at hst
      have hset := hb.setCell (p := ⟨w.heap.size + 1, y.getD k 0, none⟩) (by simp) (.int .i64 1)
      have q0s := cell_set_other (j := y.getD k 0) (v := .int .i64 1) (show w.heap.size ≠ w.heap.size + 1 by omega) q0
      have q1s := cell_set_other (j := y.getD k 0) (v := .int .i64 1) (show w.heap.size ≠ w.heap.size + 1 by omega) q1
      have hii : ((y.getD k 0 : Nat) : Int) < N := by omega
      have hstH := Lib.hid hst; have hsetH := Lib.hid hset
      have hkc : k ≤ cap2 := by omega
      obtain ⟨v, hv⟩ : ∃ v, y.getD k 0 = v := ⟨_, rfl⟩
      have hvH := Lib.hid hv
      rw [hv] at hz hin hcg hfz hii hI2 hstH hsetH q0s q1s
      clear hI hown hst hset hb hv
      go_wp2
      go_loopw [10, 28] (fun _ i wx => ∃ (t : Nat) (B' : Nat → Int), t ≤ k ∧ i = .int .i64 t ∧ LoI (nearW N es) y k B' most ∧ LoJ (nearW N es) y k t B' ∧ wx.ownsRow (w.heap.size + 1) 3 1 (.slice (some ⟨w.heap.size + 1, 0, none⟩) N N) N (row N B') ∧ Below w.heap.size w wx ∧ wx.cell? ⟨w.heap.size, 0, none⟩ = some (.int .i64 N) ∧ wx.cell? ⟨w.heap.size, 1, none⟩ = some (.slice A len cap)) (fun _ i _ => k - (intOf i).toNat)
      case atStart => exact ⟨0, updN B v 1, Nat.zero_le _, rfl, hI2.out, by have := hJ0v.out; rwa [hvH.out] at this, hstH.out, hsetH.out, q0s, q1s⟩
      case round =>
        clear q0 q1 q0s q1s hcg hfz hgl
        obtain ⟨t, B2, ht, rfl, hI, hJ, hown, hb, q0, q1⟩ := hrel
        by_cases htk : t < k
        · obtain ⟨_, _, hA, hab3, hzt⟩ := (hr2H.out.later hb).int (show t < N by omega)
          cases hA
          rw [natI_at (by rw [hylH.out]; omega)] at hzt
          obtain ⟨hut, _⟩ := perm_at hpH.out (show t < N by omega)
          have hbt := hI.bd t htk
          have hbv := hJ.bd
          have hne := perm_ne hpH.out (show t < N by omega) hlt (show t ≠ k by omega)
          have htake := Lib.hid (fun hn hg => And.intro (hI.other hpH.out hlt (B2 (y.getD t 0) + 1)) (LoJ.take hpH.out hlt htk hI hJ hn hg))
          have hskip := Lib.hid (fun hno => hJ.skip (t := t) hno)
          have hIH := Lib.hid hI
          rw [hvH.out] at hbv hne htake hskip
          obtain ⟨u, hu⟩ : ∃ u, y.getD t 0 = u := ⟨_, rfl⟩
          rw [hu] at hzt hut hbt hne htake hskip
          obtain ⟨hgl, hcu⟩ := row_at' hown hut
          obtain ⟨_, hcv⟩ := row_at' hown hin
          have hfv := hown.frozenAt v
          have hst := (hown.stored v (.int .i64 (B2 u + 1))).1
          rw [row_set] at hst
          have hownH := Lib.hid hown; have hbH := Lib.hid hb
          have hstH := Lib.hid (show ∀ W : World, W.ownsRow (w.heap.size + 1) 3 1 (.slice (some ⟨w.heap.size + 1, 0, none⟩) N N) N (row N B2) → (W.setCell ⟨w.heap.size + 1, v, none⟩ (.int .i64 (B2 u + 1))).ownsRow (w.heap.size + 1) 3 1 (.slice (some ⟨w.heap.size + 1, 0, none⟩) N N) N (row N (updN B2 v (B2 u + 1))) from fun W hW => by
            have := (hW.stored v (.int .i64 (B2 u + 1))).1
            rwa [row_set] at this)
          have HN1 := fun W h => HNr.out W h v u
          have hnbe := hnb.out v u hin
          rw [hnbe] at htake hskip
          have hui : (u : Int) < N := by omega
          have hS5 : w.heap.size < wr.heap.size := by omega
          have hS6 : w.heap.size + 1 < wr.heap.size := hgl
          generalize B2 u = bu at *
          have hp0 := BW.cell q0
          have hp1 := BW.cell q1
          have hpu := BW.cell hcu
          have hpv := BW.cell hcv
          have hwb : IntKind.i64.wrap (bu + 1) = bu + 1 := IntWalk.i64_in _ (by omega)
          generalize B2 v = bv at *
          generalize adj es v u = a at *
          clear hI hJ hown hb hst hu hnbe
          have HN1H := Lib.hid HN1
          clear HN1
          cases a
          · have hnx := Lib.hid (hskip.out (fun h => by cases h))
            clear htake hskip
            go_wp2_with fail
            refine wp_region_below (by kernel_rfl) (by kernel_rfl) ?_
            repeat (go_big_quiet_step (first | rfl | (with_reducible refine Calls.bel (HN1H.out _ ?_); exact hbH.out.trans ((BW.hb _).mono hbH.out.size))))
            refine wpQuiet_nil ?_
            rintro _ ⟨⟨wA, bA⟩, rfl⟩
            have qA0 := below_cell bA hS5 q0
            have qA1 := below_cell bA hS5 q1
            have cuA := below_cell bA hS6 hcu
            have cvA := below_cell bA hS6 hcv
            have hbA := hbH.out.trans (bA.mono hbH.out.size)
            have howA := own_below hownH.out bA
            go_wp2_with fail
            go_roundw
            case rel => exact ⟨t + 1, B2, by omega, by go_num, hIH.out, hnx.out, howA, hbA, qA0, qA1⟩
            case measure => simp [intOf]; omega
          · by_cases hgt : bv < bu + 1
            · obtain ⟨hI3, hJ3⟩ := htake.out rfl hgt
              have hI3H := Lib.hid hI3; have hJ3H := Lib.hid hJ3
              have hd1 : decide (bv < bu + 1) = true := by simpa using hgt
              clear htake hskip hI3 hJ3
              go_wp2_with fail
              refine wp_region_below (by kernel_rfl) (by kernel_rfl) ?_
              repeat (go_big_quiet_step (first | rfl | (with_reducible refine Calls.bel (HN1H.out _ ?_); exact hbH.out.trans ((BW.hb _).mono hbH.out.size))))
              refine wpQuiet_nil ?_
              rintro _ ⟨⟨wA, bA⟩, rfl⟩
              have qA0 := below_cell bA hS5 q0
              have qA1 := below_cell bA hS5 q1
              have cuA := below_cell bA hS6 hcu
              have cvA := below_cell bA hS6 hcv
              have hbA := hbH.out.trans (bA.mono hbH.out.size)
              have howA := own_below hownH.out bA
              have hs := hstH.out _ howA
              obtain ⟨hgA, _⟩ := row_at' howA hin
              have hfA := howA.frozenAt v
              have hbS := hbA.setCell (p := ⟨w.heap.size + 1, v, none⟩) (by simp) (.int .i64 (bu + 1))
              have qS0 := cell_set_other (j := v) (v := .int .i64 (bu + 1)) (show w.heap.size ≠ w.heap.size + 1 by omega) qA0
              have qS1 := cell_set_other (j := v) (v := .int .i64 (bu + 1)) (show w.heap.size ≠ w.heap.size + 1 by omega) qA1
              have hsH := Lib.hid hs; have hbSH := Lib.hid hbS
              clear hs hbS howA hbA
              go_wp2
              go_roundw
              case rel => exact ⟨t + 1, updN B2 v (bu + 1), by omega, by go_num, hI3H.out, hJ3H.out, hsH.out, hbSH.out, qS0, qS1⟩
              case measure => simp [intOf]; omega
            · have hnx := Lib.hid (hskip.out (fun _ => by omega))
              have hd1 : decide (bv < bu + 1) = false := by simpa using hgt
              clear htake hskip
              go_wp2_with fail
              refine wp_region_below (by kernel_rfl) (by kernel_rfl) ?_
              repeat (go_big_quiet_step (first | rfl | (with_reducible refine Calls.bel (HN1H.out _ ?_); exact hbH.out.trans ((BW.hb _).mono hbH.out.size))))
              refine wpQuiet_nil ?_
              rintro _ ⟨⟨wA, bA⟩, rfl⟩
              have qA0 := below_cell bA hS5 q0
              have qA1 := below_cell bA hS5 q1
              have cuA := below_cell bA hS6 hcu
              have cvA := below_cell bA hS6 hcv
              have hbA := hbH.out.trans (bA.mono hbH.out.size)
              have howA := own_below hownH.out bA
              go_wp2_with fail
              go_roundw
              case rel => exact ⟨t + 1, B2, by omega, by go_num, hIH.out, hnx.out, howA, hbA, qA0, qA1⟩
              case measure => simp [intOf]; omega
        · obtain rfl : t = k := by omega
          obtain ⟨_, hcv⟩ := row_at' hown hin
          have hbv := hJ.bd
          have hmx := Lib.hid (fun m' hm => hI.step hJ (m' := m') hm)
          rw [hvH.out] at hbv hmx
          have hownH := Lib.hid hown; have hbH := Lib.hid hb
          clear hown hb hI hJ
          obtain ⟨bv, hbe⟩ : ∃ bv, B2 v = bv := ⟨_, rfl⟩
          rw [hbe] at hbv hmx hcv
          clear hbe
          by_cases hgt : most < bv
          · have hn := Lib.hid (hmx.out bv (by rw [if_pos hgt]))
            go_wp2
            go_roundw
            case rel => exact ⟨t + 1, B2, bv, by omega, by go_num, rfl, hn.out, by omega, by omega, hownH.out, hbH.out, q0, q1⟩
            case measure => simp [intOf]; omega
          · have hn := Lib.hid (hmx.out most (by rw [if_neg hgt]))
            go_wp2
            go_roundw
            case rel => exact ⟨t + 1, B2, most, by omega, by go_num, rfl, hn.out, by omega, by omega, hownH.out, hbH.out, q0, q1⟩
            case measure => simp [intOf]; omega
    · obtain rfl : k = N := by omega
      have hIH := Lib.hid hI; have hbH := Lib.hid hb
      clear hown hb hI
      go_wp2
      go_ret
      exact ⟨B, most, rfl, hm0, hm1, hIH.out, hbH.out⟩
end Go.Proofs.YtnpgnohnpbdblaaDoor
