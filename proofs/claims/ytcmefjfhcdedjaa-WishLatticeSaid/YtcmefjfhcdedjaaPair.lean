/- wish.Pair. -/
import Derived.Test.YtcmefjfhcdedjaaWishB
import Derived.Test.YtcmefjfhcdedjaaRepeat
namespace Go.Proofs.Ytcmefjfhcdedjaa
open Go.RowKit

def rowF (l : List Rw) (i : Nat) : List Int := (rat l i).zs
theorem once_of {n : Nat} {r : Rw} (h : badR n r = false) : Once r.zs := fun p q hpq hq e => by
  have h1 := badR_at h hq
  simp only [okAt, Bool.and_eq_true, Bool.not_eq_true'] at h1
  have h2 := h1.2
  unfold hasB at h2
  have h3 := List.any_eq_false.1 h2 (r.zs.getD p 0) (by
    rw [List.mem_take_iff_getElem]
    exact ⟨p, by omega, by simp [List.getD, show p < r.zs.length by omega]⟩)
  rw [e] at h3
  simp at h3
theorem okL_of {n : Nat} {l : List Rw} (hl : l.length = n) (h8 : n ≤ 8) (h : l.any (badR n) = false) : OkL n (rowF l) := by
  have hb : ∀ i, i < n → badR n (rat l i) = false := fun i hi => by
    have := List.any_eq_false.1 h (rat l i) (rat_mem (by omega))
    simpa using this
  have hin : ∀ i, i < n → ∀ p, p < (rowF l i).length → 0 ≤ (rowF l i).getD p 0 ∧ (rowF l i).getD p 0 < n := fun i hi p hp => by
    have h1 := badR_at (hb i hi) (k := p) hp
    simp only [okAt, Bool.and_eq_true, decide_eq_true_eq] at h1
    exact h1.1
  refine ⟨fun i hi => once_of (hb i hi), hin, fun i hi => ?_⟩
  have ho := once_of (hb i hi)
  have hnd : ((rowF l i).map Int.toNat).Nodup := by
    rw [List.Nodup, List.pairwise_iff_getElem]
    intro p q hp hq hpq
    rw [List.length_map] at hp hq
    have := ho p q hpq hq
    have h1 := hin i hi p hp
    have h2 := hin i hi q hq
    simp only [List.getD] at this h1 h2
    unfold rowF at *
    rw [List.getElem?_eq_getElem hp, List.getElem?_eq_getElem hq] at this
    rw [List.getElem?_eq_getElem hp] at h1
    rw [List.getElem?_eq_getElem hq] at h2
    simp only [Option.getD_some, List.getElem_map, ne_eq] at *
    omega
  have := hnd.length_le_of_subset (l₂ := List.range n) (fun x hx => by
    simp only [List.mem_map] at hx
    obtain ⟨z, hz, rfl⟩ := hx
    obtain ⟨p, hp, rfl⟩ := List.mem_iff_getElem.1 hz
    have := hin i hi p hp
    simp only [List.getD] at this
    unfold rowF at *
    rw [List.getElem?_eq_getElem hp] at this
    simp only [Option.getD_some] at this
    simp
    omega)
  simp at this
  omega
theorem wchk_ok {l r : List Rw} (h : wchk l r = 0) : l.length ≤ 8 ∧ l.length = r.length ∧ OkL l.length (rowF l) ∧ OkL l.length (rowF r) := by
  unfold wchk at h
  split at h
  · omega
  · split at h
    · omega
    · split at h
      · omega
      · rename_i h1 h2 h3
        simp only [Bool.or_eq_true, not_or, Bool.not_eq_true] at h3
        have h2 : l.length = r.length := by omega
        exact ⟨by omega, h2, okL_of rfl (by omega) h3.1, okL_of h2.symm (by omega) h3.2⟩

theorem pair_bad (A : Option Addr) (n c : Nat) (l : List Rw) (B : Option Addr) (m d : Nat) (r : List Rw) (w : World) (hL : RdR w A n l) (hR : RdR w B m r) (hn : n ≤ 9223372036854775807) (hm : m ≤ 9223372036854775807) (hc : wchk l r ≠ 0) :
    Calls Try.prog 10 #[.agg #[.slice A n c, .slice B m d]] w fun e w' => e = .returned (.tuple #[.slice none 0 0, .int .i64 (wchk l r)]) ∧ Below w.heap.size w w' := by
  have HC := Lib.hid (wishCheck_any A n c l B m d r _ (hL.alloc (.cells #[.slice A n c, .slice B m d] 24)) (hR.alloc (.cells #[.slice A n c, .slice B m d] 24)) hn hm)
  have hcb : (wchk l r != 0) = true := by simpa using hc
  clear hL hR hc
  go_enter Try.func10, Try.ntmps10
  go_wp2_with fail
  refine HC.out.mono ?_
  rintro e w1 ⟨rfl, hb⟩
  have hbb := ((Below.refl _ w).alloc (Nat.le_refl _) (.cells #[.slice A n c, .slice B m d] 24)).trans (hb.mono (by simp))
  clear HC hb
  go_wp2
  go_ret2
  exact ⟨rfl, hbb⟩
theorem run_mk1 {t e : TypeId} {z : Value} {bytes : Nat} (ht : Try.prog.underlying t = some (.slice e)) (hi : (Try.prog.info? e).map (fun i => (i.zero, i.size, i.bytes)) = some (some z, 1, bytes)) (hz1 : z.cells = #[z]) {N : Nat} (hN : N ≤ 10) (hb : bytes ≤ 8) (w : World) :
    (Instr.makeSlice t (.int .i64 (N : Int)) (.int .i64 (N : Int))).run Try.prog w = .ok (.slice (some ⟨w.heap.size, 0, none⟩) N N) (w.alloc (.cells (List.replicate N z).toArray e)) := by
  obtain ⟨i0, hi0, hz0, hs0, hb0⟩ := info_parts hi
  have := run_make (P := Try.prog) w t e i0 z ht hi0 hz0 .i64 .i64 N N (by omega) (Int.le_refl _) (by
    rw [hb0]
    have : (bytes : Int) * (N : Int) ≤ 8 * 10 := by
      have h : bytes * N ≤ 8 * 10 := Nat.mul_le_mul hb hN
      exact_mod_cast h
    omega) (by omega)
  rw [this]
  congr 2
  rw [hs0, hz1, Int.toNat_natCast, Nat.mul_one]
  congr 1
  rw [← toList_madeCells_one z N]
theorem infoI : (Try.prog.info? 3).map (fun i => (i.zero, i.size, i.bytes)) = some (some (.int .i64 0), 1, 8) := by kernel_rfl
theorem own_lit_at {w : World} {B : Nat} {e : TypeId} (cs : List Value) {g n : Nat} (hg : g = w.heap.size) (hB : B ≤ w.heap.size) (hn : n ≤ 10) (hs : cs.length = n) : (w.alloc (.cells cs.toArray e)).ownsRow B e 1 (.slice (some ⟨g, 0, none⟩) n n) n cs := by
  subst hg
  simpa using World.ownsRow_lit (base := B) (e := e) (size := 1) w cs.toArray n hB (by unfold maxLen; omega) (by simpa using hs)
theorem rd_lit1 {W : World} {b : Nat} (hb : b = W.heap.size) (v : Value) (t : TypeId) : Rd (W.alloc (.cells #[v] t)) (some ⟨b, 0, none⟩) 1 1 [v] := by subst hb; exact rd_new1 W v t
def remN (L : Nat → List Int) (N : Nat → Nat) : Nat → Nat
  | 0 => 0
  | m + 1 => remN L N m + ((L m).length - N m)
theorem remN_upd {L : Nat → List Int} {N : Nat → Nat} {a : Nat} (h : N a < (L a).length) : ∀ m, remN L (updN N a) m + (if a < m then 1 else 0) = remN L N m
  | 0 => by simp [remN]
  | m + 1 => by
    have ih := remN_upd h m
    simp only [remN]
    unfold updN at *
    by_cases ham : a = m
    · subst ham
      simp at ih ⊢
      omega
    · by_cases h1 : a < m
      · rw [if_pos h1] at ih
        rw [if_neg (fun e => ham e.symm), if_pos (by omega)]
        omega
      · rw [if_neg h1] at ih
        rw [if_neg (fun e => ham e.symm), if_neg (by omega)]
        omega
/-- how many more may be asked, read off the memory -/
def remW (L : Nat → List Int) (n gn : Nat) (w : World) : Nat := remN L (fun a => match w.cell? ⟨gn, a, none⟩ with | some (.int _ z) => z.toNat | _ => 0) n
theorem remN_congr {L : Nat → List Int} {N N' : Nat → Nat} : ∀ m, (∀ a, a < m → N a = N' a) → remN L N m = remN L N' m
  | 0, _ => rfl
  | m + 1, h => by simp only [remN]; rw [remN_congr m fun a ha => h a (by omega), h m (by omega)]
theorem remW_eq {w : World} {b gn n : Nat} {L : Nat → List Int} {N : Nat → Nat} (h : w.ownsRow b 3 1 (.slice (some ⟨gn, 0, none⟩) n n) n (row n fun i => ((N i : Nat) : Int))) : remW L n gn w = remN L N n :=
  remN_congr n fun a ha => by
    rw [(h.cellAt a (by omega)).trans (row_get ha)]
    simp
theorem row_updN (n : Nat) (N : Nat → Nat) (a : Nat) : (row n fun i => ((N i : Nat) : Int)).set a (.int .i64 ((N a : Int) + 1)) = row n fun i => ((updN N a i : Nat) : Int) := by
  rw [row_set]
  congr 1
  funext i
  unfold updN
  split
  · rename_i h; subst h; simp
  · rfl
theorem row_updH (n : Nat) (H : Nat → Int) (j : Nat) (v : Int) : (row n H).set j (.int .i64 v) = row n (updH H j v) := by
  rw [row_set]
  rfl
theorem GI.uniq {n : Nat} {L R : Nat → List Int} {H : Nat → Int} {N : Nat → Nat} {act : Int} {s : Nat} (g : GI n L R H N act s) : ∀ (j j' a : Nat), j < n → j' < n → H j = a → H j' = a → j = j' := fun j j' a hj hj' h h' => by
  rcases g.h1 j hj with h1 | ⟨b, p, _, h2, h3, _, h5, _⟩
  · omega
  · rcases g.h1 j' hj' with h1 | ⟨b', p', _, h2', h3', _, h5', _⟩
    · omega
    · have : b' = b := by omega
      subst this
      have : p' = p := by omega
      subst this
      omega
def TellsTo (n k : Nat) (H F : Nat → Int) : Prop := (∀ i, i < n → F i = -1 ∨ ∃ j : Nat, j < k ∧ F i = j ∧ H j = i) ∧ ∀ j, j < k → ∀ i : Nat, H j = i → i < n → F i = j
theorem tells_start {n : Nat} {H : Nat → Int} : TellsTo n 0 H fun _ => -1 := ⟨fun _ _ => .inl rfl, fun j hj => absurd hj (by omega)⟩
theorem tells_no {n k : Nat} {H F : Nat → Int} (t : TellsTo n k H F) (h : H k = -1) : TellsTo n (k + 1) H F := by
  refine ⟨fun i hi => ?_, fun j hj i hji hi => ?_⟩
  · rcases t.1 i hi with h1 | ⟨j, h1, h2⟩
    · exact .inl h1
    · exact .inr ⟨j, by omega, h2⟩
  · by_cases hjk : j = k
    · subst hjk; omega
    · exact t.2 j (by omega) i hji hi
theorem tells_yes {n k a : Nat} {H F : Nat → Int} (hu : ∀ (j j' a : Nat), j < n → j' < n → H j = a → H j' = a → j = j') (hk : k < n) (t : TellsTo n k H F) (h : H k = a) (_ : a < n) : TellsTo n (k + 1) H (updH F a k) := by
  refine ⟨fun i hi => ?_, fun j hj i hji hi => ?_⟩
  · unfold updH
    by_cases hia : i = a
    · subst hia
      rw [if_pos rfl]
      exact .inr ⟨k, by omega, rfl, h⟩
    · rw [if_neg hia]
      rcases t.1 i hi with h1 | ⟨j, h1, h2⟩
      · exact .inl h1
      · exact .inr ⟨j, by omega, h2⟩
  · unfold updH
    by_cases hia : i = a
    · subst hia
      rw [if_pos rfl, hu j k i (by omega) hk hji h]
    · rw [if_neg hia]
      have : j ≠ k := fun e => by subst e; omega
      exact t.2 j (by omega) i hji hi
theorem tells_done {n : Nat} {H F : Nat → Int} (t : TellsTo n n H F) : Tells n H F := t
def Two (B n : Nat) (W0 : World) (h nx : Value) (wx : World) : Prop := ∃ gh gn, h = .slice (some ⟨gh, 0, none⟩) n n ∧ nx = .slice (some ⟨gn, 0, none⟩) n n ∧ gh ≠ gn ∧ wx.ownsRow B 3 1 (.slice (some ⟨gh, 0, none⟩) n n) n (row n fun _ => -1) ∧ wx.ownsRow B 3 1 (.slice (some ⟨gn, 0, none⟩) n n) n (row n fun _ => 0) ∧ Below B W0 wx
theorem row_fill (n : Nat) (x : Int) : List.replicate n (Value.int .i64 x) = row n fun _ => x := (List.eq_replicate_iff.2 ⟨by simp [row], by simp [row]⟩).symm
set_option maxHeartbeats 6400000 in
set_option maxRecDepth 100000 in
theorem pair_ok (A : Option Addr) (n c : Nat) (l : List Rw) (B : Option Addr) (d : Nat) (r : List Rw) (w : World) (hL : RdR w A n l) (hR : RdR w B n r) (hc : wchk l r = 0) :
    Calls Try.prog 10 #[.agg #[.slice A n c, .slice B n d]] w fun e w' => ∃ (g : Nat) (H F : Nat → Int) (N : Nat → Nat), e = .returned (.tuple #[.slice (some ⟨g, 0, none⟩) n n, .int .i64 0]) ∧ w'.ownsRow w.heap.size 3 1 (.slice (some ⟨g, 0, none⟩) n n) n (row n F) ∧ Below w.heap.size w w' ∧ GI n (rowF l) (rowF r) H N (-1) n ∧ Tells n H F := by
  obtain ⟨h8, _, hokL, hokR⟩ := wchk_ok hc
  rw [hL.1] at h8 hokL hokR
  have HC := Lib.hid (wishCheck_any A n c l B n d r _ (hL.alloc (.cells #[.slice A n c, .slice B n d] 24)) (hR.alloc (.cells #[.slice A n c, .slice B n d] 24)) (by omega) (by omega))
  rw [hc] at HC
  have hLH := Lib.hid hL; have hRH := Lib.hid hR; have hokLH := Lib.hid hokL; have hokRH := Lib.hid hokR
  have hmf := fun w => run_mk1 (t := 29) Try.underlying29 infoI rfl (show n ≤ 10 by omega) (by omega) w
  rw [row_fill] at hmf
  have HR := Lib.hid (fun W b (h : Rd W (some ⟨b, 0, none⟩) 1 1 [Value.int .i64 (-1)]) => repeat_one b 1 (-1) n W h (by omega))
  rw [row_fill] at HR
  have g0 : (w.alloc (.cells #[.slice A n c, .slice B n d] 24)).cell? ⟨w.heap.size, 0, none⟩ = some (.slice A n c) := by go_simp
  have g1 : (w.alloc (.cells #[.slice A n c, .slice B n d] 24)).cell? ⟨w.heap.size, 1, none⟩ = some (.slice B n d) := by go_simp
  have gs : (w.alloc (.cells #[.slice A n c, .slice B n d] 24)).heap.size = w.heap.size + 1 := by simp
  have gb := (Below.refl _ w).alloc (Nat.le_refl _) (.cells #[.slice A n c, .slice B n d] 24)
  clear hL hR hc hokL hokR
  go_enter Try.func10, Try.ntmps10
  go_wp2_with fail
  generalize w.alloc (.cells #[.slice A n c, .slice B n d] 24) = wg at *
  refine HC.out.mono ?_
  rintro e w1 ⟨rfl, hb1⟩
  have c0 := below_cell hb1 (by omega) g0
  have c1 := below_cell hb1 (by omega) g1
  have hs1 := hb1.size
  have hbb := gb.trans (hb1.mono (by omega))
  have hw1 : w.heap.size < w1.heap.size := by omega
  clear HC g0 g1 gs gb hb1
  go_upto_region 5 with fail
  go_cut [6, 7] (fun h nx wx => Two w1.heap.size n w1 h nx wx)
  case first =>
    go_region_with ((first
      | (go_at_call 14
         (with_reducible refine (HR.out _ _ (Rd.drew (rd_lit1 (by simp) (.int .i64 (-1)) 3))).mono ?_)
         rintro e wA ⟨rfl, ownA, bA⟩)
      | (go_at_call 14
         (with_reducible refine (HR.out _ _ (Rd.drew ((rd_lit1 (by simp) (.int .i64 (-1)) 3).alloc _))).mono ?_)
         rintro e wA ⟨rfl, ownA, bA⟩)
      | fail))
    · go_wp2_with fail
      go_meet
      have e1 : (w1.alloc (Obj.cells #[Value.int .i64 (-1)] 3)).drew.heap.size = w1.heap.size + 1 := by simp
      rw [e1] at ownA bA
      have h1 : w1.heap.size + 1 < wA.heap.size := (ownA.lt _ rfl).2
      have hb0 : Below w1.heap.size w1 wA := (((Below.refl _ w1).alloc (Nat.le_refl _) _).drew).trans (bA.mono (by omega))
      exact ⟨_, _, rfl, rfl, by omega, own_base (by omega) (ownA.alloc _), own_lit_at _ rfl (by omega) (by omega) (row_length _ _), hb0.alloc (by omega) _⟩
    · go_wp2_with fail
      go_meet
      have e1 : ((w1.alloc (Obj.cells #[Value.int .i64 (-1)] 3)).alloc (Obj.cells (row n fun _ => 0).toArray 3)).drew.heap.size = w1.heap.size + 1 + 1 := by simp
      have hn0 := own_below (own_drew (own_lit_at (w := w1.alloc (Obj.cells #[Value.int .i64 (-1)] 3)) (B := w1.heap.size) (e := 3) (row n fun _ => 0) (g := w1.heap.size + 1) (by simp) (by simp) (by omega) (row_length _ _))) bA
      rw [e1] at ownA bA
      have hb0 : Below w1.heap.size w1 wA := ((((Below.refl _ w1).alloc (Nat.le_refl _) _).alloc (by simp) _).drew).trans (bA.mono (by omega))
      exact ⟨_, _, rfl, rfl, by omega, own_base (by omega) ownA, hn0, hb0⟩
    · go_wp2_with fail
      go_meet
      have e1 : ((w1.alloc (Obj.cells (row n fun _ => 0).toArray 3)).alloc (Obj.cells #[Value.int .i64 (-1)] 3)).drew.heap.size = w1.heap.size + 1 + 1 := by simp
      have hn0 := own_below (own_drew ((own_lit_at (w := w1) (B := w1.heap.size) (e := 3) (row n fun _ => 0) (g := w1.heap.size) rfl (Nat.le_refl _) (by omega) (row_length _ _)).alloc (Obj.cells #[Value.int .i64 (-1)] 3))) bA
      rw [e1] at ownA bA
      have hb0 : Below w1.heap.size w1 wA := ((((Below.refl _ w1).alloc (Nat.le_refl _) _).alloc (by simp) _).drew).trans (bA.mono (by omega))
      exact ⟨_, _, rfl, rfl, by omega, own_base (by omega) ownA, hn0, hb0⟩
  case rest =>
    obtain ⟨gh, gn, rfl, rfl, hne, hoH, hoN, hbc⟩ := hcut
    have hne' : ¬ gh = gn := hne
    have hne2 : ¬ gn = gh := fun e => hne e.symm
    have hsc := hbc.size
    have hgh := (hoH.lt _ rfl).1
    have hgn := (hoN.lt _ rfl).1
    have hbcH := Lib.hid hbc
    clear hmf hbc
    go_wp2
    go_loopw [29] (fun i wr => ∃ (s : Nat) (H : Nat → Int) (N : Nat → Nat), s ≤ n ∧ i = .int .i64 s ∧ GI n (rowF l) (rowF r) H N (-1) s ∧ wr.ownsRow w1.heap.size 3 1 (.slice (some ⟨gh, 0, none⟩) n n) n (row n H) ∧ wr.ownsRow w1.heap.size 3 1 (.slice (some ⟨gn, 0, none⟩) n n) n (row n fun i => ((N i : Nat) : Int)) ∧ Below w1.heap.size w1 wr) (fun i _ => n - (intOf i).toNat)
    case atStart => exact ⟨0, _, _, Nat.zero_le _, rfl, GI.start, hoH, hoN, hbcH.out⟩
    case round =>
      clear hoH hoN
      obtain ⟨s, H, N, hs, rfl, hg, hoH, hoN, hb⟩ := hrel
      have hgH := Lib.hid hg
      by_cases hlt : s < n
      · go_wp2
        go_loopw [9] (fun at' wr => ∃ (act : Int) (H : Nat → Int) (N : Nat → Nat), at' = .int .i64 act ∧ GI n (rowF l) (rowF r) H N act (s + 1) ∧ wr.ownsRow w1.heap.size 3 1 (.slice (some ⟨gh, 0, none⟩) n n) n (row n H) ∧ wr.ownsRow w1.heap.size 3 1 (.slice (some ⟨gn, 0, none⟩) n n) n (row n fun i => ((N i : Nat) : Int)) ∧ Below w1.heap.size w1 wr) (fun _ wr => remW (rowF l) n gn wr)
        case atStart => exact ⟨s, H, N, rfl, hg.begin hlt, hoH, hoN, hb⟩
        case round =>
          clear hg hoH hoN hb hgH
          obtain ⟨act, H, N, rfl, hg, hoH, hoN, hb⟩ := hrel
          have hoHH := Lib.hid hoH; have hoNH := Lib.hid hoN; have hbH := Lib.hid hb
          have e0 := below_cell hb hw1 c0
          have e1 := below_cell hb hw1 c1
          rcases hg.alt with rfl | ⟨a, rfl, has, han⟩
          · have hgH := Lib.hid hg
            clear hg hoH hoN hb
            go_wp2
            go_quiet (fail)
            go_wp2
            go_roundw
            case rel => exact ⟨s + 1, H, N, by omega, by go_num, hgH.out, own_below hoHH.out (below_drewN (Below.refl _ _) nq), own_below hoNH.out (below_drewN (Below.refl _ _) nq), below_drewN hbH.out nq⟩
            case measure => simp [intOf]; omega
          · have hwX := hbb.trans (hb.mono (by omega))
            have hfit := hLH.out.2.2 _ (rat_mem (l := l) (k := a) (by rw [hLH.out.1]; exact han))
            obtain ⟨bL, oL, rfl, hbL, hcL, _⟩ := (hLH.out.later hwX).at han
            have hzl : (rowF l a).length = (rat l a).len := hfit.zl
            have hgH2 := Lib.hid hg
            have hfitH := Lib.hid hfit.1
            have hfc := hfit.2.2
            have ka : wr.cell? ⟨gn, a, none⟩ = some (.int .i64 ((N a : Nat) : Int)) := (hoN.cellAt a (by omega)).trans (row_get (F := fun i => ((N i : Nat) : Int)) han)
            have hoNl := (hoN.lt _ rfl).2
            have hoHl := (hoH.lt _ rfl).2
            have ha0 : (0 : Int) ≤ a := by omega
            have hanI : (a : Int) < n := by omega
            by_cases hN : N a < (rowF l a).length
            · obtain ⟨bz, oz, hAz, hbz, hcz⟩ := (hfit.1.later hwX).int (show N a < (rat l a).len by omega)
              obtain ⟨j, hj⟩ := Int.eq_ofNat_of_zero_le (hokLH.out.inn a han (N a) hN).1
              have hjn : j < n := by have := (hokLH.out.inn a han (N a) hN).2; omega
              have hjH := Lib.hid (show (rowF l a).getD (N a) 0 = j from hj)
              rw [show (rat l a).zs.getD (N a) 0 = (j : Int) from hj] at hcz
              have hrem := Lib.hid (show remN (rowF l) (updN N a) n < remN (rowF l) N n by
                have := remN_upd hN n
                rw [if_pos han] at this
                omega)
              have hrem0 : True := trivial
              have hrk8 := Lib.hid (show rkI (rowF r j) a ≤ 8 from rkI_le (hokRH.out.len j hjn))
              have hfR := hRH.out.2.2 _ (rat_mem (l := r) (k := j) (by rw [hRH.out.1]; exact hjn))
              have hRat := Lib.hid (fun X (hX : Below w1.heap.size w1 X) => (hRH.out.later (hbb.trans (hX.mono (by omega)))).at hjn)
              have HRk := Lib.hid (fun X (hX : Below w1.heap.size w1 X) (y : Int) => rank_any (rat r j).A (rat r j).len (rat r j).cap (rat r j).zs y X (hfR.1.later (hbb.trans (hX.mono (by omega)))) (by have := hfR.2.1; unfold maxLen at this; omega))
              have HRa := Lib.hid (fun X hX => HRk.out X hX (a : Int))
              have hRz : (rat r j).zs = rowF r j := rfl
              rw [hRz] at HRk HRa
              have hfcr := hfR.2.2
              have hgh1 := hg.h1 j hjn
              clear hg hfR hRz hfit
              generalize hraG : rat l a = ra0 at *
              obtain ⟨A', l', c', zs⟩ := ra0
              generalize hrrG : rat r j = rr0 at *
              obtain ⟨A2, l2, c2, zs2⟩ := rr0
              clear hraG hrrG
              simp only at hzl hfc hfcr hAz
              subst hAz
              have hNl : ((N a : Nat) : Int) < l' := by omega
              have hN0 : (0 : Int) ≤ ((N a : Nat) : Int) := by omega
              have hNc : ((N a : Nat) : Int) < c' := by omega
              have hNd : decide (((N a : Nat) : Int) < (l' : Int)) = true := by simp; omega
              have hj0 : (0 : Int) ≤ j := by omega
              have hjnI : (j : Int) < n := by omega
              have hl8 := hokLH.out.len a han
              have hNw : IntKind.i64.wrap (((N a : Nat) : Int) + 1) = ((N a : Nat) : Int) + 1 := IntWalk.i64_in _ (by omega)
              clear hoH hoN hb hwX
              go_wp2
              go_quiet (fail)
              obtain ⟨n1, rfl⟩ : ∃ n1, n1 = nq := ⟨nq, rfl⟩
              go_wp2
              go_quiet (fail)
              obtain ⟨n2, rfl⟩ : ∃ n2, n2 = nq := ⟨nq, rfl⟩
              have zn := hoNH.out.frozenAt a
              go_upto_region 14 with fail
              have hoN2 : ((wr.drewN (n1 + n2)).setCell ⟨gn, a, none⟩ (.int .i64 (((N a : Nat) : Int) + 1))).ownsRow w1.heap.size 3 1 (.slice (some ⟨gn, 0, none⟩) n n) n (row n fun i => ((updN N a i : Nat) : Int)) := by
                rw [← row_updN]
                exact ((own_below hoNH.out (below_drewN (Below.refl _ _) (n1 + n2))).stored a _).1
              have hoH2 := own_set_other (own_below hoHH.out (below_drewN (Below.refl _ _) (n1 + n2))) (a := ⟨gn, a, none⟩) (by simp [Value.ownBlock]; omega) (.int .i64 (((N a : Nat) : Int) + 1))
              have hb2 := (below_drewN hbH.out (n1 + n2)).setCell (p := ⟨gn, a, none⟩) (by omega) (.int .i64 (((N a : Nat) : Int) + 1))
              generalize (wr.drewN (n1 + n2)).setCell ⟨gn, a, none⟩ (.int .i64 (((N a : Nat) : Int) + 1)) = W2 at *
              clear ka zn hcL hcz e0 e1 hoNl hoHl
              have e1 := below_cell hb2 hw1 c1
              have kh : W2.cell? ⟨gh, j, none⟩ = some (.int .i64 (H j)) := (hoH2.cellAt j (by omega)).trans (row_get (F := H) hjn)
              have zh := hoH2.frozenAt j
              have hoHl := (hoH2.lt _ rfl).2
              obtain ⟨bR, oR, rfl, hbR, hcR, _⟩ := hRat.out W2 hb2
              rcases hgh1 with hHj | ⟨b, _, hbn, hHj, _⟩
              · rw [hHj] at kh
                by_cases hcmp : rkI (rowF r j) a < 8
                · have hgo : GI n (rowF l) (rowF r) (updH H j a) (updN N a) (-1) (s + 1) := by
                    have := GI.yes hokLH.out hokRH.out hgH2.out hN hjH.out (.inl ⟨hHj, by omega⟩)
                    rwa [hHj] at this
                  have hgo := Lib.hid hgo
                  have hcmp2 : ((rkI (rowF r j) a : Nat) : Int) < 8 := by omega
                  clear hcmp
                  generalize ((rkI (rowF r j) a : Nat) : Int) = ra at *
                  go_wp2_with fail
                  refine (HRa.out _ (hb2)).mono ?_
                  rintro e w5 ⟨rfl, rfl⟩
                  clear HRa
                  go_wp2
                  go_roundw
                  case rel =>
                    refine ⟨_, updH H j a, updN N a, rfl, hgo.out, ?_, own_set_other (hoN2) (by simp [Value.ownBlock]; omega) _, (hb2).setCell (p := ⟨gh, j, none⟩) (by omega) _⟩
                    rw [← row_updH]
                    exact ((hoH2).stored j _).1
                  case measure =>
                    rw [remW_eq (L := rowF l) (N := updN N a) (own_set_other (hoN2) (by simp [Value.ownBlock]; omega) _), remW_eq (L := rowF l) hoNH.out]
                    exact hrem.out
                · have hgo := Lib.hid (GI.no hokLH.out hokRH.out hgH2.out hN hjH.out (.inl ⟨hHj, by have := hrk8.out; omega⟩))
                  have hcmp2 : ¬ ((rkI (rowF r j) a : Nat) : Int) < 8 := by omega
                  clear hcmp
                  generalize ((rkI (rowF r j) a : Nat) : Int) = ra at *
                  go_wp2_with fail
                  refine (HRa.out _ (hb2)).mono ?_
                  rintro e w5 ⟨rfl, rfl⟩
                  clear HRa
                  go_wp2
                  go_roundw
                  case rel => exact ⟨a, H, updN N a, rfl, hgo.out, hoH2, hoN2, hb2⟩
                  case measure =>
                    rw [remW_eq (L := rowF l) (hoN2), remW_eq (L := rowF l) hoNH.out]
                    exact hrem.out
              · rw [hHj] at kh
                have hb00 : (0 : Int) ≤ b := by omega
                have HRb := Lib.hid (fun nq => HRk.out (W2.drewN nq) (below_drewN hb2 nq) (b : Int))
                by_cases hcmp : rkI (rowF r j) a < rkI (rowF r j) b
                · have hgo : GI n (rowF l) (rowF r) (updH H j a) (updN N a) (b : Int) (s + 1) := by
                    have := GI.yes hokLH.out hokRH.out hgH2.out hN hjH.out (.inr ⟨b, hHj, by omega⟩)
                    rwa [hHj] at this
                  have hgo := Lib.hid hgo
                  have hcmp2 : ((rkI (rowF r j) a : Nat) : Int) < ((rkI (rowF r j) b : Nat) : Int) := by omega
                  clear hcmp
                  generalize ((rkI (rowF r j) a : Nat) : Int) = ra at *
                  generalize ((rkI (rowF r j) b : Nat) : Int) = rb at *
                  go_wp2
                  go_quiet ((go_at_call 20; with_reducible exact quiet_left (HRb.out _)))
                  go_wp2_with fail
                  refine (HRa.out _ (below_drewN hb2 nq)).mono ?_
                  rintro e w5 ⟨rfl, rfl⟩
                  clear HRa
                  go_wp2
                  go_roundw
                  case rel =>
                    refine ⟨_, updH H j a, updN N a, rfl, hgo.out, ?_, own_set_other (own_below hoN2 (below_drewN (Below.refl _ _) nq)) (by simp [Value.ownBlock]; omega) _, (below_drewN hb2 nq).setCell (p := ⟨gh, j, none⟩) (by omega) _⟩
                    rw [← row_updH]
                    exact ((own_below hoH2 (below_drewN (Below.refl _ _) nq)).stored j _).1
                  case measure =>
                    rw [remW_eq (L := rowF l) (N := updN N a) (own_set_other (own_below hoN2 (below_drewN (Below.refl _ _) nq)) (by simp [Value.ownBlock]; omega) _), remW_eq (L := rowF l) hoNH.out]
                    exact hrem.out
                · have hgo := Lib.hid (GI.no hokLH.out hokRH.out hgH2.out hN hjH.out (.inr ⟨b, hHj, by omega⟩))
                  have hcmp2 : ¬ ((rkI (rowF r j) a : Nat) : Int) < ((rkI (rowF r j) b : Nat) : Int) := by omega
                  clear hcmp
                  generalize ((rkI (rowF r j) a : Nat) : Int) = ra at *
                  generalize ((rkI (rowF r j) b : Nat) : Int) = rb at *
                  go_wp2
                  go_quiet ((go_at_call 20; with_reducible exact quiet_left (HRb.out _)))
                  go_wp2_with fail
                  refine (HRa.out _ (below_drewN hb2 nq)).mono ?_
                  rintro e w5 ⟨rfl, rfl⟩
                  clear HRa
                  go_wp2
                  go_roundw
                  case rel => exact ⟨a, H, updN N a, rfl, hgo.out, own_below hoH2 (below_drewN (Below.refl _ _) nq), own_below hoN2 (below_drewN (Below.refl _ _) nq), below_drewN hb2 nq⟩
                  case measure =>
                    rw [remW_eq (L := rowF l) (own_below hoN2 (below_drewN (Below.refl _ _) nq)), remW_eq (L := rowF l) hoNH.out]
                    exact hrem.out
            · have hNd : decide (((N a : Nat) : Int) < ((rat l a).len : Int)) = false := by simp; omega
              have hgS := Lib.hid (hgH2.out.stop hN)
              clear hfit hg hoH hoN hb hwX
              generalize hraG : rat l a = ra0 at *
              obtain ⟨A', l', c', zs⟩ := ra0
              clear hraG
              simp only at hNd
              go_wp2
              go_quiet (fail)
              go_wp2
              go_roundw
              case rel => exact ⟨s + 1, H, N, by omega, by go_num, hgS.out, own_below hoHH.out (below_drewN (Below.refl _ _) nq), own_below hoNH.out (below_drewN (Below.refl _ _) nq), below_drewN hbH.out nq⟩
              case measure => simp [intOf]; omega
      · obtain rfl : n = s := by omega
        have huq := Lib.hid hg.uniq
        have hh1 := Lib.hid hg.h1
        clear hg
        have hbH := Lib.hid hb
        have hsr := hb.size
        have hghl := (hoH.lt _ rfl).2
        have hoH3 := hoH
        clear hoN
        go_wp2_with fail
        refine (HR.out _ _ (rd_lit1 (by simp) (.int .i64 (-1)) 3)).mono ?_
        rintro e wA ⟨rfl, ownA, bA⟩
        have e1 : (wr.alloc (Obj.cells #[Value.int .i64 (-1)] 3)).heap.size = wr.heap.size + 1 := by simp
        rw [e1] at ownA bA
        rw [e1]
        have hbA : Below w1.heap.size w1 wA := (hb.alloc (by omega) _).trans (bA.mono (by omega))
        have hoHA : wA.ownsRow w1.heap.size 3 1 (.slice (some ⟨gh, 0, none⟩) n n) n (row n H) := own_below (hoH.alloc (Obj.cells #[Value.int .i64 (-1)] 3)) (bA.mono (by simp))
        have ownA := own_base (b' := w1.heap.size) (by omega) ownA
        obtain ⟨gl, hgl⟩ : ∃ gl, gl = wr.heap.size + 1 := ⟨_, rfl⟩
        rw [← hgl] at ownA
        rw [← hgl]
        have hne3 : ¬ gl = gh := by omega
        have hne4 : ¬ gh = gl := by omega
        have hglw : w1.heap.size ≤ gl := by omega
        have hAH := Lib.hid ownA; have hHA := Lib.hid hoHA; have hbAH := Lib.hid hbA
        clear ownA hoHA hbA bA hoH3 hoH hb hgl e1
        go_wp2
        go_loopw [103] (fun i ws => ∃ (k : Nat) (F : Nat → Int), k ≤ n ∧ i = .int .i64 k ∧ ws.ownsRow w1.heap.size 3 1 (.slice (some ⟨gl, 0, none⟩) n n) n (row n F) ∧ ws.ownsRow w1.heap.size 3 1 (.slice (some ⟨gh, 0, none⟩) n n) n (row n H) ∧ TellsTo n k H F ∧ Below w1.heap.size w1 ws) (fun i _ => n - (intOf i).toNat)
        case atStart => exact ⟨0, _, Nat.zero_le _, rfl, hAH.out, hHA.out, tells_start, hbAH.out⟩
        case round =>
          clear hAH hHA hbAH
          obtain ⟨k, F, hk, rfl, hoF, hoH, ht, hb⟩ := hrel
          have htH := Lib.hid ht
          have hoFH := Lib.hid hoF; have hoHH := Lib.hid hoH; have hbH := Lib.hid hb
          by_cases hlt : k < n
          · have kk : wr.cell? ⟨gh, k, none⟩ = some (.int .i64 (H k)) := (hoH.cellAt k (by omega)).trans (row_get (F := H) hlt)
            have hol := (hoH.lt _ rfl).2
            have hfl := (hoF.lt _ rfl).2
            have hk0 : (0 : Int) ≤ k := by omega
            have hkn : (k : Int) < n := by omega
            rcases hh1.out k hlt with hHk | ⟨a, _, han, hHk, _⟩
            · have hts := Lib.hid (tells_no ht hHk)
              rw [hHk] at kk
              clear ht hoF hoH hb
              go_wp2
              go_roundw
              case rel => exact ⟨k + 1, F, by omega, by go_num, hoFH.out, hoHH.out, hts.out, hbH.out⟩
              case measure => simp [intOf]; omega
            · have hts := Lib.hid (tells_yes huq.out hlt ht hHk han)
              rw [hHk] at kk
              have ka : wr.cell? ⟨gl, a, none⟩ = some (.int .i64 (F a)) := (hoF.cellAt a (by omega)).trans (row_get (F := F) han)
              have za := hoF.frozenAt a
              have ha0 : (0 : Int) ≤ a := by omega
              have han' : (a : Int) < n := by omega
              clear ht hoF hoH hb
              go_wp2
              go_roundw
              case rel =>
                refine ⟨k + 1, updH F a k, by omega, by go_num, ?_, own_set_other hoHH.out (by simp [Value.ownBlock]; omega) _, hts.out, hbH.out.setCell (p := ⟨gl, a, none⟩) (by omega) _⟩
                rw [← row_updH]
                exact (hoFH.out.stored a _).1
              case measure => simp [intOf]; omega
          · obtain rfl : n = k := by omega
            clear hoH hoF
            go_wp2
            go_ret2
            exact ⟨gl, H, F, N, rfl, own_base (by omega) hoFH.out, hbb.trans (hb.mono (by omega)), hgH.out, tells_done htH.out⟩
end Go.Proofs.Ytcmefjfhcdedjaa
