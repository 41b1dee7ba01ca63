/- flow.Fill: way by way. -/
import Derived.Test.YteadceghjfaekaaDoorFlowW
namespace Go.Proofs.YteadceghjfaekaaDoor
open Go.RowKit Go.Shelf

theorem FL.zero (N : Nat) (l : List Arc) (s t : Nat) (hn : NOk N l) : FL N l s t (fun _ => 0) 0 := by
  have ez : ∀ v, ex l (fun _ => 0) v = 0 := fun v => by
    unfold ex
    rw [← sm_zero l.length]
    exact sm_congr fun k _ => by simp
  exact ⟨fun k hk => ⟨Int.le_refl _, (hn.at hk).2.2.2.1⟩, fun u _ _ _ => ez u, ez s⟩
/-- as much as all arcs let go -/
def tot (l : List Arc) : Int := sm l.length (mo l)
theorem sm_const (n : Nat) (M : Int) : sm n (fun _ => M) = n * M := by
  induction n with
  | zero => simp [sm]
  | succ n ih => rw [sm, ih, Int.natCast_add, Int.add_mul]; simp
theorem FL.val_le {N : Nat} {l : List Arc} {s t : Nat} {f : Nat → Int} {v : Int} (hn : NOk N l) (h : FL N l s t f v) (hs : s < N) (hst : s ≠ t) : v ≤ l.length * 1048576 := by
  have h1 := h.le hn (S := fun u => decide (u = s)) (by simp) (by simp; omega) hs
  refine Int.le_trans h1 ?_
  rw [← sm_const]
  unfold capS
  refine sm_le fun k hk => ?_
  have := hn.at hk
  split <;> omega
/-- what is told is a flow, and as great as some cut -/
structure Mxf (N : Nat) (l : List Arc) (s t : Nat) (f : Nat → Int) (v : Int) : Prop where
  fl : FL N l s t f v
  ct : ∃ S : Nat → Bool, S s = true ∧ S t = false ∧ capS l S = v
  ni : ∀ k, k < l.length → tn l k = s → f k = 0
/-- no push sends anything into the source -/
theorem Wy.noin {l : List Arc} {f : Nat → Int} {vis : List Nat} {s t : Nat} {c : Int} {ws : List Stp} (h : Wy l f vis t c ws s) (hnd : vis.Nodup) (hc : 0 < c) (h0 : ∀ k, k < l.length → tn l k = s → f k = 0) : ∀ k, k < l.length → tn l k = s → pshs f c ws k = 0 := by
  intro k hk ht
  rcases h.once hnd k with ⟨_, e⟩ | ⟨b, hb, _, hr, e⟩
  · rw [e, h0 k hk ht]
  · exfalso
    have hi : ∃ i : Nat, vis[i]? = some s := by
      cases h with
      | nil => cases hb
      | snoc _ _ _ _ _ hj _ => exact ⟨_, hj⟩
    obtain ⟨i, hi⟩ := hi
    obtain ⟨p, q, _, h2, h3, h4⟩ := h.far hnd hi _ hb
    cases b
    · have e1 : dst l (k, false) = s := ht
      rw [e1] at h2
      have := pos_inj hnd h2 hi
      omega
    · have : rm l f (k, true) = f k := rfl
      rw [this, h0 k hk ht] at hr
      omega
/-- the way that was found, or that there is none -/
def WayV (N : Nat) (l : List Arc) (f : Nat → Int) (sN t gl : Nat) (v10 v11 : Value) (W : World) : Prop :=
  (v10 = .slice none 0 0 ∧ v11 = .int .i64 0 ∧ ∃ vis par, BI N l f sN vis par ∧ Cld l f vis vis.length ∧ t ∉ vis) ∨
    ∃ (g n c : Nat) (ws : List Stp) (much : Int) (vis : List Nat), v10 = .slice (some ⟨g, 0, none⟩) n c ∧ v11 = .int .i64 much ∧ W.ownsRow (gl + 1) 75 2 (.slice (some ⟨g, 0, none⟩) n c) n (stps ws.reverse) ∧ n ≤ N ∧ 0 < n ∧
      vis.Nodup ∧ Wy l f vis t much ws sN ∧ 0 < much ∧ much ≤ 1048576 ∧ ∀ x ∈ ws, x.1 < l.length
theorem WayPost.v {N : Nat} {l : List Arc} {f : Nat → Int} {sN t gl : Nat} {w w' : World} {e : Ending} (h : WayPost N l f sN t w e w') (hg : gl < w.heap.size) : Below w.heap.size w w' ∧ ∃ v10 v11, e = .returned (.tuple #[v10, v11]) ∧ WayV N l f sN t gl v10 v11 w' := by
  obtain ⟨hb, ⟨rfl, h⟩ | ⟨g, n, c, ws, much, vis, rfl, h1, h2⟩⟩ := h
  · exact ⟨hb, _, _, rfl, .inl ⟨rfl, rfl, h⟩⟩
  · exact ⟨hb, _, _, rfl, .inr ⟨g, n, c, ws, much, vis, rfl, rfl, own_base (by omega) h1, h2⟩⟩
set_option maxHeartbeats 3200000 in
set_option maxRecDepth 100000 in
theorem fill_any (N m : Nat) (l : List Arc) (A : Option Addr) (cap : Nat) (w : World) (hr : Rd w A m 4 (arcs l)) (hn : NOk N l) (hm : m ≤ 128) (hN : N ≤ 32) (sN t : Nat) (hs : sN < N) (ht : t < N) (hst : sN ≠ t) :
    Calls Tryd.prog 13 #[.agg #[.int .i64 N, .slice A m cap], .int .i64 sN, .int .i64 t] w fun e w' => ∃ (f : Nat → Int) (v : Int) (gl c : Nat), e = .returned (.tuple #[.int .i64 v, .slice (some ⟨gl, 0, none⟩) m c]) ∧ w'.ownsRow w.heap.size 2 1 (.slice (some ⟨gl, 0, none⟩) m c) m (row m f) ∧ Mxf N l sN t f v ∧ 0 ≤ v ∧ Below w.heap.size w w' := by
  have hel : l.length = m := arcs_len hr
  have hb0 := (Below.refl _ w).alloc (Nat.le_refl _) (.cells #[.int .i64 N, .slice A m cap] 40)
  have HO := Lib.hid (open_any N m l A cap _ (hr.later hb0) hm)
  have hK := Blk.new w 40 #[.int .i64 N, .slice A m cap]
  have k0 := hK.cell (j := 0) rfl
  have k1 := hK.cell (j := 1) rfl
  have hnH := Lib.hid hn; have hb0H := Lib.hid hb0
  clear hr hn hb0 hK
  go_enter Tryd.func13, Tryd.ntmps13
  go_wp2_with fail
  refine HO.out.mono ?_
  rintro e w1 ⟨p, gl, rfl, hp, hL, hb1⟩
  have hbb := hb0H.out.trans (hb1.mono hb0H.out.size)
  have hsz0 : (w.alloc (.cells #[.int .i64 N, .slice A m cap] 40)).heap.size = w.heap.size + 1 := by simp
  rw [hsz0] at hp hL
  have hs1 := hb1.size
  rw [hsz0] at hs1
  have HW := Lib.hid (way_any (w.heap.size + 1) N m l A cap m p gl w1 (fun _ => 0) hL hnH.out (FL.zero N l sN t hnH.out).ok hm hN sN t hs ht hst hs1)
  have hLH := Lib.hid hL; have hbH := Lib.hid hbb
  have hpw := hL.lt
  have hgB := hL.gB
  clear HO hL hbb hb1 k0 k1
  go_wp2_with fail
  refine HW.out.mono ?_
  rintro e w2 hpost
  obtain ⟨hb2, v10, v11, rfl, hV⟩ := hpost.v (gl := gl) hpw.2
  have hL2 := hLH.out.later hb2
  have hb2' := hbH.out.trans (hb2.mono (by omega))
  have hs2 := hb2.size
  have hVH := Lib.hid hV; have hL2H := Lib.hid hL2; have hb2H := Lib.hid hb2'
  clear hLH hbH hb2 hV hL2 hb2' HW hpost
  go_wp2
  go_loopw [9, 10, 11] (fun s x10 x11 wr => ∃ (f : Nat → Int) (v : Int), s = .int .i64 v ∧ 0 ≤ v ∧ FL N l sN t f v ∧ (∀ k, k < l.length → tn l k = sN → f k = 0) ∧ LSt (w.heap.size + 1) N m l A cap m p gl wr f ∧ WayV N l f sN t gl x10 x11 wr ∧ Below w.heap.size w wr) (fun s _ _ _ => (m * 1048576 + 1 - intOf s).toNat)
  case atStart => exact ⟨fun _ => 0, 0, rfl, Int.le_refl _, FL.zero N l sN t hnH.out, fun _ _ _ => rfl, hL2H.out, hVH.out, hb2H.out⟩
  case round =>
    clear hVH hL2H hb2H
    obtain ⟨f, v, rfl, hv0, hF, hni, hL, hV, hb⟩ := hrel
    have hvle := hF.val_le hnH.out hs hst
    rw [hel] at hvle
    have hpl := hL.lt
    rcases hV with ⟨rfl, rfl, vis, par, hbi, hcl, hnt⟩ | ⟨g, n, c, ws, much, vis, rfl, rfl, hown, hnN, hn0, hnd, hWy, hm0, hm1, hwl⟩
    · have hfin := Lib.hid (show Mxf N l sN t f v from ⟨hF, hF.stuck hnH.out hbi hcl hnt hs, hni⟩)
      have c2 := hL.c2
      have hLH := Lib.hid hL; have hbH := Lib.hid hb
      clear hF hL hb hbi hcl hnt hni
      go_wp2
      go_quiet (fail)
      go_wp2
      go_ret2
      exact ⟨f, v, gl, m, rfl, own_base (by omega) hLH.out.ow, hfin.out, hv0, below_drewN hbH.out _⟩
    · have hgB2 := hown.lt g rfl
      have HP := Lib.hid (push_any (w.heap.size + 1) N m l A cap m p gl wr f hL (some ⟨g, 0, none⟩) n c ws.reverse much (Rd.of_own hown) (fun _ b o e => by cases e; omega) (fun x hx => by rw [← hel]; exact hwl x (List.mem_reverse.1 hx)) (by omega) (by omega) hm1 (fun k hk => by
        have h1 := hF.ok k (by omega)
        have h2 := hnH.out.at (show k < l.length by omega)
        omega))
      have hF2 := hWy.push hnH.out hnd hF hst (by omega)
      have hni2 := hWy.noin hnd hm0 hni
      rw [← pshs_rev hWy hnd] at hF2 hni2
      have hvle2 := hF2.val_le hnH.out hs hst
      rw [hel] at hvle2
      have hw1 : IntKind.i64.wrap (v + much) = v + much := IntWalk.i64_in _ (by omega)
      have hF2H := Lib.hid hF2; have hbH := Lib.hid hb; have hni2H := Lib.hid hni2
      have hnn : ¬ n = 0 := by omega
      clear hF hL hb hown hWy hF2 hni hni2
      generalize pshs f much ws.reverse = f2 at *
      go_wp2_with fail
      refine HP.out.mono ?_
      rintro e w3 ⟨⟨v3, rfl⟩, hL3, hg3⟩
      have hb3 := hbH.out.grown hg3 hbH.out.size (fun r e => by cases e; omega)
      have hs3 := hb3.size
      have hw3 := hL3.lt
      have HW := Lib.hid (way_any (w.heap.size + 1) N m l A cap m p gl w3 f2 hL3 hnH.out hF2H.out.ok hm hN sN t hs ht hst (by omega))
      have hL3H := Lib.hid hL3; have hb3H := Lib.hid hb3
      clear hL3 hg3 hb3 HP hbH
      go_wp2_with fail
      refine HW.out.mono ?_
      rintro e w4 hpost
      obtain ⟨hb4, v10, v11, rfl, hV⟩ := hpost.v (gl := gl) hw3.2
      have hfin := Lib.hid (show LSt (w.heap.size + 1) N m l A cap m p gl w4 f2 ∧ WayV N l f2 sN t gl v10 v11 w4 ∧ Below w.heap.size w w4 from ⟨hL3H.out.later hb4, hV, hb3H.out.trans (hb4.mono hs3)⟩)
      clear hb4 hV hpost HW hL3H hb3H
      go_wp2
      go_roundw
      case rel => exact ⟨f2, v + much, by go_num, by omega, hF2H.out, hni2H.out, hfin.out⟩
      case measure => simp [intOf]; omega
end Go.Proofs.YteadceghjfaekaaDoor
