/- flow: way: the shortest one with room. -/
import Derived.Test.YteadceghjfaekaaDoorFlowR
import Derived.Test.YteadceghjfaekaaDoorSMap
namespace Go.Proofs.YteadceghjfaekaaDoor
open Go.RowKit Go.Shelf
attribute [local go_sem] Oper.semAt_some

theorem tiIw : TI Tryd.prog 49 3 (.int .i64 0) 1 8 := TI.mk' Tryd.underlying49 (by kernel_rfl) rfl (by decide)
def ndI (l : List Nat) : List Value := l.map fun (i : Nat) => Value.int .i64 (i : Int)
theorem ndI_drop {vis : List Nat} {q : Nat} (h : q < vis.length) : ndI (vis.drop q) = .int .i64 ((vis.getD q 0 : Nat) : Int) :: ndI (vis.drop (q + 1)) := by
  rw [List.drop_eq_getElem_cons h]
  simp only [ndI, List.map_cons]
  simp [List.getD, h]
/-- what the variables of the search hold -/
structure WS (s p sN qc : Nat) (v : Value) (q : Nat) (vis : List Nat) (cnt : Nat) (par : Nat → Option Stp) (W : World) : Prop where
  b0 : Boxed W s 57 (.pointer (some ⟨p, 0, none⟩))
  b1 : Boxed W (s + 1) 3 (.int .i64 sN)
  b3 : Boxed W (s + 3) 72 (.map (some (s + 2)))
  mp : SMap W (s + 2) cnt par
  bq : Boxed W qc 49 v
  wn : Win W (s + 4) 3 v (vis.length - q) (ndI (vis.drop q))
  qs : s + 4 ≤ qc
  vq : v.ownBlock ≠ some qc
section
variable {s p sN qc q cnt : Nat} {v : Value} {vis : List Nat} {par : Nat → Option Stp} {W W' : World}
theorem WS.grown {row : Option Nat} (h : WS s p sN qc v q vis cnt par W) (hg : W.grownBy W' row) (hr : ∀ r, row = some r → s + 4 ≤ r ∧ r ≠ qc ∧ v.ownBlock ≠ some r) : WS s p sN qc v q vis cnt par W' := by
  have ne : ∀ b, b < s + 4 → some b ≠ row := fun b hb e => by have := (hr b e.symm).1; omega
  refine ⟨h.b0.kept hg (ne _ (by omega)), h.b1.kept hg (ne _ (by omega)), h.b3.kept hg (ne _ (by omega)), h.mp.kept hg (ne _ (by omega)), h.bq.kept hg (fun e => (hr qc e.symm).2.1 rfl), h.wn.kept hg (fun e => ?_), h.qs, h.vq⟩
  cases row with
  | none => obtain ⟨g, o, c, e2, _⟩ := h.wn.form; rw [e2] at e; cases e
  | some r => exact (hr r rfl).2.2 e
theorem WS.later (h : WS s p sN qc v q vis cnt par W) (hb : Below W.heap.size W W') : WS s p sN qc v q vis cnt par W' :=
  h.grown (row := none) ⟨hb.os, hb.tape, hb.output, hb.size, fun j hj _ => hb.block j hj⟩ (fun r e => by cases e)
theorem WS.alloc (h : WS s p sN qc v q vis cnt par W) (o : Obj) : WS s p sN qc v q vis cnt par (W.alloc o) := h.later ((Below.refl _ W).alloc (Nat.le_refl _) o)
theorem WS.lt (h : WS s p sN qc v q vis cnt par W) : s + 3 < W.heap.size ∧ qc < W.heap.size ∧ ∀ r, v.ownBlock = some r → s + 4 ≤ r ∧ r < W.heap.size := ⟨h.b3.lt, h.bq.lt, h.wn.lt⟩
end
/-- the search has gone q nodes, and of the next one those steps -/
structure WI (N : Nat) (l : List Arc) (f : Nat → Int) (sN q : Nat) (vis : List Nat) (par : Nat → Option Stp) (pre : List Stp) : Prop where
  bi : BI N l f sN vis par
  cl : Cld l f vis q
  cq : CldQ l f vis q pre
theorem Marks.keepD {B : Nat} {w w' : World} (hk : ∀ k : Nat, w.heap[k]? = some (.deferred (some [])) → w'.heap[k]? = some (.deferred (some []))) : ∀ {T : Nat} {ds : List Deferred}, Marks B T ds w → Marks B T ds w'
  | _, [], _ => trivial
  | _, _ :: _, ⟨r, h1, h2, h3, h4, h5⟩ => ⟨r, h1, h2, h3, hk r h4, Marks.keepD hk h5⟩
theorem Marks.turned {B T b : Nat} {ds : List Deferred} {w w' : World} (hm : Marks B T ds w) (h : w.mapTurned w' b) : Marks B T ds w' :=
  hm.keepD fun k hk => (h.grown.block k (Array.getElem?_eq_some_iff.1 hk).1 fun e => by
    obtain ⟨es, clock, _, _, hb, _⟩ := h
    cases e; rw [hb] at hk; cases hk).trans hk
theorem Marks.win' {B T : Nat} {ds : List Deferred} {W W' : World} {b e s n : Nat} {g : Nat} {c : Nat} {xs : List Value} (hm : Marks B T ds W) (hown : W.ownsRow b e s (.slice (some ⟨g, 0, none⟩) n c) n xs) (hg : W.grownBy W' (some g)) : Marks B T ds W' :=
  hm.keepD fun k hk => (hg.block k (Array.getElem?_eq_some_iff.1 hk).1 fun he => by
    rcases hown.2 with ⟨h, _⟩ | ⟨g', c', cur, h, _, hgg, _⟩
    · cases h
    · cases h; cases he; rw [hgg] at hk; cases hk).trans hk
theorem Marks.own2 {B T : Nat} {ds : List Deferred} {W W' : World} {b e s n : Nat} {v : Value} {xs : List Value} (hm : Marks B T ds W) (hown : W.ownsRow b e s v n xs) (hg : W.grownBy W' v.ownBlock) : Marks B T ds W' :=
  hm.keepD fun k hk => (hg.block k (Array.getElem?_eq_some_iff.1 hk).1 fun he => by
    rcases hown.2 with ⟨rfl, _⟩ | ⟨g', c', cur, rfl, _, hgg, _⟩
    · cases he
    · cases he; rw [hgg] at hk; cases hk).trans hk
theorem ndI_snoc {vis : List Nat} {q z : Nat} (h : q ≤ vis.length) : ndI ((vis ++ [z]).drop q) = ndI (vis.drop q) ++ [.int .i64 (z : Int)] := by
  rw [List.drop_append_of_le_length h]
  simp [ndI]
theorem keepsFrom_win {W W' : World} {B base n : Nat} {e : TypeId} {v : Value} {xs : List Value} (h : Win W base e v n xs) (hg : W.grownBy W' v.ownBlock) : KeepsFrom B W W' :=
  ⟨hg.size, fun k o _ ho hc => (hg.block k (Array.getElem?_eq_some_iff.1 ho).1 fun he => by
    obtain ⟨_, g, off, cap, cur, rfl, _, hgg, _⟩ := h
    cases he; rw [hgg] at ho; cases ho; cases hc).trans ho⟩
theorem Marks.win {B T : Nat} {ds : List Deferred} {W W' : World} {base n : Nat} {e : TypeId} {v : Value} {xs : List Value} (hm : Marks B T ds W) (h : Win W base e v n xs) (hg : W.grownBy W' v.ownBlock) : Marks B T ds W' :=
  hm.keep fun k o _ ho hc => (keepsFrom_win (B := 0) h hg).same k o (Nat.zero_le _) ho hc
def unS {m : Nat} (pre : List (Sm m)) : List Stp := pre.map (·.1)
theorem unS_snoc {m : Nat} (pre : List (Sm m)) (x : Sm m) : unS (pre ++ [x]) = unS pre ++ [x.1] := by simp [unS]
/-- what the loop over the steps holds -/
def WL (N : Nat) (l : List Arc) (f : Nat → Int) (s p sN qc q u T : Nat) (ds : List Deferred) (w : World) {m : Nat} (pre : List (Sm m)) (W : World) : Prop :=
  ∃ (cnt : Nat) (v : Value) (vis : List Nat) (par : Nat → Option Stp), vis[q]? = some u ∧ cnt ≤ vis.length ∧ WI N l f sN q vis par (unS pre) ∧ WS s p sN qc v q vis cnt par W ∧ Marks s T ds W ∧ Below s w W
theorem WL.grown {N : Nat} {l : List Arc} {f : Nat → Int} {s p sN qc q u T B : Nat} {ds : List Deferred} {w : World} {m : Nat} {pre : List (Sm m)} {W W' : World} {row : Option Nat} (h : WL N l f s p sN qc q u T ds w pre W) (hg : W.grownBy W' row) (hr : ∀ r, row = some r → B ≤ r ∧ ∃ o, W.heap[r]? = some o ∧ o.isCells = false) (hB : qc < B) (hT : T ≤ B) (hs : s + 4 ≤ B) : WL N l f s p sN qc q u T ds w pre W' := by
  obtain ⟨cnt, v, vis, par, h1, h2, h3, h4, h5, h6⟩ := h
  refine ⟨cnt, v, vis, par, h1, h2, h3, h4.grown hg (fun r e => ⟨by have := (hr r e).1; omega, by have := (hr r e).1; omega, fun e2 => ?_⟩), h5.grown hg (fun r e => by have := (hr r e).1; omega), h6.grown hg (by have := h4.lt.1; omega) (fun r e => by have := (hr r e).1; omega)⟩
  obtain ⟨_, g, off, cap, cur, rfl, _, hgg, _⟩ := h4.wn
  cases e2
  obtain ⟨o, ho, hc⟩ := (hr _ e).2
  rw [hgg] at ho; cases ho; cases hc
theorem Wy.nil_at {l : List Arc} {f : Nat → Int} {vis : List Nat} {t : Nat} {c : Int} {w : List Stp} {a : Nat} (h : Wy l f vis t c w a) (hw : w = []) : a = t := by
  cases h
  · rfl
  · simp at hw
theorem tiSt : TI Tryd.prog 59 75 (.agg #[.int .i64 0, .bool false]) 2 16 := TI.mk' Tryd.underlying59 (by kernel_rfl) rfl (by decide)
def WayPost (N : Nat) (l : List Arc) (f : Nat → Int) (sN t : Nat) (w : World) (e : Ending) (w' : World) : Prop :=
  Below w.heap.size w w' ∧ ((e = .returned (.tuple #[.slice none 0 0, .int .i64 0]) ∧ ∃ vis par, BI N l f sN vis par ∧ Cld l f vis vis.length ∧ t ∉ vis) ∨
    ∃ (g n c : Nat) (ws : List Stp) (much : Int) (vis : List Nat), e = .returned (.tuple #[.slice (some ⟨g, 0, none⟩) n c, .int .i64 much]) ∧ w'.ownsRow w.heap.size 75 2 (.slice (some ⟨g, 0, none⟩) n c) n (stps ws.reverse) ∧ n ≤ N ∧ 0 < n ∧
      vis.Nodup ∧ Wy l f vis t much ws sN ∧ 0 < much ∧ much ≤ 1048576 ∧ ∀ x ∈ ws, x.1 < l.length)
set_option maxHeartbeats 6400000 in
set_option maxRecDepth 100000 in
theorem way_any (B N m : Nat) (l : List Arc) (A : Option Addr) (cap c p gl : Nat) (w : World) (f : Nat → Int) (h : LSt B N m l A cap c p gl w f) (hn : NOk N l) (hf : FOk l f) (hm : m ≤ 128) (hN : N ≤ 32) (sN t : Nat) (hs : sN < N) (ht : t < N) (hst : sN ≠ t) (hB : B ≤ w.heap.size) :
    Calls Tryd.prog 23 #[.pointer (some ⟨p, 0, none⟩), .int .i64 sN, .int .i64 t] w (WayPost N l f sN t w) := by
  have hel := h.len
  have b0 := ((((Boxed.new w 57 (.pointer (some ⟨p, 0, none⟩))).alloc (.cells #[.int .i64 sN] 3)).alloc (.map #[] 0)).alloc (.cells #[.map (some (w.heap.size + 2))] 72))
  have b1 := (((Boxed.new (w.alloc (.cells #[.pointer (some ⟨p, 0, none⟩)] 57)) 3 (.int .i64 sN)).alloc (.map #[] 0)).alloc (.cells #[.map (some (w.heap.size + 2))] 72))
  have hmp := (SMap.made ((w.alloc (.cells #[.pointer (some ⟨p, 0, none⟩)] 57)).alloc (.cells #[.int .i64 sN] 3))).alloc (.cells #[.map (some (w.heap.size + 2))] 72)
  have b3 := Boxed.new (((w.alloc (.cells #[.pointer (some ⟨p, 0, none⟩)] 57)).alloc (.cells #[.int .i64 sN] 3)).alloc (.map #[] 0)) 72 (.map (some (w.heap.size + 2)))
  have hb4 := ((((Below.refl _ w).alloc (Nat.le_refl _) (.cells #[.pointer (some ⟨p, 0, none⟩)] 57)).alloc (by simp) (.cells #[.int .i64 sN] 3)).alloc (by simp; omega) (.map #[] 0)).alloc (by simp; omega) (.cells #[.map (some (w.heap.size + 2))] 72)
  have hsz : ((((w.alloc (.cells #[.pointer (some ⟨p, 0, none⟩)] 57)).alloc (.cells #[.int .i64 sN] 3)).alloc (.map #[] 0)).alloc (.cells #[.map (some (w.heap.size + 2))] 72)).heap.size = w.heap.size + 4 := by simp
  simp only [World.size_alloc, Nat.add_assoc, Nat.reduceAdd] at b1 b3 hmp
  have hH := Lib.hid h; have hnH := Lib.hid hn; have hfH := Lib.hid hf
  clear h hn hf
  refine calls_of_wp_calm 4 Tryd.func23 rfl ?_
  simp only [Tryd.ntmps23, List.size_toArray, List.length_cons, List.length_nil, Nat.reduceAdd, Nat.reduceSub, Array.replicate_succ, Array.replicate_zero, List.push_toArray, List.append_toArray, List.nil_append, List.cons_append]
  have c1 := b1.cell
  have hmm := @run_makeMap Tryd.prog
  go_wp2
  generalize ((((w.alloc (.cells #[.pointer (some ⟨p, 0, none⟩)] 57)).alloc (.cells #[.int .i64 sN] 3)).alloc (.map #[] 0)).alloc (.cells #[.map (some (w.heap.size + 2))] 72)) = w4 at *
  have hS5 : (w4.alloc (.cells #[.int .i64 sN] 3)).heap.size = w.heap.size + 5 := by simp; omega
  have hwn := (Win.new (base := w.heap.size + 4) (e := 3) w4 (.int .i64 sN) (by omega)).alloc (.cells #[.slice (some ⟨w.heap.size + 4, 0, none⟩) 1 1] 49)
  have hbq := Boxed.new (w4.alloc (.cells #[.int .i64 sN] 3)) 49 (.slice (some ⟨w.heap.size + 4, 0, none⟩) 1 1)
  rw [hS5] at hbq
  rw [hsz] at hwn
  have hb6 := (hb4.alloc (by omega) (.cells #[.int .i64 sN] 3)).alloc (by omega) (.cells #[.slice (some ⟨w.heap.size + 4, 0, none⟩) 1 1] 49)
  have hWS0 : WS w.heap.size p sN (w.heap.size + 5) (.slice (some ⟨w.heap.size + 4, 0, none⟩) 1 1) 0 [sN] 0 (fun _ => none) ((w4.alloc (.cells #[.int .i64 sN] 3)).alloc (.cells #[.slice (some ⟨w.heap.size + 4, 0, none⟩) 1 1] 49)) :=
    ⟨(b0.alloc _).alloc _, (b1.alloc _).alloc _, (b3.alloc _).alloc _, (hmp.alloc _).alloc _, hbq, hwn, by omega, by simp [Value.ownBlock]⟩
  have hsz6 : ((w4.alloc (.cells #[.int .i64 sN] 3)).alloc (.cells #[.slice (some ⟨w.heap.size + 4, 0, none⟩) 1 1] 49)).heap.size = w.heap.size + 6 := by rw [World.size_alloc, hS5]
  clear b0 b1 b3 hmp hb4 c1 hbq hwn
  generalize (w4.alloc (.cells #[.int .i64 sN] 3)).alloc (.cells #[.slice (some ⟨w.heap.size + 4, 0, none⟩) 1 1] 49) = w6 at *
  refine wp_loop_ghost (fun d a' wr => ∃ (ds : List Deferred), a' = { tmps := #[(a'.tmps.getD 0 undef), (a'.tmps.getD 1 undef), (.int .i64 (t : Int)), (.pointer (some ⟨w.heap.size, 0, none⟩)), (.pointer (some ⟨w.heap.size + 1, 0, none⟩)), (a'.tmps.getD 5 undef), (.slice none 0 0), (.int .i64 0), (.pointer (some ⟨w.heap.size + 3, 0, none⟩)), (a'.tmps.getD 9 undef), (a'.tmps.getD 10 undef), (a'.tmps.getD 11 undef), (a'.tmps.getD 12 undef), (a'.tmps.getD 13 undef), (a'.tmps.getD 14 undef), (a'.tmps.getD 15 undef), (a'.tmps.getD 16 undef), (a'.tmps.getD 17 undef), (a'.tmps.getD 18 undef), (a'.tmps.getD 19 undef), (a'.tmps.getD 20 undef), (a'.tmps.getD 21 undef), (a'.tmps.getD 22 undef), (a'.tmps.getD 23 undef), (a'.tmps.getD 24 undef), (a'.tmps.getD 25 undef), (a'.tmps.getD 26 undef), (a'.tmps.getD 27 undef), (a'.tmps.getD 28 undef), (a'.tmps.getD 29 undef), (a'.tmps.getD 30 undef), (a'.tmps.getD 31 undef), (a'.tmps.getD 32 undef), (a'.tmps.getD 33 undef), (a'.tmps.getD 34 undef), (a'.tmps.getD 35 undef), (a'.tmps.getD 36 undef), (a'.tmps.getD 37 undef), (a'.tmps.getD 38 undef), (a'.tmps.getD 39 undef), (a'.tmps.getD 40 undef), (a'.tmps.getD 41 undef), (a'.tmps.getD 42 undef), (a'.tmps.getD 43 undef), (a'.tmps.getD 44 undef), (a'.tmps.getD 45 undef), (a'.tmps.getD 46 undef), (a'.tmps.getD 47 undef), (a'.tmps.getD 48 undef), (a'.tmps.getD 49 undef), (a'.tmps.getD 50 undef), (a'.tmps.getD 51 undef), (a'.tmps.getD 52 undef), (a'.tmps.getD 53 undef), (a'.tmps.getD 54 undef), (a'.tmps.getD 55 undef), (a'.tmps.getD 56 undef), (a'.tmps.getD 57 undef), (a'.tmps.getD 58 undef), (a'.tmps.getD 59 undef), (a'.tmps.getD 60 undef), (a'.tmps.getD 61 undef), (a'.tmps.getD 62 undef), (a'.tmps.getD 63 undef), (a'.tmps.getD 64 undef), (a'.tmps.getD 65 undef), (a'.tmps.getD 66 undef), (a'.tmps.getD 67 undef), (a'.tmps.getD 68 undef), (a'.tmps.getD 69 undef), (a'.tmps.getD 70 undef), (a'.tmps.getD 71 undef), (a'.tmps.getD 72 undef), (a'.tmps.getD 73 undef), (a'.tmps.getD 74 undef), (a'.tmps.getD 75 undef), (a'.tmps.getD 76 undef), (a'.tmps.getD 77 undef), (a'.tmps.getD 78 undef), (a'.tmps.getD 79 undef), (a'.tmps.getD 80 undef), (a'.tmps.getD 81 undef), (a'.tmps.getD 82 undef), (a'.tmps.getD 83 undef), (a'.tmps.getD 84 undef), (a'.tmps.getD 85 undef), (a'.tmps.getD 86 undef), (a'.tmps.getD 87 undef), (a'.tmps.getD 88 undef), (a'.tmps.getD 89 undef), (a'.tmps.getD 90 undef), (a'.tmps.getD 91 undef), (a'.tmps.getD 92 undef), (a'.tmps.getD 93 undef), (a'.tmps.getD 94 undef), (a'.tmps.getD 95 undef), (a'.tmps.getD 96 undef), (a'.tmps.getD 97 undef), (a'.tmps.getD 98 undef), (a'.tmps.getD 99 undef), (a'.tmps.getD 100 undef), (a'.tmps.getD 101 undef), (a'.tmps.getD 102 undef), (a'.tmps.getD 103 undef), (a'.tmps.getD 104 undef)], defers := ds } ∧ (∃ (q qc cnt : Nat) (v : Value) (vis : List Nat) (par : Nat → Option Stp), d = N - q ∧ (a'.tmps.getD 9 undef) = .pointer (some ⟨qc, 0, none⟩) ∧ q ≤ vis.length ∧ cnt ≤ vis.length ∧ WI N l f sN q vis par [] ∧ WS w.heap.size p sN qc v q vis cnt par wr ∧ Marks w.heap.size wr.heap.size ds wr ∧ Below w.heap.size w wr)) (d0 := N - 0) ?atStart ?round
  case atStart => exact ⟨[], rfl, 0, _, 0, _, [sN], _, rfl, rfl, Nat.zero_le _, Nat.zero_le _, ⟨BI.start hs, fun i u x hi => absurd hi (by omega), CldQ.nil⟩, hWS0, trivial, hb6⟩
  case round =>
    clear hWS0 hb6 hsz6 hsz hS5
    rintro d a' wr ⟨ds, ha, hrel⟩
    generalize a'.tmps.getD 0 undef = x0 at ha hrel
    generalize a'.tmps.getD 1 undef = x1 at ha hrel
    generalize a'.tmps.getD 5 undef = x5 at ha hrel
    generalize a'.tmps.getD 9 undef = x9 at ha hrel
    generalize a'.tmps.getD 10 undef = x10 at ha hrel
    generalize a'.tmps.getD 11 undef = x11 at ha hrel
    generalize a'.tmps.getD 12 undef = x12 at ha hrel
    generalize a'.tmps.getD 13 undef = x13 at ha hrel
    generalize a'.tmps.getD 14 undef = x14 at ha hrel
    generalize a'.tmps.getD 15 undef = x15 at ha hrel
    generalize a'.tmps.getD 16 undef = x16 at ha hrel
    generalize a'.tmps.getD 17 undef = x17 at ha hrel
    generalize a'.tmps.getD 18 undef = x18 at ha hrel
    generalize a'.tmps.getD 19 undef = x19 at ha hrel
    generalize a'.tmps.getD 20 undef = x20 at ha hrel
    generalize a'.tmps.getD 21 undef = x21 at ha hrel
    generalize a'.tmps.getD 22 undef = x22 at ha hrel
    generalize a'.tmps.getD 23 undef = x23 at ha hrel
    generalize a'.tmps.getD 24 undef = x24 at ha hrel
    generalize a'.tmps.getD 25 undef = x25 at ha hrel
    generalize a'.tmps.getD 26 undef = x26 at ha hrel
    generalize a'.tmps.getD 27 undef = x27 at ha hrel
    generalize a'.tmps.getD 28 undef = x28 at ha hrel
    generalize a'.tmps.getD 29 undef = x29 at ha hrel
    generalize a'.tmps.getD 30 undef = x30 at ha hrel
    generalize a'.tmps.getD 31 undef = x31 at ha hrel
    generalize a'.tmps.getD 32 undef = x32 at ha hrel
    generalize a'.tmps.getD 33 undef = x33 at ha hrel
    generalize a'.tmps.getD 34 undef = x34 at ha hrel
    generalize a'.tmps.getD 35 undef = x35 at ha hrel
    generalize a'.tmps.getD 36 undef = x36 at ha hrel
    generalize a'.tmps.getD 37 undef = x37 at ha hrel
    generalize a'.tmps.getD 38 undef = x38 at ha hrel
    generalize a'.tmps.getD 39 undef = x39 at ha hrel
    generalize a'.tmps.getD 40 undef = x40 at ha hrel
    generalize a'.tmps.getD 41 undef = x41 at ha hrel
    generalize a'.tmps.getD 42 undef = x42 at ha hrel
    generalize a'.tmps.getD 43 undef = x43 at ha hrel
    generalize a'.tmps.getD 44 undef = x44 at ha hrel
    generalize a'.tmps.getD 45 undef = x45 at ha hrel
    generalize a'.tmps.getD 46 undef = x46 at ha hrel
    generalize a'.tmps.getD 47 undef = x47 at ha hrel
    generalize a'.tmps.getD 48 undef = x48 at ha hrel
    generalize a'.tmps.getD 49 undef = x49 at ha hrel
    generalize a'.tmps.getD 50 undef = x50 at ha hrel
    generalize a'.tmps.getD 51 undef = x51 at ha hrel
    generalize a'.tmps.getD 52 undef = x52 at ha hrel
    generalize a'.tmps.getD 53 undef = x53 at ha hrel
    generalize a'.tmps.getD 54 undef = x54 at ha hrel
    generalize a'.tmps.getD 55 undef = x55 at ha hrel
    generalize a'.tmps.getD 56 undef = x56 at ha hrel
    generalize a'.tmps.getD 57 undef = x57 at ha hrel
    generalize a'.tmps.getD 58 undef = x58 at ha hrel
    generalize a'.tmps.getD 59 undef = x59 at ha hrel
    generalize a'.tmps.getD 60 undef = x60 at ha hrel
    generalize a'.tmps.getD 61 undef = x61 at ha hrel
    generalize a'.tmps.getD 62 undef = x62 at ha hrel
    generalize a'.tmps.getD 63 undef = x63 at ha hrel
    generalize a'.tmps.getD 64 undef = x64 at ha hrel
    generalize a'.tmps.getD 65 undef = x65 at ha hrel
    generalize a'.tmps.getD 66 undef = x66 at ha hrel
    generalize a'.tmps.getD 67 undef = x67 at ha hrel
    generalize a'.tmps.getD 68 undef = x68 at ha hrel
    generalize a'.tmps.getD 69 undef = x69 at ha hrel
    generalize a'.tmps.getD 70 undef = x70 at ha hrel
    generalize a'.tmps.getD 71 undef = x71 at ha hrel
    generalize a'.tmps.getD 72 undef = x72 at ha hrel
    generalize a'.tmps.getD 73 undef = x73 at ha hrel
    generalize a'.tmps.getD 74 undef = x74 at ha hrel
    generalize a'.tmps.getD 75 undef = x75 at ha hrel
    generalize a'.tmps.getD 76 undef = x76 at ha hrel
    generalize a'.tmps.getD 77 undef = x77 at ha hrel
    generalize a'.tmps.getD 78 undef = x78 at ha hrel
    generalize a'.tmps.getD 79 undef = x79 at ha hrel
    generalize a'.tmps.getD 80 undef = x80 at ha hrel
    generalize a'.tmps.getD 81 undef = x81 at ha hrel
    generalize a'.tmps.getD 82 undef = x82 at ha hrel
    generalize a'.tmps.getD 83 undef = x83 at ha hrel
    generalize a'.tmps.getD 84 undef = x84 at ha hrel
    generalize a'.tmps.getD 85 undef = x85 at ha hrel
    generalize a'.tmps.getD 86 undef = x86 at ha hrel
    generalize a'.tmps.getD 87 undef = x87 at ha hrel
    generalize a'.tmps.getD 88 undef = x88 at ha hrel
    generalize a'.tmps.getD 89 undef = x89 at ha hrel
    generalize a'.tmps.getD 90 undef = x90 at ha hrel
    generalize a'.tmps.getD 91 undef = x91 at ha hrel
    generalize a'.tmps.getD 92 undef = x92 at ha hrel
    generalize a'.tmps.getD 93 undef = x93 at ha hrel
    generalize a'.tmps.getD 94 undef = x94 at ha hrel
    generalize a'.tmps.getD 95 undef = x95 at ha hrel
    generalize a'.tmps.getD 96 undef = x96 at ha hrel
    generalize a'.tmps.getD 97 undef = x97 at ha hrel
    generalize a'.tmps.getD 98 undef = x98 at ha hrel
    generalize a'.tmps.getD 99 undef = x99 at ha hrel
    generalize a'.tmps.getD 100 undef = x100 at ha hrel
    generalize a'.tmps.getD 101 undef = x101 at ha hrel
    generalize a'.tmps.getD 102 undef = x102 at ha hrel
    generalize a'.tmps.getD 103 undef = x103 at ha hrel
    generalize a'.tmps.getD 104 undef = x104 at ha hrel
    subst ha
    obtain ⟨q, qc, cnt, v, vis, par, rfl, rfl, hqv, hcv, hWI, hWS, hmk, hb⟩ := hrel
    obtain ⟨wo, rfl⟩ : ∃ wo : World, wo = wr := ⟨_, rfl⟩
    have hszo := hb.size
    obtain ⟨lt3, ltq, ltv⟩ := hWS.lt
    have hlN := hWI.bi.len
    have hqs := hWS.qs
    obtain ⟨vg, vo, vc, rfl, hvn, hvc⟩ := hWS.wn.form
    have cq := hWS.bq.cell
    have c0' := hWS.b0.cell
    by_cases hlt : q < vis.length
    · have hpos : (0 : Int) < ((vis.length - q : Nat) : Int) := by omega
      have hLo := hH.out.later hb
      have hSM := Lib.hid (steps_in 3 (by omega) B N m l A cap c p gl wo f hLo hm)
      have hWSH := Lib.hid hWS; have hWIH := Lib.hid hWI; have hmkH := Lib.hid hmk; have hbH := Lib.hid hb; have hLoH := Lib.hid hLo
      clear hWS hWI hmk hb hLo
      obtain ⟨u, hu⟩ : ∃ u, vis.getD q 0 = u := ⟨_, rfl⟩
      have hvu : vis[q]? = some u := by rw [← hu]; simp [List.getD, hlt]
      have h0I : WL N l f w.heap.size p sN qc q u wo.heap.size ds w ([] : List (Sm m)) wo := ⟨cnt, _, vis, par, hvu, hcv, hWIH.out, hWSH.out, hmkH.out, hbH.out⟩
      clear hWSH hWIH hmkH hbH hu hvu
      go_wp2_with fail
      clear cq
      refine (wpIn_wide (n := 4)).1 ?_
      refine' rangeFunc_meth (n := 4) (α := Sm m) (gf := 27) (ba := #[.pointer (some ⟨p, 0, none⟩)]) (by omega) rfl (enters_of Tryd.func27 (by kernel_rfl) rfl)
        hSM.out (Below.refl _ _) (fun _ => rfl)
        (fun pre W => WL N l f w.heap.size p sN qc q u wo.heap.size ds w pre W) ?hI h0I _ (fun x => .cells #[.int .i64 x.1.1, .bool x.1.2] 75) ?assign ?body ?done
      case hI => exact fun pre W1 W2 row h hg' hr => h.grown hg' hr (by omega) (Nat.le_refl _) (by omega)
      case assign =>
        intro l0 y W K b hb hK
        dsimp only [stv]
        gi_wp2
        rw [← hb]
        exact hK
      case body =>
        rintro l0 pre y W b ⟨cnt, v, vis, par, hvu, hcv, hWI, hWS, hmk, hb⟩ hbw hblk
        have hsn := unS_snoc pre y
        have hym := y.2
        obtain ⟨x, hxe⟩ : ∃ x, y.1 = x := ⟨_, rfl⟩
        rw [hxe] at hsn hym hblk
        clear hxe
        have hK : Blk W b 75 #[.int .i64 x.1, .bool x.2] := hblk
        have k0 := hK.cell (j := 0) rfl
        have k1 := hK.cell (j := 1) rfl
        have hLW := hH.out.later hb
        have HR := Lib.hid (room_any B N m l A cap c p gl W f hLW hnH.out x hym hfH.out)
        have c0W := hWS.b0.cell
        have hKH := Lib.hid hK; have hsnH := Lib.hid hsn; have hWIH := Lib.hid hWI; have hWSH := Lib.hid hWS; have hmkH := Lib.hid hmk; have hbH := Lib.hid hb
        clear hK hsn hWI hWS hmk hb hLW hblk
        dsimp only [stv] at HR
        gi_wp2_with fail
        refine ⟨trivial, (CallsIn.inRound l0 (callsIn_wide.2 HR.out)).mono ?_⟩
        rintro e w7 ⟨rfl, hb7⟩
        have hs7 := hb7.size
        have hWS7 := hWSH.out.later hb7
        have hmk7 := hmkH.out.later hb7
        have hb7' := hbH.out.trans (hb7.mono hbH.out.size)
        have hK7 : Blk w7 b 75 #[.int .i64 x.1, .bool x.2] := (hb7.block _ hKH.out.lt).trans hKH.out
        have hxl : x.1 < l.length := by rw [hel]; exact hym
        have hat := hnH.out.at hxl
        have hdN : dst l x < N := by unfold dst; split; exact hat.1; exact hat.2.1
        have hsN' : src l x < N := by unfold src; split; exact hat.2.1; exact hat.1
        have hlk := hWS7.mp.look (i := dst l x) (by omega)
        obtain ⟨lt3, ltq, ltv⟩ := hWS7.lt
        obtain ⟨g7, o7, c7, rfl, hn7, hm7⟩ := hWS7.wn.form
        have hcl := hWS7.b3.cell
        have hlN := hWIH.out.bi.len
        have hqlen : q < vis.length := (List.getElem?_eq_some_iff.1 hvu).1
        have hKf7 : KeepsFrom wo.heap.size W w7 := KeepsFrom.of_grownBy (row := none) ⟨hb7.os, hb7.tape, hb7.output, hb7.size, fun k hk _ => hb7.block k hk⟩ (fun j e => by cases e)
        clear HR hat k0 k1 c0W hKH
        unfold stv at hlk
        obtain ⟨R, hR⟩ : ∃ R, rm l f x = R := ⟨_, rfl⟩
        obtain ⟨a, ha⟩ : ∃ a, src l x = a := ⟨_, rfl⟩
        obtain ⟨z, hz⟩ : ∃ z, dst l x = z := ⟨_, rfl⟩
        rw [hz] at hlk hdN
        rw [ha] at hsN'
        rw [hR, ha, hz]
        have hRH := Lib.hid hR; have haH := Lib.hid ha; have hzH := Lib.hid hz
        clear hR ha hz
        obtain ⟨y8, hy8⟩ : ∃ y8 : Stp, (par z).getD (0, false) = y8 := ⟨_, rfl⟩
        obtain ⟨se, hse⟩ : ∃ se : Bool, (par z).isSome = se := ⟨_, rfl⟩
        rw [hy8, hse] at hlk
        have hseH := Lib.hid hse
        clear hy8 hse
        have hWS8 := hWS7.alloc (.cells #[.int .i64 y8.1, .bool y8.2] 75)
        have hmk8 := hmk7.keeps (KeepsOthers.alloc w7 (.cells #[.int .i64 y8.1, .bool y8.2] 75))
        have hb8 := hb7'.alloc hb7'.size (.cells #[.int .i64 y8.1, .bool y8.2] 75)
        have hKf8 := hKf7.trans ((KeepsOthers.alloc w7 (.cells #[.int .i64 y8.1, .bool y8.2] 75)).from wo.heap.size)
        have hK8 := hK7.alloc (.cells #[.int .i64 y8.1, .bool y8.2] 75)
        have cq8 := hWS8.bq.cell
        have cs8 := hWS8.b1.cell
        have cw8 := hWS8.wn.cell (j := 0) (by omega)
        rw [ndI_drop hqlen, Nat.add_zero] at cw8
        have hgq : vis.getD q 0 = u := by simp [List.getD, hvu]
        rw [hgq] at cw8
        have cw8' : (w7.alloc (.cells #[.int .i64 y8.1, .bool y8.2] 75)).cell? ⟨g7, o7, none⟩ = some (.int .i64 (u : Int)) := cw8
        have hvq0 : (0 : Int) < ((vis.length - q : Nat) : Int) := by omega
        have hs8 : (w7.alloc (.cells #[.int .i64 y8.1, .bool y8.2] 75)).heap.size = w7.heap.size + 1 := by simp
        have lq8 := hWS8.bq.lt; have ls8 := hWS8.b1.lt
        have hWS8H := Lib.hid hWS8; have hmk8H := Lib.hid hmk8; have hb8H := Lib.hid hb8; have hKf8H := Lib.hid hKf8; have hK8H := Lib.hid hK8
        clear hWS7 hmk7 hb7' hb7 hKf7 hK7 hWSH hmkH hbH hWS8 hmk8 hb8 hKf8 hK8 cw8 hgq
        -- nothing is added
        have fin := Lib.hid (fun (hc : vis[q]? = some (src l x) → 0 < rm l f x → dst l x ∈ vis) => (⟨hKf8H.out, trivial, cnt, _, vis, par, hvu, hcv, ⟨hWIH.out.bi, hWIH.out.cl, by rw [hsnH.out]; exact hWIH.out.cq.snoc hc⟩, hWS8H.out, hmk8H.out, hb8H.out⟩ : KeepsFrom wo.heap.size W _ ∧ True ∧ WL N l f w.heap.size p sN qc q u wo.heap.size ds w (pre ++ [y]) _))
        have hinj : ∀ {i j : Nat}, (i : Int) = j → i = j := fun h => by omega
        by_cases h1 : 0 < R
        · by_cases h2 : a = u
          · by_cases h3 : z = sN
            · have e2 : ((a : Int) == u) = true := by simp [h2]
              have e3 : ((z : Int) != sN) = false := by simp [h3]
              have hf' := fin.out fun _ _ => by rw [hzH.out, h3]; exact List.mem_of_getElem? hWIH.out.bi.hd
              have hfH2 := Lib.hid hf'
              clear h2 h3 hf' fin
              gi_wp2
              exact hfH2.out
            · have e2 : ((a : Int) == u) = true := by simp [h2]
              have e3 : ((z : Int) != sN) = true := by simp; omega
              cases se
              · have hpn : par z = none := by
                  have := hseH.out
                  cases hp : par z with
                  | none => rfl
                  | some _ => rw [hp] at this; cases this
                have hbi2 := hWIH.out.bi.add hnH.out hxl (by rw [hRH.out]; exact h1) (q := q) (by rw [hvu, haH.out, h2]) (by rw [hzH.out]; exact h3) (by rw [hzH.out]; exact hpn)
                rw [hzH.out] at hbi2
                have hWI2 := Lib.hid (⟨hbi2, hWIH.out.cl.more (by omega), by
                  rw [hsnH.out]
                  refine (hWIH.out.cq.more hqlen).snoc fun _ _ => ?_
                  rw [hzH.out]; simp⟩ : WI N l f sN q (vis ++ [z]) (updO par z x) (unS (pre ++ [y])))
                have hlen2 := hbi2.len
                have k0 := hK8H.out.cell (j := 0) rfl
                have k1 := hK8H.out.cell (j := 1) rfl
                have hcl8 := hWS8H.out.b3.cell
                have hvq := hWS8H.out.vq
                have hg7 := (ltv g7 rfl)
                have hgqc : g7 ≠ qc := fun e => hvq (by rw [e]; rfl)
                clear h2 h3 fin hbi2 hpn hvq
                gi_wp2_with (first
                  | (gi_at_mapUpdate
                     refine wpListIn_smap _ rfl (.tmp 66) (.tmp 67) (.tmp 68) rfl rfl hWS8H.out.mp (by unfold maxLen; omega) (i := z) (by omega) (y := x) rfl rfl ?_
                     intro w9 hmp9 htu9
                     have cq9 := (hWS8H.out.bq.kept htu9.grown (by simp; omega)).cell
                     have lq9 := (hWS8H.out.bq.kept htu9.grown (by simp; omega)).lt
                     have wn9 := Lib.hid ((hWS8H.out.wn.kept htu9.grown (by simp [Value.ownBlock]; omega)).alloc (.cells #[.int .i64 (z : Int)] 3))
                     have hmp9H := Lib.hid hmp9
                     have htu9H := Lib.hid htu9
                     clear hmp9 htu9)
                  | (gi_at_builtin
                     refine wpListIn_win (s := .tmp 69) (x := .tmp 71) tiIw wn9.out (Boxed.new _ 3 (.int .i64 (z : Int))).cell rfl (by omega) (by omega) (by simp; omega) rfl rfl rfl rfl ?_
                     intro v' wB wnB gB hvB
                     obtain ⟨g8, o8, c8, rfl, _, _⟩ := wnB.form
                     have bqB := ((hWS8H.out.bq.kept htu9H.out.grown (by simp; omega)).alloc (.cells #[.int .i64 (z : Int)] 3)).kept gB (by simp [Value.ownBlock]; omega)
                     have cB := bqB.cell
                     have lB := bqB.lt
                     have fB := bqB.frozen
                     have wnBH := Lib.hid wnB
                     have gBH := Lib.hid gB
                     have hvBH := Lib.hid hvB
                     have bqBH := Lib.hid bqB
                     clear wnB gB hvB bqB cq9))
                have hW8 := hWS8H.out
                have g89 := htu9H.out.grown
                have g9a := World.grownBy_alloc w9 (.cells #[.int .i64 (z : Int)] 3) none
                have gB := gBH.out
                have gS := grownBy_setCell' wB qc (.slice (some ⟨g8, o8, none⟩) (vis.length - q + 1) c8)
                have mv : ∀ {k : Nat} {T : TypeId} {v : Value}, k ≠ w.heap.size + 2 → k ≠ g7 → k ≠ qc → Boxed (w7.alloc (.cells #[.int .i64 y8.1, .bool y8.2] 75)) k T v → Boxed (wB.setCell ⟨qc, 0, none⟩ (.slice (some ⟨g8, o8, none⟩) (vis.length - q + 1) c8)) k T v := fun h1 h2 h3 b =>
                  (((b.kept g89 (by simpa using h1)).kept g9a (by simp)).kept gB (by simp [Value.ownBlock]; omega)).kept gS (by simp; omega)
                have hs9 := g89.size
                have hqv8 : g8 ≠ qc := by
                  rcases hvBH.out with h | h
                  · have h : some g8 = some g7 := h
                    injection h with h; omega
                  · have := h g8 rfl
                    simp at this; omega
                have hWSF : WS w.heap.size p sN qc (.slice (some ⟨g8, o8, none⟩) (vis.length - q + 1) c8) q (vis ++ [z]) (cnt + 1) (updO par z x) (wB.setCell ⟨qc, 0, none⟩ (.slice (some ⟨g8, o8, none⟩) (vis.length - q + 1) c8)) :=
                  ⟨mv (by omega) (by omega) (by omega) hW8.b0, mv (by omega) (by omega) (by omega) hW8.b1, mv (by omega) (by omega) (by omega) hW8.b3,
                    ((hmp9H.out.alloc _).kept gB (by simp [Value.ownBlock]; omega)).kept gS (by simp; omega), bqBH.out.set _, by
                      have := wnBH.out.kept gS (by simp [Value.ownBlock]; exact hqv8)
                      rw [show (vis ++ [z]).length - q = vis.length - q + 1 by simp; omega, ndI_snoc (by omega)]
                      exact this, hW8.qs, by simp [Value.ownBlock]; exact hqv8⟩
                have hmkF : Marks w.heap.size wo.heap.size ds (wB.setCell ⟨qc, 0, none⟩ (.slice (some ⟨g8, o8, none⟩) (vis.length - q + 1) c8)) :=
                  (((hmk8H.out.turned htu9H.out).keeps (KeepsOthers.alloc w9 _)).win wn9.out gB).keeps (KeepsOthers.setCell _ _ _)
                have hbF : Below w.heap.size w (wB.setCell ⟨qc, 0, none⟩ (.slice (some ⟨g8, o8, none⟩) (vis.length - q + 1) c8)) :=
                  (((hb8H.out.grown g89 hb8H.out.size (fun r e => by cases e; omega)).alloc (by have := hb8H.out.size; omega) _).grown gB (by have := hb8H.out.size; simp; omega) (fun r e => by have := ltv r e; omega)).setCell (p := ⟨qc, 0, none⟩) (by show w.heap.size ≤ qc; omega) _
                have hKF : KeepsFrom wo.heap.size W (wB.setCell ⟨qc, 0, none⟩ (.slice (some ⟨g8, o8, none⟩) (vis.length - q + 1) c8)) :=
                  (((hKf8H.out.trans (KeepsFrom.of_grownBy g89 (fun j e => by cases e; omega))).trans ((KeepsOthers.alloc w9 _).from _)).trans (keepsFrom_win wn9.out gB)).trans ((KeepsOthers.setCell _ _ _).from _)
                exact ⟨hKF, trivial, cnt + 1, _, vis ++ [z], _, by rw [List.getElem?_append_left hqlen]; exact hvu, by simp; omega, hWI2.out, hWSF, hmkF, hbF⟩
              · have hf' := fin.out fun _ _ => by rw [hzH.out]; exact (hWIH.out.bi.pi _ h3).1 hseH.out
                have hfH2 := Lib.hid hf'
                clear h2 h3 hf' fin
                gi_wp2
                exact hfH2.out
          · have e2 : ((a : Int) == u) = false := by simp; omega
            have hf' := fin.out fun hq _ => by
              rw [hvu, haH.out] at hq; injection hq with hq; exact absurd hq.symm h2
            have hfH2 := Lib.hid hf'
            clear h2 hf' fin
            gi_wp2
            exact hfH2.out
        · have hf' := fin.out fun _ hr => by rw [hRH.out] at hr; exact absurd hr h1
          have hfH2 := Lib.hid hf'
          have e1 : decide (0 < R) = false := decide_eq_false h1
          have h1' : R ≤ 0 := by omega
          clear hf' fin h1
          gi_wp2
          exact hfH2.out
      case done =>
        rintro D xs W hD hxs ⟨cnt, v, vis, par, hvu, hcv, hWI, hWS, hmk, hb⟩ hK
        have hqlen : q < vis.length := (List.getElem?_eq_some_iff.1 hvu).1
        have hWI2 : WI N l f sN (q + 1) vis par [] := ⟨hWI.bi, hWI.cl.next (by have := hWI.cq; rw [show unS xs = allS m from hxs, ← hel] at this; exact this), CldQ.nil⟩
        obtain ⟨g7, o7, c7, rfl, hn7, hm7⟩ := hWS.wn.form
        obtain ⟨lt3, ltq, ltv⟩ := hWS.lt
        have hlg := ltv g7 rfl
        have hqs := hWS.qs
        have hlN := hWI.bi.len
        have cq := hWS.bq.cell
        have hwn := hWS.wn
        rw [ndI_drop hqlen] at hwn
        have hwn' : Win W (w.heap.size + 4) 3 (.slice (some ⟨g7, o7, none⟩) (vis.length - q - 1 + 1) c7) (vis.length - q - 1 + 1) (.int .i64 ((vis.getD q 0 : Nat) : Int) :: ndI (vis.drop (q + 1))) := by
          rw [show vis.length - q - 1 + 1 = vis.length - q by omega]; exact hwn
        have hmp : Marks w.heap.size (D + 1) ({ target := .collected D, args := #[] } :: ds) W := Marks.push (T := wo.heap.size) hmk (by omega) (by omega) hK
        have hmp2 := hmp.mono (Array.getElem?_eq_some_iff.1 hK).1
        have fin := Lib.hid (fun (off' : Nat) (ho : off' = o7 + 1 ∨ c7 = 1) => (show ∃ (q' qc' cnt' : Nat) (v' : Value) (vis' : List Nat) (par' : Nat → Option Stp), N - (q + 1) = N - q' ∧ Value.pointer (some ⟨W.heap.size, 0, none⟩) = .pointer (some ⟨qc', 0, none⟩) ∧ q' ≤ vis'.length ∧ cnt' ≤ vis'.length ∧ WI N l f sN q' vis' par' [] ∧ WS w.heap.size p sN qc' v' q' vis' cnt' par' (W.alloc (.cells #[.slice (some ⟨g7, off', none⟩) (vis.length - q - 1) (c7 - 1)] 49)) ∧ Marks w.heap.size (W.alloc (.cells #[.slice (some ⟨g7, off', none⟩) (vis.length - q - 1) (c7 - 1)] 49)).heap.size ({ target := .collected D, args := #[] } :: ds) (W.alloc (.cells #[.slice (some ⟨g7, off', none⟩) (vis.length - q - 1) (c7 - 1)] 49)) ∧ Below w.heap.size w (W.alloc (.cells #[.slice (some ⟨g7, off', none⟩) (vis.length - q - 1) (c7 - 1)] 49)) from by
          have hW1 := hWS.alloc (.cells #[.slice (some ⟨g7, off', none⟩) (vis.length - q - 1) (c7 - 1)] 49)
          refine ⟨q + 1, W.heap.size, cnt, .slice (some ⟨g7, off', none⟩) (vis.length - q - 1) (c7 - 1), vis, par, rfl, rfl, by omega, hcv, hWI2, ⟨hW1.b0, hW1.b1, hW1.b3, hW1.mp, Boxed.new W _ _, ?_, by omega, by simp [Value.ownBlock]; omega⟩, (hmp2.keeps (KeepsOthers.alloc W _)).mono (by simp), hb.alloc (by have := hb.size; omega) _⟩
          rw [show vis.length - (q + 1) = vis.length - q - 1 by omega]
          exact (hwn'.tail off' ho).alloc _))
        clear hWI hWI2 hWS hwn hwn' hmp hmp2 hK hxs hmk hb
        have hn1 : (1 : Int) ≤ ((vis.length - q : Nat) : Int) := by omega
        have hnc : ((vis.length - q : Nat) : Int) ≤ c7 := by omega
        have h1c : (1 : Int) ≤ c7 := by omega
        have h01 : (0 : Int) ≤ 1 := by omega
        have hdd : N - (q + 1) < N - q := by omega
        by_cases hc1 : c7 = 1
        · subst hc1
          have f0 := fin.out o7 (.inr rfl)
          rw [show vis.length - q - 1 = 0 by omega] at f0
          have fin0 := Lib.hid f0
          clear fin f0
          go_wp2
          exact ⟨_, hdd, _, rfl, fin0.out⟩
        · have hcp : ¬ (c7 - 1 = 0) := by omega
          have hcp2 : (c7 - 1 == 0) = false := by simp; omega
          have fin0 := Lib.hid (fin.out (o7 + 1) (.inl rfl))
          clear fin
          go_wp2
          exact ⟨_, hdd, _, rfl, fin0.out⟩
    · obtain rfl : q = vis.length := by omega
      have hz0 : ¬ (0 : Int) < ((vis.length - vis.length : Nat) : Int) := by omega
      have hcl := hWI.cl
      have hbi := hWI.bi
      have hLo := hH.out.later hb
      have b0' := hWS.b0; have b1' := hWS.b1; have b3' := hWS.b3; have hmp' := hWS.mp
      obtain ⟨c0, hc0e⟩ : ∃ c0 : Nat, c0 = c := ⟨_, rfl⟩
      rw [← hc0e] at hLo
      have hclH := Lib.hid hcl; have hbiH := Lib.hid hbi
      have hmkH := Lib.hid hmk; have hbH := Lib.hid hb
      have hLoH := Lib.hid hLo; have b0H := Lib.hid b0'; have b1H := Lib.hid b1'; have b3H := Lib.hid b3'; have hmpH := Lib.hid hmp'
      clear hWI hWS hmk hb hcl hbi hLo b0' b1' b3' hmp' c0'
      have hvl0 : vis.length - vis.length = 0 := by omega
      go_wp2
      clear cq
      refine wp_loop_ghost (fun d a' wr => ∃ (ds : List Deferred), a' = { tmps := #[(a'.tmps.getD 0 undef), (a'.tmps.getD 1 undef), (.int .i64 (t : Int)), (.pointer (some ⟨w.heap.size, 0, none⟩)), (.pointer (some ⟨w.heap.size + 1, 0, none⟩)), (a'.tmps.getD 5 undef), (.slice none 0 0), (.int .i64 0), (.pointer (some ⟨w.heap.size + 3, 0, none⟩)), (a'.tmps.getD 9 undef), (a'.tmps.getD 10 undef), (a'.tmps.getD 11 undef), (a'.tmps.getD 12 undef), (a'.tmps.getD 13 undef), (a'.tmps.getD 14 undef), (a'.tmps.getD 15 undef), (a'.tmps.getD 16 undef), (a'.tmps.getD 17 undef), (a'.tmps.getD 18 undef), (a'.tmps.getD 19 undef), (a'.tmps.getD 20 undef), (a'.tmps.getD 21 undef), (a'.tmps.getD 22 undef), (a'.tmps.getD 23 undef), (a'.tmps.getD 24 undef), (a'.tmps.getD 25 undef), (a'.tmps.getD 26 undef), (a'.tmps.getD 27 undef), (a'.tmps.getD 28 undef), (a'.tmps.getD 29 undef), (a'.tmps.getD 30 undef), (a'.tmps.getD 31 undef), (a'.tmps.getD 32 undef), (a'.tmps.getD 33 undef), (a'.tmps.getD 34 undef), (a'.tmps.getD 35 undef), (a'.tmps.getD 36 undef), (a'.tmps.getD 37 undef), (a'.tmps.getD 38 undef), (a'.tmps.getD 39 undef), (a'.tmps.getD 40 undef), (a'.tmps.getD 41 undef), (a'.tmps.getD 42 undef), (a'.tmps.getD 43 undef), (a'.tmps.getD 44 undef), (a'.tmps.getD 45 undef), (a'.tmps.getD 46 undef), (a'.tmps.getD 47 undef), (a'.tmps.getD 48 undef), (a'.tmps.getD 49 undef), (a'.tmps.getD 50 undef), (a'.tmps.getD 51 undef), (a'.tmps.getD 52 undef), (a'.tmps.getD 53 undef), (a'.tmps.getD 54 undef), (a'.tmps.getD 55 undef), (a'.tmps.getD 56 undef), (a'.tmps.getD 57 undef), (a'.tmps.getD 58 undef), (a'.tmps.getD 59 undef), (a'.tmps.getD 60 undef), (a'.tmps.getD 61 undef), (a'.tmps.getD 62 undef), (a'.tmps.getD 63 undef), (a'.tmps.getD 64 undef), (a'.tmps.getD 65 undef), (a'.tmps.getD 66 undef), (a'.tmps.getD 67 undef), (a'.tmps.getD 68 undef), (a'.tmps.getD 69 undef), (a'.tmps.getD 70 undef), (a'.tmps.getD 71 undef), (a'.tmps.getD 72 undef), (a'.tmps.getD 73 undef), (a'.tmps.getD 74 undef), (a'.tmps.getD 75 undef), (a'.tmps.getD 76 undef), (a'.tmps.getD 77 undef), (a'.tmps.getD 78 undef), (a'.tmps.getD 79 undef), (a'.tmps.getD 80 undef), (a'.tmps.getD 81 undef), (a'.tmps.getD 82 undef), (a'.tmps.getD 83 undef), (a'.tmps.getD 84 undef), (a'.tmps.getD 85 undef), (a'.tmps.getD 86 undef), (a'.tmps.getD 87 undef), (a'.tmps.getD 88 undef), (a'.tmps.getD 89 undef), (a'.tmps.getD 90 undef), (a'.tmps.getD 91 undef), (a'.tmps.getD 92 undef), (a'.tmps.getD 93 undef), (a'.tmps.getD 94 undef), (a'.tmps.getD 95 undef), (a'.tmps.getD 96 undef), (a'.tmps.getD 97 undef), (a'.tmps.getD 98 undef), (a'.tmps.getD 99 undef), (a'.tmps.getD 100 undef), (a'.tmps.getD 101 undef), (a'.tmps.getD 102 undef), (a'.tmps.getD 103 undef), (a'.tmps.getD 104 undef)], defers := ds } ∧ (∃ (c : Int) (at' k : Nat) (ws : List Stp) (v16 : Value), (a'.tmps.getD 17 undef) = .int .i64 c ∧ (a'.tmps.getD 18 undef) = .int .i64 (at' : Int) ∧ (a'.tmps.getD 16 undef) = v16 ∧ wr.ownsRow (w.heap.size + 4) 75 2 v16 k (stps ws) ∧ ws.length = k ∧ Wy l f vis t c ws at' ∧ 0 < c ∧ c ≤ 1048576 ∧ at' < N ∧ (∀ x ∈ ws, x.1 < l.length) ∧ ((ws = [] ∧ at' = t ∧ d = vis.length + 1) ∨ (vis[d]? = some at' ∧ k + d < vis.length)) ∧ LSt B N m l A cap c0 p gl wr f ∧ Boxed wr w.heap.size 57 (.pointer (some ⟨p, 0, none⟩)) ∧ Boxed wr (w.heap.size + 1) 3 (.int .i64 sN) ∧ Boxed wr (w.heap.size + 3) 72 (.map (some (w.heap.size + 2))) ∧ SMap wr (w.heap.size + 2) cnt par ∧ Marks w.heap.size wr.heap.size ds wr ∧ Below w.heap.size w wr)) (d0 := vis.length + 1) ?atStart ?round
      case atStart => exact ⟨ds, rfl, 1048576, t, 0, [], _, rfl, rfl, rfl, World.ownsRow_nil _ _ _ _, rfl, .nil, by omega, by omega, ht, (fun x hx => by cases hx), .inl ⟨rfl, rfl, rfl⟩, hLoH.out, b0H.out, b1H.out, b3H.out, hmpH.out, hmkH.out, hbH.out⟩
      case round =>
        clear hLoH b0H b1H b3H hmpH hmkH hbH
        rintro d a' wr ⟨ds, ha, hrel⟩
        generalize a'.tmps.getD 0 undef = x0 at ha hrel
        generalize a'.tmps.getD 1 undef = x1 at ha hrel
        generalize a'.tmps.getD 5 undef = x5 at ha hrel
        generalize a'.tmps.getD 9 undef = x9 at ha hrel
        generalize a'.tmps.getD 10 undef = x10 at ha hrel
        generalize a'.tmps.getD 11 undef = x11 at ha hrel
        generalize a'.tmps.getD 12 undef = x12 at ha hrel
        generalize a'.tmps.getD 13 undef = x13 at ha hrel
        generalize a'.tmps.getD 14 undef = x14 at ha hrel
        generalize a'.tmps.getD 15 undef = x15 at ha hrel
        generalize a'.tmps.getD 16 undef = x16 at ha hrel
        generalize a'.tmps.getD 17 undef = x17 at ha hrel
        generalize a'.tmps.getD 18 undef = x18 at ha hrel
        generalize a'.tmps.getD 19 undef = x19 at ha hrel
        generalize a'.tmps.getD 20 undef = x20 at ha hrel
        generalize a'.tmps.getD 21 undef = x21 at ha hrel
        generalize a'.tmps.getD 22 undef = x22 at ha hrel
        generalize a'.tmps.getD 23 undef = x23 at ha hrel
        generalize a'.tmps.getD 24 undef = x24 at ha hrel
        generalize a'.tmps.getD 25 undef = x25 at ha hrel
        generalize a'.tmps.getD 26 undef = x26 at ha hrel
        generalize a'.tmps.getD 27 undef = x27 at ha hrel
        generalize a'.tmps.getD 28 undef = x28 at ha hrel
        generalize a'.tmps.getD 29 undef = x29 at ha hrel
        generalize a'.tmps.getD 30 undef = x30 at ha hrel
        generalize a'.tmps.getD 31 undef = x31 at ha hrel
        generalize a'.tmps.getD 32 undef = x32 at ha hrel
        generalize a'.tmps.getD 33 undef = x33 at ha hrel
        generalize a'.tmps.getD 34 undef = x34 at ha hrel
        generalize a'.tmps.getD 35 undef = x35 at ha hrel
        generalize a'.tmps.getD 36 undef = x36 at ha hrel
        generalize a'.tmps.getD 37 undef = x37 at ha hrel
        generalize a'.tmps.getD 38 undef = x38 at ha hrel
        generalize a'.tmps.getD 39 undef = x39 at ha hrel
        generalize a'.tmps.getD 40 undef = x40 at ha hrel
        generalize a'.tmps.getD 41 undef = x41 at ha hrel
        generalize a'.tmps.getD 42 undef = x42 at ha hrel
        generalize a'.tmps.getD 43 undef = x43 at ha hrel
        generalize a'.tmps.getD 44 undef = x44 at ha hrel
        generalize a'.tmps.getD 45 undef = x45 at ha hrel
        generalize a'.tmps.getD 46 undef = x46 at ha hrel
        generalize a'.tmps.getD 47 undef = x47 at ha hrel
        generalize a'.tmps.getD 48 undef = x48 at ha hrel
        generalize a'.tmps.getD 49 undef = x49 at ha hrel
        generalize a'.tmps.getD 50 undef = x50 at ha hrel
        generalize a'.tmps.getD 51 undef = x51 at ha hrel
        generalize a'.tmps.getD 52 undef = x52 at ha hrel
        generalize a'.tmps.getD 53 undef = x53 at ha hrel
        generalize a'.tmps.getD 54 undef = x54 at ha hrel
        generalize a'.tmps.getD 55 undef = x55 at ha hrel
        generalize a'.tmps.getD 56 undef = x56 at ha hrel
        generalize a'.tmps.getD 57 undef = x57 at ha hrel
        generalize a'.tmps.getD 58 undef = x58 at ha hrel
        generalize a'.tmps.getD 59 undef = x59 at ha hrel
        generalize a'.tmps.getD 60 undef = x60 at ha hrel
        generalize a'.tmps.getD 61 undef = x61 at ha hrel
        generalize a'.tmps.getD 62 undef = x62 at ha hrel
        generalize a'.tmps.getD 63 undef = x63 at ha hrel
        generalize a'.tmps.getD 64 undef = x64 at ha hrel
        generalize a'.tmps.getD 65 undef = x65 at ha hrel
        generalize a'.tmps.getD 66 undef = x66 at ha hrel
        generalize a'.tmps.getD 67 undef = x67 at ha hrel
        generalize a'.tmps.getD 68 undef = x68 at ha hrel
        generalize a'.tmps.getD 69 undef = x69 at ha hrel
        generalize a'.tmps.getD 70 undef = x70 at ha hrel
        generalize a'.tmps.getD 71 undef = x71 at ha hrel
        generalize a'.tmps.getD 72 undef = x72 at ha hrel
        generalize a'.tmps.getD 73 undef = x73 at ha hrel
        generalize a'.tmps.getD 74 undef = x74 at ha hrel
        generalize a'.tmps.getD 75 undef = x75 at ha hrel
        generalize a'.tmps.getD 76 undef = x76 at ha hrel
        generalize a'.tmps.getD 77 undef = x77 at ha hrel
        generalize a'.tmps.getD 78 undef = x78 at ha hrel
        generalize a'.tmps.getD 79 undef = x79 at ha hrel
        generalize a'.tmps.getD 80 undef = x80 at ha hrel
        generalize a'.tmps.getD 81 undef = x81 at ha hrel
        generalize a'.tmps.getD 82 undef = x82 at ha hrel
        generalize a'.tmps.getD 83 undef = x83 at ha hrel
        generalize a'.tmps.getD 84 undef = x84 at ha hrel
        generalize a'.tmps.getD 85 undef = x85 at ha hrel
        generalize a'.tmps.getD 86 undef = x86 at ha hrel
        generalize a'.tmps.getD 87 undef = x87 at ha hrel
        generalize a'.tmps.getD 88 undef = x88 at ha hrel
        generalize a'.tmps.getD 89 undef = x89 at ha hrel
        generalize a'.tmps.getD 90 undef = x90 at ha hrel
        generalize a'.tmps.getD 91 undef = x91 at ha hrel
        generalize a'.tmps.getD 92 undef = x92 at ha hrel
        generalize a'.tmps.getD 93 undef = x93 at ha hrel
        generalize a'.tmps.getD 94 undef = x94 at ha hrel
        generalize a'.tmps.getD 95 undef = x95 at ha hrel
        generalize a'.tmps.getD 96 undef = x96 at ha hrel
        generalize a'.tmps.getD 97 undef = x97 at ha hrel
        generalize a'.tmps.getD 98 undef = x98 at ha hrel
        generalize a'.tmps.getD 99 undef = x99 at ha hrel
        generalize a'.tmps.getD 100 undef = x100 at ha hrel
        generalize a'.tmps.getD 101 undef = x101 at ha hrel
        generalize a'.tmps.getD 102 undef = x102 at ha hrel
        generalize a'.tmps.getD 103 undef = x103 at ha hrel
        generalize a'.tmps.getD 104 undef = x104 at ha hrel
        subst ha
        obtain ⟨c, at', k, ws, v16, rfl, rfl, rfl, hown, hwl, hWy, hc0, hc1, hatN, hwsl, hat, hL, hb0, hb1, hb3, hmp, hmk, hb⟩ := hrel
        obtain ⟨wo2, rfl⟩ : ∃ wo2 : World, wo2 = wr := ⟨_, rfl⟩
        have hszo2 := hb.size
        have cs2 := hb1.cell
        have cm2 := hb3.cell
        have cl2 := hb0.cell
        by_cases hend : at' = sN
        · subst hend
          have e0 : ((at' : Int) != (at' : Int)) = false := by simp
          have hk0 : 0 < k := by
            rcases Nat.eq_zero_or_pos k with h0 | h0
            · exact absurd (hWy.nil_at (List.eq_nil_of_length_eq_zero (by omega))) hst
            · exact h0
          have hkN : k ≤ N := by
            have hl := hbiH.out.len
            rcases hat with ⟨h, _, _⟩ | ⟨_, h⟩
            · rw [h] at hwl; simp at hwl; omega
            · omega
          obtain ⟨g, c16, rfl, hg1, hg2⟩ := hown.form hk0
          have hownH := Lib.hid hown
          have HRV := Lib.hid (rev_any (w.heap.size + 4) g k c16 ws wo2 hown hk0 (by omega))
          have hWyH := Lib.hid hWy; have hbH := Lib.hid hb; have hmkH := Lib.hid hmk; have hwslH := Lib.hid hwsl
          clear hown hWy hb hmk hL hb0 hb1 hb3 hmp hat hwsl cm2 cl2
          go_wp2_with fail
          refine HRV.out.mono ?_
          rintro e w9 ⟨⟨v9, rfl⟩, hown9, hg9⟩
          have hb9 := hbH.out.grown hg9 hbH.out.size (fun r e => by cases e; omega)
          have hown9H := Lib.hid hown9; have hb9H := Lib.hid hb9; have hg9H := Lib.hid hg9
          have hmk9 := Lib.hid ((hmkH.out.win' hownH.out hg9).mono hg9.size)
          clear hown9 hb9 hg9 HRV
          go_wp2
          refine leaves_marksJ (B := w.heap.size) (J := fun W' => W'.ownsRow (w.heap.size + 4) 75 2 (.slice (some ⟨g, 0, none⟩) k c16) k (stps ws.reverse) ∧ Below w.heap.size w W' ∧ w.heap.size ≤ W'.heap.size) hmk9.out ⟨hown9H.out, hb9H.out, hb9H.out.size⟩
            (fun V r o' hV hd hr => ⟨hV.1.kept (grownBy_putObj' V r o') (by
                rcases hV.1.2 with ⟨h, _⟩ | ⟨g', c', cur, h, _, hgg, _⟩
                · cases h
                · cases h
                  right; intro e; cases e; rw [hgg] at hd; cases hd), hV.2.1.grown (grownBy_putObj' V r o') hV.2.2 (fun r' e => by cases e; omega), by have := (grownBy_putObj' V r o').size; omega⟩)
            fun w' hw' => ⟨.tuple #[.slice (some ⟨g, 0, none⟩) k c16, .int .i64 c], by simp [results, Tryd.results23, go_sem], hw'.2.1, .inr ⟨g, k, c16, ws, c, vis, rfl, own_base (by omega) hw'.1, hkN, hk0, hbiH.out.nd, hWyH.out, hc0, hc1, hwslH.out⟩⟩
        · have e0 : ((at' : Int) != sN) = true := by simp; omega
          have hlk := hmp.look (i := at') (by omega)
          unfold stv at hlk
          cases hpa : par at' with
          | none =>
            rw [hpa] at hlk
            have hpa2 : t ∉ vis := by
              rcases hat with ⟨_, h, _⟩ | ⟨h, _⟩
              · intro hm; rw [← h] at hm; have := (hbiH.out.pi _ hend).2 hm; rw [hpa] at this; cases this
              · have := (hbiH.out.pi _ hend).2 (List.mem_of_getElem? h); rw [hpa] at this; cases this
            have hlk' : (Instr.lookup 72 (.map (some (w.heap.size + 2))) (.int .i64 (at' : Int)) true).run Tryd.prog wo2 = .ok (.tuple #[.agg #[.int .i64 ((0 : Nat) : Int), .bool false], .bool false]) wo2 := hlk
            have hmk2 := Lib.hid ((hmk.keeps (KeepsOthers.alloc wo2 (.cells #[.int .i64 ((0 : Nat) : Int), .bool false] 75))))
            have hb2 := Lib.hid (hb.alloc hszo2 (.cells #[.int .i64 ((0 : Nat) : Int), .bool false] 75))
            have hpH := Lib.hid hpa2
            clear hown hWy hb hmk hL hb0 hb1 hb3 hmp hat hwsl hlk cl2 hpa hpa2
            go_wp2
            refine leaves_marks hmk2.out fun w' hb' => ⟨.tuple #[.slice none 0 0, .int .i64 0], by simp [results, Tryd.results23, go_sem], hb2.out.trans hb', .inl ⟨rfl, vis, par, hbiH.out, hclH.out, hpH.out⟩⟩
          | some x =>
            rw [hpa] at hlk
            have hlk' : (Instr.lookup 72 (.map (some (w.heap.size + 2))) (.int .i64 (at' : Int)) true).run Tryd.prog wo2 = .ok (.tuple #[.agg #[.int .i64 (x.1 : Int), .bool x.2], .bool true]) wo2 := hlk
            obtain ⟨A16, c16, rfl⟩ := own_slice hown
            have hvm : at' ∈ vis := (hbiH.out.pi _ hend).1 (by rw [hpa]; rfl)
            obtain ⟨i, hi, hid, hik⟩ : ∃ i, vis[i]? = some at' ∧ i ≤ d ∧ k + i < vis.length := by
              rcases hat with ⟨h, _, hd⟩ | ⟨h, h2⟩
              · obtain ⟨i, hi, e⟩ := List.mem_iff_getElem.1 hvm
                rw [h] at hwl; simp at hwl
                exact ⟨i, by rw [List.getElem?_eq_getElem hi, e], by omega, by omega⟩
              · exact ⟨d, h, Nat.le_refl _, h2⟩
            obtain ⟨hxm, hrp, hdx, j, u, hji, hju, hsu⟩ := hbiH.out.tr i at' x hi hpa
            have huN := hbiH.out.rg u (List.mem_of_getElem? hju)
            have hlN := hbiH.out.len
            have hL1 := hL.alloc (.cells #[.int .i64 (x.1 : Int), .bool x.2] 75)
            have HR := Lib.hid (room_any B N m l A cap c0 p gl _ f hL1 hnH.out x (by rw [← hel]; exact hxm) hfH.out)
            rw [hdx, hsu] at HR
            dsimp only [stv] at HR
            have hb1s := hb.alloc hszo2 (.cells #[.int .i64 (x.1 : Int), .bool x.2] 75)
            have hK := Blk.new wo2 75 #[.int .i64 (x.1 : Int), .bool x.2]
            have k0 := hK.cell (j := 0) rfl
            have k1 := hK.cell (j := 1) rfl
            have cl3 := (hb0.alloc (.cells #[.int .i64 (x.1 : Int), .bool x.2] 75)).cell
            have cs3 := (hb1.alloc (.cells #[.int .i64 (x.1 : Int), .bool x.2] 75)).cell
            have ls3 := hb1.lt; have ll3 := hb0.lt
            have hrm := hrp
            obtain ⟨R, hR⟩ : ∃ R, rm l f x = R := ⟨_, rfl⟩
            rw [hR] at hrm HR
            obtain ⟨c', hc'⟩ : ∃ c', (if R < c then R else c) = c' := ⟨_, rfl⟩
            have hcc : c' ≤ c ∧ c' ≤ R ∧ 0 < c' := by rw [← hc']; split <;> omega
            have hWy2 := Lib.hid (Wy.snoc (hWy.less hcc.1) hxm (by rw [hR]; exact hcc.2.1) hdx hi (by rw [hsu]; exact hju) hji)
            rw [hsu] at hWy2
            have hws2 := Lib.hid (show ∀ y ∈ ws ++ [x], y.1 < l.length from fun y hy => by
              rcases List.mem_append.1 hy with h | h
              · exact hwsl y h
              · rw [List.mem_singleton] at h; rw [h]; exact hxm)
            have hownH := Lib.hid (hown.alloc (.cells #[.int .i64 (x.1 : Int), .bool x.2] 75))
            have hLH := Lib.hid hL; have hb0H := Lib.hid hb0; have hb1H := Lib.hid hb1; have hb3H := Lib.hid hb3; have hmpH := Lib.hid hmp; have hmkH := Lib.hid hmk; have hb1sH := Lib.hid hb1s; have hKH := Lib.hid hK
            have hs3 : (wo2.alloc (.cells #[.int .i64 (x.1 : Int), .bool x.2] 75)).heap.size = wo2.heap.size + 1 := by simp
            have hkN : k < N := by omega
            clear hown hWy hb hmk hL hL1 hb0 hb1 hb3 hmp hat hwsl hlk hpa hvm hb1s hK hrp hxm
            go_wp2_with fail
            refine HR.out.mono ?_
            rintro _ w9 ⟨rfl, hb9⟩
            have hs9 := hb9.size
            have hb9a := hb1sH.out.trans (hb9.mono hb1sH.out.size)
            have hK9 : Blk w9 wo2.heap.size 75 #[.int .i64 (x.1 : Int), .bool x.2] := (hb9.block _ hKH.out.lt).trans hKH.out
            have q0 := hK9.cell (j := 0) rfl
            have q1 := hK9.cell (j := 1) rfl
            have hown9 := (own_below hownH.out hb9).alloc (.cells #[.int .i64 (x.1 : Int), .bool x.2] 75)
            have hrd9 := rd_new2 w9 (.int .i64 (x.1 : Int)) (.bool x.2) 75
            have hb9b := hb9a.alloc hb9a.size (.cells #[.int .i64 (x.1 : Int), .bool x.2] 75)
            have hmk9 := ((hmkH.out.keeps (KeepsOthers.alloc wo2 (.cells #[.int .i64 (x.1 : Int), .bool x.2] 75))).later hb9).keeps (KeepsOthers.alloc w9 (.cells #[.int .i64 (x.1 : Int), .bool x.2] 75))
            have mvB : ∀ {kk : Nat} {T : TypeId} {v : Value}, Boxed wo2 kk T v → Boxed (w9.alloc (.cells #[.int .i64 (x.1 : Int), .bool x.2] 75)) kk T v := fun b => (show Boxed w9 _ _ _ from (hb9.block _ (b.alloc (.cells #[.int .i64 (x.1 : Int), .bool x.2] 75)).lt).trans (b.alloc _)).alloc _
            have hLB := ((hLH.out.alloc (.cells #[.int .i64 (x.1 : Int), .bool x.2] 75)).later hb9).alloc (.cells #[.int .i64 (x.1 : Int), .bool x.2] 75)
            have hmpB := ((hmpH.out.alloc (.cells #[.int .i64 (x.1 : Int), .bool x.2] 75)).kept (row := none) ⟨hb9.os, hb9.tape, hb9.output, hb9.size, fun j hj _ => hb9.block j hj⟩ (by simp)).alloc (.cells #[.int .i64 (x.1 : Int), .bool x.2] 75)
            have p0 := Lib.hid (mvB hb0H.out); have p1 := Lib.hid (mvB hb1H.out); have p3 := Lib.hid (mvB hb3H.out)
            have hown9H := Lib.hid hown9; have hrd9H := Lib.hid hrd9; have hb9bH := Lib.hid hb9b; have hmk9H := Lib.hid hmk9; have hLBH := Lib.hid hLB; have hmpBH := Lib.hid hmpB
            have hs9b : (w9.alloc (.cells #[.int .i64 (x.1 : Int), .bool x.2] 75)).heap.size = w9.heap.size + 1 := by simp
            clear hb9 hb9a hK9 hown9 hrd9 hb9b hmk9 mvB hLB hmpB HR hb0H hb1H hb3H hownH hLH hmpH hmkH hb1sH hKH k0 k1 cl3 cs3 cm2 cl2 cs2
            go_wp2_with (at_builtin; refine wpList_app (s := .tmp 93) (x := .tmp 95) _ tiSt hown9H.out hrd9H.out (stps_one (w := [x])) (by omega) (by omega) (by omega) rfl rfl rfl rfl ?_)
            intro v' wB hownB hgB _
            have hne : ∀ bb, bb < w.heap.size + 4 → some bb ≠ (Value.slice A16 k c16).ownBlock := fun bb hbb e => by have := (hown9H.out.lt bb e.symm).1; omega
            have hgw : ∀ r, (Value.slice A16 k c16).ownBlock = some r → w.heap.size + 4 ≤ r := fun r e => (hown9H.out.lt r e).1
            have hLp := hLBH.out.lt
            have hpw := hH.out.lt
            have hszB := hgB.size
            have fin := Lib.hid (show ∃ d', d' < d ∧ ∃ (cc : Int) (a2 k2 : Nat) (w2 : List Stp) (v2 : Value), c' = cc ∧ Value.int .i64 (u : Int) = .int .i64 (a2 : Int) ∧ v' = v2 ∧ wB.ownsRow (w.heap.size + 4) 75 2 v2 k2 (stps w2) ∧ w2.length = k2 ∧ Wy l f vis t cc w2 a2 ∧ 0 < cc ∧ cc ≤ 1048576 ∧ a2 < N ∧ (∀ x ∈ w2, x.1 < l.length) ∧ ((w2 = [] ∧ a2 = t ∧ d' = vis.length + 1) ∨ (vis[d']? = some a2 ∧ k2 + d' < vis.length)) ∧ LSt B N m l A cap c0 p gl wB f ∧ Boxed wB w.heap.size 57 (.pointer (some ⟨p, 0, none⟩)) ∧ Boxed wB (w.heap.size + 1) 3 (.int .i64 sN) ∧ Boxed wB (w.heap.size + 3) 72 (.map (some (w.heap.size + 2))) ∧ SMap wB (w.heap.size + 2) cnt par ∧ Marks w.heap.size wB.heap.size ds wB ∧ Below w.heap.size w wB from
              ⟨j, by omega, c', u, k + 1, ws ++ [x], v', rfl, rfl, rfl, by simpa [stps] using hownB, by simp [hwl], hWy2.out, hcc.2.2, by omega, huN, hws2.out, .inr ⟨hju, by omega⟩,
                hLBH.out.grown hgB (hne _ (by omega)) (hne _ (by omega)) (fun r e => by have := hgw r e; omega), p0.out.kept hgB (hne _ (by omega)), p1.out.kept hgB (hne _ (by omega)), p3.out.kept hgB (hne _ (by omega)), hmpBH.out.kept hgB (hne _ (by omega)),
                (hmk9H.out.own2 hown9H.out hgB).mono (by omega), hb9bH.out.grown hgB hb9bH.out.size (fun r e => by have := hgw r e; omega)⟩)
            clear hownB hgB hne hgw hLp hpw p0 p1 p3 hown9H hrd9H hb9bH hmk9H hLBH hmpBH hWy2 hws2 hji hju hi hik hid hdx hsu
            go_wp2
            obtain ⟨d', hd', cc, a2, k2, w2, v2, rfl, e2, rfl, r⟩ := fin.out
            exact ⟨d', hd', ds, rfl, c', a2, k2, w2, v', rfl, e2, rfl, r⟩
end Go.Proofs.YteadceghjfaekaaDoor
