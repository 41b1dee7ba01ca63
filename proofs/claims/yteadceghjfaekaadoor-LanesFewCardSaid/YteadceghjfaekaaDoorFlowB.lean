/- flow: the iterator over all steps. -/
import Derived.Test.YteadceghjfaekaaDoorFlowA
import Derived.Test.YteadceghjfaekaaDoorMeth
namespace Go.Proofs.YteadceghjfaekaaDoor
open Go.RowKit Go.Shelf
attribute [local go_sem] Oper.semAt_some

abbrev Sm (m : Nat) := {x : Stp // x.1 < m}
theorem allS_succ (k : Nat) : allS (k + 1) = allS k ++ [(k, false), (k, true)] := by simp [allS, List.range_succ]
set_option maxRecDepth 100000 in
set_option maxHeartbeats 2000000 in
theorem steps_in (n : Nat) (hn : 1 ≤ n) (B N m : Nat) (l : List Arc) (A : Option Addr) (cap c p gl : Nat) (w : World) (f : Nat → Int) (h : LSt B N m l A cap c p gl w f) (hm : m ≤ 128) :
    SeqM n Tryd.prog 27 #[.pointer (some ⟨p, 0, none⟩)] (fun x : Sm m => #[stv x.1]) (fun xs => xs.map (·.1) = allS m) w := by
  intro i J W hb hY h0
  have hW := h.later hb
  have c1 := hW.c1
  obtain ⟨lp, lg⟩ := hW.lt
  clear hW
  refine callsIn_of_wp Tryd.func27 rfl trivial ?_ rfl
  simp only [Tryd.ntmps27, List.size_toArray, List.length_cons, List.length_nil, Nat.reduceAdd, Nat.reduceSub, Array.replicate_succ, Array.replicate_zero, List.push_toArray, List.append_toArray, List.nil_append, List.cons_append]
  gi_wp2
  gi_loopw [4, 11] (fun _ q wr => ∃ (k : Nat) (pre : List (Sm m)), k ≤ m ∧ q = .int .i64 k ∧ pre.map (·.1) = allS k ∧ J pre wr) (fun _ q _ => m - (intOf q).toNat)
  case atStart => exact ⟨0, [], Nat.zero_le _, rfl, rfl, h0⟩
  case round =>
    obtain ⟨k, pre, hk, rfl, hpre, hJ⟩ := hrel
    by_cases hlt : k < m
    · have hk0 : (0 : Int) ≤ k := by omega
      have hkm : (k : Int) < m := by omega
      obtain ⟨fn, tmps, assign, body, hy, hR⟩ := hY pre ⟨(k, false), hlt⟩ wr hJ
      have hY2 := Lib.hid (fun W3 hJ3 => hY (pre ++ [⟨(k, false), hlt⟩]) ⟨(k, true), hlt⟩ W3 hJ3)
      dsimp only [stv] at hy
      clear hY
      gi_wp2
      refine hR.mono ?_
      rintro e W3 ⟨rfl, hJ3⟩
      obtain ⟨fn2, tmps2, assign2, body2, hy2, hR2⟩ := hY2.out W3 hJ3
      dsimp only [stv] at hy2
      clear hY2 hR hy hJ
      gi_wp2
      refine hR2.mono ?_
      rintro e W4 ⟨rfl, hJ4⟩
      clear hR2 hy2 hJ3
      gi_wp2
      go_roundw
      case rel => exact ⟨k + 1, _, by omega, by go_num, by rw [List.map_append, List.map_append, hpre, allS_succ, List.append_assoc]; rfl, hJ4⟩
      case measure => simp [intOf]; omega
    · obtain rfl : k = m := by omega
      gi_wp2
      go_end0
      exact ⟨⟨_, rfl⟩, _, hpre, hJ⟩

/-! ## a queue: a slice that is cut at its head, and appended to -/
/-- v reads as xs, out of a row of the call's own -/
def Win (W : World) (base : Nat) (e : TypeId) (v : Value) (n : Nat) (xs : List Value) : Prop :=
  xs.length = n ∧ ∃ (g off cap : Nat) (cur : Array Value), v = .slice (some ⟨g, off, none⟩) n cap ∧ base ≤ g ∧ W.heap[g]? = some (.cells cur e (0, 0)) ∧ n ≤ cap ∧ cap ≤ maxLen ∧
    (0 < cap → off + cap ≤ cur.size) ∧ ∀ j, j < n → cur[off + j]? = xs[j]?
section
variable {W W' : World} {base : Nat} {e : TypeId} {v : Value} {n : Nat} {xs : List Value}
theorem Win.lt (h : Win W base e v n xs) : ∀ k, v.ownBlock = some k → base ≤ k ∧ k < W.heap.size := by
  obtain ⟨_, g, off, cap, cur, rfl, hb, hg, _⟩ := h
  intro k hk
  cases hk
  exact ⟨hb, (Array.getElem?_eq_some_iff.1 hg).1⟩
theorem Win.kept {row : Option Nat} (h : Win W base e v n xs) (hg : W.grownBy W' row) (hne : v.ownBlock ≠ row) : Win W' base e v n xs := by
  obtain ⟨h0, g, off, cap, cur, rfl, hb, hgg, hr⟩ := h
  refine ⟨h0, g, off, cap, cur, rfl, hb, ?_, hr⟩
  rw [hg.block g (Array.getElem?_eq_some_iff.1 hgg).1 hne]
  exact hgg
theorem Win.alloc (h : Win W base e v n xs) (o : Obj) : Win (W.alloc o) base e v n xs := by
  have hv : v.ownBlock ≠ none := by obtain ⟨_, g, off, cap, cur, rfl, _⟩ := h; intro e; cases e
  exact h.kept (World.grownBy_alloc W o none) hv
theorem Win.form (h : Win W base e v n xs) : ∃ g off cap, v = .slice (some ⟨g, off, none⟩) n cap ∧ n ≤ cap ∧ cap ≤ maxLen := by
  obtain ⟨_, g, off, cap, cur, rfl, _, _, h1, h2, _⟩ := h
  exact ⟨g, off, cap, rfl, h1, h2⟩
theorem Win.cell {g off cap : Nat} (h : Win W base e (.slice (some ⟨g, off, none⟩) n cap) n xs) {j : Nat} (hj : j < n) : W.cell? ⟨g, off + j, none⟩ = xs[j]? := by
  obtain ⟨_, g', off', cap', cur, hv, _, hgg, _, _, _, hc⟩ := h
  cases hv
  rw [cell_of_row W g (off + j) cur e (0, 0) hgg]
  exact hc j hj
theorem Win.new (W : World) (x : Value) (hb : base ≤ W.heap.size) : Win (W.alloc (.cells #[x] e)) base e (.slice (some ⟨W.heap.size, 0, none⟩) 1 1) 1 [x] :=
  ⟨rfl, W.heap.size, 0, 1, #[x], rfl, hb, World.alloc_heap_new W _, Nat.le_refl _, by decide, fun _ => by simp, fun j hj => by
    obtain rfl : j = 0 := by omega
    rfl⟩
/-- the queue without its first one -/
theorem Win.tail {g off cap : Nat} {x : Value} (h : Win W base e (.slice (some ⟨g, off, none⟩) (n + 1) cap) (n + 1) (x :: xs)) (off' : Nat) (ho : off' = off + 1 ∨ cap = 1) : Win W base e (.slice (some ⟨g, off', none⟩) n (cap - 1)) n xs := by
  obtain ⟨h0, g', o', cap', cur, hv, hb, hgg, h1, h2, h3, hc⟩ := h
  cases hv
  refine ⟨by simpa using h0, g, off', cap - 1, cur, rfl, hb, hgg, by omega, by omega, fun hp => ?_, fun j hj => ?_⟩
  · have := h3 (by omega); omega
  · have := hc (j + 1) (by omega)
    rw [List.getElem?_cons_succ] at this
    rw [show off' + j = off + (j + 1) by omega]
    exact this
/-- one more at its end -/
theorem Win.app {P : Program} {t ty : TypeId} {z : Value} {bytes : Nat} (T : TI P t e z 1 bytes) (h : Win W base e v n xs) {ad : Addr} {c : Nat} {x : Value} (hx : W.cell? ad = some x) (h1 : x.oneCell' = true)
    (h63 : n + 1 ≤ 9223372036854775807) (hby : (n + 1) * bytes ≤ 140737488355328) (hbase : base ≤ W.heap.size) :
    ∃ v' W', (Builtin.append_ #[t, t] ty #[v, .slice (some ad) 1 c]).run P W = .ok v' W' ∧ Win W' base e v' (n + 1) (xs ++ [x]) ∧ W.grownBy W' v.ownBlock ∧ (v'.ownBlock = v.ownBlock ∨ ∀ r, v'.ownBlock = some r → W.heap.size ≤ r) := by
  obtain ⟨i, hi, hz, hsize, hb⟩ := T.hi
  obtain ⟨h0, g, off, cap, cur, rfl, hbg, hgg, hn, hcm, hcs, hc⟩ := h
  have hnews : ∀ j u, [x][j]? = some u → W.cell? (ad.add j) = some u := fun j u hu => by
    have : j = 0 := by
      have := (List.getElem?_eq_some_iff.1 hu).1
      simp at this; omega
    subst this
    simp at hu; subst hu
    rw [show ad.add 0 = ad by unfold Addr.add; simp]; exact hx
  have hone : ∀ u ∈ [x], u.oneCell' = true := fun u hu => by rw [List.mem_singleton] at hu; rw [hu]; exact h1
  have hcell : ∀ j, W.cell? ⟨g, j, none⟩ = cur[j]? := fun j => cell_of_row W g j cur e (0, 0) hgg
  by_cases hroom : n + 1 ≤ cap
  · have hsz := hcs (by omega)
    have hrun := run_append_room_cells (P := P) W t ty e i T.ht hi g off n cap ad 1 c [x] (by rw [hsize]; rfl) hnews hone hroom (fun j hj => by
      have : j = 0 := by simpa using hj
      subst this
      rw [hsize, Nat.mul_one, Nat.add_zero, hcell, Array.getElem?_eq_getElem (by omega)]; rfl) (fun j _ => frozen_of_row W g _ cur e hgg)
    refine ⟨_, _, hrun, ⟨by simp [h0], g, off, cap, cur.setIfInBounds (off + n) x, rfl, hbg, ?_, hroom, hcm, fun _ => by simpa using hsz, fun j hj => ?_⟩, ?_⟩
    · rw [hsize, Nat.mul_one]
      exact heap_setCell_same W g (off + n) cur e x hgg
    · by_cases hj2 : j < n
      · rw [Array.getElem?_setIfInBounds_ne (by omega), hc j hj2, List.getElem?_append_left (by omega)]
      · obtain rfl : j = n := by omega
        rw [Array.getElem?_setIfInBounds_self_of_lt (by omega), List.getElem?_append_right (by omega), h0]
        simp
    · rw [hsize, Nat.mul_one]
      exact ⟨grown_setA W g (off + n) x, .inl rfl⟩
  · obtain ⟨v', W', hrun, hown, hgr⟩ := run_append_arg_grows (P := P) W t ty e i z 1 bytes T.ht hi hz hsize hb T.hzs (by omega) ⟨g, off, none⟩ n cap xs (by rw [h0]; simp) (fun j u hu => by
      have hj : j < n := by rw [← h0]; exact (List.getElem?_eq_some_iff.1 hu).1
      rw [Addr.add_lit, hcell, hc j hj]; exact hu) ad 1 c [x] rfl hnews (by omega) (by unfold maxLen; omega) hby
    obtain ⟨g2, c2, hv2, hb2, hg2⟩ := hown.form (by omega)
    refine ⟨v', W', hrun, ?_, ⟨hgr.os, hgr.tape, hgr.output, hgr.size, fun k hk _ => hgr.block k hk (by simp)⟩, .inr fun r e => (hown.lt r e).1⟩
    obtain ⟨l1, ⟨_, hz0⟩ | ⟨g3, c3, cur3, hv3, hb3, hg3, hn3, hcm3, hs3, ht3⟩⟩ := hown
    · omega
    · refine ⟨by simpa using l1, g3, 0, c3, cur3, hv3, by omega, hg3, hn3, hcm3, fun _ => by omega, fun j hj => ?_⟩
      rw [Nat.zero_add, ← ht3, List.getElem?_take, if_pos (by omega)]
      simp
end
theorem wpListIn_win {F : Fence} {nF : Nat} {P : Program} {W : World} {ops : Array Oper} {rest : List Oper} {o : Oper} {a : Act} {Q : Exit → Act → World → Prop} {s x : Operand} {t e : TypeId} {z : Value} {bytes : Nat} (T : TI P t e z 1 bytes)
    {base : Nat} {v : Value} {n : Nat} {xs : List Value} (h : Win W base e v n xs) {ad : Addr} {c : Nat} {u : Value} (hc : W.cell? ad = some u) (h1 : u.oneCell' = true)
    (h63 : n + 1 ≤ 9223372036854775807) (hby : (n + 1) * bytes ≤ 140737488355328) (hbase : base ≤ W.heap.size)
    (hgd : o.guard = none) (ho : o.op = .call { callee := .builtin .append, args := #[s, x], argTypes := #[t, t] }) (hs : a.eval s = v) (hx : a.eval x = .slice (some ad) 1 c)
    (hK : ∀ v' W', Win W' base e v' (n + 1) (xs ++ [u]) → W.grownBy W' v.ownBlock → (v'.ownBlock = v.ownBlock ∨ ∀ r, v'.ownBlock = some r → W.heap.size ≤ r) → wpListIn F nF P ops Q rest (a.put o.dst v') W') : wpListIn F nF P ops Q (o :: rest) a W := by
  refine wpListIn_plain hgd fun K' hK' => ?_
  obtain ⟨v', W', hr, h2, h3, h4⟩ := h.app (P := P) (ty := o.type) (c := c) T hc h1 h63 hby hbase
  unfold Oper.wpIn
  refine ⟨by simp [Oper.about, ho, resolve, Target.leads, Sem.run_pure], ?_⟩
  rw [Oper.semAt_plain F _ _ (by rw [ho]; intro c hc'; cases hc')]
  simp [execOp, ho, resolve, invoke, builtin, hs, hx, hr, Result.andThen]
  exact hK' _ _ (hK v' W' h2 h3 h4)
end Go.Proofs.YteadceghjfaekaaDoor
