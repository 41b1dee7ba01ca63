/- slices.Collect at graph.Each (split off XCollect). -/
import Derived.Test.YtnkmfnnkophccaaDoorRows
import Derived.Test.YtnkmfnnkophccaaDoorBase
import Derived.Test.YtnkmfnnkophccaaDoorEachBits
import Derived.Test.YtnkmfnnkophccaaDoorMarks
import Derived.Test.YtnkmfnnkophccaaDoorCalm
import Derived.Test.YtnkmfnnkophccaaDoorLast
import Derived.Test.YtnkmfnnkophccaaDoorNatI
import Derived.OwnWalkIn
namespace Go.Proofs.YtnkmfnnkophccaaDoor
open Go.RowKit Go.Shelf
attribute [local go_sem] Oper.semAt_some

def unA {x : Nat} (l : List (Bt x)) : List Nat := l.map (·.1)
theorem unA_snoc {x : Nat} (l : List (Bt x)) (y : Bt x) : unA (l ++ [y]) = unA l ++ [y.1] := by simp [unA]
theorem tiK : TI Tryd.prog 32 3 (.int .i64 0) 1 8 := TI.mk' Tryd.underlying32 (by kernel_rfl) rfl (by decide)
/-- append of one number, in a round -/
theorem wpListIn_app1 {F : Fence} {n : Nat} {P : Program} {w : World} {ops : Array Oper} {rest : List Oper} {o : Oper} {a : Act} {Q : Exit → Act → World → Prop} {s x : Operand} {t e : TypeId} {z : Value} {bytes : Nat} (T : TI P t e z 1 bytes)
    {base k c : Nat} {v u : Value} {xs : List Value} {ad : Addr} (hown : w.ownsRow base e 1 v k xs) (hc : w.cell? ad = some u) (h1 : u.oneCell' = true) (b2 : (k + 1) * bytes ≤ 140737488355328) (b1 : k + 1 ≤ 9223372036854775807) (b3 : base ≤ w.heap.size)
    (hg : o.guard = none) (hop : o.op = Op.call { callee := Callee.builtin Builtin.append, args := #[s, x], argTypes := #[t, t] }) (hs : a.eval s = v) (hx : a.eval x = .slice (some ad) 1 c)
    (hK : ∀ v' w', w'.ownsRow base e 1 v' (k + 1) (xs ++ [u]) → w.grownBy w' v.ownBlock → wpListIn F n P ops Q rest (a.put o.dst v') w') :
    wpListIn F n P ops Q (o :: rest) a w := by
  obtain ⟨i, hi, hz, hsize, hby⟩ := T.hi
  refine wpListIn_append_own w hg s x t hop base e i z 1 bytes T.ht hi hz hsize hby T.hzs T.hsz v k xs hs hown ad 1 c [u] hx rfl (fun j y hj => ?_) (fun y hy => by simp at hy; subst hy; exact h1) b1 b2 b3 (fun v' w' h2 h3 _ => hK v' w' h2 h3)
  cases j with
  | zero => simp at hj; subst hj; simpa [Addr.add] using hc
  | succ j => simp at hj
theorem bitsL_len32 (x : Nat) : (bitsL x).length ≤ 32 := by
  unfold bitsL
  exact Nat.le_trans (List.length_filter_le _ _) (by simp)
/-- what the loop that collects holds -/
def KI (s Bs : Nat) (w : World) {z : Nat} (pre : List (Bt z)) (W : World) : Prop :=
  (∃ v, Boxed W s 32 v ∧ W.ownsRow s 3 1 v (unA pre).length (ints .i64 (natI (unA pre))) ∧ True) ∧ Below Bs w W ∧ s ≤ W.heap.size
set_option maxHeartbeats 3200000 in
set_option maxRecDepth 100000 in
theorem appendSeq_any (Bs x : Nat) (w : World) (hx : x < 4294967296) (hB : Boxed w Bs 43 (.int .u32 (x : Int))) (htb : Tb w) (hgw : 0 < Bs) :
    Calls Tryd.prog 21 #[.slice none 0 0, .func (.func 22) #[] #[.pointer (some ⟨Bs, 0, none⟩)]] w fun e w' =>
      ∃ v, e = .returned v ∧ w'.ownsRow w.heap.size 3 1 v (bitsL x).length (ints .i64 (natI (bitsL x))) ∧ Below Bs w w' := by
  have hBl := hB.lt
  have hb1 := (Below.refl Bs w).alloc (by omega) (.cells #[.slice none 0 0] 32)
  have b0 := Boxed.new w 32 (.slice none 0 0)
  have bE := hB.alloc (.cells #[.slice none 0 0] 32)
  have hsz : (w.alloc (.cells #[.slice none 0 0] 32)).heap.size = w.heap.size + 1 := by simp
  have htw := htb.below hgw hb1
  have h0I : KI w.heap.size Bs w ([] : List (Bt x)) (w.alloc (.cells #[.slice none 0 0] 32)) := ⟨⟨_, b0, World.ownsRow_nil _ _ _ _, trivial⟩, hb1, by simp⟩
  have hlen32 : ∀ l : List (Bt x), (unA l).length = l.length := fun l => by simp [unA]
  have hlb := bitsL_len32 x
  clear htb hB b0 hb1
  refine calls_of_wp_calm 4 Tryd.func21 rfl ?_
  simp only [Tryd.ntmps21, List.size_toArray, List.length_cons, List.length_nil, Nat.reduceAdd, Nat.reduceSub, Array.replicate_succ, Array.replicate_zero, List.push_toArray, List.append_toArray, List.nil_append, List.cons_append]
  go_wp2
  refine (wpIn_wide (n := 4)).1 ?_
  generalize w.alloc (.cells #[.slice none 0 0] 32) = wC at *
  generalize hss : w.heap.size = s at *
  refine' rangeFunc_box (n := 4) (α := Bt x) (gf := 22) (lb := #[.pointer (some ⟨Bs, 0, none⟩)]) (by omega) rfl (enters_of Tryd.func22 (by kernel_rfl) rfl)
    (each_stops 3 (by omega) Bs Bs x hx wC htw hgw (by omega) bE (by omega)) (by omega) (fun h h' => KpE.trans h h') (kpE_b (by omega) (by omega)) (Below.refl _ _) (fun _ => rfl)
    (KI s Bs w) (fun _ _ _ => False) ?hI ?hIb (fun _ _ _ _ _ h _ _ => h) (fun _ _ _ _ _ h _ _ => h) h0I _ ?assign ?body ?done (fun _ _ _ _ _ _ h _ => h.elim)
  case hI =>
    rintro pre A C row ⟨h1, h2, h3⟩ hg hr
    exact ⟨holdsRow_own s s 32 3 1 (fun l : List (Bt x) => (unA l).length) (fun l => ints .i64 (natI (unA l))) (fun _ _ => True) pre A C row h1 hg (fun r e => (hr r e).2), h2.grown hg (by omega) (fun r e => by have := (hr r e).1; omega), Nat.le_trans h3 hg.size⟩
  case hIb =>
    rintro pre A C row ⟨⟨v, h1, hrow, _⟩, h2, h3⟩ hg hr
    refine ⟨⟨v, h1.kept hg (fun e => by have := hr s e.symm; omega), hrow.kept hg ?_, trivial⟩, h2.grown hg (by omega) (fun r e => by have := hr r e; omega), Nat.le_trans h3 hg.size⟩
    cases hv : v.ownBlock with
    | none => exact .inl rfl
    | some g => exact .inr fun e => by have := hrow.lt g hv; have := hr g e.symm; omega
  case assign =>
    intro l0 y W K hK
    gi_wp2
    exact hK
  case body =>
    rintro l0 pre y W ⟨⟨v, hbv, hown, _⟩, hbW, hsW⟩ hpl
    have hsn := unA_snoc pre y
    have hpn : (unA pre).length ≤ 32 := by rw [hlen32]; omega
    obtain ⟨c, hcy⟩ : ∃ c, y.1 = c := ⟨_, rfl⟩
    rw [hcy] at hsn
    simp only [hcy]
    clear hcy
    have hsnH := Lib.hid hsn; have hbWH := Lib.hid hbW; have hbvH := Lib.hid hbv; have hownH := Lib.hid hown
    have cv := hbv.cell; have lv := hbv.lt; have fv := hbv.frozen
    obtain ⟨Av, cAv, rfl⟩ := own_slice hown
    clear hsn hbW hbv hown
    generalize hm : (unA pre).length = m at *
    have hmH := Lib.hid hm
    clear hm
    gi_wp2_with ((gi_at_builtin
                  refine wpListIn_app1 (s := .tmp 8) (x := .tmp 10) tiK (hownH.out.alloc (.cells #[.int .i64 (c : Int)] 3)) (Boxed.new W 3 (.int .i64 (c : Int))).cell rfl (by omega) (by omega) (by simp; omega) rfl rfl rfl rfl ?_
                  intro v' wA ownA gA
                  obtain ⟨g', cap', rfl⟩ := ownsRow_succ ownA
                  obtain ⟨hv1, hv2, hv3, hv4, hv5⟩ := Boxed.appended (n₀ := s) hbvH.out (by decide) hownH.out hsW (Nat.le_refl _) ownA gA
                  have cA := hv1.cell
                  have fA := hv1.frozen
                  have lA := hv1.lt
                  have h2H := Lib.hid hv2
                  have h3H := Lib.hid hv3
                  have h4H := Lib.hid hv4
                  have h5H := Lib.hid hv5
                  clear hv1 hv2 hv3 hv4 hv5 ownA gA cv lv fv))
    have hv2 := h2H.out; have hv3 := h3H.out; have hv5 := h5H.out
    have hkb : Below Bs W (wA.setCell ⟨s, 0, none⟩ (.slice (some ⟨g', 0, none⟩) (m + 1) cap')) := hv5.mono (by omega)
    have hI : KI s Bs w (pre ++ [y]) (wA.setCell ⟨s, 0, none⟩ (.slice (some ⟨g', 0, none⟩) (m + 1) cap')) := by
      refine ⟨⟨_, hv2, ?_, trivial⟩, hbWH.out.trans hkb, by have := hkb.size; omega⟩
      rw [hsnH.out]
      have e1 : (unA pre ++ [c]).length = m + 1 := by simp [hmH.out]
      have e2 : ints .i64 (natI (unA pre ++ [c])) = ints .i64 (natI (unA pre)) ++ [.int .i64 (c : Int)] := by simp [natI, ints]
      rw [e1, e2]; exact hv3
    have hKp : KpE Bs Bs W (wA.setCell ⟨s, 0, none⟩ (.slice (some ⟨g', 0, none⟩) (m + 1) cap')) := ⟨hkb, (hv5.block Bs (by omega))⟩
    exact ⟨h4H.out.from _, hKp, hI⟩
  case done =>
    rintro D ys W hD hys ⟨⟨v, hbv, hown, _⟩, hbW, hsW⟩ hK
    have hys' : unA ys = bitsL x := hys
    rw [hys'] at hown
    have cv := hbv.cell
    have hownH := Lib.hid hown; have hbWH := Lib.hid hbW; have hKH := Lib.hid hK
    clear hys hys' hown hbW hbv hK
    go_wp2
    refine leaves_marksJ (B := s) (J := fun W' => W'.ownsRow s 3 1 v (bitsL x).length (ints .i64 (natI (bitsL x))) ∧ Below Bs w W' ∧ s ≤ W'.heap.size) (Marks.push (T := wC.heap.size) (ds := []) trivial (by omega) hD hKH.out) ⟨hownH.out, hbWH.out, hsW⟩
      (fun V r o' hV hd hr => ⟨ownsRow_putObj hV.1 o' hd rfl, hV.2.1.grown (grownBy_putObj' V r o') (by omega) (fun r' e => by cases e; omega), by have := (grownBy_putObj' V r o').size; omega⟩)
      fun w' hw' => ⟨v, by simp [results, Tryd.results21, go_sem], v, rfl, by rw [← hss] at hw'; exact hw'.1, hw'.2.1⟩
theorem collect_any (Bs x : Nat) (w : World) (hx : x < 4294967296) (hB : Boxed w Bs 43 (.int .u32 (x : Int))) (htb : Tb w) (hgw : 0 < Bs) :
    Calls Tryd.prog 15 #[.func (.func 22) #[] #[.pointer (some ⟨Bs, 0, none⟩)]] w fun e w' =>
      ∃ v, e = .returned v ∧ w'.ownsRow w.heap.size 3 1 v (bitsL x).length (ints .i64 (natI (bitsL x))) ∧ Below Bs w w' := by
  have HA := Lib.hid (appendSeq_any Bs x w hx hB htb hgw)
  clear hB htb
  go_enter Tryd.func15, Tryd.ntmps15
  go_wp2_with fail
  refine HA.out.mono ?_
  rintro e w1 ⟨v, rfl, hown, hb⟩
  obtain ⟨A, c, rfl⟩ := own_slice hown
  have hH := Lib.hid hown
  clear hown HA
  go_wp2
  go_ret
  exact ⟨_, rfl, hH.out, hb⟩
end Go.Proofs.YtnkmfnnkophccaaDoor
