/- A map[short.key]int64 of the call's own: a look-up, and a store, of a key that is there or not. -/
import Derived.Test.YtemcolhpghjnkaaRows
import Derived.Test.YtemcolhpghjnkaaBase
import Derived.MapKept
import Derived.Laws.StructEq
import Derived.RangeFuncBox
namespace Go.Proofs.Ytemcolhpghjnkaa
open Go.RowKit Go.Instr

def kk (c : Int × Int) : Value := .agg #[.int .i64 c.1, .int .i64 c.2]
theorem kk_check (em : Bool) (c : Int × Int) (W : World) : (Instr.checkKey em 10000 52 (kk c)).run Try.prog W = .ok () W := by
  unfold kk
  kernel_rfl
theorem kk_eq (c d : Int × Int) (W : World) : (Op.equal 52 (kk c) (kk d)).run Try.prog W = .ok (c.1 == d.1 && c.2 == d.2) W := by
  have hS : Try.prog.underlying 52 = some (.struct (Try.prog.fieldsOf 52)) := by kernel_rfl
  have hp : Try.prog.stoodInHeld 52 = false := by kernel_rfl
  unfold kk Op.equal Op.maxDepth
  rw [show (10000 : Nat) = 9999 + 1 from rfl, run_equalIn_agg W 9999 52 _ _ hS hp]
  simp only [Program.fieldsOf, Try.underlying52]
  cases h1 : (c.1 == d.1)
  · go_simp
  · go_simp
    by_cases h2 : c.2 = d.2 <;> simp [h2]
theorem kk_beq (c d : Int × Int) : (c.1 == d.1 && c.2 == d.2) = decide (d = c) := by
  obtain ⟨a, b⟩ := c
  obtain ⟨x, y⟩ := d
  by_cases h : (x, y) = (a, b)
  · rw [decide_eq_true h]
    cases h; simp
  · rw [decide_eq_false h]
    simp only [Prod.mk.injEq] at h
    simp
    intro h1 h2
    exact h ⟨h1.symm, h2.symm⟩
theorem kzero (W : World) : (zeroValue 2).run Try.prog W = .ok (.int .i64 0) W := by kernel_rfl
theorem kk_same (c : Int × Int) : sameBits 10000 (kk c) (kk c) = true := by
  unfold kk
  rw [show (10000 : Nat) = 9998 + 1 + 1 from rfl]
  simp [sameBits]
/-- an entry -/
abbrev KE := (Int × Int) × Int × Nat
def me (e : KE) : MapEntry := { key := kk e.1, val := .int .i64 e.2.1, born := e.2.2 }
def fnd (c : Int × Int) : List KE → Nat → Option (Nat × Value)
  | [], _ => none
  | e :: r, i => if e.1 = c then some (i, .int .i64 e.2.1) else fnd c r (i + 1)
def valOf (L : List KE) (c : Int × Int) : Option Int :=
  match L with
  | [] => none
  | e :: r => if e.1 = c then some e.2.1 else valOf r c
def setL (c : Int × Int) (v : Int) : List KE → List KE
  | [] => []
  | e :: r => if e.1 = c then (c, v, e.2.2) :: r else e :: setL c v r
theorem valOf_setL {c : Int × Int} (v : Int) : ∀ {L : List KE}, (valOf L c).isSome = true → ∀ d, valOf (setL c v L) d = if d = c then some v else valOf L d
  | [], h, _ => by simp [valOf] at h
  | e :: r, h, d => by
    unfold setL
    by_cases he : e.1 = c
    · rw [if_pos he]
      unfold valOf
      by_cases hd : d = c
      · rw [if_pos hd, if_pos hd.symm]
      · rw [if_neg hd, if_neg (fun e => hd e.symm), if_neg (fun e2 => hd (e2.symm.trans he))]
    · rw [if_neg he]
      have h' : (valOf r c).isSome = true := by unfold valOf at h; rw [if_neg he] at h; exact h
      have ih := valOf_setL v h' d
      conv => lhs; unfold valOf
      conv => rhs; unfold valOf
      rw [ih]
      by_cases hd : d = c
      · subst hd; rw [if_neg he, if_pos rfl, if_pos rfl]
      · rw [if_neg hd, if_neg hd]
theorem valOf_push {c : Int × Int} (v : Int) (n : Nat) : ∀ {L : List KE}, valOf L c = none → ∀ d, valOf (L ++ [(c, v, n)]) d = if d = c then some v else valOf L d
  | [], _, d => by
    simp only [List.nil_append, valOf]
    by_cases hd : d = c
    · rw [if_pos hd, if_pos hd.symm]
    · rw [if_neg hd, if_neg (fun e => hd e.symm)]
  | e :: r, h, d => by
    have he : e.1 ≠ c := fun he => by unfold valOf at h; rw [if_pos he] at h; cases h
    have h' : valOf r c = none := by unfold valOf at h; rw [if_neg he] at h; exact h
    have ih := valOf_push v n h' d
    rw [List.cons_append]
    conv => lhs; unfold valOf
    conv => rhs; unfold valOf
    rw [ih]
    by_cases hd : d = c
    · subst hd; rw [if_neg he, if_pos rfl, if_pos rfl]
    · rw [if_neg hd, if_neg hd]
theorem fnd_none {c : Int × Int} : ∀ {L : List KE} {i : Nat}, valOf L c = none → fnd c L i = none
  | [], _, _ => rfl
  | e :: r, i, h => by
    have he : e.1 ≠ c := fun he => by unfold valOf at h; rw [if_pos he] at h; cases h
    unfold fnd
    rw [if_neg he]
    exact fnd_none (by unfold valOf at h; rw [if_neg he] at h; exact h)
theorem fnd_some {c : Int × Int} {v : Int} : ∀ {L : List KE} {i : Nat}, valOf L c = some v → ∃ j, fnd c L i = some (i + j, .int .i64 v) ∧ j < L.length ∧ ((L.map me)[j]?).map (·.key) = some (kk c) ∧ ∀ x, (L.map me).modify j (fun e => { e with key := kk c, val := .int .i64 x }) = (setL c x L).map me
  | [], _, h => by cases h
  | e :: r, i, h => by
    by_cases he : e.1 = c
    · unfold valOf at h
      rw [if_pos he] at h
      refine ⟨0, by unfold fnd; rw [if_pos he, Option.some.inj h]; rfl, by simp, by simp [me, he], fun x => ?_⟩
      unfold setL
      rw [if_pos he]
      simp [me]
    · have h' : valOf r c = some v := by unfold valOf at h; rw [if_neg he] at h; exact h
      obtain ⟨j, h1, h2, h3, h4⟩ := fnd_some (i := i + 1) h'
      refine ⟨j + 1, by unfold fnd; rw [if_neg he, h1]; congr 2; omega, by simp; omega, by simpa using h3, fun x => ?_⟩
      have h5 := h4 x
      unfold setL
      rw [if_neg he, List.map_cons, List.map_cons, List.modify_succ_cons, h5]
theorem asking_fnd (c : Int × Int) (W : World) : ∀ (L : List KE) (i : Nat), (findAsking 52 (kk c) (L.map me) i).run Try.prog W = .ok (fnd c L i) W
  | [], i => by simp [findAsking, fnd]
  | e :: r, i => by
    have hk : (me e).key = kk e.1 := rfl
    simp only [List.map_cons, findAsking, hk, Sem.run_bind, kk_eq, Result.andThen_ok, kk_beq]
    unfold fnd
    by_cases he : e.1 = c
    · rw [decide_eq_true he, if_pos he]; rfl
    · rw [decide_eq_false he, if_neg he]
      simp only [Bool.false_eq_true, if_false]
      exact asking_fnd c W r (i + 1)
theorem findKey_fnd (c : Int × Int) (W : World) (L : List KE) : (findKey 52 (kk c) (L.map me)).run Try.prog W = .ok (fnd c L 0) W := by
  have hS : Try.prog.underlying 52 = some (.struct (Try.prog.fieldsOf 52)) := by kernel_rfl
  cases L with
  | nil => simp only [findKey, Sem.run_bind, run_underlying hS, Result.andThen_ok, List.map_nil, findNow, Sem.run_pure]; rfl
  | cons e r =>
    have hn : findNow (.struct (Try.prog.fieldsOf 52)) (kk c) ((e :: r).map me) 0 = none := by
      rw [List.map_cons]
      unfold findNow sameNow
      simp
    simp only [findKey, Sem.run_bind, run_underlying hS, Result.andThen_ok, hn]
    exact asking_fnd c W (e :: r) 0
/-- a map at B that reads as f -/
def YMap (W : World) (B : Nat) (f : Int × Int → Option Int) : Prop := ∃ (L : List KE) (n : Nat), W.heap[B]? = some (.map (L.map me).toArray n) ∧ ∀ c, f c = valOf L c
section
variable {W W' : World} {B : Nat} {f : Int × Int → Option Int}
theorem YMap.lt (h : YMap W B f) : B < W.heap.size := by obtain ⟨L, n, h, _⟩ := h; exact (Array.getElem?_eq_some_iff.1 h).1
theorem YMap.made (W : World) : YMap (W.alloc (.map #[] 0)) W.heap.size fun _ => none := ⟨[], 0, World.alloc_heap_new W _, fun _ => rfl⟩
theorem YMap.later (h : YMap W B f) (hb : Below W.heap.size W W') : YMap W' B f := by
  have hl := h.lt
  obtain ⟨L, n, h1, h2⟩ := h
  exact ⟨L, n, (hb.block B hl).trans h1, h2⟩
theorem YMap.grown {r : Option Nat} (h : YMap W B f) (hg : W.grownBy W' r) (hr : some B ≠ r) : YMap W' B f := by
  have hl := h.lt
  obtain ⟨L, n, h1, h2⟩ := h
  exact ⟨L, n, (hg.block B hl hr).trans h1, h2⟩
theorem YMap.drew (h : YMap W B f) : YMap W.drew B f := h
theorem YMap.drewN (h : YMap W B f) (k : Nat) : YMap (W.drewN k) B f := h
theorem YMap.alloc (h : YMap W B f) (o : Obj) : YMap (W.alloc o) B f := h.later ((Below.refl _ _).alloc (Nat.le_refl _) o)
theorem getObjK {A : Array MapEntry} {n : Nat} (h : W.heap[B]? = some (.map A n)) : (getObj B).run Try.prog W = .ok (.map A n) W := by simp [getObj, Sem.run, h]
theorem YMap.look (h : YMap W B f) (c : Int × Int) : (Instr.lookup 53 (.map (some B)) (kk c) true).run Try.prog W = .ok (.tuple #[.int .i64 ((f c).getD 0), .bool (f c).isSome]) W := by
  obtain ⟨L, n, h1, h2⟩ := h
  rw [h2]
  cases hv : valOf L c with
  | none =>
    simp only [Instr.lookup, Sem.run_bind, run_underlying Try.underlying53, Result.andThen_ok, getObjK h1, Sem.run_pure, kk_check, findKey_fnd, fnd_none hv, kzero]
    rfl
  | some v =>
    obtain ⟨j, hj, _⟩ := fnd_some (i := 0) hv
    simp only [Instr.lookup, Sem.run_bind, run_underlying Try.underlying53, Result.andThen_ok, getObjK h1, Sem.run_pure, kk_check, findKey_fnd, hj]
    rfl
theorem YMap.look1 (h : YMap W B f) (c : Int × Int) : (Instr.lookup 53 (.map (some B)) (kk c) false).run Try.prog W = .ok (.int .i64 ((f c).getD 0)) W := by
  obtain ⟨L, n, h1, h2⟩ := h
  rw [h2]
  cases hv : valOf L c with
  | none =>
    simp only [Instr.lookup, Sem.run_bind, run_underlying Try.underlying53, Result.andThen_ok, getObjK h1, Sem.run_pure, kk_check, findKey_fnd, fnd_none hv, kzero]
    rfl
  | some v =>
    obtain ⟨j, hj, _⟩ := fnd_some (i := 0) hv
    simp only [Instr.lookup, Sem.run_bind, run_underlying Try.underlying53, Result.andThen_ok, getObjK h1, Sem.run_pure, kk_check, findKey_fnd, hj]
    rfl
def updY (f : Int × Int → Option Int) (c : Int × Int) (v : Int) : Int × Int → Option Int := fun d => if d = c then some v else f d
theorem putMap {A A2 : Array MapEntry} {n m : Nat} (h : W.heap[B]? = some (.map A n)) : (setObj B (.map A2 m)).run Try.prog W = .ok () { W with heap := W.heap.setIfInBounds B (.map A2 m) } := by simp [setObj, Sem.run, h]
theorem putMap_grown (W : World) (B : Nat) (o : Obj) : W.grownBy { W with heap := W.heap.setIfInBounds B o } (some B) :=
  ⟨rfl, rfl, rfl, by simp, fun i _ hi => by simp only; rw [Array.getElem?_setIfInBounds_ne (fun e => hi (by rw [e]))]⟩
theorem YMap.store (h : YMap W B f) (c : Int × Int) (v : Int) : ∃ W', (Instr.mapUpdate 53 (.map (some B)) (kk c) (.int .i64 v)).run Try.prog W = .ok () W' ∧ YMap W' B (updY f c v) ∧ W.grownBy W' (some B) := by
  have hl := h.lt
  obtain ⟨L, n, h1, h2⟩ := h
  cases hv : valOf L c with
  | none =>
    refine ⟨_, ?_, ⟨L ++ [(c, v, n)], n + 1, ?_, fun d => ?_⟩, putMap_grown W B (.map ((L ++ [(c, v, n)]).map me).toArray (n + 1))⟩
    · simp only [Instr.mapUpdate, Sem.run_bind, run_underlying Try.underlying53, Result.andThen_ok, getObjK h1, kk_check, findKey_fnd, fnd_none hv]
      rw [show (L.map me).toArray.push { key := kk c, val := Value.int IntKind.i64 v, born := n } = ((L ++ [(c, v, n)]).map me).toArray by simp [me], putMap h1]
    · simp [hl]
    · rw [valOf_push v n hv, updY]
      split
      · rfl
      · exact h2 d
  | some x =>
    obtain ⟨j, hj, hjl, hk, hm⟩ := fnd_some (i := 0) hv
    rw [Nat.zero_add] at hj
    refine ⟨_, ?_, ⟨setL c v L, n, ?_, fun d => ?_⟩, putMap_grown W B (.map ((setL c v L).map me).toArray n)⟩
    · have hkey : (((L.map me).toArray[j]?).map (·.key)).getD (kk c) = kk c := by rw [List.getElem?_toArray, hk]; rfl
      simp only [Instr.mapUpdate, Sem.run_bind, run_underlying Try.underlying53, Result.andThen_ok, getObjK h1, kk_check, findKey_fnd, hj, hkey, keyThatStays, kk_same, if_true, Sem.run_pure]
      rw [show (L.map me).toArray.modify j (fun e => { e with key := kk c, val := Value.int IntKind.i64 v }) = ((setL c v L).map me).toArray by rw [← hm v]; simp, putMap h1]
    · simp [hl]
    · rw [valOf_setL v (by rw [hv]; rfl), updY]
      split
      · rfl
      · exact h2 d
end
/-- 'm[k] = v' at the operation -/
theorem wp_ymap {ops : Array Oper} {rest : List Oper} {o : Oper} {a : Act} {w : World} {Q : Exit → Act → World → Prop} (hg : o.guard = none) (m x v : Operand)
    (hop : o.op = Op.mapUpdate 53 m x v ∨ o.op = Op.insert 53 m x v) {B : Nat} {f : Int × Int → Option Int} (hm : a.eval m = .map (some B)) (h : YMap w B f) {c : Int × Int} {y : Int} (hx : a.eval x = kk c) (hv : a.eval v = .int .i64 y)
    (hK : ∀ w', YMap w' B (updY f c y) → w.grownBy w' (some B) → wpList Try.prog ops Q rest (a.put o.dst undef) w') : wpList Try.prog ops Q (o :: rest) a w := by
  obtain ⟨w', hrun, h2, h3⟩ := h.store c y
  refine wpList_plain hg fun K' hK' => ?_
  unfold Oper.wp
  rcases hop with hop | hop
  all_goals
    simp [execOp, hop, hm, hx, hv, hrun, Result.andThen]
    exact hK' _ _ (hK w' h2 h3)
end Go.Proofs.Ytemcolhpghjnkaa
