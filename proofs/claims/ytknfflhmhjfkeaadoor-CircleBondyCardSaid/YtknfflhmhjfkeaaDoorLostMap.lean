/- circle: a map from two words to counts (XPairMap turned to an array of two as its key). -/
import Derived.Test.YtknfflhmhjfkeaaDoorRows
import Derived.Test.YtknfflhmhjfkeaaDoorPairMap
import Derived.ChangeKeysEq
import Derived.Laws.StructEq
namespace Go.Proofs.YtknfflhmhjfkeaaDoor
open Go.RowKit Go.Instr

def qk (c : Int × Int) : Value := .agg #[.int .u32 c.1, .int .u32 c.2]
theorem qk_check (em : Bool) (c : Int × Int) (W : World) : (Instr.checkKey em 10000 54 (qk c)).run Tryd.prog W = .ok () W := by
  unfold qk
  kernel_rfl
theorem qk_eq (c d : Int × Int) (W : World) : (Op.equal 54 (qk c) (qk d)).run Tryd.prog W = .ok (c.1 == d.1 && c.2 == d.2) W := by
  have hS : Tryd.prog.underlying 54 = some (.array 2 46) := by kernel_rfl
  obtain ⟨i, hi⟩ : ∃ i, Tryd.prog.info? 46 = some i := ⟨_, rfl⟩
  have hc : Tryd.prog.cellsOf 46 = 1 := by kernel_rfl
  unfold qk Op.equal Op.maxDepth
  rw [show (10000 : Nat) = 9999 + 1 from rfl, run_equalIn_array W 9999 _ _ hS hi, hc, show List.range 2 = [0, 1] from rfl]
  cases h1 : (c.1 == d.1)
  · simp only [Op.eqItems, part]
    go_simp
  · simp only [Op.eqItems, part]
    go_simp
    by_cases h2 : c.2 = d.2 <;> simp [h2]
/-- an entry: a pair, a count, a stamp -/
def qme (c : Int × Int) (n : Int) (j : Nat) : MapEntry := { key := qk c, val := .int .i64 n, born := j }
/-- the entries of pairs of which each was met once, in order -/
def qm (l : List (Int × Int)) : List MapEntry := l.mapIdx fun j c => qme c 1 j
theorem qm_snoc (l : List (Int × Int)) (c : Int × Int) : qm (l ++ [c]) = qm l ++ [qme c 1 l.length] := by simp [qm, List.mapIdx_append]
theorem qm_length (l : List (Int × Int)) : (qm l).length = l.length := by simp [qm]

theorem askingQ_none (c : Int × Int) (W : World) : ∀ (es : List MapEntry) (i : Nat), (∀ e ∈ es, ∃ d, e.key = qk d ∧ (c.1 == d.1 && c.2 == d.2) = false) → (findAsking 54 (qk c) es i).run Tryd.prog W = .ok none W
  | [], i, _ => by simp [findAsking]
  | e :: es, i, h => by
    obtain ⟨d, hd, hne⟩ := h e (by simp)
    simp only [findAsking, hd, Sem.run_bind, qk_eq, Result.andThen_ok, hne, Bool.false_eq_true, if_false]
    exact askingQ_none c W es (i + 1) fun e' h' => h e' (List.mem_cons_of_mem _ h')
theorem askingQ_some (c : Int × Int) (W : World) (v : Value) : ∀ (es : List MapEntry) (i : Nat), (∀ e ∈ es, ∃ d, e.key = qk d ∧ ((c.1 == d.1 && c.2 == d.2) = true → e.val = v)) → (∃ e ∈ es, e.key = qk c) → ∃ j, (findAsking 54 (qk c) es i).run Tryd.prog W = .ok (some (j, v)) W
  | [], i, _, h => by obtain ⟨e, he, _⟩ := h; cases he
  | e :: es, i, h, h' => by
    obtain ⟨d, hd, hv⟩ := h e (by simp)
    simp only [findAsking, hd, Sem.run_bind, qk_eq, Result.andThen_ok]
    cases hq : (c.1 == d.1 && c.2 == d.2)
    · simp only [Bool.false_eq_true, if_false]
      refine askingQ_some c W v es (i + 1) (fun e' h'' => h e' (List.mem_cons_of_mem _ h'')) ?_
      obtain ⟨e', he', hk'⟩ := h'
      rcases List.mem_cons.1 he' with rfl | he''
      · exfalso
        rw [hk'] at hd
        have : c = d := by
          obtain ⟨c1, c2⟩ := c
          obtain ⟨d1, d2⟩ := d
          simp [qk] at hd
          simp [hd]
        subst this
        simp at hq
      · exact ⟨e', he'', hk'⟩
    · exact ⟨i, by simp [hv hq]⟩
theorem findKeyQ_asking (c : Int × Int) (W : World) (e : MapEntry) (es : List MapEntry) {r : Option (Nat × Value)} (hr : (findAsking 54 (qk c) (e :: es) 0).run Tryd.prog W = .ok r W) :
    (findKey 54 (qk c) (e :: es)).run Tryd.prog W = .ok r W := by
  have hn : findNow (.array 2 46) (qk c) (e :: es) 0 = none := by
    unfold findNow sameNow
    simp
  have hS : Tryd.prog.underlying 54 = some (.array 2 46) := by kernel_rfl
  simp only [findKey, Sem.run_bind, run_underlying hS, Result.andThen_ok, hn, hr]
theorem findKeyQ_nil (c : Int × Int) (W : World) : (findKey 54 (qk c) []).run Tryd.prog W = .ok none W := by
  have hS : Tryd.prog.underlying 54 = some (.array 2 46) := by kernel_rfl
  simp only [findKey, Sem.run_bind, run_underlying hS, Result.andThen_ok, findNow, Sem.run_pure]
theorem mem_qm {l : List (Int × Int)} {e : MapEntry} (h : e ∈ qm l) : ∃ c j, c ∈ l ∧ e = qme c 1 j := by
  simp only [qm, List.mem_mapIdx] at h
  obtain ⟨j, hj, rfl⟩ := h
  exact ⟨l[j], j, List.getElem_mem _, rfl⟩
theorem qm_mem {l : List (Int × Int)} {c : Int × Int} (h : c ∈ l) : ∃ e ∈ qm l, e.key = qk c := by
  obtain ⟨j, hj, rfl⟩ := List.mem_iff_getElem.1 h
  exact ⟨qme l[j] 1 j, by simp only [qm, List.mem_mapIdx]; exact ⟨j, hj, rfl⟩, rfl⟩
theorem findQ_out (l : List (Int × Int)) (c : Int × Int) (hc : c ∉ l) (W : World) : (findKey 54 (qk c) (qm l)).run Tryd.prog W = .ok none W := by
  have ha : ∀ es, es = qm l → (findKey 54 (qk c) es).run Tryd.prog W = .ok none W := by
    intro es hes
    cases es with
    | nil => exact findKeyQ_nil c W
    | cons e es =>
      refine findKeyQ_asking c W e es (askingQ_none c W _ 0 fun e' he' => ?_)
      rw [hes] at he'
      obtain ⟨d, j, hd, rfl⟩ := mem_qm he'
      refine ⟨d, rfl, ?_⟩
      cases hq : (c.1 == d.1 && c.2 == d.2)
      · rfl
      · rw [pair_beq] at hq; subst hq; exact absurd hd hc
  exact ha _ rfl
theorem findQ_in (l : List (Int × Int)) (c : Int × Int) (hc : c ∈ l) (W : World) : ∃ j, (findKey 54 (qk c) (qm l)).run Tryd.prog W = .ok (some (j, .int .i64 1)) W := by
  have ha : ∀ es, es = qm l → ∃ j, (findKey 54 (qk c) es).run Tryd.prog W = .ok (some (j, .int .i64 1)) W := by
    intro es hes
    cases es with
    | nil => obtain ⟨e, he, _⟩ := qm_mem hc; rw [← hes] at he; cases he
    | cons e es =>
      obtain ⟨j, hj⟩ := askingQ_some c W (.int .i64 1) (e :: es) 0 (fun e' he' => by
        rw [hes] at he'
        obtain ⟨d, j, hd, rfl⟩ := mem_qm he'
        exact ⟨d, rfl, fun _ => rfl⟩) (by rw [hes]; exact qm_mem hc)
      exact ⟨j, findKeyQ_asking c W e es hj⟩
  exact ha _ rfl
theorem findQ_new (l : List (Int × Int)) (c : Int × Int) (hc : c ∉ l) (n : Nat) (W : World) : ∃ j, (findKey 54 (qk c) (qm l ++ [qme c 0 n])).run Tryd.prog W = .ok (some (j, .int .i64 0)) W := by
  have ha : ∀ es, es = qm l ++ [qme c 0 n] → ∃ j, (findKey 54 (qk c) es).run Tryd.prog W = .ok (some (j, .int .i64 0)) W := by
    intro es hes
    cases es with
    | nil => simp at hes
    | cons e es =>
      obtain ⟨j, hj⟩ := askingQ_some c W (.int .i64 0) (e :: es) 0 (fun e' he' => by
        rw [hes] at he'
        rcases List.mem_append.1 he' with h | h
        · obtain ⟨d, j, hd, rfl⟩ := mem_qm h
          refine ⟨d, rfl, fun hq => ?_⟩
          rw [pair_beq] at hq; subst hq; exact absurd hd hc
        · simp at h; subst h; exact ⟨c, rfl, fun _ => rfl⟩) (by rw [hes]; exact ⟨qme c 0 n, by simp, rfl⟩)
      exact ⟨j, findKeyQ_asking c W e es hj⟩
  exact ha _ rfl

section
variable {W : World} {B : Nat} {l : List (Int × Int)} {c : Int × Int}
theorem lookQ_out (h : IsMap W B (qm l) l.length) (hc : c ∉ l) : (Instr.lookup 42 (.map (some B)) (qk c) false).run Tryd.prog W = .ok (.int .i64 0) W := by
  simp only [Instr.lookup, Sem.run_bind, run_underlying Tryd.underlying42, Result.andThen_ok, obj_get h, Sem.run_pure, qk_check, findQ_out l c hc, zero_int]
  rfl
theorem lookQ_in (h : IsMap W B (qm l) l.length) (hc : c ∈ l) : (Instr.lookup 42 (.map (some B)) (qk c) false).run Tryd.prog W = .ok (.int .i64 1) W := by
  obtain ⟨j, hj⟩ := findQ_in l c hc W
  simp only [Instr.lookup, Sem.run_bind, run_underlying Tryd.underlying42, Result.andThen_ok, obj_get h, Sem.run_pure, qk_check, hj]
  rfl
theorem lookQ_new {n : Nat} (h : IsMap W B (qm l ++ [qme c 0 l.length]) n) (hc : c ∉ l) : (Instr.lookup 42 (.map (some B)) (qk c) false).run Tryd.prog W = .ok (.int .i64 0) W := by
  obtain ⟨j, hj⟩ := findQ_new l c hc l.length W
  simp only [Instr.lookup, Sem.run_bind, run_underlying Tryd.underlying42, Result.andThen_ok, obj_get h, Sem.run_pure, qk_check, hj]
  rfl
theorem entryQ_new (h : IsMap W B (qm l) l.length) (hc : c ∉ l) :
    (Instr.mapEntry 42 (.map (some B)) (qk c)).run Tryd.prog W = .ok (.tuple #[.int .i64 0, .int .i64 l.length]) (setMap W B (qm l ++ [qme c 0 l.length]) (l.length + 1)) := by
  simp only [Instr.mapEntry, Sem.run_bind, run_underlying Tryd.underlying42, Result.andThen_ok, obj_get h, qk_check, findQ_out l c hc, zero_int, Sem.run_pure]
  rw [show (qm l).toArray.push { key := qk c, val := Value.int IntKind.i64 0, born := l.length } = (qm l ++ [qme c 0 l.length]).toArray by simp [qme], obj_set h]
  rfl
theorem storeQ_new {n : Nat} (h : IsMap W B (qm l ++ [qme c 0 l.length]) n) :
    (Instr.entryStore 42 (.map (some B)) (.int .i64 l.length) (.int .i64 1)).run Tryd.prog W = .ok () (setMap W B (qm (l ++ [c])) n) := by
  have hfi : (qm l ++ [qme c 0 l.length]).toArray.findIdx? (fun e => (e.born : Int) == (l.length : Int)) = some l.length := by
    rw [List.findIdx?_toArray, List.findIdx?_eq_some_iff_getElem]
    refine ⟨by simp [qm], ?_, fun j hj => ?_⟩
    · rw [List.getElem_append_right (by simp [qm])]
      simp [qm, qme]
    · rw [List.getElem_append_left (by simp [qm]; exact hj)]
      simp [qm, qme]
      omega
  have hmod : ((qm l ++ [qme c 0 l.length]).toArray.modify l.length fun e => { e with val := Value.int IntKind.i64 1 }) = (qm (l ++ [c])).toArray := by
    rw [qm_snoc]
    apply Array.ext
    · simp
    · intro i h1 h2
      simp only [Array.getElem_modify, List.getElem_toArray]
      by_cases hi : l.length = i
      · subst hi
        rw [if_pos rfl, List.getElem_append_right (by simp [qm]), List.getElem_append_right (by simp [qm])]
        simp [qm, qme]
      · rw [if_neg hi]
        have : i < (qm l).length := by simp [qm] at h2 ⊢; omega
        rw [List.getElem_append_left this, List.getElem_append_left this]
  simp only [Instr.entryStore, Sem.run_bind, Result.andThen_ok, obj_get h, asInt, asIntOf, Sem.run_pure, hfi]
  rw [hmod, obj_set h]
end
end Go.Proofs.YtknfflhmhjfkeaaDoor
