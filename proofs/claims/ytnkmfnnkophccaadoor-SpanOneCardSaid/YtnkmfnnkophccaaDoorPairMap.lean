/- A map from pairs of integers to counts: what a look-up, and an increment of a key that is not there, do. -/
import Derived.Test.YtnkmfnnkophccaaDoorRows
import Derived.Test.YtnkmfnnkophccaaDoorBase
import Derived.MapKept
import Derived.Laws.StructEq
namespace Go.Proofs.YtnkmfnnkophccaaDoor
open Go.RowKit Go.Instr

def pk (c : Int × Int) : Value := .agg #[.int .i64 c.1, .int .i64 c.2]
theorem pk_check (em : Bool) (c : Int × Int) (W : World) : (Instr.checkKey em 10000 55 (pk c)).run Tryd.prog W = .ok () W := by
  unfold pk
  kernel_rfl
theorem pk_eq (c d : Int × Int) (W : World) : (Op.equal 55 (pk c) (pk d)).run Tryd.prog W = .ok (c.1 == d.1 && c.2 == d.2) W := by
  have hS : Tryd.prog.underlying 55 = some (.struct (Tryd.prog.fieldsOf 55)) := by kernel_rfl
  have hp : Tryd.prog.stoodInHeld 55 = false := by kernel_rfl
  unfold pk Op.equal Op.maxDepth
  rw [show (10000 : Nat) = 9999 + 1 from rfl, run_equalIn_agg W 9999 55 _ _ hS hp]
  simp only [Program.fieldsOf, Tryd.underlying55]
  cases h1 : (c.1 == d.1)
  · go_simp
  · go_simp
    by_cases h2 : c.2 = d.2 <;> simp [h2]
theorem zero_int (W : World) : (zeroValue 3).run Tryd.prog W = .ok (.int .i64 0) W := by kernel_rfl

/-- an entry: a pair, a count, a stamp -/
def mpe (c : Int × Int) (n : Int) (j : Nat) : MapEntry := { key := pk c, val := .int .i64 n, born := j }
/-- the entries of pairs of which each was met once, in order -/
def mp (l : List (Int × Int)) : List MapEntry := l.mapIdx fun j c => mpe c 1 j
theorem mp_snoc (l : List (Int × Int)) (c : Int × Int) : mp (l ++ [c]) = mp l ++ [mpe c 1 l.length] := by simp [mp, List.mapIdx_append]
theorem mp_length (l : List (Int × Int)) : (mp l).length = l.length := by simp [mp]

theorem asking_none (c : Int × Int) (W : World) : ∀ (es : List MapEntry) (i : Nat), (∀ e ∈ es, ∃ d, e.key = pk d ∧ (c.1 == d.1 && c.2 == d.2) = false) → (findAsking 55 (pk c) es i).run Tryd.prog W = .ok none W
  | [], i, _ => by simp [findAsking]
  | e :: es, i, h => by
    obtain ⟨d, hd, hne⟩ := h e (by simp)
    simp only [findAsking, hd, Sem.run_bind, pk_eq, Result.andThen_ok, hne, Bool.false_eq_true, if_false]
    exact asking_none c W es (i + 1) fun e' h' => h e' (List.mem_cons_of_mem _ h')
theorem asking_some (c : Int × Int) (W : World) (v : Value) : ∀ (es : List MapEntry) (i : Nat), (∀ e ∈ es, ∃ d, e.key = pk d ∧ ((c.1 == d.1 && c.2 == d.2) = true → e.val = v)) → (∃ e ∈ es, e.key = pk c) → ∃ j, (findAsking 55 (pk c) es i).run Tryd.prog W = .ok (some (j, v)) W
  | [], i, _, h => by obtain ⟨e, he, _⟩ := h; cases he
  | e :: es, i, h, h' => by
    obtain ⟨d, hd, hv⟩ := h e (by simp)
    simp only [findAsking, hd, Sem.run_bind, pk_eq, Result.andThen_ok]
    cases hq : (c.1 == d.1 && c.2 == d.2)
    · simp only [Bool.false_eq_true, if_false]
      refine asking_some c W v es (i + 1) (fun e' h'' => h e' (List.mem_cons_of_mem _ h'')) ?_
      obtain ⟨e', he', hk'⟩ := h'
      rcases List.mem_cons.1 he' with rfl | he''
      · exfalso
        rw [hk'] at hd
        have : c = d := by
          obtain ⟨c1, c2⟩ := c
          obtain ⟨d1, d2⟩ := d
          simp [pk] at hd
          simp [hd]
        subst this
        simp at hq
      · exact ⟨e', he'', hk'⟩
    · exact ⟨i, by simp [hv hq]⟩
theorem findKey_asking (c : Int × Int) (W : World) (e : MapEntry) (es : List MapEntry) {r : Option (Nat × Value)} (hr : (findAsking 55 (pk c) (e :: es) 0).run Tryd.prog W = .ok r W) :
    (findKey 55 (pk c) (e :: es)).run Tryd.prog W = .ok r W := by
  have hn : findNow (.struct (Tryd.prog.fieldsOf 55)) (pk c) (e :: es) 0 = none := by
    unfold findNow sameNow
    simp
  have hS : Tryd.prog.underlying 55 = some (.struct (Tryd.prog.fieldsOf 55)) := by kernel_rfl
  simp only [findKey, Sem.run_bind, run_underlying hS, Result.andThen_ok, hn, hr]
theorem findKey_nil (c : Int × Int) (W : World) : (findKey 55 (pk c) []).run Tryd.prog W = .ok none W := by
  have hS : Tryd.prog.underlying 55 = some (.struct (Tryd.prog.fieldsOf 55)) := by kernel_rfl
  simp only [findKey, Sem.run_bind, run_underlying hS, Result.andThen_ok, findNow, Sem.run_pure]
theorem mem_mp {l : List (Int × Int)} {e : MapEntry} (h : e ∈ mp l) : ∃ c j, c ∈ l ∧ e = mpe c 1 j := by
  simp only [mp, List.mem_mapIdx] at h
  obtain ⟨j, hj, rfl⟩ := h
  exact ⟨l[j], j, List.getElem_mem _, rfl⟩
theorem mp_mem {l : List (Int × Int)} {c : Int × Int} (h : c ∈ l) : ∃ e ∈ mp l, e.key = pk c := by
  obtain ⟨j, hj, rfl⟩ := List.mem_iff_getElem.1 h
  exact ⟨mpe l[j] 1 j, by simp only [mp, List.mem_mapIdx]; exact ⟨j, hj, rfl⟩, rfl⟩
theorem pair_beq (c d : Int × Int) : (c.1 == d.1 && c.2 == d.2) = true ↔ c = d := by
  obtain ⟨c1, c2⟩ := c
  obtain ⟨d1, d2⟩ := d
  simp
theorem find_out (l : List (Int × Int)) (c : Int × Int) (hc : c ∉ l) (W : World) : (findKey 55 (pk c) (mp l)).run Tryd.prog W = .ok none W := by
  have ha : ∀ es, es = mp l → (findKey 55 (pk c) es).run Tryd.prog W = .ok none W := by
    intro es hes
    cases es with
    | nil => exact findKey_nil c W
    | cons e es =>
      refine findKey_asking c W e es (asking_none c W _ 0 fun e' he' => ?_)
      rw [hes] at he'
      obtain ⟨d, j, hd, rfl⟩ := mem_mp he'
      refine ⟨d, rfl, ?_⟩
      cases hq : (c.1 == d.1 && c.2 == d.2)
      · rfl
      · rw [pair_beq] at hq; subst hq; exact absurd hd hc
  exact ha _ rfl
theorem find_in (l : List (Int × Int)) (c : Int × Int) (hc : c ∈ l) (W : World) : ∃ j, (findKey 55 (pk c) (mp l)).run Tryd.prog W = .ok (some (j, .int .i64 1)) W := by
  have ha : ∀ es, es = mp l → ∃ j, (findKey 55 (pk c) es).run Tryd.prog W = .ok (some (j, .int .i64 1)) W := by
    intro es hes
    cases es with
    | nil => obtain ⟨e, he, _⟩ := mp_mem hc; rw [← hes] at he; cases he
    | cons e es =>
      obtain ⟨j, hj⟩ := asking_some c W (.int .i64 1) (e :: es) 0 (fun e' he' => by
        rw [hes] at he'
        obtain ⟨d, j, hd, rfl⟩ := mem_mp he'
        exact ⟨d, rfl, fun _ => rfl⟩) (by rw [hes]; exact mp_mem hc)
      exact ⟨j, findKey_asking c W e es hj⟩
  exact ha _ rfl
theorem find_new (l : List (Int × Int)) (c : Int × Int) (hc : c ∉ l) (n : Nat) (W : World) : ∃ j, (findKey 55 (pk c) (mp l ++ [mpe c 0 n])).run Tryd.prog W = .ok (some (j, .int .i64 0)) W := by
  have ha : ∀ es, es = mp l ++ [mpe c 0 n] → ∃ j, (findKey 55 (pk c) es).run Tryd.prog W = .ok (some (j, .int .i64 0)) W := by
    intro es hes
    cases es with
    | nil => simp at hes
    | cons e es =>
      obtain ⟨j, hj⟩ := asking_some c W (.int .i64 0) (e :: es) 0 (fun e' he' => by
        rw [hes] at he'
        rcases List.mem_append.1 he' with h | h
        · obtain ⟨d, j, hd, rfl⟩ := mem_mp h
          refine ⟨d, rfl, fun hq => ?_⟩
          rw [pair_beq] at hq; subst hq; exact absurd hd hc
        · simp at h; subst h; exact ⟨c, rfl, fun _ => rfl⟩) (by rw [hes]; exact ⟨mpe c 0 n, by simp, rfl⟩)
      exact ⟨j, findKey_asking c W e es hj⟩
  exact ha _ rfl

/-- the world with another map at a block -/
def setMap (W : World) (B : Nat) (es : List MapEntry) (k : Nat) : World := { W with heap := W.heap.setIfInBounds B (.map es.toArray k) }
def IsMap (W : World) (B : Nat) (es : List MapEntry) (k : Nat) : Prop := W.heap[B]? = some (.map es.toArray k)
theorem isMap_set {W : World} {B : Nat} {es : List MapEntry} {k : Nat} (h : IsMap W B es k) (es' : List MapEntry) (k' : Nat) : IsMap (setMap W B es' k') B es' k' := by
  unfold IsMap setMap at *
  have := (Array.getElem?_eq_some_iff.1 h).1
  simp [this]
theorem obj_get {P : Program} {W : World} {B : Nat} {es : List MapEntry} {k : Nat} (h : IsMap W B es k) : (getObj B).run P W = .ok (.map es.toArray k) W := by
  unfold IsMap at h
  simp [getObj, Sem.run, h]
theorem obj_set {P : Program} {W : World} {B : Nat} {es : List MapEntry} {k : Nat} (h : IsMap W B es k) (es' : List MapEntry) (k' : Nat) : (setObj B (.map es'.toArray k')).run P W = .ok () (setMap W B es' k') := by
  unfold IsMap at h
  simp [setObj, Sem.run, h, setMap]
theorem isMap_lt {W : World} {B : Nat} {es : List MapEntry} {k : Nat} (h : IsMap W B es k) : B < W.heap.size := (Array.getElem?_eq_some_iff.1 h).1
theorem isMap_below {W W' : World} {B C : Nat} {es : List MapEntry} {k : Nat} (h : IsMap W B es k) (hB : B < C) (hb : Below C W W') : IsMap W' B es k := (hb.block B hB).trans h
theorem isMap_alloc {W : World} {B : Nat} {es : List MapEntry} {k : Nat} (h : IsMap W B es k) (o : Obj) : IsMap (W.alloc o) B es k := isMap_below h (isMap_lt h) ((Below.refl _ _).alloc (Nat.le_refl _) o)
theorem isMap_drew {W : World} {B : Nat} {es : List MapEntry} {k : Nat} (h : IsMap W B es k) : IsMap W.drew B es k := h
theorem isMap_made (W : World) : IsMap (W.alloc (.map #[] 0)) W.heap.size [] 0 := heap_alloc_new W _
theorem setMap_below {a W : World} {B C : Nat} (h : Below C a W) (hB : C ≤ B) (es : List MapEntry) (k : Nat) : Below C a (setMap W B es k) :=
  ⟨h.os, h.tape, h.output, by simpa [setMap] using h.size, fun i hi => by
    have := h.block i hi
    simp only [setMap]
    rw [Array.getElem?_setIfInBounds_ne (by omega)]
    exact this⟩
section
variable {W : World} {B : Nat} {l : List (Int × Int)} {c : Int × Int}
theorem look_out (h : IsMap W B (mp l) l.length) (hc : c ∉ l) : (Instr.lookup 53 (.map (some B)) (pk c) false).run Tryd.prog W = .ok (.int .i64 0) W := by
  simp only [Instr.lookup, Sem.run_bind, run_underlying Tryd.underlying53, Result.andThen_ok, obj_get h, Sem.run_pure, pk_check, find_out l c hc, zero_int]
  rfl
theorem look_in (h : IsMap W B (mp l) l.length) (hc : c ∈ l) : (Instr.lookup 53 (.map (some B)) (pk c) false).run Tryd.prog W = .ok (.int .i64 1) W := by
  obtain ⟨j, hj⟩ := find_in l c hc W
  simp only [Instr.lookup, Sem.run_bind, run_underlying Tryd.underlying53, Result.andThen_ok, obj_get h, Sem.run_pure, pk_check, hj]
  rfl
theorem look_new {n : Nat} (h : IsMap W B (mp l ++ [mpe c 0 l.length]) n) (hc : c ∉ l) : (Instr.lookup 53 (.map (some B)) (pk c) false).run Tryd.prog W = .ok (.int .i64 0) W := by
  obtain ⟨j, hj⟩ := find_new l c hc l.length W
  simp only [Instr.lookup, Sem.run_bind, run_underlying Tryd.underlying53, Result.andThen_ok, obj_get h, Sem.run_pure, pk_check, hj]
  rfl
theorem entry_new (h : IsMap W B (mp l) l.length) (hc : c ∉ l) :
    (Instr.mapEntry 53 (.map (some B)) (pk c)).run Tryd.prog W = .ok (.tuple #[.int .i64 0, .int .i64 l.length]) (setMap W B (mp l ++ [mpe c 0 l.length]) (l.length + 1)) := by
  simp only [Instr.mapEntry, Sem.run_bind, run_underlying Tryd.underlying53, Result.andThen_ok, obj_get h, pk_check, find_out l c hc, zero_int, Sem.run_pure]
  rw [show (mp l).toArray.push { key := pk c, val := Value.int IntKind.i64 0, born := l.length } = (mp l ++ [mpe c 0 l.length]).toArray by simp [mpe], obj_set h]
  rfl
theorem store_new {n : Nat} (h : IsMap W B (mp l ++ [mpe c 0 l.length]) n) :
    (Instr.entryStore 53 (.map (some B)) (.int .i64 l.length) (.int .i64 1)).run Tryd.prog W = .ok () (setMap W B (mp (l ++ [c])) n) := by
  have hfi : (mp l ++ [mpe c 0 l.length]).toArray.findIdx? (fun e => (e.born : Int) == (l.length : Int)) = some l.length := by
    rw [List.findIdx?_toArray, List.findIdx?_eq_some_iff_getElem]
    refine ⟨by simp [mp], ?_, fun j hj => ?_⟩
    · rw [List.getElem_append_right (by simp [mp])]
      simp [mp, mpe]
    · rw [List.getElem_append_left (by simp [mp]; exact hj)]
      simp [mp, mpe]
      omega
  have hmod : ((mp l ++ [mpe c 0 l.length]).toArray.modify l.length fun e => { e with val := Value.int IntKind.i64 1 }) = (mp (l ++ [c])).toArray := by
    rw [mp_snoc]
    apply Array.ext
    · simp
    · intro i h1 h2
      simp only [Array.getElem_modify, List.getElem_toArray]
      by_cases hi : l.length = i
      · subst hi
        rw [if_pos rfl, List.getElem_append_right (by simp [mp]), List.getElem_append_right (by simp [mp])]
        simp [mp, mpe]
      · rw [if_neg hi]
        have : i < (mp l).length := by simp [mp] at h2 ⊢; omega
        rw [List.getElem_append_left this, List.getElem_append_left this]
  simp only [Instr.entryStore, Sem.run_bind, Result.andThen_ok, obj_get h, asInt, asIntOf, Sem.run_pure, hfi]
  rw [hmod, obj_set h]
end
end Go.Proofs.YtnkmfnnkophccaaDoor
