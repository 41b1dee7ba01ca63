/- A region that draws its order, in a round of a range over a function: all its operations but the last one leave the world alone, the last one waits for all of them. -/
import Derived.RangeFuncNested
import Derived.RangeFuncCalls
import Derived.Shelf.RegionOpen
import Derived.Sort.QuietIn
import Derived.Test.YtnkmfnnkophccaaDoorBase
namespace Go.Proofs.YtnkmfnnkophccaaDoor
open Go.RowKit

theorem opIn_round {l n : Nat} {P : Program} {o : Oper} {a : Act} {w : World} {K : Act → World → Prop} {Q : Exit → Act → World → Prop} (hd : ∀ c, o.op ≠ .defer c)
    (h : Oper.wpIn Fence.wide n P o a w K Q) : Oper.wpIn (Fence.wide.inRound l) n P o a w K Q := by
  refine ⟨fun _ _ => trivial, ?_⟩
  have h2 := h.2
  rw [Oper.semAt_eq _ _ _ hd] at h2 ⊢
  exact h2
structure LastOk (ops : Array Oper) (last : Oper) : Prop where
  nd : ∀ (j : Nat) (o : Oper), ops[j]? = some o → ∀ c, o.op ≠ .defer c
  ng : ∀ (j : Nat) (o : Oper), ops[j]? = some o → o.guard = none
  bk : ∀ (j : Nat) (o : Oper), ops[j]? = some o → ∀ e ∈ o.after, e.on < j
  all : ∀ (j : Nat), j < ops.size → (∃ e ∈ last.after, Region.binds .any e = true ∧ e.on = j) ∨ ∃ (k : Nat) (o : Oper), ops[k]? = some o ∧ ∃ e ∈ o.after, Region.binds .any e = true ∧ e.on = j
  lb : ∀ e ∈ last.after, e.on < ops.size
  lg : last.guard = none
  ld : ∀ c, last.op ≠ .defer c
def isDefer : Op → Bool
  | .defer _ => true
  | _ => false
theorem isDefer_no {o : Op} (h : isDefer o = false) : ∀ c, o ≠ .defer c := fun c e => by subst e; cases h
def lastB (L : List Oper) (last : Oper) : Bool :=
  ((List.range L.length).all fun j => match L[j]? with | some o => o.guard.isNone && !isDefer o.op && o.after.all (fun e => decide (e.on < j)) | none => true) && last.guard.isNone && !isDefer last.op &&
    last.after.all (fun e => decide (e.on < L.length)) && (List.range L.length).all fun j => (last.after.any fun e => Region.binds .any e && e.on == j) || L.any fun o => o.after.any fun e => Region.binds .any e && e.on == j
theorem lastB_ok {L : List Oper} {last : Oper} (h : lastB L last = true) : LastOk L.toArray last := by
  unfold lastB at h
  simp only [Bool.and_eq_true, List.all_eq_true, List.mem_range, Array.all_eq_true', Bool.not_eq_true', decide_eq_true_eq, Array.any_eq_true', List.any_eq_true, Bool.or_eq_true, beq_iff_eq, Option.isNone_iff_eq_none] at h
  obtain ⟨⟨⟨⟨h1, h2⟩, h3⟩, h4⟩, h5⟩ := h
  have hj : ∀ (j : Nat) (o : Oper), L.toArray[j]? = some o → (o.guard = none ∧ isDefer o.op = false) ∧ ∀ e ∈ o.after, e.on < j := fun j o ho => by
    have ho' : L[j]? = some o := by simpa using ho
    have := h1 j (List.getElem?_eq_some_iff.1 ho').1
    rw [ho'] at this
    have h6 : (o.guard = none ∧ isDefer o.op = false) ∧ ∀ (i : Nat) (x : i < o.after.size), o.after[i].on < j := by simpa using this
    exact ⟨h6.1, fun e he => by obtain ⟨i, hi, rfl⟩ := Array.mem_iff_getElem.1 he; exact h6.2 i hi⟩
  exact ⟨fun j o ho => isDefer_no (hj j o ho).1.2, fun j o ho => (hj j o ho).1.1, fun j o ho => (hj j o ho).2, fun j hjl => by
    rcases h5 j (by simpa using hjl) with ⟨e, he, hb, ho⟩ | ⟨o, hoL, e, he, hb, ho⟩
    · exact .inl ⟨e, he, hb, ho⟩
    · obtain ⟨k, hk⟩ := List.getElem?_of_mem hoL
      exact .inr ⟨k, o, by simpa using hk, e, he, hb, ho⟩, fun e he => by simpa using h4 e he, h2, isDefer_no h3⟩
section
variable {n l : Nat} {P : Program} {ops : Array Oper} {last : Oper} {Q : Exit → Act → World → Prop} {C : World → Prop} {q : Act → Prop}
theorem getD_push_lt {listed : Array Bool} {i : Nat} (d : Bool) (h : i < listed.size) : (listed.push false).getD i d = listed.getD i d := by
  simp [Array.getD_eq_getD_getElem?, Array.getElem?_push, show i ≠ listed.size by omega]
theorem getD_push_eq {listed : Array Bool} (d : Bool) : (listed.push false).getD listed.size d = false := by
  simp [Array.getD_eq_getD_getElem?]
/-- whatever is listed, all that it waits for is -/
def Cl (ops : Array Oper) (listed : Array Bool) : Prop := ∀ (j : Nat) (o : Oper), ops[j]? = some o → listed.getD j false = true → ∀ e ∈ o.after, Region.binds .any e = true → listed.getD e.on false = true
theorem LastOk.full (ok : LastOk ops last) {listed : Array Bool} (hc : Cl ops listed) (hl : ∀ e ∈ last.after, Region.binds .any e = true → listed.getD e.on false = true) : ∀ (m j : Nat), ops.size - j ≤ m → j < ops.size → listed.getD j false = true
  | 0, j, hm, hj => by omega
  | m + 1, j, hm, hj => by
    rcases ok.all j hj with ⟨e, he, hb, rfl⟩ | ⟨k, o, ho, e, he, hb, rfl⟩
    · exact hl e he hb
    · have hk := (Array.getElem?_eq_some_iff.1 ho).1
      have := ok.bk k o ho e he
      exact hc k o ho (ok.full hc hl m k (by omega) hk) e he hb
theorem Cl.all (ok : LastOk ops last) {listed : Array Bool} (h : ∀ j, j < ops.size → listed.getD j false = true) : Cl ops listed := fun j o ho _ e he _ => h _ (by have := ok.bk j o ho e he; have := (Array.getElem?_eq_some_iff.1 ho).1; omega)
theorem mem_full (ok : LastOk ops last) {listed : Array Bool} (hc : Cl ops listed) (hs : listed.size = ops.size) {i : Nat} :
    i ∈ Region.ready .any (ops.push last) (listed.push false) ↔ i ∈ Region.ready .any ops listed ∨ (i = ops.size ∧ ∀ j, j < ops.size → listed.getD j false = true) := by
  rw [mem_ready, mem_ready]
  constructor
  · rintro ⟨h1, o, ho, h2⟩
    rcases Nat.lt_or_ge i ops.size with hi | hi
    · left
      have ho' : ops[i]? = some o := by simpa [Array.getElem?_push, show i ≠ ops.size by omega] using ho
      exact ⟨by rwa [getD_push_lt _ (by omega)] at h1, o, ho', fun e he hb => by
        have := h2 e he hb
        rwa [getD_push_lt _ (by have := ok.bk i o ho' e he; omega)] at this⟩
    · right
      have hi' : i = ops.size := by
        have := (Array.getElem?_eq_some_iff.1 ho).1
        simp at this; omega
      subst hi'
      have ho' : o = last := by simpa using ho.symm
      subst ho'
      refine ⟨rfl, fun j hj => ok.full hc (fun e he hb => ?_) _ j (Nat.le_refl _) hj⟩
      have := h2 e he hb
      have hlt := ok.lb e he
      rwa [getD_push_lt _ (by omega)] at this
  · rintro (⟨h1, o, ho, h2⟩ | ⟨rfl, h⟩)
    · have hi := (Array.getElem?_eq_some_iff.1 ho).1
      exact ⟨by rwa [getD_push_lt _ (by omega)], o, by simpa [Array.getElem?_push, show i ≠ ops.size by omega] using ho, fun e he hb => by
        have := ok.bk i o ho e he
        rw [getD_push_lt _ (by omega)]; exact h2 e he hb⟩
    · exact ⟨by rw [← hs]; exact getD_push_eq _, last, by simp, fun e he _ => by
        have := ok.lb e he
        rw [getD_push_lt _ (by omega)]; exact h _ this⟩
theorem all_of_none (ok : LastOk ops last) {listed : Array Bool} (hs : listed.size = ops.size) (h : Region.ready .any ops listed = []) : ∀ j, j < ops.size → listed.getD j false = true := by
  intro j
  induction j using Nat.strongRecOn with
  | ind j ih =>
    intro hj
    refine Classical.byContradiction fun hno => ?_
    have hm : j ∈ Region.ready .any ops listed := mem_ready.2 ⟨by
      have : listed.getD j true = listed.getD j false := by simp [Array.getD_eq_getD_getElem?, show j < listed.size by omega]
      rw [this]; simpa using hno, ops[j], by simp [hj], fun e he _ => ih e.on (ok.bk j ops[j] (by simp [hj]) e he) (by have := ok.bk j ops[j] (by simp [hj]) e he; omega)⟩
    rw [h] at hm; cases hm
theorem none_of_all {listed : Array Bool} (h : ∀ j, j < ops.size → listed.getD j false = true) : Region.ready .any ops listed = [] := by
  refine List.eq_nil_iff_forall_not_mem.2 fun i hi => ?_
  obtain ⟨h1, o, ho, _⟩ := mem_ready.1 hi
  have hj := (Array.getElem?_eq_some_iff.1 ho).1
  have h2 := h i hj
  have : listed.getD i true = true := by
    rcases Nat.lt_or_ge i listed.size with hh | hh
    · simp [Array.getD_eq_getD_getElem?, hh] at h2 ⊢; exact h2
    · simp [Array.getD_eq_getD_getElem?, Array.getElem?_eq_none hh]
  rw [h1] at this; cases this
theorem wanted_none {o : Oper} (h : o.guard = none) (f : Nat → Option Bool) : Region.wanted o f = true := by simp [Region.wanted, h]
theorem last_now (ok : LastOk ops last) {fuel : Nat} {listed : Array Bool} {a : Act} {w : World} (hs : listed.size = ops.size) (hall : ∀ j, j < ops.size → listed.getD j false = true)
    (hL : Oper.wpIn Fence.wide n P last a w (Q .normal) Q) : wpAnyIn (Fence.wide.inRound l) n P .any (ops.push last) Q (fuel + 1) (listed.push false) a w := by
  have hmem : ops.size ∈ Region.ready .any (ops.push last) (listed.push false) := (mem_full ok (Cl.all ok hall) hs).2 (.inr ⟨rfl, hall⟩)
  refine ⟨fun h => (by rw [h] at hmem; cases hmem), fun i hi => ?_⟩
  rcases (mem_full ok (Cl.all ok hall) hs).1 hi with h | ⟨rfl, _⟩
  · rw [none_of_all hall] at h; cases h
  · unfold wpOpIn
    simp only [Array.getElem?_push_size, wanted_none ok.lg, if_true]
    refine Oper.wpIn_mono (fun a' w' hq => wpAnyIn_done (none_of_all fun j hj => ?_) hq _) (opIn_round ok.ld hL)
    rw [Array.size_push] at hj
    by_cases he : j = ops.size
    · subst he
      rw [← hs, Array.setIfInBounds, dif_pos (by simp)]
      simp [Array.getD_eq_getD_getElem?]
    · have := hall j (by omega)
      simp only [Array.getD_eq_getD_getElem?, Array.getElem?_setIfInBounds, Array.getElem?_push] at this ⊢
      rw [if_neg (by omega), if_neg (by omega)]
      exact this
theorem any_last (ok : LastOk ops last) (hL : ∀ a w, C w → q a → Oper.wpIn Fence.wide n P last a w (Q .normal) Q) :
    ∀ (fuel : Nat) (listed : Array Bool) (a : Act) (w : World), Cl ops listed → listed.size = ops.size → C w → wpAnyQIn Fence.wide n P .any ops C q fuel listed a → wpAnyIn (Fence.wide.inRound l) n P .any (ops.push last) Q (fuel + 1) (listed.push false) a w
  | 0, listed, a, w, hc, hs, hw, h => last_now ok hs (all_of_none ok hs h.1) (hL a w hw h.2)
  | fuel + 1, listed, a, w, hc, hs, hw, h => by
    by_cases he : Region.ready .any ops listed = []
    · exact last_now ok hs (all_of_none ok hs he) (hL a w hw (h.1 he))
    · refine ⟨fun h0 => ?_, fun i hi => ?_⟩
      · obtain ⟨i, hi⟩ := List.exists_mem_of_ne_nil _ he
        have := (mem_full (last := last) ok hc hs).2 (.inl hi)
        rw [h0] at this; cases this
      · rcases (mem_full ok hc hs).1 hi with hi' | ⟨rfl, hall⟩
        · obtain ⟨_, o, ho, hdeps⟩ := mem_ready.1 hi'
          have hlt := (Array.getElem?_eq_some_iff.1 ho).1
          have hc2 : Cl ops (listed.setIfInBounds i true) := by
            intro j o' ho' hj e he hb
            by_cases hij : i = j
            · subst hij
              rw [ho] at ho'; cases ho'
              have h3 := hdeps e he hb
              simp only [Array.getD_eq_getD_getElem?, Array.getElem?_setIfInBounds] at h3 ⊢
              have := ok.bk i o ho e he
              rw [if_neg (by omega)]; exact h3
            · have hj' : listed.getD j false = true := by
                simp only [Array.getD_eq_getD_getElem?, Array.getElem?_setIfInBounds] at hj ⊢
                rwa [if_neg hij] at hj
              have h3 := hc j o' ho' hj' e he hb
              simp only [Array.getD_eq_getD_getElem?, Array.getElem?_setIfInBounds] at h3 ⊢
              split
              · split <;> first | rfl | (exfalso; omega)
              · exact h3
          have h1 := wpOpIn_of_qOpIn (F := Fence.wide) (Q' := Q) rfl hw (K' := fun a' w' => wpAnyIn (Fence.wide.inRound l) n P .any (ops.push last) Q (fuel + 1) ((listed.setIfInBounds i true).push false) a' w')
            (fun a' w' hw' hh => any_last ok hL fuel _ a' w' hc2 (by simpa using hs) hw' hh) (h.2 i hi')
          unfold wpOpIn at h1 ⊢
          rw [ho] at h1
          have hfull : (ops.push last)[i]? = some o := by simp [Array.getElem?_push, show i ≠ ops.size by omega, ho]
          rw [hfull]
          simp only [wanted_none (ok.ng i o ho), if_true] at h1 ⊢
          have hset : (listed.push false).setIfInBounds i true = (listed.setIfInBounds i true).push false := by
            apply Array.ext_getElem?
            intro k
            simp only [Array.getElem?_setIfInBounds, Array.getElem?_push, Array.size_push, Array.size_setIfInBounds]
            by_cases h1 : i = k
            · subst h1
              simp [show i ≠ listed.size by omega, show i < listed.size by omega, show i < listed.size + 1 by omega]
            · by_cases h2 : k = listed.size
              · simp [h2]; omega
              · simp [h1, h2]
          rw [hset]
          exact opIn_round (ok.nd i o ho) h1
        · exact absurd (none_of_all hall) he
theorem region_round {id : Nat} {M : List Oper} (L : List Oper) {a : Act} {w : World} (hm : P.follows .mixedOrders = true) (hM : M = L ++ [last]) (hB : Region.lexB .any L.toArray = true) (hok : lastB L last = true)
    (h : wpQuietIn Fence.wide n P L.toArray (fun w' => ∃ k, w' = w.drewN k) (fun a' => ∀ w', (∃ k, w' = w.drewN k) → Oper.wpIn Fence.wide n P last a' w' (Q .normal) Q) L a) :
    (Code.region id M.toArray true).wpIn (Fence.wide.inRound l) n P Q a w := by
  subst hM
  refine wpIn_region_any hm ?_
  simp only [Region.lexB, Bool.and_eq_true] at hB
  have h1 := wpAnyQIn_lex (F := Fence.wide) (n := n) (C := fun w' => ∃ k, w' = w.drewN k) (md := .any) hB.1 L.toArray.toList 0 (Array.replicate L.toArray.size false) a (by simp) (by simpa using hB.2) h
  have h2 := any_last (l := l) (Q := Q) (C := fun w' => ∃ k, w' = w.drewN k) (q := fun a' => ∀ w', (∃ k, w' = w.drewN k) → Oper.wpIn Fence.wide n P last a' w' (Q .normal) Q) (lastB_ok hok) (fun a' w' hw' hq => hq w' hw') _ _ _ { w with drawn := w.drawn + 1 } (fun j o _ hj => by simp [Array.getD_eq_getD_getElem?, Array.getElem?_replicate] at hj; split at hj <;> simp at hj) (by simp) ⟨1, rfl⟩ h1
  have e1 : (L ++ [last]).toArray = L.toArray.push last := by simp
  have e2 : Array.replicate (L.toArray.push last).size false = (Array.replicate L.toArray.size false).push false := by simp [Array.replicate_succ]
  rw [e1, e2]
  simpa using h2
/-- the same, for a region whose operations are written out -/
theorem region_round_lit {id : Nat} {M : List Oper} {a : Act} {w : World} (hm : P.follows .mixedOrders = true) (hM : M = M.dropLast ++ [last]) (hB : Region.lexB .any M.dropLast.toArray = true) (hok : lastB M.dropLast last = true)
    (h : wpQuietIn Fence.wide n P M.dropLast.toArray (fun w' => ∃ k, w' = w.drewN k) (fun a' => ∀ w', (∃ k, w' = w.drewN k) → Oper.wpIn Fence.wide n P last a' w' (Q .normal) Q) M.dropLast a) :
    (Code.region id M.toArray true).wpIn (Fence.wide.inRound l) n P Q a w := region_round M.dropLast hm hM hB hok h
end
end Go.Proofs.YtnkmfnnkophccaaDoor
