/- The graphs without an edge, and with both its nodes in one: their colourings together. No program in sight. -/
import Derived.Test.YtnpgnohnpbdblaaDoorWhitneyLaw
import Derived.Test.YtnpgnohnpbdblaaDoorPaintD
namespace Go.Proofs.YtnpgnohnpbdblaaDoor
open Go.RowKit

/-- nothing is wrong with any edge -/
structure OkL (N : Int) (es : List E) : Prop where
  each : ∀ e ∈ es, outE N e = false ∧ e.1 ≠ e.2.1 ∧ heavyE e = false
  two : es.Pairwise fun f e => sameE e f = false
theorem echk_zero {N : Int} {pre : List E} {e : E} : echk N pre e = 0 ↔ (outE N e = false ∧ e.1 ≠ e.2.1 ∧ heavyE e = false) ∧ ∀ f ∈ pre, sameE e f = false := by
  unfold echk
  cases h1 : outE N e
  · by_cases h2 : e.1 = e.2.1
    · simp [h2]
    · cases h3 : pre.any (sameE e)
      · rw [List.any_eq_false] at h3
        cases h4 : heavyE e
        · simp [h2]; exact fun a b c hm => by simpa using h3 _ hm
        · simp [h2]
      · obtain ⟨f, hf, hs⟩ := List.any_eq_true.1 h3
        simp [h2]
        exact fun _ => ⟨f.1, f.2.1, f.2.2, hf, hs⟩
  · simp
theorem okL_iff {N : Int} {es : List E} : OkL N es ↔ ∀ j, j < es.length → echkAt N es j = 0 := by
  constructor
  · intro h j hj
    refine echk_zero.2 ⟨h.each _ (by rw [List.getD, List.getElem?_eq_getElem hj]; exact List.getElem_mem _), fun f hf => ?_⟩
    obtain ⟨i, hi, rfl⟩ := List.getElem_of_mem hf
    have hij : i < j := by simp at hi; omega
    have := List.pairwise_iff_getElem.1 h.two i j (by omega) hj hij
    rw [List.getD, List.getElem?_eq_getElem hj]
    simpa using this
  · intro h
    refine ⟨fun e he => ?_, List.pairwise_iff_getElem.2 fun i j hi hj hij => ?_⟩
    · obtain ⟨j, hj, rfl⟩ := List.getElem_of_mem he
      have := (echk_zero.1 (h j hj)).1
      rwa [List.getD, List.getElem?_eq_getElem hj] at this
    · have := (echk_zero.1 (h j hj)).2 es[i] (List.mem_take_iff_getElem.2 ⟨i, by omega, rfl⟩)
      rwa [List.getD, List.getElem?_eq_getElem hj] at this
theorem gchk_iff {N : Int} {es : List E} : gchk N es = 0 ↔ glarge N es.length = false ∧ OkL N es := by
  rw [okL_iff]
  constructor
  · intro h
    have hL : glarge N es.length = false := by
      cases hl : glarge N es.length
      · rfl
      · rw [gchk_large hl] at h; omega
    exact ⟨hL, (gchk_ok h).2.2.2.2⟩
  · rintro ⟨h1, h2⟩
    rw [gchk_small h1, gscan_none h2]
theorem OkL.ok {n : Nat} {es : List E} (h : OkL n es) : ∀ e ∈ es, okE n e := fun e he => by
  obtain ⟨h1, h2, _⟩ := h.each e he
  simp [outE] at h1
  exact ⟨e.1.toNat, e.2.1.toNat, by omega, by omega, by omega, by omega, by omega⟩
theorem erase_mem {α : Type} {l : List α} {i : Nat} (hi : i < l.length) (x : α) : x ∈ l ↔ x = l[i] ∨ x ∈ l.eraseIdx i := by
  conv => lhs; rw [← List.take_append_drop i l, List.drop_eq_getElem_cons hi]
  rw [List.eraseIdx_eq_take_drop_succ]
  simp only [List.mem_append, List.mem_cons]
  constructor
  · rintro (h | h | h)
    · exact .inr (.inl h)
    · exact .inl h
    · exact .inr (.inr h)
  · rintro (h | h | h)
    · exact .inr (.inl h)
    · exact .inl h
    · exact .inr (.inr h)
theorem fewer_ok {N : Int} {es : List E} {i : Nat} (h : gchk N es = 0) (hi : i < es.length) : gchk N (es.eraseIdx i) = 0 := by
  obtain ⟨h1, h2⟩ := gchk_iff.1 h
  refine gchk_iff.2 ⟨?_, fun e he => h2.each e ((erase_mem hi e).2 (.inr he)), h2.two.sublist (List.eraseIdx_sublist _ _)⟩
  rw [List.length_eraseIdx, if_pos hi]
  simp [glarge] at h1 ⊢
  omega
theorem adj_erase {es : List E} {i : Nat} (hi : i < es.length) (x y : Nat) : adj es x y = (adjE x y es[i] || adj (es.eraseIdx i) x y) := by
  unfold adj
  rw [Bool.eq_iff_iff, Bool.or_eq_true, List.any_eq_true, List.any_eq_true]
  constructor
  · rintro ⟨e, he, h⟩
    rcases (erase_mem hi e).1 he with rfl | he
    · exact .inl h
    · exact .inr ⟨e, he, h⟩
  · rintro (h | ⟨e, he, h⟩)
    · exact ⟨_, List.getElem_mem hi, h⟩
    · exact ⟨e, (erase_mem hi e).2 (.inr he), h⟩
/-- one edge more, both nodes of an edge in one -/
def mvB (a b x : Nat) : Nat := if x = b then a else x
theorem rnB_mv (a b x : Nat) : rnB a b x = if b < mvB a b x then mvB a b x - 1 else mvB a b x := rfl
def mergeB (a b : Nat) (acc : List E) (e : E) : List E :=
  if mvB a b e.1.toNat = mvB a b e.2.1.toNat then acc
  else if adj acc (rnB a b e.1.toNat) (rnB a b e.2.1.toNat) then acc
  else acc ++ [(((rnB a b e.1.toNat : Nat) : Int), ((rnB a b e.2.1.toNat : Nat) : Int), e.2.2)]
def mergeE (a b : Nat) (es : List E) : List E := es.foldl (mergeB a b) []
theorem mergeE_snoc (a b : Nat) (es : List E) (e : E) : mergeE a b (es ++ [e]) = mergeB a b (mergeE a b es) e := by simp [mergeE]
theorem rnB_ne {a b x y : Nat} (hab : a ≠ b) (h : mvB a b x ≠ mvB a b y) : rnB a b x ≠ rnB a b y := by
  have hx : mvB a b x ≠ b := by unfold mvB; split <;> omega
  have hy : mvB a b y ≠ b := by unfold mvB; split <;> omega
  rw [rnB_mv, rnB_mv]
  split <;> split <;> omega
theorem adj_snoc (es : List E) (e : E) (x y : Nat) : adj (es ++ [e]) x y = (adj es x y || adjE x y e) := by simp [adj]
theorem adj_comm (es : List E) (x y : Nat) : adj es x y = adj es y x := by
  unfold adj
  congr 1
  funext e
  unfold adjE
  rw [Bool.or_comm]
structure MgI (n a b : Nat) (es acc : List E) : Prop where
  ok : OkL ((n : Int) - 1) acc
  len : acc.length ≤ es.length
  inn : ∀ e ∈ es, mvB a b e.1.toNat ≠ mvB a b e.2.1.toNat → adj acc (rnB a b e.1.toNat) (rnB a b e.2.1.toNat) = true
  fro : ∀ f ∈ acc, ∃ e ∈ es, mvB a b e.1.toNat ≠ mvB a b e.2.1.toNat ∧ f.1 = (rnB a b e.1.toNat : Nat) ∧ f.2.1 = (rnB a b e.2.1.toNat : Nat)
theorem merge_inv {n a b : Nat} (ha : a < n) (hb : b < n) (hab : a ≠ b) : ∀ (m : Nat) (es : List E), es.length = m → OkL n es → MgI n a b es (mergeE a b es) := by
  intro m
  induction m with
  | zero =>
    intro es hl _
    obtain rfl := List.eq_nil_of_length_eq_zero hl
    exact ⟨⟨by simp [mergeE], by simp [mergeE]⟩, by simp [mergeE], by simp, by simp [mergeE]⟩
  | succ m ih =>
    intro es hl hok
    rcases List.eq_nil_or_concat es with rfl | ⟨es', e, rfl⟩
    · simp at hl
    · rw [List.concat_eq_append] at *
      have hok' : OkL n es' := ⟨fun f hf => hok.each f (by simp [hf]), (List.pairwise_append.1 hok.two).1⟩
      have h := ih es' (by simpa using hl) hok'
      obtain ⟨x, y, hx, hy, hxn, hyn, hne⟩ := hok.ok e (by simp)
      have hheavy := (hok.each e (by simp)).2.2
      rw [mergeE_snoc]
      generalize mergeE a b es' = acc at h
      unfold mergeB
      rw [hx, hy, Int.toNat_natCast, Int.toNat_natCast]
      by_cases h1 : mvB a b x = mvB a b y
      · rw [if_pos h1]
        refine ⟨h.ok, by have := h.len; simp; omega, fun f hf hm => ?_, fun f hf => ?_⟩
        · rcases List.mem_append.1 hf with hf | hf
          · exact h.inn f hf hm
          · obtain rfl : f = e := by simpa using hf
            rw [hx, hy, Int.toNat_natCast, Int.toNat_natCast] at hm
            exact absurd h1 hm
        · obtain ⟨g, hg, h2⟩ := h.fro f hf
          exact ⟨g, by simp [hg], h2⟩
      · rw [if_neg h1]
        cases hadj : adj acc (rnB a b x) (rnB a b y)
        · rw [if_neg (by simp)]
          refine ⟨⟨fun f hf => ?_, List.pairwise_append.2 ⟨h.ok.two, by simp, fun f hf g hg => ?_⟩⟩, by have := h.len; simp; omega, fun f hf hm => ?_, fun f hf => ?_⟩
          · rcases List.mem_append.1 hf with hf | hf
            · exact h.ok.each f hf
            · have hfe : f = (((rnB a b x : Nat) : Int), ((rnB a b y : Nat) : Int), e.2.2) := by simpa using hf
              have l1 := rnB_lt ha hb hab hxn
              have l2 := rnB_lt ha hb hab hyn
              have l3 := rnB_ne hab h1
              rw [hfe]
              refine ⟨?_, ?_, by simpa [heavyE] using hheavy⟩
              · simp [outE]; omega
              · simp; omega
          · have hge : g = (((rnB a b x : Nat) : Int), ((rnB a b y : Nat) : Int), e.2.2) := by simpa using hg
            subst hge
            simpa [adj, adjE, sameE] using List.any_eq_false.1 hadj f hf
          · rw [adj_snoc]
            rcases List.mem_append.1 hf with hf | hf
            · rw [h.inn f hf hm, Bool.true_or]
            · obtain rfl : f = e := by simpa using hf
              rw [hx, hy, Int.toNat_natCast, Int.toNat_natCast]
              simp [adjE]
          · rcases List.mem_append.1 hf with hf | hf
            · obtain ⟨g, hg, h2⟩ := h.fro f hf
              exact ⟨g, by simp [hg], h2⟩
            · have hfe : f = (((rnB a b x : Nat) : Int), ((rnB a b y : Nat) : Int), e.2.2) := by simpa using hf
              subst hfe
              exact ⟨e, by simp, by rw [hx, hy, Int.toNat_natCast, Int.toNat_natCast]; exact ⟨h1, rfl, rfl⟩⟩
        · rw [if_pos rfl]
          refine ⟨h.ok, by have := h.len; simp; omega, fun f hf hm => ?_, fun f hf => ?_⟩
          · rcases List.mem_append.1 hf with hf | hf
            · exact h.inn f hf hm
            · obtain rfl : f = e := by simpa using hf
              rw [hx, hy, Int.toNat_natCast, Int.toNat_natCast]
              exact hadj
          · obtain ⟨g, hg, h2⟩ := h.fro f hf
            exact ⟨g, by simp [hg], h2⟩
theorem merge_ok {n a b : Nat} {es : List E} (h : gchk n es = 0) (ha : a < n) (hb : b < n) (hab : a ≠ b) : gchk (n - 1 : Nat) (mergeE a b es) = 0 := by
  obtain ⟨h1, h2⟩ := gchk_iff.1 h
  have hm := merge_inv ha hb hab _ es rfl h2
  rw [show (((n - 1 : Nat)) : Int) = (n : Int) - 1 by omega]
  refine gchk_iff.2 ⟨?_, hm.ok⟩
  have := hm.len
  simp [glarge] at h1 ⊢
  omega
theorem mvB_ne {a b x y : Nat} (hxy : x ≠ y) (h : ¬((x = a ∧ y = b) ∨ (x = b ∧ y = a))) : mvB a b x ≠ mvB a b y := by
  unfold mvB
  split <;> split <;> omega
theorem preL_nil : preL [] = fun _ => -1 := by funext j; simp [preL]
theorem Cnt_all {ns : List Nat} {n k : Nat} (g : Gr n ns) (hk : k ≤ 12) : Cnt ns k n 0 (fun _ => -1) = ((allK k n).filter fun m => propL ns m).length := by
  have := Cnt_lists g hk n [] (by simp) (by simp) (propL_iff.2 (by simp))
  rw [preL_nil] at this
  simpa using this
theorem whitney {n k i a b : Nat} {c : Int} {es : List E} (h : gchk n es = 0) (hk : k ≤ 12) (hi : i < es.length) (he : es.getD i (0, 0, 0) = ((a : Int), (b : Int), c)) (ha : a < n) (hb : b < n) (hab : a ≠ b) :
    Cnt (nearW n (es.eraseIdx i)) k n 0 (fun _ => -1) = Cnt (nearW n es) k n 0 (fun _ => -1) + Cnt (nearW (n - 1) (mergeE a b es)) k (n - 1) 0 (fun _ => -1) := by
  have hei : es[i] = ((a : Int), (b : Int), c) := by rw [← he, List.getD, List.getElem?_eq_getElem hi]; rfl
  have h1 := fewer_ok h hi
  have h2 := merge_ok h ha hb hab
  obtain ⟨_, hO⟩ := gchk_iff.1 h
  obtain ⟨_, hO1⟩ := gchk_iff.1 h1
  obtain ⟨_, hO2⟩ := gchk_iff.1 h2
  have hm := merge_inv ha hb hab _ es rfl hO
  have g0 := nearGr h; have g1 := nearGr h1; have g2 := nearGr h2
  have b0 : ∀ x y, x < n → nb (nearW n es) x y = adj es x y := fun x y hx => nearW_bit es hO.ok x y hx
  have b1 : ∀ x y, x < n → nb (nearW n (es.eraseIdx i)) x y = adj (es.eraseIdx i) x y := fun x y hx => nearW_bit _ hO1.ok x y hx
  have b2 : ∀ x y, x < n - 1 → nb (nearW (n - 1) (mergeE a b es)) x y = adj (mergeE a b es) x y := fun x y hx => nearW_bit _ hO2.ok x y hx
  have hne : ∀ f ∈ es.eraseIdx i, sameE ((a : Int), (b : Int), c) f = false := fun f hf => by
    rw [List.eraseIdx_eq_take_drop_succ] at hf
    rw [← hei]
    have hp := hO.two
    rw [← List.take_append_drop i es, List.drop_eq_getElem_cons hi] at hp
    obtain ⟨_, hp2, hp3⟩ := List.pairwise_append.1 hp
    rcases List.mem_append.1 hf with hf | hf
    · exact hp3 f hf _ List.mem_cons_self
    · have := (List.pairwise_cons.1 hp2).1 f hf
      rw [hei] at this ⊢
      simp only [sameE, Bool.or_eq_false_iff, Bool.and_eq_false_iff, beq_eq_false_iff_ne] at this ⊢
      omega
  rw [Cnt_all g0 hk, Cnt_all g1 hk, Cnt_all g2 hk, filter_split (allK k n) (propL (nearW n (es.eraseIdx i))) (fun m => m.getD a 0 == m.getD b 0)]
  congr 1
  · congr 1
    refine List.filter_congr fun m hm' => ?_
    have hl := (mem_allK.1 hm').1
    rw [Bool.eq_iff_iff, Bool.and_eq_true, propL_iff, propL_iff, hl]
    constructor
    · rintro ⟨p, q⟩ x y hx hy hn
      rw [b0 x y hx, adj_erase hi, Bool.or_eq_true] at hn
      rcases hn with hn | hn
      · rw [hei] at hn
        simp [adjE] at hn
        have q : m.getD a 0 ≠ m.getD b 0 := by simpa using q
        rcases hn with ⟨h3, h4⟩ | ⟨h3, h4⟩
        · obtain rfl : a = x := by omega
          obtain rfl : b = y := by omega
          exact q
        · obtain rfl : a = y := by omega
          obtain rfl : b = x := by omega
          exact q.symm
      · exact p x y hx hy (by rw [b1 x y hx]; exact hn)
    · intro p
      refine ⟨fun x y hx hy hn => p x y hx hy ?_, ?_⟩
      · rw [b1 x y hx] at hn
        rw [b0 x y hx, adj_erase hi, hn, Bool.or_true]
      · have := p a b ha hb (by rw [b0 a b ha, adj_erase hi, hei]; simp [adjE])
        simpa using this
  · refine merged_count g1 ha hb hab (fun x y hn => ?_) (fun p q hn => ?_)
    · obtain ⟨hx, hy, _, _⟩ := g1.ok x y hn
      rw [b1 x y hx] at hn
      obtain ⟨f, hf, hfe⟩ := List.any_eq_true.1 hn
      obtain ⟨u, v, hu, hv, hun, hvn, huv⟩ := hO1.ok f hf
      have hs := hne f hf
      have hmv : mvB a b u ≠ mvB a b v := mvB_ne huv fun hh => by
        simp [sameE, hu, hv] at hs
        omega
      have ht := hm.inn f ((erase_mem hi f).2 (.inr hf)) (by rw [hu, hv]; exact hmv)
      rw [hu, hv, Int.toNat_natCast, Int.toNat_natCast] at ht
      rw [b2 _ _ (rnB_lt ha hb hab hx)]
      simp [adjE, hu, hv] at hfe
      rcases hfe with ⟨h3, h4⟩ | ⟨h3, h4⟩
      · obtain rfl : u = x := by omega
        obtain rfl : v = y := by omega
        exact ht
      · obtain rfl : u = y := by omega
        obtain rfl : v = x := by omega
        rw [adj_comm]; exact ht
    · obtain ⟨hp, hq, _, _⟩ := g2.ok p q hn
      rw [b2 p q hp] at hn
      obtain ⟨f, hf, hfe⟩ := List.any_eq_true.1 hn
      obtain ⟨e, hem, hmv, h3, h4⟩ := hm.fro f hf
      obtain ⟨u, v, hu, hv, hun, hvn, huv⟩ := hO.ok e hem
      rw [hu, hv, Int.toNat_natCast, Int.toNat_natCast] at hmv
      rw [hu, Int.toNat_natCast] at h3
      rw [hv, Int.toNat_natCast] at h4
      have hadj : adj (es.eraseIdx i) u v = true := by
        rcases (erase_mem hi e).1 hem with rfl | he'
        · rw [hei] at hu hv
          obtain rfl : a = u := by simp at hu; omega
          obtain rfl : b = v := by simp at hv; omega
          simp [mvB, hab] at hmv
        · exact List.any_eq_true.2 ⟨e, he', by simp [adjE, hu, hv]⟩
      simp [adjE, h3, h4] at hfe
      rcases hfe with ⟨h5, h6⟩ | ⟨h5, h6⟩
      · exact ⟨u, v, by rw [b1 u v hun]; exact hadj, by omega, by omega⟩
      · exact ⟨v, u, by rw [b1 v u hvn, adj_comm]; exact hadj, by omega, by omega⟩
theorem Cnt_free {n k : Nat} (hk : k ≤ 12) : ∀ (d i : Nat) (L : Nat → Int), (∀ j, L j < 32) → Cnt (nearW n []) k d i L = k ^ d
  | 0, _, _, _ => by simp [Cnt]
  | d + 1, i, L, hL => by
    rw [Cnt_succ hL (by omega)]
    rw [map_sum_congr (g := fun _ => k ^ d) fun c hc => by
      have hc := List.mem_range.1 hc
      have ho : okc (nearW n []) L i c = true := by
        unfold okc
        have hz : (nearW n []).getD i 0 = 0 := by
          simp [nearW, List.getD]
          rcases Nat.lt_or_ge i n with h | h
          · rw [List.getElem?_replicate, if_pos h]; rfl
          · rw [List.getElem?_replicate, if_neg (by omega)]; rfl
        rw [hz]
        simp [bitsL]
      rw [if_pos ho]
      exact Cnt_free hk d (i + 1) _ (fun j => by unfold updN; split <;> (try exact hL j); omega)]
    rw [sum_const, List.length_range, Nat.pow_succ, Nat.mul_comm]
end Go.Proofs.YtnpgnohnpbdblaaDoor
