/- A slice of slices of int that came in, with the bound that the reach lays on each; a card's row's step with that bound. -/
import Derived.Test.YtonalhedjjobeaaDoorRows2
import Derived.Test.YtonalhedjjobeaaDoorCard
namespace Go.Proofs.YtonalhedjjobeaaDoor
open Go.ChangeShapes Go.WideShapes Go.ChangeAt Go.RowKit Go.Joins Go.Deep

theorem weightsAll_mem {H : Type} {P : Program} {e : TypeId} {x : Nat} : ∀ {ds : List (DataW H)} {d : DataW H}, d ∈ ds → x ∈ d.weights P e → x ∈ DataW.weightsAll P e ds
  | d' :: ds, d, hd, hx => by
    rw [DataW.weightsAll, List.mem_append]
    rcases List.mem_cons.1 hd with rfl | hd
    · exact .inl hx
    · exact .inr (weightsAll_mem hd hx)
theorem tr_rounds {H : Type} {enc : TypeId × Value → H} {w : World} {base : Nat} {spare : Nat → Bool} {held : Bool} {fuel : Nat} {v : Value} {x : DataW H × List MemPlace} (h : DataW.trod enc Tryd.prog w base spare held fuel 25 [v] = some x) :
    ∃ (A : Option Addr) (len cap : Nat) (l : List Rw), v = .slice A len cap ∧ len ≤ maxLen ∧ len ≤ cap ∧ RdR w A len l ∧ ((x.1.weights Tryd.prog 25).all (· ≤ reachBytes) = true → ∀ r ∈ l, r.len * 8 ≤ reachBytes) := by
  have ht := Tryd.underlying25
  have hr := Tryd.underlying31
  rcases open_slice1 ht (by kernel_rfl) h with ⟨hcs, rfl⟩ | ⟨a, len, cap, m, n, V, D, Pl, hcs, _, hl, hm, hmm, rfl, hi⟩
  · injection hcs with hcs _
    exact ⟨none, 0, 0, [], hcs, Nat.zero_le _, Nat.le_refl _, ⟨rfl, ⟨rfl, fun h => absurd h (by omega)⟩, by simp⟩, by simp⟩
  · injection hcs with hcs _
    have hlm : len ≤ m := by rw [hmm]; split <;> omega
    obtain ⟨l, hll, hR⟩ := exists_list (default : Rw) len (fun i c => (RFit w c ∧ Fits Tryd.prog 31 (D i) c.len 8) ∧ w.cell? (a.add i) = some (rv c)) (by
      intro i hil
      obtain ⟨h1, h2⟩ := hi i (by omega)
      obtain ⟨A', l', c', zs, hv, m1, m2, m3, m4, m5⟩ := tr_ints (bytes := 8) hr Tryd.underlying3 (by kernel_rfl) (by kernel_rfl) h2
      exact ⟨⟨A', l', c', zs⟩, ⟨⟨m3, m1, m2⟩, m5⟩, by rw [h1, hv]; rfl⟩)
    refine ⟨some a, len, cap, l, hcs, Nat.le_trans hl hm, hl, ⟨hll, ⟨by simp [hll], fun hn => ?_⟩, fun r hr => ?_⟩, fun hw r hr => ?_⟩
    · have h0 := (hR 0 hn).2
      have hsp : a.spot = none := by
        have := World.cell?_spot h0
        simpa [Addr.add] using this
      obtain ⟨b, o, sp⟩ := a
      simp only at hsp
      subst hsp
      rw [add_none] at h0
      refine ⟨b, o, rfl, World.block_lt_of_cell? w _ h0, fun j hj => ?_⟩
      have hjl : j < len := by simpa using hj
      have := (hR j hjl).2
      rw [add_none] at this
      rw [this, List.getElem?_map]
      simp [List.getD, show j < l.length by omega]
    · obtain ⟨i, hi, rfl⟩ := List.getElem_of_mem hr
      have := (hR i (by omega)).1.1
      rwa [List.getD, List.getElem?_eq_getElem hi] at this
    · obtain ⟨i, hi, rfl⟩ := List.getElem_of_mem hr
      have h5 := (hR i (by omega)).1.2
      rw [List.getD, List.getElem?_eq_getElem hi] at h5
      refine h5 (List.all_eq_true.2 fun y hy => List.all_eq_true.1 hw y ?_)
      simp only [DataW.weights, ht, List.mem_cons, List.mem_append]
      refine .inr (.inl (weightsAll_mem (List.mem_map.2 ⟨i, List.mem_range.2 (by omega), rfl⟩) hy))
theorem card_lift_sz {H : Type} {enc : TypeId × Value → H} {C : Checked} {os : Os} {f : FuncId} {fn : Func} {s : ChangeSpec} {F : Stop.Interp} {conds : List PathCond} {tb : TypeId} {laid : List (String × DataW Unit)}
    (own : ownKnob C.prog.godebug = none) (started : os.Started) (noInit : C.prog.inits.idxOf? f = none) (hfn : C.prog.funcs[f]? = some fn) (hl : laidOutB C.prog = true)
    (hp : (fn.params.toList.all fun t => C.prog.readableRec t && decide (t < C.prog.types.size)) = true) (hr : fn.resultTypes = #[tb]) (htb : C.prog.underlying tb = some .bool) (hvars : s.vars = [])
    (hspec : ∀ (H' : Type) (ds : List (DataW H')), ds.length = fn.params.toList.length → s.fn H' ds = { results := [.lit (.bool true)], args := ds })
    (witness : ∃ (w : World) (tape : Tape) (i : Input), w.os = os ∧ (w.forCall tape i).Shaped C.prog ∧ i.vars = [] ∧ Input.okWide C.prog (w.forCall tape i) .any w.heap.size f i ∧
      (OpenSpec.ofChange s).preRow enc C.prog fn conds false laid (w.forCall tape i).memory i.args ∧ ({} : Assume).holds C.prog (lone (Frame.enter C.prog f i.args .normal) [] (w.forCall tape i)))
    (walk : ∀ (W : World) (base : Nat) (args : Array Value) (ds : List (DataW H)) (p : List MemPlace),
      (∀ (j : Nat) t v, fn.params[j]? = some t → args[j]? = some v → Value.okWide C.prog W .any base t v) →
      DataW.TrodAll enc C.prog W 0 (fun _ => true) true fn.params.toList args.toList ds p →
      (DataW.weightsEach C.prog fn.params.toList ds).all (· ≤ reachBytes) = true →
      laidMetH C.prog laid W →
      Calls C.prog f args W fun e W' => e = .returned (.bool true) ∧ Below W.heap.size W W') :
    ReturnsInHanded {} C os f .any ((OpenSpec.ofChange s).preRow enc C.prog fn conds false laid) (((OpenSpec.ofChange s).at F).post enc C.prog fn false true false false) := by
  refine returnsInHanded_of_row (F := F) own started noInit hfn witness ?_
  intro W base args ds gs before hval hW _ _ hsz hL _ _
  have hW : DataW.Whole enc C.prog fn.params.toList s.vars false W args.toList ds gs before := hW
  have hW' := hW
  obtain ⟨p, q, hA, hV, rfl, _, _⟩ := hW
  rw [hvars] at hV
  obtain ⟨rfl, rfl⟩ := trodVars_none hV
  have hvt : (OpenSpec.ofChange s).bare.plain.varTypes C.prog = [] := by
    show s.plain.varTypes C.prog = []
    simp [ChangeSpec.plain, DataSpec.varTypes, hvars]
  rw [hvt, List.append_nil, List.append_nil] at hsz
  refine (walk W base args ds p hval hA hsz hL).mono fun e W' ⟨he, bel⟩ => ?_
  subst he
  have hsp := hspec H ds (trodAll_length _ _ _ _ hA)
  show ∃ v, Ending.returned (.bool true) = .returned v ∧ s.post enc C.prog fn false true false false W args v W'
  refine ⟨_, rfl, ds, [], _, [], p, [], hW', ?_, ?_, ?_, bel.frame _, fun h => by cases h⟩
  · rw [List.append_nil, hsp, hr]
    exact trodAll_mk1 (shut_bool htb _)
  · rw [List.append_nil, hsp]
    exact trodAll_below hl bel _ _ _ _ (fun t ht => by simpa using List.all_eq_true.1 hp t ht) hA
  · rw [hvars, List.append_nil, hsp]
    rfl
end Go.Proofs.YtonalhedjjobeaaDoor
