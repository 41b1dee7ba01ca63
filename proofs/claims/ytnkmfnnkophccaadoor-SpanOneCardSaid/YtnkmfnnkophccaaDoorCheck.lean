/- The program's graph.Check: the same code as the reference's GraphCheck. -/
import Derived.Test.YtnkmfnnkophccaaDoorPairMap
import Derived.Test.YtnkmfnnkophccaaDoorGCheck
namespace Go.Proofs.YtnkmfnnkophccaaDoor
open Go.RowKit

def ofE (e : E) : Int × Int := (min e.1 e.2.1, max e.1 e.2.1)
theorem of_any (a b c : Int) (w : World) :
    Calls Tryd.prog 20 #[.agg #[.int .i64 a, .int .i64 b, .int .i64 c]] w fun e w' => e = .returned (.agg #[.int .i64 (min a b), .int .i64 (max a b)]) ∧ Below w.heap.size w w' := by
  rcases Int.lt_trichotomy a b with h | h | h
  · have h1 := Lib.hid (show min a b = a by omega); have h2 := Lib.hid (show max a b = b by omega)
    go_enter Tryd.func20, Tryd.ntmps20
    go_wp2
    exact bodyPost_ret (v := .agg #[.int .i64 a, .int .i64 b]) (by simp [results, Tryd.results20, go_sem]) rfl ⟨by rw [h1.out, h2.out], ((Below.refl _ _).alloc (Nat.le_refl _) _).alloc (by simp) _⟩
  · subst h
    have h1 := Lib.hid (show min a a = a by omega); have h2 := Lib.hid (show max a a = a by omega)
    go_enter Tryd.func20, Tryd.ntmps20
    go_wp2
    all_goals exact bodyPost_ret (v := .agg #[.int .i64 a, .int .i64 a]) (by simp [results, Tryd.results20, go_sem]) rfl ⟨by rw [h1.out, h2.out], ((Below.refl _ _).alloc (Nat.le_refl _) _).alloc (by simp) _⟩
  · have h1 := Lib.hid (show min a b = b by omega); have h2 := Lib.hid (show max a b = a by omega)
    go_enter Tryd.func20, Tryd.ntmps20
    go_wp2
    exact bodyPost_ret (v := .agg #[.int .i64 b, .int .i64 a]) (by simp [results, Tryd.results20, go_sem]) rfl ⟨by rw [h1.out, h2.out], ((Below.refl _ _).alloc (Nat.le_refl _) _).alloc (by simp) _⟩

theorem check_large (N : Int) (A : Option Addr) (len cap : Nat) (w : World) (hlen : len ≤ 9223372036854775807) (h : glarge N len = true) :
    Calls Tryd.prog 11 #[.agg #[.int .i64 N, .slice A len cap]] w fun e w' => e = .returned (.int .i64 1) ∧ Below w.heap.size w w' := by
  by_cases h1 : N < 0
  · go_enter Tryd.func11, Tryd.ntmps11
    go_wp2
    go_ret
    exact ⟨rfl, (Below.refl _ _).alloc (Nat.le_refl _) _⟩
  · by_cases h2 : 10 < N
    · go_enter Tryd.func11, Tryd.ntmps11
      go_wp2
      go_ret
      exact ⟨rfl, (Below.refl _ _).alloc (Nat.le_refl _) _⟩
    · have h3 : 45 < len := by simp [glarge] at h; omega
      clear h
      go_enter Tryd.func11, Tryd.ntmps11
      go_wp2
      go_ret
      exact ⟨rfl, (Below.refl _ _).alloc (Nat.le_refl _) _⟩

theorem ofE_same (e f : E) : ofE e = ofE f ↔ sameE e f = true := by
  obtain ⟨a, b, c⟩ := e
  obtain ⟨p, q, r⟩ := f
  simp only [ofE, sameE, Prod.mk.injEq, Bool.or_eq_true, Bool.and_eq_true, beq_iff_eq]
  omega
theorem mem_ofE (e : E) (l : List E) : ofE e ∈ l.map ofE ↔ l.any (sameE e) = true := by
  simp only [List.mem_map, List.any_eq_true]
  constructor
  · rintro ⟨f, hf, h⟩; exact ⟨f, hf, (ofE_same e f).1 h.symm⟩
  · rintro ⟨f, hf, h⟩; exact ⟨f, hf, ((ofE_same e f).2 h).symm⟩

set_option maxHeartbeats 3200000 in
set_option maxRecDepth 100000 in
theorem check_small (N : Nat) (A : Option Addr) (len cap : Nat) (es : List E) (w : World) (hr : Rd w A len 3 (ps3 .i64 .i64 .i64 es)) (hN : N ≤ 10) (hl : len ≤ 45) :
    Calls Tryd.prog 11 #[.agg #[.int .i64 N, .slice A len cap]] w fun e w' => e = .returned (.int .i64 (gscan N es)) ∧ Below w.heap.size w w' := by
  have hmm := @run_makeMap Tryd.prog
  have hel := Lib.hid (ps3_len hr)
  have hrH := Lib.hid hr; clear hr
  go_enter Tryd.func11, Tryd.ntmps11
  go_wp2
  have g0 : (w.alloc (Obj.cells #[Value.int IntKind.i64 ↑N, Value.slice A len cap] 27)).cell? ⟨w.heap.size, 0, none⟩ = some (.int .i64 N) := by go_simp
  have g1 : (w.alloc (Obj.cells #[Value.int IntKind.i64 ↑N, Value.slice A len cap] 27)).cell? ⟨w.heap.size, 1, none⟩ = some (.slice A len cap) := by go_simp
  have hS0 : w.heap.size + 1 = (w.alloc (Obj.cells #[Value.int IntKind.i64 ↑N, Value.slice A len cap] 27)).heap.size := by simp
  have hbw0 : Below w.heap.size w (w.alloc (Obj.cells #[Value.int IntKind.i64 ↑N, Value.slice A len cap] 27)) := (Below.refl _ _).alloc (Nat.le_refl _) _
  have hS0H := Lib.hid hS0; clear hS0
  generalize w.alloc (Obj.cells #[Value.int IntKind.i64 ↑N, Value.slice A len cap] 27) = W0 at *
  have hm0 : IsMap (W0.alloc (.map #[] 0)) (w.heap.size + 1) [] 0 := by rw [hS0H.out]; exact isMap_made W0
  have hm0H := Lib.hid hm0; clear hm0
  have hr0 := Lib.hid (hrH.out.later hbw0)
  go_loopw [25] (fun i wr => ∃ k : Nat, k ≤ len ∧ i = .int .i64 k ∧ (∀ j, j < k → echkAt N es j = 0) ∧ IsMap wr (w.heap.size + 1) (mp ((es.take k).map ofE)) k ∧ Below W0.heap.size W0 wr) (fun i _ => len - (intOf i).toNat)
  case atStart => exact ⟨0, Nat.zero_le _, rfl, fun j hj => absurd hj (by omega), hm0H.out, (Below.refl _ _).alloc (Nat.le_refl _) _⟩
  case round =>
    obtain ⟨k, hk, rfl, hz, him, hb⟩ := hrel
    have himH := Lib.hid him; clear him
    have hzH := Lib.hid hz; clear hz
    have hS0 : w.heap.size < W0.heap.size := by have := hS0H.out; omega
    by_cases hlt : k < len
    · have hke : k < es.length := by rw [hel.out]; exact hlt
      have hlk : (List.map ofE (List.take k es)).length = k := by simp; omega
      have q0 := below_cell hb hS0 g0
      have q1 := below_cell hb hS0 g1
      have hat : ∀ a b c, es.getD k (0, 0, 0) = (a, b, c) → echkAt N es k = echk N (es.take k) (a, b, c) := fun a b c h => by rw [echkAt, h]
      have hatH := Lib.hid hat; clear hat
      have htk := Lib.hid (take_succ_getD' es (0, 0, 0) k hke)
      obtain ⟨bb, oo, rfl, hab, hc1, hc2, hc3⟩ := (hr0.out.later hb).triple hlt
      have hres : echkAt N es k ≠ 0 → gscan N es = echkAt N es k := fun h => gscan_some hke hzH.out h
      have hresH := Lib.hid hres; clear hres
      have hbw := hbw0.trans (hb.mono hbw0.size)
      have hSr : w.heap.size + 1 < wr.heap.size := by have := isMap_lt himH.out; omega
      generalize hgd : es.getD k (0, 0, 0) = e at *
      obtain ⟨a, b, c⟩ := e
      dsimp only at hc1 hc2 hc3
      have hat := hatH.out a b c rfl
      have hatH := Lib.hid hat
      have hgdH := Lib.hid hgd; clear hgd hke hat
      go_wp2_with fail
      refine (of_any a b c _).mono ?_
      rintro e w2 ⟨rfl, hb2⟩
      have hbx : Below wr.heap.size wr w2 := ((Below.refl _ _).alloc (Nat.le_refl _) _).trans (hb2.mono (by simp))
      have x0 : w2.cell? ⟨wr.heap.size, 0, none⟩ = some (.int .i64 a) := below_cell hb2 (by simp) (by go_simp)
      have x1 : w2.cell? ⟨wr.heap.size, 1, none⟩ = some (.int .i64 b) := below_cell hb2 (by simp) (by go_simp)
      have x2 : w2.cell? ⟨wr.heap.size, 2, none⟩ = some (.int .i64 c) := below_cell hb2 (by simp) (by go_simp)
      have hSx : wr.heap.size < w2.heap.size := by have := hb2.size; simp at this; omega
      have z0 := below_cell hbx (by omega) q0
      have hS2 : w.heap.size < w2.heap.size := by omega
      have hm2 := Lib.hid (isMap_below himH.out (by omega) hbx)
      clear hb2 q0 q1
      have hof : ofE (a, b, c) = (min a b, max a b) := rfl
      have hin : (0 ≤ min a b ∧ max a b < N) ↔ ((0 ≤ a ∧ a < N) ∧ 0 ≤ b ∧ b < N) := by omega
      have hpq : (min a b = max a b) ↔ a = b := by omega
      generalize min a b = p at *
      generalize max a b = q at *
      have hofH := Lib.hid hof; have hinH := Lib.hid hin; have hpqH := Lib.hid hpq; clear hof hin hpq
      have hbw2 := hbw.trans (hbx.mono hbw.size)
      by_cases hi : 0 ≤ p ∧ q < N
      · have hout := Lib.hid (echk_in (c := c) (hinH.out.1 hi))
        obtain ⟨hi1, hi2⟩ := hi
        cases heq : (p == q)
        · have hne : ¬ a = b := fun h => by have := hpqH.out.2 h; subst this; simp at heq
          have hneH := Lib.hid hne; clear hne
          by_cases hmem : (p, q) ∈ (es.take k).map ofE
          · have hany : (es.take k).any (sameE (a, b, c)) = true := (mem_ofE (a, b, c) _).1 (by rw [hofH.out]; exact hmem)
            have hv : echkAt N es k = 3 := by rw [hatH.out, echk, if_neg (by simp [hout.out]), if_neg (by simpa using hneH.out), if_pos hany]
            have hr3 := Lib.hid ((hresH.out (by omega)).trans hv)
            have hlk2 : (Instr.lookup 53 (.map (some (w.heap.size + 1))) (.agg #[.int .i64 p, .int .i64 q]) false).run Tryd.prog (w2.alloc (Obj.cells #[Value.int IntKind.i64 p, Value.int IntKind.i64 q] 55)) = .ok (.int .i64 1) (w2.alloc (Obj.cells #[Value.int IntKind.i64 p, Value.int IntKind.i64 q] 55)) :=
              look_in (l := (es.take k).map ofE) (c := (p, q)) (by rw [hlk]; exact isMap_alloc hm2.out _) hmem
            clear hmem hany hv hlk
            go_wp2
            go_ret
            exact ⟨by rw [hr3.out]; rfl, hbw2.alloc hbw2.size _⟩
          · have hany : (es.take k).any (sameE (a, b, c)) = false := by
              cases h : (es.take k).any (sameE (a, b, c))
              · rfl
              · exact absurd ((mem_ofE (a, b, c) _).2 h) (by rw [hofH.out]; exact hmem)
            have hv : echkAt N es k = if heavyE (a, b, c) then 4 else 0 := by
              rw [hatH.out, echk, if_neg (by simp [hout.out]), if_neg (by simpa using hneH.out), if_neg (by simp [hany])]
            have hvH := Lib.hid hv
            have hmp : IsMap (w2.alloc (Obj.cells #[Value.int IntKind.i64 p, Value.int IntKind.i64 q] 55)) (w.heap.size + 1) (mp ((es.take k).map ofE)) ((es.take k).map ofE).length := by rw [hlk]; exact isMap_alloc hm2.out _
            have hlk2 : (Instr.lookup 53 (.map (some (w.heap.size + 1))) (.agg #[.int .i64 p, .int .i64 q]) false).run Tryd.prog (w2.alloc (Obj.cells #[Value.int IntKind.i64 p, Value.int IntKind.i64 q] 55)) = .ok (.int .i64 0) (w2.alloc (Obj.cells #[Value.int IntKind.i64 p, Value.int IntKind.i64 q] 55)) :=
              look_out (c := (p, q)) hmp hmem
            have hmpH := Lib.hid hmp; have hmemH := Lib.hid hmem
            clear hmem hany hv hmp
            by_cases hc : -1048576 ≤ c ∧ c ≤ 1048576
            · have hv0 : echkAt N es k = 0 := by rw [hvH.out, if_neg (by simp [heavyE]; omega)]
              have hv0H := Lib.hid hv0; clear hv0
              obtain ⟨hc1', hc2'⟩ := hc
              have hlkH := Lib.hid hlk; clear hlk
              go_wp2
              have hbX : Below W0.heap.size W0 (w2.alloc (Obj.cells #[Value.int IntKind.i64 p, Value.int IntKind.i64 q] 55)) := (hb.trans (hbx.mono hb.size)).alloc (hb.trans (hbx.mono hb.size)).size _
              have y0 : (w2.alloc (Obj.cells #[Value.int IntKind.i64 p, Value.int IntKind.i64 q] 55)).cell? ⟨w2.heap.size, 0, none⟩ = some (.int .i64 p) := by go_simp
              have y1 : (w2.alloc (Obj.cells #[Value.int IntKind.i64 p, Value.int IntKind.i64 q] 55)).cell? ⟨w2.heap.size, 1, none⟩ = some (.int .i64 q) := by go_simp
              generalize w2.alloc (Obj.cells #[Value.int IntKind.i64 p, Value.int IntKind.i64 q] 55) = X at *
              obtain ⟨X2, hX2⟩ : ∃ X2, X2 = setMap X.drew (w.heap.size + 1) (mp ((es.take k).map ofE) ++ [mpe (p, q) 0 ((es.take k).map ofE).length]) (((es.take k).map ofE).length + 1) := ⟨_, rfl⟩
              obtain ⟨X3, hX3⟩ : ∃ X3, X3 = setMap X2 (w.heap.size + 1) (mp ((es.take k).map ofE ++ [(p, q)])) (((es.take k).map ofE).length + 1) := ⟨_, rfl⟩
              have hI2 : IsMap X2 (w.heap.size + 1) (mp ((es.take k).map ofE) ++ [mpe (p, q) 0 ((es.take k).map ofE).length]) (((es.take k).map ofE).length + 1) := by rw [hX2]; exact isMap_set (isMap_drew hmpH.out) _ _
              have e1 := look_out (c := (p, q)) (isMap_drew hmpH.out) hmemH.out
              have e2 := entry_new (c := (p, q)) (isMap_drew hmpH.out) hmemH.out
              have e3 := look_new (c := (p, q)) hI2 hmemH.out
              have e4 := store_new (c := (p, q)) hI2
              have hI3 : IsMap X3 (w.heap.size + 1) (mp ((es.take k).map ofE ++ [(p, q)])) (((es.take k).map ofE).length + 1) := by rw [hX3]; exact isMap_set hI2 _ _
              have hB3 : Below W0.heap.size W0 X3 := by
                rw [hX3, hX2]
                exact setMap_below (setMap_below hbX.drew (by have := hS0H.out; omega) _ _) (by have := hS0H.out; omega) _ _
              rw [← hX2] at e2
              rw [← hX3] at e4
              rw [hlkH.out] at e2 e4
              have hI3' : IsMap X3 (w.heap.size + 1) (mp ((es.take (k + 1)).map ofE)) (k + 1) := by
                rw [hlkH.out] at hI3
                rw [htk.out, List.map_append]
                simpa [hofH.out] using hI3
              have hI3H := Lib.hid hI3'
              unfold pk at e1 e2 e3
              dsimp only at e1 e2 e3
              have hI2H := Lib.hid hI2
              clear hX2 hX3 hI3 hI3' hlk2 hbX hI2
              go_region
              all_goals
                go_wp2
                go_roundw
                case rel =>
                  refine ⟨k + 1, by omega, by go_num, fun i hi => ?_, hI3H.out, hB3⟩
                  rcases Nat.lt_or_ge i k with h' | h'
                  · exact hzH.out i h'
                  · obtain rfl : i = k := by omega
                    exact hv0H.out
                case measure => simp [intOf]; omega
            · have hv0 : echkAt N es k = 4 := by rw [hvH.out, if_pos (by simp [heavyE]; omega)]
              have hr4 := Lib.hid ((hresH.out (by omega)).trans hv0)
              clear hv0 hlk
              go_wp2
              all_goals first
                | (exfalso; omega)
                | (go_ret
                   exact ⟨by rw [hr4.out]; rfl, hbw2.alloc hbw2.size _⟩)
        · have hab' : a = b := hpqH.out.1 (by simpa using heq)
          have hv : echkAt N es k = 3 := by rw [hatH.out, echk, if_neg (by simp [hout.out]), if_pos (by simpa using hab')]
          have hr3 := Lib.hid ((hresH.out (by omega)).trans hv)
          clear hv hab' hlk
          go_wp2
          go_ret
          exact ⟨by rw [hr3.out]; rfl, hbw2.alloc hbw2.size _⟩
      · have hv : echkAt N es k = 2 := by rw [hatH.out, echk, if_pos (echk_out fun h => hi (hinH.out.2 h))]
        have hr3 := Lib.hid ((hresH.out (by omega)).trans hv)
        clear hv hlk
        go_wp2
        all_goals first
          | (exfalso; omega)
          | (go_ret
             exact ⟨by rw [hr3.out]; rfl, hbw2.alloc hbw2.size _⟩)
    · have hr3 := Lib.hid (gscan_none (N := N) (es := es) (by rw [hel.out]; intro j hj; exact hzH.out j (by omega)))
      go_wp2
      go_ret
      exact ⟨by rw [hr3.out]; rfl, hbw0.trans (hb.mono hbw0.size)⟩
end Go.Proofs.YtnkmfnnkophccaaDoor
