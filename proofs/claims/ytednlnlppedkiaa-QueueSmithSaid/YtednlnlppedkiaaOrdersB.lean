/- queue.orders, entered: the cells that it lays, and what it owes whoever ranges over it. -/
import Derived.Test.YtednlnlppedkiaaOrders
namespace Go.Proofs.Ytednlnlppedkiaa
open Go.RowKit Go.Shelf

theorem run_mk0 {n : Nat} (hn : n ≤ 7) (w : World) :
    (Instr.makeSlice 23 (.int .i64 0) (.int .i64 (n : Int))).run Try.prog w = .ok (.slice (some ⟨w.heap.size, 0, none⟩) 0 n) (w.alloc (.cells ((List.replicate n (0 : Int)).map (Value.int .i64)).toArray 3)) := by
  have hi : (Try.prog.info? 3).map (fun i => (i.zero, i.size, i.bytes)) = some (some (.int .i64 0), 1, 8) := by kernel_rfl
  obtain ⟨i0, hi0, hz0, hs0, hb0⟩ := info_parts hi
  have := run_make (P := Try.prog) w 23 3 i0 (.int .i64 0) (by kernel_rfl) hi0 hz0 .i64 .i64 0 n (by omega) (by omega) (by rw [hb0]; omega) (by omega)
  rw [this]
  congr 2
  rw [hs0, Int.toNat_natCast, Nat.mul_one]
  congr 1
  rw [List.map_replicate, ← toList_madeCells_one (.int .i64 0) n]
  rfl
theorem shlF : ∀ n : Nat, n < 8 → IntKind.i64.wrap (IntKind.i64.wrap ((2 : Int) ^ n) - 1) = ((2 ^ n - 1 : Nat) : Int) := by decide +kernel
set_option maxHeartbeats 3200000 in
set_option maxRecDepth 100000 in
theorem orders_any {n lo l : Nat} (hn : n ≤ 7) {J : List (List Nat) → World → Prop} (hJ : Apart lo (lo + 5) J)
    (hY : ∀ pre x W1, J pre W1 → lo + 5 ≤ W1.heap.size → MemQ n (lo + 2) x W1 → YieldAt Fence.wide 0 Try.prog l #[.slice (some ⟨lo + 2, 0, none⟩) n n] W1 fun e W' => e = .returned (.bool true) ∧ J (pre ++ [x]) W' ∧ KpR lo (lo + 5) W1 W')
    (W : World) (hlo : W.heap.size = lo) (h0 : J [] W) :
    Calls Try.prog 29 #[.int .i64 n, .func (.yield l) #[] #[]] W fun e W' => (∃ v, e = .returned v) ∧ ∃ xs, (∀ q, q.Perm (List.range n) → q ∈ xs) ∧ J xs W' := by
  subst hlo
  have hmk := run_mk0 hn
  have hsh := shlF n (by omega)
  have hon := Lib.hid (fun W' (h : OSt n W.heap.size l [] W') h2 (h3 : J [] W') => on_any hn hJ hY n [] (2 ^ n - 1) [] W' (by simp) (by simp) (by simp) (LeftOk.full n) h h2 h3)
  have hJH := Lib.hid hJ
  have h0H := Lib.hid h0
  clear hJ hY h0
  refine (callsIn_wide (n := 1)).1 (callsIn_of_wp Try.func29 rfl trivial ?_ rfl)
  simp only [Try.ntmps29, List.size_toArray, List.length_cons, List.length_nil, Nat.reduceAdd, Nat.reduceSub, Array.replicate_succ, Array.replicate_zero, List.push_toArray, List.append_toArray, List.nil_append, List.cons_append]
  gi_wp2
  generalize hwE : (((((W.alloc (.cells #[.int .i64 n] 3)).alloc (.cells #[.func (.yield l) #[] #[]] 50)).alloc (.cells (Array.replicate n (.int .i64 0)) 3)).alloc
      (.cells #[.slice (some ⟨W.heap.size + 1 + 1, 0, none⟩) 0 n] 23)).alloc (.cells #[.func (.func 33) #[] #[.pointer (some ⟨W.heap.size + 1, 0, none⟩), .pointer (some ⟨W.heap.size + 1 + 1 + 1, 0, none⟩), .pointer (some ⟨W.heap.size, 0, none⟩), .pointer (some ⟨W.heap.size + 1 + 1 + 1 + 1, 0, none⟩)]] 56)) = wE
  have hsz : wE.heap.size = W.heap.size + 5 := by rw [← hwE]; simp
  have hS : OSt n W.heap.size l [] wE := by
    rw [← hwE]
    refine ⟨((((Boxed.new W _ _).alloc _).alloc _).alloc _).alloc _, ?_, ⟨List.replicate n 0, by simp, by simp [natI], ?_⟩, ?_, ?_⟩
    · have h := (((Boxed.new (W.alloc (.cells #[.int .i64 n] 3)) 50 (.func (.yield l) #[] #[])).alloc (.cells (Array.replicate n (.int .i64 0)) 3)).alloc (.cells #[.slice (some ⟨W.heap.size + 1 + 1, 0, none⟩) 0 n] 23)).alloc (.cells #[OnV W.heap.size] 56)
      simp only [World.size_alloc] at h
      exact h
    · have h := World.alloc_heap_new ((W.alloc (.cells #[.int .i64 n] 3)).alloc (.cells #[.func (.yield l) #[] #[]] 50)) (.cells (Array.replicate n (.int .i64 0)) 3)
      simp only [World.size_alloc] at h
      rw [Below.heap_alloc _ _ _ (by simp), Below.heap_alloc _ _ _ (by simp), h]
      simp
    · have h := (Boxed.new (((W.alloc (.cells #[.int .i64 n] 3)).alloc (.cells #[.func (.yield l) #[] #[]] 50)).alloc (.cells (Array.replicate n (.int .i64 0)) 3)) 23 (.slice (some ⟨W.heap.size + 1 + 1, 0, none⟩) 0 n)).alloc (.cells #[OnV W.heap.size] 56)
      simp only [World.size_alloc] at h
      exact h
    · have h := Boxed.new ((((W.alloc (.cells #[.int .i64 n] 3)).alloc (.cells #[.func (.yield l) #[] #[]] 50)).alloc (.cells (Array.replicate n (.int .i64 0)) 3)).alloc (.cells #[.slice (some ⟨W.heap.size + 1 + 1, 0, none⟩) 0 n] 23)) 56 (OnV W.heap.size)
      simp only [World.size_alloc] at h
      exact h
  have hJ1 : J [] wE := by
    rw [← hwE]
    exact hJH.out _ _ _ _ (hJH.out _ _ _ _ (hJH.out _ _ _ _ (hJH.out _ _ _ _ (hJH.out _ _ _ _ h0H.out (World.grownBy_alloc _ _ none) (by simp)) (World.grownBy_alloc _ _ none) (by simp)) (World.grownBy_alloc _ _ none) (by simp)) (World.grownBy_alloc _ _ none) (by simp)) (World.grownBy_alloc _ _ none) (by simp)
  clear hwE
  have hnb := hS.nb.cell; have hob := hS.ob.cell; unfold OnV at hob
  have hC := Lib.hid (hon.out wE.drew (hS.kp ⟨Nat.le_refl _, fun _ _ _ => rfl⟩) (by show _ ≤ wE.heap.size; omega) (hJH.out _ _ _ none hJ1 ⟨rfl, rfl, rfl, Nat.le_refl _, fun _ _ _ => rfl⟩ (by simp)))
  have hl4 : W.heap.size + 4 < wE.heap.size := by omega
  have hl0 : W.heap.size < wE.heap.size := by omega
  clear hS hJ1
  refine wpIn_wide.2 ?_
  go_region_held3 (fun w' => w'.cell? ⟨W.heap.size + 4, 0, none⟩ = some (.func (.func 33) #[] #[.pointer (some ⟨W.heap.size + 1, 0, none⟩), .pointer (some ⟨W.heap.size + 3, 0, none⟩), .pointer (some ⟨W.heap.size, 0, none⟩), .pointer (some ⟨W.heap.size + 4, 0, none⟩)]) ∧ w'.cell? ⟨W.heap.size, 0, none⟩ = some (.int .i64 n)) ((first | go_keep | assumption)) ((first
    | (go_at_call 33
       (go_loud (with_reducible refine hC.out.mono ?_))
       rintro e W3 ⟨rfl, hS3, hsz3, ys2, hJ3, hall3⟩
       have hob3 := hS3.ob.cell; unfold OnV at hob3
       have hnb3 := hS3.nb.cell)
    | fail))
  gi_wp2
  refine bodyPost_end (results_none rfl _ _ _) rfl ?_
  exact ⟨⟨_, rfl⟩, ys2, fun q hq => by simpa using hall3 q (by simpa using hq), by simpa using hJ3⟩
set_option maxHeartbeats 3200000 in
set_option maxRecDepth 100000 in
theorem best1_any {n nb : Nat} {w : World} (hn : n ≤ 7) (hb : Boxed w nb 3 (.int .i64 n)) :
    SeqFresh 5 Try.prog 28 #[.pointer (some ⟨nb, 0, none⟩)] (fun (_ : List Nat) => #[.slice (some ⟨w.heap.size + 2 + 2, 0, none⟩) n n]) (w.heap.size + 2) (w.heap.size + 2 + 5) (MemQ n (w.heap.size + 2 + 2))
      (fun xs => ∀ q, q.Perm (List.range n) → q ∈ xs) w := by
  intro l J W hbW hsz hl hJ hY h0
  have hb' : Boxed W nb 3 (.int .i64 n) := (hbW.block nb hb.lt).trans hb
  have hcb := hb'.cell
  rw [← hsz] at hJ hY
  have hC := Lib.hid (orders_any hn hJ (by rw [show W.heap.size + 5 = W.heap.size + 5 from rfl]; exact hY) W rfl h0)
  clear hJ hY h0
  refine (callsIn_of_wp Try.func28 rfl trivial ?_ rfl)
  simp only [Try.ntmps28, List.size_toArray, List.length_cons, List.length_nil, Nat.reduceAdd, Nat.reduceSub, Array.replicate_succ, Array.replicate_zero, List.push_toArray, List.append_toArray, List.nil_append, List.cons_append]
  gi_wp2
  refine ⟨trivial, (callsIn_wide.2 hC.out).mono ?_⟩
  rintro e W3 ⟨⟨v, rfl⟩, xs, hS, hJx⟩
  gi_wp2
  refine bodyPost_end (results_none rfl _ _ _) rfl ?_
  exact ⟨⟨_, rfl⟩, xs, hS, hJx⟩
end Go.Proofs.Ytednlnlppedkiaa
