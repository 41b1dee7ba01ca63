/- Nets: arcs in memory; the code of what is wrong with a net. -/
import Derived.Test.YtgengjneccpaiaaRows
import Derived.Test.YtgengjneccpaiaaOpen
namespace Go.Proofs.Ytgengjneccpaiaa
open Go.RowKit

/-- an arc: from, to, most, fee -/
abbrev Arc := Int × Int × Int × Int
def av (a : Arc) : List Value := [.int .i64 a.1, .int .i64 a.2.1, .int .i64 a.2.2.1, .int .i64 a.2.2.2]
def arcs (l : List Arc) : List Value := l.flatMap av
def aat (l : List Arc) (k : Nat) : Arc := l.getD k (0, 0, 0, 0)
theorem arcs_length {l : List Arc} : (arcs l).length = l.length * 4 := flat_length (s := 4) (fun _ => rfl) l
theorem arcs_one {l : List Arc} : ∀ u ∈ arcs l, u.oneCell' = true := by
  intro u hu
  simp only [arcs, List.mem_flatMap] at hu
  obtain ⟨c, _, hc⟩ := hu
  simp [av] at hc
  rcases hc with rfl | rfl | rfl | rfl <;> rfl
section
variable {w : World} {A : Option Addr} {n : Nat} {l : List Arc}
theorem arcs_len (h : Rd w A n 4 (arcs l)) : l.length = n := by have := h.1; rw [arcs_length] at this; omega
theorem Rd.arc (h : Rd w A n 4 (arcs l)) {k : Nat} (hk : k < n) : ∃ b o, A = some ⟨b, o, none⟩ ∧ b < w.heap.size ∧ w.cell? ⟨b, o + k * 4, none⟩ = some (.int .i64 (aat l k).1) ∧ w.cell? ⟨b, o + k * 4 + 1, none⟩ = some (.int .i64 (aat l k).2.1) ∧
    w.cell? ⟨b, o + k * 4 + 2, none⟩ = some (.int .i64 (aat l k).2.2.1) ∧ w.cell? ⟨b, o + k * 4 + 3, none⟩ = some (.int .i64 (aat l k).2.2.2) := by
  have hl := arcs_len h
  have hg : ∀ j, j < 4 → (arcs l)[k * 4 + j]? = (av (aat l k))[j]? := by
    intro j hj
    rw [arcs, flat_get (s := 4) (fun _ => rfl) l k j hj]
    simp [aat, List.getD, show k < l.length by omega]
  obtain ⟨b, o, rfl, hlt, hc⟩ := h.2 (by omega)
  refine ⟨b, o, rfl, hlt, ?_, ?_, ?_, ?_⟩
  · rw [hc (k * 4) (by omega)]; exact hg 0 (by omega)
  · rw [Nat.add_assoc, hc (k * 4 + 1) (by omega)]; exact hg 1 (by omega)
  · rw [Nat.add_assoc, hc (k * 4 + 2) (by omega)]; exact hg 2 (by omega)
  · rw [Nat.add_assoc, hc (k * 4 + 3) (by omega)]; exact hg 3 (by omega)
end
theorem rd_new4 (w : World) (u v x y : Value) (t : TypeId) : Rd (w.alloc (Obj.cells #[u, v, x, y] t)) (some ⟨w.heap.size, 0, none⟩) 1 4 [u, v, x, y] := by
  refine ⟨rfl, fun _ => ⟨_, 0, rfl, by simp, fun j hj => ?_⟩⟩
  have : j = 0 ∨ j = 1 ∨ j = 2 ∨ j = 3 := by omega
  rcases this with rfl | rfl | rfl | rfl
  all_goals rw [World.cell?_alloc_at _ _ _ _ rfl]; rfl

/- what is wrong -/
def achk (n : Int) (a : Arc) : Int :=
  if a.1 < 0 ∨ n ≤ a.1 ∨ a.2.1 < 0 ∨ n ≤ a.2.1 then 2 else if a.1 = a.2.1 then 3 else if a.2.2.1 < 0 ∨ 1048576 < a.2.2.1 ∨ a.2.2.2 < -1048576 ∨ 1048576 < a.2.2.2 then 4 else 0
def nfst (n : Int) : List Arc → Int
  | [] => 0
  | a :: r => if achk n a = 0 then nfst n r else achk n a
def nlarge (n : Int) (len : Nat) : Prop := n < 0 ∨ 10 < n ∨ 30 < len
instance (n : Int) (len : Nat) : Decidable (nlarge n len) := by unfold nlarge; infer_instance
def nchk (n : Int) (l : List Arc) : Int := if nlarge n l.length then 1 else nfst n l
theorem adrop_at {l : List Arc} {k : Nat} (hk : k < l.length) : l.drop k = aat l k :: l.drop (k + 1) := by
  rw [List.drop_eq_getElem_cons hk]; simp [aat, List.getD, hk]
theorem nfst_step {n : Int} {l : List Arc} {k : Nat} (hk : k < l.length) (h : nfst n l = nfst n (l.drop k)) (h' : achk n (aat l k) = 0) : nfst n l = nfst n (l.drop (k + 1)) := by
  rw [h, adrop_at hk, nfst, if_pos h']
theorem nfst_stop {n : Int} {l : List Arc} {k : Nat} (hk : k < l.length) (h : nfst n l = nfst n (l.drop k)) (c : Int) (h' : achk n (aat l k) = c) (hc : c ≠ 0) : nfst n l = c := by
  rw [h, adrop_at hk, nfst, if_neg (by rw [h']; exact hc), h']
theorem nfst_all {n : Int} : ∀ {l : List Arc}, nfst n l = 0 → ∀ a ∈ l, achk n a = 0
  | [], _, a, ha => by cases ha
  | b :: r, h, a, ha => by
    rw [nfst] at h
    split at h
    · rename_i hb
      rcases List.mem_cons.1 ha with rfl | h2
      · exact hb
      · exact nfst_all h a h2
    · omega
/-- an arc of a net that may be -/
structure AOk (n : Int) (a : Arc) : Prop where
  f0 : 0 ≤ a.1
  f1 : a.1 < n
  t0 : 0 ≤ a.2.1
  t1 : a.2.1 < n
  ne : a.1 ≠ a.2.1
  m0 : 0 ≤ a.2.2.1
  m1 : a.2.2.1 ≤ 1048576
  w0 : -1048576 ≤ a.2.2.2
  w1 : a.2.2.2 ≤ 1048576
theorem achk_ok {n : Int} {a : Arc} (h : achk n a = 0) : AOk n a := by
  unfold achk at h
  split at h
  · omega
  · split at h
    · omega
    · split at h
      · omega
      · constructor <;> omega
theorem nchk_ok {n : Int} {l : List Arc} (h : nchk n l = 0) : 0 ≤ n ∧ n ≤ 10 ∧ l.length ≤ 30 ∧ ∀ a ∈ l, AOk n a := by
  unfold nchk at h
  split at h
  · omega
  · rename_i h1
    unfold nlarge at h1
    exact ⟨by omega, by omega, by omega, fun a ha => achk_ok (nfst_all h a ha)⟩
theorem aat_mem {l : List Arc} {k : Nat} (h : k < l.length) : aat l k ∈ l := by simp [aat, List.getD, h]
end Go.Proofs.Ytgengjneccpaiaa
