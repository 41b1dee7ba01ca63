/- A map with all rounds the other way round: as many faces. Plain. -/
import Derived.Test.YtonalhedjjobeaaDoorMapsCk
namespace Go.Proofs.YtonalhedjjobeaaDoor
open Go.RowKit

/-- what a map has: so many rounds, so many holes -/
theorem map_nums {n : Nat} {es : List E} {l : List Rw} {rs : List (List Nat)} (hI : MapIs n es l rs) : ∃ m h : Nat, Cyc (dl es) (ph rs) m ∧ 2 * (h : Int) = 2 * (rts n es : Int) - ((n : Int) - (es.length : Int) + ((m + isoN rs n : Nat) : Int)) ∧ rts n es ≤ m + isoN rs n := by
  obtain ⟨m, hm⟩ := Cyc.ex (ph_perm hI.dst.ok hI.map)
  obtain ⟨h1, h2, h3⟩ := euler hI.dst hI.map hm
  exact ⟨m, (2 * rts n es + es.length - (m + isoN rs n + n)) / 2, hm, by omega, h3⟩
theorem rev_getD {l : List Nat} {k : Nat} (hk : k < l.length) : l.reverse.getD k 0 = l.getD (l.length - 1 - k) 0 := by
  rw [List.getD, List.getElem?_reverse hk, ← List.getD]
theorem nx_rev {l : List Nat} (hn : l.Nodup) {b : Nat} (hb : b ∈ l) : nx l.reverse (nx l b) = b := by
  have hi := List.idxOf_lt_length_of_mem hb
  have hgi := getD_idxOf hb
  have hrn : l.reverse.Nodup := (List.reverse_perm _).nodup_iff.2 hn
  generalize hii : l.idxOf b = i at *
  have hj : (i + 1) % l.length < l.length := Nat.mod_lt _ (by omega)
  have hnx : nx l b = l.reverse.getD (l.length - 1 - (i + 1) % l.length) 0 := by
    unfold nx
    rw [hii, rev_getD (by omega)]
    congr 1; omega
  rw [hnx]
  unfold nx
  rw [idxOf_getD hrn (by rw [List.length_reverse]; omega), List.length_reverse]
  have hk : (l.length - 1 - (i + 1) % l.length + 1) % l.length < l.length := Nat.mod_lt _ (by omega)
  rw [rev_getD hk]
  rw [← hgi]
  congr 1
  by_cases e : i + 1 = l.length
  · rw [e, Nat.mod_self, show l.length - 1 - 0 + 1 = l.length by omega, Nat.mod_self]; omega
  · rw [Nat.mod_eq_of_lt (show i + 1 < l.length by omega), Nat.mod_eq_of_lt (by omega)]; omega
def revs (rs : List (List Nat)) : List (List Nat) := rs.map List.reverse
theorem revs_getD (rs : List (List Nat)) (i : Nat) : (revs rs).getD i [] = (rs.getD i []).reverse := by
  unfold revs
  simp only [List.getD, List.getElem?_map]
  cases rs[i]? <;> rfl
theorem isoN_revs (rs : List (List Nat)) (N : Nat) : isoN (revs rs) N = isoN rs N := by
  unfold isoN
  congr 1
  funext i
  rw [revs_getD]
  cases rs.getD i [] <;> simp
section
variable {N : Nat} {es : List E} {rs : List (List Nat)}
theorem IsMapR.revs (h : IsMapR N es rs) : IsMapR N es (revs rs) :=
  ⟨by unfold Go.Proofs.YtonalhedjjobeaaDoor.revs; rw [List.length_map]; exact h.len, fun a ha => by rw [revs_getD]; exact (List.reverse_perm _).nodup_iff.2 (h.nd a ha), fun a ha b => by rw [revs_getD, List.mem_reverse]; exact h.mem a ha b⟩
theorem ph_back (hok : ∀ e ∈ es, okE N e) (hm : IsMapR N es rs) {z : Nat × Nat} (hz : z ∈ dl es) : ph (revs rs) (sw (ph rs z)) = sw z := by
  have ha := (mem_dl hok).1 hz
  have hl := adj_lt hok ha
  have hmem : z.1 ∈ rs.getD z.2 [] := (hm.mem _ hl.2.1 _).2 (by rw [adj_symm]; exact ha)
  show ((z.2 : Nat), nx ((revs rs).getD z.2 []) (nx (rs.getD z.2 []) z.1)) = (z.2, z.1)
  rw [revs_getD, nx_rev (hm.nd _ hl.2.1) hmem]
theorem itn_back (hok : ∀ e ∈ es, okE N e) (hm : IsMapR N es rs) {z : Nat × Nat} (hz : z ∈ dl es) : ∀ n, itn (ph (revs rs)) n (sw (itn (ph rs) n z)) = sw z
  | 0 => rfl
  | n + 1 => by
    rw [itn_one]
    show itn _ n (ph (revs rs) (sw (ph rs (itn (ph rs) n z)))) = _
    rw [ph_back hok hm ((ph_perm hok hm).itn hz n), itn_back hok hm hz n]
theorem cyc_turn (hok : ∀ e ∈ es, okE N e) (hm : IsMapR N es rs) {m : Nat} (hc : Cyc (dl es) (ph rs) m) : Cyc (dl es) (ph (revs rs)) m := by
  have hp := ph_perm hok hm
  obtain ⟨l, hl, rfl⟩ := hc
  have hinj : ∀ a b : Nat × Nat, sw a = sw b → a = b := fun a b e => by rw [← sw_sw a, e, sw_sw]
  refine ⟨l.map sw, ⟨fun r hr => ?_, nodup_map_on (fun a _ b _ e => hinj a b e) hl.nd, fun r hr s hs ho => ?_, fun z hz => ?_⟩, by rw [List.length_map]⟩
  · obtain ⟨a, ha, rfl⟩ := List.mem_map.1 hr
    exact dl_sw (hl.sub a ha)
  · obtain ⟨a, ha, rfl⟩ := List.mem_map.1 hr
    obtain ⟨b, hb, rfl⟩ := List.mem_map.1 hs
    obtain ⟨n, hn⟩ := ho
    have haD := hl.sub a ha
    obtain ⟨p, hp0, hpp⟩ := hp.round haD
    have hz : itn (ph rs) n (itn (ph rs) (n * p - n) a) = a := by
      rw [← itn_add, show n + (n * p - n) = n * p by have := Nat.le_mul_of_pos_right n hp0; omega, itn_mul hpp]
    have h1 := itn_back hok hm (hp.itn haD (n * p - n)) n
    rw [hz, hn] at h1
    have h2 := hinj _ _ h1
    rw [← h2] at hz
    rw [hl.ne b hb a ha ⟨n, hz⟩]
  · obtain ⟨r, hr, ho⟩ := hl.cov (sw z) (dl_sw hz)
    refine ⟨sw r, List.mem_map.2 ⟨r, hr, rfl⟩, ?_⟩
    obtain ⟨n, hn⟩ := hp.symm (dl_sw hz) ho
    have h1 := itn_back hok hm (hl.sub r hr) n
    rw [hn] at h1
    exact ⟨n, h1⟩
theorem rowOk_turn {n : Int} {l l' : List Rw} {i : Nat} (h : (rat l' i).zs = (rat l i).zs.reverse) : rowOkB n es l' i = rowOkB n es l i := by
  unfold rowOkB
  rw [h, srt_eq (List.reverse_perm _)]
theorem mapB_turn {n : Nat} {l l' : List Rw} (hl : l.length = n) (hl' : l'.length = n) (h : ∀ i, i < n → (rat l' i).zs = (rat l i).zs.reverse) : mapB n es l' = mapB n es l := by
  unfold mapB
  rw [hl, hl']
  congr 2
  rw [Bool.eq_iff_iff, List.all_eq_true, List.all_eq_true]
  exact ⟨fun k i hi => by rw [← rowOk_turn (h i (List.mem_range.1 hi))]; exact k i hi, fun k i hi => by rw [rowOk_turn (h i (List.mem_range.1 hi))]; exact k i hi⟩
theorem MapIs.turn {n : Nat} {l l' : List Rw} (hI : MapIs n es l rs) (hl' : l'.length = n) (h : ∀ i, i < n → (rat l' i).zs = (rat l i).zs.reverse) : MapIs n es l' (revs rs) :=
  ⟨hI.ok, hI.le, hI.ed, hl', fun i hi => by rw [h i hi, hI.row i hi, revs_getD]; unfold natI; rw [List.map_reverse], hI.map.revs, hI.dst⟩
end
end Go.Proofs.YtonalhedjjobeaaDoor
