/- The walk of line.Order. -/
import Derived.Test.YtgmoehkddohhfaaLineD
namespace Go.Proofs.Ytgmoehkddohhfaa
open Go.RowKit

theorem turned_own {w w' : World} {b base e s m : Nat} {v : Value} {xs : List Value} (ht : w.mapTurned w' b) (ho : w.ownsRow base e s v m xs) (hne : v.ownBlock ≠ some b) : w'.ownsRow base e s v m xs :=
  ho.kept ht.grown (.inr hne)
theorem wf_lt {k : Nat} (h : k < 1000) : (Lit.int .i64 (k : Int)).wf = true := by
  simp [Lit.wf, IntKind.min, IntKind.max, IntKind.bits, IntKind.signed]
  omega
theorem hasD (l : List Int) (k : Int) : ((dOf l) k).getD 0 = if hasB l k then 1 else 0 := by unfold dOf; cases hasB l k <;> rfl
def downM (n : Nat) (i : Value) : Nat := if intOf i < 0 then 0 else n + 1 - (intOf i).toNat
theorem downM_lt {n k : Nat} {r : Int} (hk : k ≤ n) (h : r = -1 ∨ (k : Int) + 1 ≤ r) : downM n (.int .i64 r) < downM n (.int .i64 k) := by
  unfold downM
  have e1 : intOf (.int .i64 r) = r := rfl
  have e2 : intOf (.int .i64 (k : Int)) = k := rfl
  rw [e1, e2, if_neg (show ¬ (k : Int) < 0 by omega)]
  split <;> omega
set_option maxHeartbeats 3200000 in
theorem order_ok (A : Option Addr) (len cap : Nat) (l : List Jb) (w : World) (hr : RdJ w A len l) (hwf : ∀ j ∈ l, ∀ z ∈ j.after, (Lit.int .i64 z).wf = true) (hc : jchk l = 0) :
    Calls Try.prog 5 #[.slice A len cap] w (OrdPost l w) := by
  have hel := hr.1
  have hlen := jchk_len hc
  rw [hel] at hlen
  have HC := Lib.hid (lineCheck_any A len cap l w hr (by omega))
  rw [hc] at HC
  have hrH := Lib.hid hr; have helH := Lib.hid hel; have hwfH := Lib.hid hwf
  clear hr hel hwf hc
  have hmm := @run_makeMap Try.prog
  go_enter Try.func5, Try.ntmps5
  go_wp2_with fail
  refine HC.out.mono ?_
  rintro e w1 ⟨rfl, hb1⟩
  have hm0 := Lib.hid (IMap.made (P := Try.prog) (k := 3) (e := 3) (q := .i64) w1)
  have hs1 := hb1.size
  have hb0 := hb1.alloc hs1 (.map #[] 0)
  clear HC
  go_wp2
  go_loopw [6, 7] (fun v i wr => ∃ q : List Int, q.length ≤ len ∧ kahn l (len - q.length) q = kahn l len [] ∧ wr.ownsRow w.heap.size 3 1 v q.length (ints .i64 q) ∧ DMap wr w1.heap.size q.length (dOf q) ∧ Below w.heap.size w wr) (fun v _ _ => len - sliceLen v)
  case atStart => exact ⟨[], Nat.zero_le _, rfl, World.ownsRow_nil _ _ _ _, hm0.out, hb0⟩
  case round =>
    obtain ⟨q, hq, hk, hown, hm, hb⟩ := hrel
    obtain ⟨Aq, cq, rfl⟩ := own_slice hown
    have hownH := Lib.hid hown; have hmH := Lib.hid hm; have hkH := Lib.hid hk
    clear hown hm hk
    by_cases hlt : q.length < len
    · have HN0 := Lib.hid (next_any A len cap l w1.heap.size q.length (dOf q) 0 wr (hrH.out.later hb) hlen hwfH.out hmH.out (Nat.zero_le _))
      go_wp2_with fail
      refine HN0.out.mono ?_
      rintro e w2 ⟨r, rfl, hN, hb2⟩
      have hat := At.start hN
      have hownX := own_below hownH.out hb2
      have hmX := hmH.out.later hb2
      have hbX := hb.trans (hb2.mono hb.size)
      clear hN HN0
      have hatH := Lib.hid hat; have hownXH := Lib.hid hownX; have hmXH := Lib.hid hmX; have hbXH := Lib.hid hbX
      clear hat hownX hmX hbX hb2 hownH hmH hb
      go_wp2
      obtain ⟨wo, hwo⟩ : ∃ wo : World, wo = w2 := ⟨_, rfl⟩
      go_loopw [7] (fun i wx => ∃ r : Int, i = .int .i64 r ∧ At l q r ∧ DMap wx w1.heap.size q.length (dOf q) ∧ wx.ownsRow w.heap.size 3 1 (.slice Aq q.length cq) q.length (ints .i64 q) ∧ Below w.heap.size w wx) (fun i _ => downM len i)
      case atStart => exact ⟨r, rfl, hatH.out, hmXH.out, hownXH.out, hbXH.out⟩
      case round =>
        obtain ⟨r, rfl, hat, hm, hown, hbx⟩ := hrel
        have hownH := Lib.hid hown; have hmH := Lib.hid hm
        clear hown hm hatH hownXH hmXH hbXH hwo
        rcases hat with ⟨rfl, hno⟩ | ⟨k, rfl, hkl, hok, hno⟩
        · have hz := Lib.hid (show kahn l l.length [] = none by
            rw [helH.out, ← hkH.out, show len - q.length = (len - q.length - 1) + 1 by omega, kahn, nx_none hno]; rfl)
          clear hno
          go_wp2
          go_ret2
          exact ⟨hbx, .inl ⟨hz.out, rfl⟩⟩
        · rw [helH.out] at hkl
          have hlk := hmH.out.look (wf_lt (show k < 1000 by omega))
          rw [hasD] at hlk
          cases hd : hasB q k
          · rw [hd, if_neg (by simp)] at hlk
            have hnx := at_nx (by rw [helH.out]; exact hkl) hok hno hd
            have hnew := Lib.hid (show kahn l (len - (q ++ [(k : Int)]).length) (q ++ [(k : Int)]) = kahn l len [] by
              rw [← hkH.out, show len - q.length = (len - (q ++ [(k : Int)]).length) + 1 by simp; omega]
              conv => rhs; rw [kahn]
              rw [hnx, if_neg (by omega)])
            clear hok hno hnx hd
            go_wp2_with (at_mapUpdate; refine wp_imap_update _ rfl _ _ _ 38 rfl Try.underlying3 Try.underlying38 Try.underlying3 rfl hmH.out (by unfold maxLen; omega) rfl rfl (wf_lt (show k < 1000 by omega)) (by decide) ?_)
            intro w4 hm4 ht4
            have hown4 := Lib.hid (turned_own ht4 hownH.out (own_not_map hmH.out hownH.out))
            have hb4 := hbx.grown ht4.grown hbx.size (fun g hg => by injection hg with hg; omega)
            have hs4 := hb4.size
            rw [upd_dOf] at hm4
            have hm4H := Lib.hid hm4
            clear ht4 hm4
            go_wp2_with (at_builtin; refine wpList_app (s := .tmp 41) (x := .tmp 43) _ tiI (hown4.out.alloc _) (rd_new1 w4 (.int .i64 k) 3) (ints_one (l := [(k : Int)])) (by omega) (by omega) (hb4.alloc hb4.size _).size rfl rfl rfl rfl ?_)
            intro v' w5 hown5 hg5 hat5
            have hb5 : Below w.heap.size w w5 := (hb4.alloc hb4.size _).grown hg5 (hb4.alloc hb4.size _).size (fun g hg' => (hown4.out.lt g hg').1)
            have hm5 := (hm4H.out.alloc (.cells #[.int .i64 k] 3)).kept hg5 (own_not_map hm4H.out hown4.out).symm
            clear hg5 hat5
            go_wp2
            go_roundw
            case rel => exact ⟨q ++ [(k : Int)], by simp; omega, hnew.out, by simpa [ints] using hown5, by simpa using hm5, hb5⟩
            case measure => rw [own_len hown5]; simp [sliceLen]; omega
          · rw [hd, if_pos rfl] at hlk
            have hstep := Lib.hid (fun r' => @At.step l q k r')
            have hnoH := Lib.hid hno; have hdH := Lib.hid hd
            have HN := Lib.hid (next_any A len cap l w1.heap.size q.length (dOf q) (k + 1) wr (hrH.out.later hbx) hlen hwfH.out hmH.out (by omega))
            clear hno hok hd
            go_wp2_with fail
            refine HN.out.mono ?_
            rintro e w4 ⟨r', rfl, hN, hb4⟩
            have hr' := Lib.hid (show r' = -1 ∨ (k : Int) + 1 ≤ r' by
              rcases hN with ⟨h, _⟩ | ⟨m, h, h2, _⟩
              · exact .inl h
              · exact .inr (by omega))
            have hat' := Lib.hid (hstep.out r' hnoH.out hdH.out hN)
            go_wp2
            go_roundw
            case rel => exact ⟨r', rfl, hat'.out, hmH.out.later hb4, own_below hownH.out hb4, hbx.trans (hb4.mono hbx.size)⟩
            case measure => exact downM_lt (by omega) hr'.out
    · have hz := Lib.hid (show kahn l l.length [] = some q by
        rw [helH.out, ← hkH.out, show len - q.length = 0 by omega, kahn])
      go_wp2
      go_ret2
      exact ⟨hb, .inr ⟨q, _, hz.out, rfl, hownH.out⟩⟩
end Go.Proofs.Ytgmoehkddohhfaa
