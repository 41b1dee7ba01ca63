/- pairs and keep: the checks; pairing, paired, Friends, Covers. -/
import Derived.Test.YtepphkloghaihaaDoorBase
import Derived.Test.YtepphkloghaihaaDoorContainsU32
import Derived.Test.YtepphkloghaihaaDoorRefBit
import Derived.Test.YtepphkloghaihaaDoorHas
namespace Go.Proofs.YtepphkloghaihaaDoor
open Go.RowKit

def bwide (x : Nat) : Bool := decide (256 ≤ x)
def bchk (ns : List Nat) : Int := if 8 < ns.length then 1 else if ns.any bwide then 2 else 0
def BOk (ns : List Nat) : Prop := ns.length ≤ 8 ∧ ∀ x ∈ ns, x < 256
theorem bchk_ok {ns : List Nat} : bchk ns = 0 ↔ BOk ns := by
  unfold bchk BOk
  by_cases h : 8 < ns.length
  · rw [if_pos h]; constructor
    · intro h; cases h
    · intro h2; omega
  · rw [if_neg h]
    cases hb : ns.any bwide
    · simp only [Bool.false_eq_true, if_false, true_iff]
      refine ⟨by omega, fun x hx => ?_⟩
      have := List.any_eq_false.1 hb x hx
      simpa [bwide] using this
    · simp only [if_true]
      constructor
      · intro h; cases h
      · rintro ⟨_, h2⟩
        obtain ⟨x, hx, hw⟩ := List.any_eq_true.1 hb
        have := h2 x hx
        simp [bwide] at hw; omega
theorem BOk.at {ns : List Nat} (h : BOk ns) (i : Nat) : ns.getD i 0 < 256 := by
  rcases Nat.lt_or_ge i ns.length with hi | hi
  · exact h.2 _ (by simp [List.getD, hi])
  · simp [List.getD, hi]
theorem bwide_any (x : Nat) (w : World) : Calls Tryd.prog 25 #[.int .u32 (x : Nat)] w fun e w' => e = .returned (.bool (bwide x)) ∧ w = w' := by
  have hd : ((x : Int) / 256 != 0) = bwide x := by
    unfold bwide
    by_cases h : 256 ≤ x
    · rw [decide_eq_true h]; exact bne_iff_ne.2 (by omega)
    · rw [decide_eq_false h]; simp; omega
  have hdH := Lib.hid hd
  clear hd
  go_enter Tryd.func25, Tryd.ntmps25
  go_wp2
  go_ret
  exact ⟨by rw [← hdH.out]; rfl, rfl⟩
theorem entB1 (args : Array Value) (w : World) : (callFunc 25 args).run Tryd.prog w = .ok (.enter 25 args) w := by go_simp
theorem contains_bwide (A : Option Addr) (len cap : Nat) (ns : List Nat) (w : World) (hr : Rd w A len 1 (wds ns)) (hl : len ≤ 9223372036854775807) :
    Calls Tryd.prog 24 #[.slice A len cap, .func (.func 25) #[] #[]] w fun e w' => e = .returned (.bool (ns.any bwide)) ∧ Below w.heap.size w w' := by
  refine containsFuncU A len cap ns 25 #[] bwide w hr hl entB1 ?_
  intro a w' _ _
  rw [show #[Value.int IntKind.u32 (a : Nat)] ++ #[] = #[Value.int IntKind.u32 (a : Nat)] from rfl]
  exact (bwide_any a w').mono fun e w'' ⟨h1, h2⟩ => ⟨h1, h2 ▸ Below.refl _ _⟩
theorem bcheck_any (A : Option Addr) (len cap : Nat) (ns : List Nat) (w : World) (hr : Rd w A len 1 (wds ns)) (hl : len ≤ 9223372036854775807) :
    Calls Tryd.prog 15 #[.slice A len cap] w fun e w' => e = .returned (.int .i64 (bchk ns)) ∧ Below w.heap.size w w' := by
  have hel : ns.length = len := by simpa [wds] using hr.1
  by_cases h8 : 8 < len
  · have hv := Lib.hid (show bchk ns = 1 by rw [bchk, if_pos (by omega)])
    clear hr
    go_enter Tryd.func15, Tryd.ntmps15
    go_wp2
    go_ret
    exact ⟨by rw [hv.out]; rfl, Below.refl _ _⟩
  · have hv : bchk ns = if ns.any bwide then 2 else 0 := by rw [bchk, if_neg (by omega)]
    have H := Lib.hid (contains_bwide A len cap ns w hr hl)
    clear hr
    cases hb : ns.any bwide
    all_goals
      rw [hb] at H hv
      have hvH := Lib.hid hv; clear hv hb
      go_enter Tryd.func15, Tryd.ntmps15
      go_wp2_with fail
      refine H.out.mono ?_
      rintro e w' ⟨rfl, hbw⟩
      go_wp2
      go_ret
      exact ⟨by rw [hvH.out]; rfl, hbw⟩
set_option maxHeartbeats 400000 in
set_option maxRecDepth 100000 in
theorem pairsCheck_any (A : Option Addr) (len cap : Nat) (ns : List Nat) (w : World) (hr : Rd w A len 1 (wds ns)) (hl : len ≤ 9223372036854775807) :
    Calls Tryd.prog 19 #[.slice A len cap] w fun e w' => e = .returned (.int .i64 (bchk ns)) ∧ w = w' := by
  have hel : ns.length = len := by simpa [wds] using hr.1
  by_cases h8 : 8 < len
  · have hv := Lib.hid (show bchk ns = 1 by rw [bchk, if_pos (by omega)])
    clear hr
    go_enter Tryd.func19, Tryd.ntmps19
    go_wp2
    go_ret
    exact ⟨by rw [hv.out]; rfl, rfl⟩
  · have hv := Lib.hid (show bchk ns = if ns.any bwide then 2 else 0 by rw [bchk, if_neg (by omega)])
    have helH := Lib.hid hel; have hrH := Lib.hid hr
    clear hel hr
    go_enter Tryd.func19, Tryd.ntmps19
    go_wp2
    go_loop [4, 10] (fun _ i => ∃ k : Nat, k ≤ len ∧ i = .int .i64 k ∧ (∀ m, m < k → ns.getD m 0 < 256)) (fun _ i => len - (intOf i).toNat)
    case atStart => exact ⟨0, Nat.zero_le _, rfl, fun m hm => absurd hm (by omega)⟩
    case round =>
      obtain ⟨k, hk, rfl, hall⟩ := hrel
      have hallH := Lib.hid hall
      clear hall
      by_cases hlt : k < len
      · obtain ⟨b, o, rfl, hab, hc⟩ := hrH.out.wd hlt
        have hmem := Lib.hid (show ns.getD k 0 ∈ ns by simp [List.getD, show k < ns.length by rw [helH.out]; exact hlt])
        have hnx := Lib.hid (fun (h : ns.getD k 0 < 256) m (hm : m < k + 1) => show ns.getD m 0 < 256 by
          by_cases he : m = k
          · subst he; exact h
          · exact hallH.out m (by omega))
        generalize ns.getD k 0 = x at *
        by_cases hx : 256 ≤ x
        · have hz := Lib.hid (show bchk ns = 2 by rw [hv.out, if_pos (List.any_eq_true.2 ⟨x, hmem.out, by simp [bwide, hx]⟩)])
          have hxi : (256 : Int) ≤ x := by omega
          go_wp2
          go_ret
          exact ⟨by rw [hz.out]; rfl, rfl⟩
        · have hxi : (x : Int) < 256 := by omega
          go_wp2
          go_round
          case rel => exact ⟨k + 1, by omega, by go_num, hnx.out (by omega)⟩
          case measure => simp [intOf]; omega
      · have hz := Lib.hid (show bchk ns = 0 by
          rw [hv.out, if_neg]
          intro h
          obtain ⟨x, hx, hw⟩ := List.any_eq_true.1 h
          obtain ⟨j, hj, rfl⟩ := List.mem_iff_getElem.1 hx
          have := hallH.out j (by have := helH.out; omega)
          simp [List.getD, hj] at this
          simp [bwide] at hw; omega)
        go_wp2
        go_ret
        exact ⟨by rw [hz.out]; rfl, rfl⟩
theorem words_any (A : Option Addr) (len cap : Nat) (ns : List Nat) (w : World) (hr : Rd w A len 1 (wds ns)) (hl : len ≤ 9223372036854775807) :
    Calls Tryd.prog 7 #[.slice A len cap] w fun e w' => e = .returned (.bool (bchk ns == 0)) ∧ w = w' := by
  have H := Lib.hid (pairsCheck_any A len cap ns w hr hl)
  clear hr
  generalize bchk ns = c at *
  go_enter Tryd.func7, Tryd.ntmps7
  go_wp2_with fail
  refine H.out.mono ?_
  rintro _ w1 ⟨rfl, rfl⟩
  go_wp2
  go_ret
  exact ⟨by simp, rfl⟩
def bitI (x : Nat) (i : Int) : Bool := decide (0 ≤ i) && decide (i < 32) && x.testBit i.toNat
theorem bitI_nat (x i : Nat) (h : i < 32) : bitI x i = x.testBit i := by simp [bitI]; omega
theorem bitI_any (x : Nat) (i : Int) (w : World) (hx : x < 4294967296) :
    Calls Tryd.prog 20 #[.int .u32 (x : Int), .int .i64 i] w fun e w' => e = .returned (.bool (bitI x i)) ∧ w = w' := by
  by_cases h0 : 0 ≤ i
  · obtain ⟨m, rfl⟩ := Int.eq_ofNat_of_zero_le h0
    by_cases h1 : m < 32
    · rw [bitI_nat x m h1]
      exact bit_any x m w hx h1
    · have hv := Lib.hid (show bitI x (m : Int) = false by unfold bitI; rw [decide_eq_false (show ¬ (m : Int) < 32 by omega)]; simp)
      have h2 : (32 : Int) ≤ m := by omega
      go_enter Tryd.func20, Tryd.ntmps20
      go_wp2
      go_ret
      exact ⟨by rw [hv.out]; rfl, rfl⟩
  · have hv := Lib.hid (show bitI x i = false by unfold bitI; rw [decide_eq_false h0]; simp)
    have h2 : i < 0 := by omega
    go_enter Tryd.func20, Tryd.ntmps20
    go_wp2
    go_ret
    exact ⟨by rw [hv.out]; rfl, rfl⟩
def pOk (ns : List Nat) (ls : List Int) (i : Nat) : Bool := (ls.getD i 0 == -1) || (bitI (ns.getD i 0) (ls.getD i 0) && !hasB (ls.take i) (ls.getD i 0))
def Pg (ns : List Nat) (ls : List Int) : Prop := ls.length = ns.length ∧ ∀ i, i < ls.length → pOk ns ls i = true
set_option maxHeartbeats 1600000 in
theorem pairing_any (A B : Option Addr) (len cap lm cm : Nat) (ns : List Nat) (ls : List Int) (w : World) (hr : Rd w A len 1 (wds ns)) (hrl : Rd w B lm 1 (ints .i64 ls)) (hlm : lm ≤ 9223372036854775807) (hcm : lm ≤ cm) (hns : ∀ i, ns.getD i 0 < 256) :
    Calls Tryd.prog 8 #[.slice A len cap, .slice B lm cm] w fun e w' => (∃ b : Bool, e = .returned (.bool b) ∧ (b = true ↔ Pg ns ls)) ∧ w = w' := by
  have hel : ns.length = len := by simpa [wds] using hr.1
  have hell : ls.length = lm := by simpa [ints] using hrl.1
  have hrH := Lib.hid hr; have hrlH := Lib.hid hrl; have helH := Lib.hid hel; have hellH := Lib.hid hell; have hnsH := Lib.hid hns
  clear hr hrl hel hell hns
  by_cases hne : lm = len
  case neg =>
    have hv := Lib.hid (show ¬ Pg ns ls from fun h => hne (by rw [← helH.out, ← hellH.out]; exact h.1))
    have hq : ((lm : Int) != (len : Int)) = true := bne_iff_ne.2 (by omega)
    clear hne
    go_enter Tryd.func8, Tryd.ntmps8
    go_wp2
    go_ret
    exact ⟨⟨false, rfl, by simp [hv.out]⟩, rfl⟩
  subst hne
  have hcmZ : (lm : Int) ≤ cm := by omega
  go_enter Tryd.func8, Tryd.ntmps8
  go_wp2
  go_loop [5, 6, 14] (fun _ _ i => ∃ k : Nat, k ≤ lm ∧ i = .int .i64 k ∧ ∀ j, j < k → pOk ns ls j = true) (fun _ _ i => lm - (intOf i).toNat)
  case atStart => exact ⟨0, Nat.zero_le _, rfl, fun j hj => absurd hj (by omega)⟩
  case round =>
    obtain ⟨k, hk, rfl, hall⟩ := hrel
    have hallH := Lib.hid hall
    clear hall
    by_cases hlt : k < lm
    · obtain ⟨b, o, rfl, hab, hc⟩ := hrH.out.wd hlt
      obtain ⟨b2, o2, rfl, hab2, hc2⟩ := hrlH.out.int hlt
      have hx := hnsH.out k
      have hpk := Lib.hid (show pOk ns ls k = ((ls.getD k 0 == -1) || (bitI (ns.getD k 0) (ls.getD k 0) && !hasB (ls.take k) (ls.getD k 0))) from rfl)
      have HB := Lib.hid (fun W => bitI_any (ns.getD k 0) (ls.getD k 0) W (by omega))
      have HH := Lib.hid (has_any (ls.getD k 0) (some ⟨b2, o2, none⟩) k cm (ls.take k) w (hrlH.out.part (Nat.le_of_lt hlt)) (by omega))
      have hno := Lib.hid (fun (h : pOk ns ls k = false) => show ¬ Pg ns ls from fun hp => by have := hp.2 k (by rw [hellH.out]; exact hlt); rw [h] at this; cases this)
      have hyes := Lib.hid (fun (h : pOk ns ls k = true) => show ∀ j, j < k + 1 → pOk ns ls j = true from fun j hj => by
        by_cases e : j = k
        · subst e; exact h
        · exact hallH.out j (by omega))
      generalize ls.getD k 0 = v at *
      generalize ns.getD k 0 = x at *
      have hk0 : (0 : Int) ≤ k := by omega
      have hkc : (k : Int) ≤ cm := by omega
      by_cases hv : v = -1
      · subst hv
        have hy := Lib.hid (hyes.out (by rw [hpk.out]; rfl))
        go_wp2
        go_round
        case rel => exact ⟨k + 1, by omega, by go_num, hy.out⟩
        case measure => simp [intOf]; omega
      · have hvb : (v != -1) = true := bne_iff_ne.2 hv
        have hvb2 : (v == -1) = false := beq_eq_false_iff_ne.2 hv
        rw [hvb2] at hpk
        clear hv hvb2
        obtain ⟨bv, hbv⟩ : ∃ bv, bitI x v = bv := ⟨_, rfl⟩
        rw [hbv] at HB hpk
        obtain ⟨hv, hhv⟩ : ∃ hv, hasB (ls.take k) v = hv := ⟨_, rfl⟩
        rw [hhv] at HH hpk
        clear hbv hhv
        cases bv
        · have hy := Lib.hid (hno.out (by rw [hpk.out]; rfl))
          clear hpk hno hyes
          go_wp2_with fail
          refine (HB.out _).mono ?_
          rintro _ w2 ⟨rfl, rfl⟩
          go_wp2
          go_ret
          exact ⟨⟨false, rfl, by simp [hy.out]⟩, rfl⟩
        · cases hv
          · have hy := Lib.hid (hyes.out (by rw [hpk.out]; rfl))
            clear hpk hno hyes
            go_wp2_with fail
            refine (HB.out _).mono ?_
            rintro _ w2 ⟨rfl, rfl⟩
            go_wp2_with fail
            refine HH.out.mono ?_
            rintro _ w2 ⟨rfl, rfl⟩
            go_wp2
            go_round
            case rel => exact ⟨k + 1, by omega, by go_num, hy.out⟩
            case measure => simp [intOf]; omega
          · have hy := Lib.hid (hno.out (by rw [hpk.out]; rfl))
            clear hpk hno hyes
            go_wp2_with fail
            refine (HB.out _).mono ?_
            rintro _ w2 ⟨rfl, rfl⟩
            go_wp2_with fail
            refine HH.out.mono ?_
            rintro _ w2 ⟨rfl, rfl⟩
            go_wp2
            go_ret
            exact ⟨⟨false, rfl, by simp [hy.out]⟩, rfl⟩
    · obtain rfl : k = lm := by omega
      have hy := Lib.hid (show Pg ns ls from ⟨by rw [hellH.out, helH.out], fun i hi => hallH.out i (by rw [← hellH.out]; exact hi)⟩)
      go_wp2
      go_ret
      exact ⟨.inr ⟨rfl, hy.out⟩, rfl⟩
def prd (ls : List Int) : Nat → Nat
  | 0 => 0
  | k + 1 => if 0 ≤ ls.getD k 0 then prd ls k + 1 else prd ls k
theorem prd_le (ls : List Int) : ∀ k, prd ls k ≤ k
  | 0 => Nat.le_refl _
  | k + 1 => by have := prd_le ls k; rw [prd]; split <;> omega
theorem paired_any (B : Option Addr) (lm cm : Nat) (ls : List Int) (w : World) (hrl : Rd w B lm 1 (ints .i64 ls)) (hlm : lm ≤ 9223372036854775807) :
    Calls Tryd.prog 9 #[.slice B lm cm] w fun e w' => e = .returned (.int .i64 (prd ls lm : Nat)) ∧ w = w' := by
  have hrlH := Lib.hid hrl
  clear hrl
  go_enter Tryd.func9, Tryd.ntmps9
  go_wp2
  go_loop [3, 5, 8] (fun s _ i => ∃ k : Nat, k ≤ lm ∧ i = .int .i64 k ∧ s = .int .i64 (prd ls k : Nat)) (fun _ _ i => lm - (intOf i).toNat)
  case atStart => exact ⟨0, Nat.zero_le _, rfl, rfl⟩
  case round =>
    obtain ⟨k, hk, rfl, rfl⟩ := hrel
    by_cases hlt : k < lm
    · obtain ⟨b2, o2, rfl, hab2, hc2⟩ := hrlH.out.int hlt
      have hst := Lib.hid (show prd ls (k + 1) = if 0 ≤ ls.getD k 0 then prd ls k + 1 else prd ls k from rfl)
      have hle := prd_le ls k
      generalize ls.getD k 0 = v at *
      generalize prd ls k = q at *
      have hw : IntKind.i64.wrap ((q : Int) + 1) = (q : Int) + 1 := IntWalk.i64_in _ (by omega)
      by_cases hv : 0 ≤ v
      · have hst2 := Lib.hid (show prd ls (k + 1) = q + 1 by rw [hst.out, if_pos hv])
        go_wp2
        go_round
        case rel => exact ⟨k + 1, by omega, by go_num, by rw [hst2.out]; go_num⟩
        case measure => simp [intOf]; omega
      · have hst2 := Lib.hid (show prd ls (k + 1) = q by rw [hst.out, if_neg hv])
        have hv2 : v < 0 := by omega
        clear hv
        go_wp2
        go_round
        case rel => exact ⟨k + 1, by omega, by go_num, by rw [hst2.out]⟩
        case measure => simp [intOf]; omega
    · obtain rfl : k = lm := by omega
      go_wp2
      go_ret
      exact ⟨rfl, rfl⟩
/-- with whom any of some on the left may be paired -/
def frW (ns : List Nat) (m : Nat) : Nat → Nat
  | 0 => 0
  | k + 1 => if m.testBit k then frW ns m k ||| ns.getD k 0 else frW ns m k
theorem frW_lt {ns : List Nat} (h : ∀ i, ns.getD i 0 < 256) (m : Nat) : ∀ k, frW ns m k < 256
  | 0 => by simp [frW]
  | k + 1 => by
    have h1 := frW_lt h m k
    rw [frW]; split
    · exact Nat.or_lt_two_pow (n := 8) h1 (h k)
    · exact h1
theorem friends_any (A : Option Addr) (len cap : Nat) (ns : List Nat) (m : Nat) (w : World) (hr : Rd w A len 1 (wds ns)) (hl : len ≤ 8) (hm : m < 4294967296) (hns : ∀ i, ns.getD i 0 < 256) :
    Calls Tryd.prog 12 #[.slice A len cap, .int .u32 m] w fun e w' => e = .returned (.int .u32 (frW ns m len : Nat)) ∧ w = w' := by
  have hrH := Lib.hid hr; have hnsH := Lib.hid hns
  clear hr hns
  go_enter Tryd.func12, Tryd.ntmps12
  go_wp2
  go_loop [5, 6, 7, 10] (fun s _ _ i => ∃ k : Nat, k ≤ len ∧ i = .int .i64 k ∧ s = .int .u32 (frW ns m k : Nat)) (fun _ _ _ i => len - (intOf i).toNat)
  case atStart => exact ⟨0, Nat.zero_le _, rfl, rfl⟩
  case round =>
    obtain ⟨k, hk, rfl, rfl⟩ := hrel
    by_cases hlt : k < len
    · obtain ⟨b, o, rfl, hab, hc⟩ := hrH.out.wd hlt
      have hst := Lib.hid (show frW ns m (k + 1) = if m.testBit k then frW ns m k ||| ns.getD k 0 else frW ns m k from rfl)
      have h1 := frW_lt hnsH.out m k
      have h2 := hnsH.out k
      generalize ns.getD k 0 = x at *
      generalize frW ns m k = y at *
      have HB := Lib.hid (fun W => bit_any m k W hm (by omega))
      have hor : bits .or .u32 (y : Int) (x : Int) = ((y ||| x : Nat) : Int) := u32_or_nat y x (by omega) (by omega)
      cases hb : m.testBit k
      · rw [hb] at HB hst
        have hst2 := Lib.hid (show frW ns m (k + 1) = y from hst.out)
        clear hb hst
        go_wp2_with fail
        refine (HB.out _).mono ?_
        rintro _ w2 ⟨rfl, rfl⟩
        go_wp2
        go_round
        case rel => exact ⟨k + 1, by omega, by go_num, by rw [hst2.out]⟩
        case measure => simp [intOf]; omega
      · rw [hb] at HB hst
        have hst2 := Lib.hid (show frW ns m (k + 1) = y ||| x from hst.out)
        clear hb hst
        go_wp2_with fail
        refine (HB.out _).mono ?_
        rintro _ w2 ⟨rfl, rfl⟩
        go_wp2
        go_round
        case rel => exact ⟨k + 1, by omega, by go_num, by rw [hst2.out]⟩
        case measure => simp [intOf]; omega
    · obtain rfl : k = len := by omega
      go_wp2
      go_ret
      exact ⟨rfl, rfl⟩
end Go.Proofs.YtepphkloghaihaaDoor
