/- Contract: whole shares. -/
import Derived.Test.YtfjoakhcgpckgaaShareRef3
import Derived.Test.YtfjoakhcgpckgaaShareCmp
import Derived.Test.YtfjoakhcgpckgaaShelf
import Derived.Test.YtfjoakhcgpckgaaShareEnd
import Derived.Deep.RegionLaw
import Derived.Deep.RegionHeld3
import Derived.BigRegion
namespace Go.Proofs.Ytfjoakhcgpckgaa
open Go.ChangeShapes Go.WideShapes Go.ChangeAt Go.RowKit
set_option linter.unusedVariables false
open Sh St
theorem whole_bad (all : Int) (D : List Int) (a : Option Addr) (n cap : Nat) (w : World) (hn : n = D.length) (hmax : n ≤ 9223372036854775807) (hD : Vals w a (ints64 D)) (hb : shareE all D ≠ 0) :
    Calls Try.prog 74 #[.int .i64 all, .slice a n cap] w fun e w' => e = .returned (.tuple #[.slice none 0 0, .int .i64 (shareE all D)]) ∧ w' = w := by
  have HC := Lib.hid (sCheck_any all D a n cap w hn hmax hD)
  obtain ⟨z, hz⟩ : ∃ z, shareE all D = z := ⟨_, rfl⟩
  rw [hz] at HC hb ⊢
  have hb2 : (z != 0) = true := by simpa using hb
  clear hD hn hz
  go_enter Try.func74, Try.ntmps74
  go_wp2_with (go_at_call 76; refine Calls.mono HC.out ?_; rintro e w1 ⟨rfl, rfl⟩)
  go_ret2
  exact ⟨rfl, rfl⟩
theorem hi_lt {a x y h : Nat} (h0 : 0 < y) (ha : a ≤ 1099511627776) (hx : x ≤ y) (hh : h * 18446744073709551616 ≤ a * x) : h < y := by
  rcases Nat.lt_or_ge h y with h1 | h1
  · exact h1
  · have e1 : a * x ≤ 1099511627776 * y := Nat.mul_le_mul ha hx
    omega
/-- a product, and its division: what the two halves are is no matter -/
theorem mulDivW (all x S : Int) (hS : 0 < S) (hS2 : S ≤ 1000000000) (h0 : 0 ≤ all) (h1 : all ≤ 1099511627776) (hx0 : 0 ≤ x) (hx1 : x ≤ S) :
    ∃ hi lo : Int, (∀ W, Calls Try.prog 156 #[.int .u64 all, .int .u64 x] W fun e w' => e = .returned (.tuple #[.int .u64 hi, .int .u64 lo]) ∧ w' = W) ∧
      ∀ W, Calls Try.prog 157 #[.int .u64 hi, .int .u64 lo, .int .u64 S] W fun e w' => e = .returned (.tuple #[.int .u64 (quoS all S x), .int .u64 (remS all S x)]) ∧ Drawn W w' := by
  obtain ⟨a, rfl⟩ : ∃ a : Nat, all = (a : Int) := ⟨all.toNat, (Int.toNat_of_nonneg h0).symm⟩
  obtain ⟨b, rfl⟩ : ∃ b : Nat, x = (b : Int) := ⟨x.toNat, (Int.toNat_of_nonneg hx0).symm⟩
  obtain ⟨y, rfl⟩ : ∃ y : Nat, S = (y : Int) := ⟨S.toNat, (Int.toNat_of_nonneg (by omega)).symm⟩
  have e0 := Nat.div_add_mod (a * b) 18446744073709551616
  have e1 : a * b / 18446744073709551616 < y := hi_lt (a := a) (x := b) (by omega) (by omega) (by omega) (by omega)
  refine ⟨_, _, fun W => Try.bits_Mul64 a b (by omega) (by omega) W, fun W => ?_⟩
  have := div_any (a * b / 18446744073709551616) (a * b % 18446744073709551616) y W (by omega) e1 (by omega) (Nat.mod_lt _ (by decide))
  rwa [show a * b / 18446744073709551616 * 18446744073709551616 + a * b % 18446744073709551616 = a * b from by omega, show ((a * b / y : Nat) : Int) = quoS a y b from by unfold quoS; rw [Int.natCast_ediv, Int.natCast_mul], show ((a * b % y : Nat) : Int) = remS a y b from by unfold remS; rw [Int.natCast_emod, Int.natCast_mul]] at this
/-- the memory of the loop -/
structure WhI (B q : Nat) (all s : Int) (D : List Int) (vr vo : Value) (w wr : World) : Prop where
  tri : ∃ vs, Tri B vs w vr q (ints64 (upn q)) vs q (rsts ((rems all s D).take q)) vo q (ints64 ((quos all s D).take q)) wr
set_option maxRecDepth 20000 in
set_option maxHeartbeats 3200000 in
theorem whole_good (all : Int) (D : List Int) (a : Option Addr) (n cap : Nat) (w : World) (hn : n = D.length) (hmax : n ≤ 9223372036854775807) (hD : Vals w a (ints64 D)) (hb : shareE all D = 0) :
    Calls Try.prog 74 #[.int .i64 all, .slice a n cap] w fun e w' => WholePost all D w e w' := by
  have HC := Lib.hid (sCheck_any all D a n cap w hn hmax hD)
  obtain ⟨hall, hall2, g3, hok⟩ := shareE_good hb
  rw [hb] at HC
  have HD := Lib.hid hD
  have HN := Lib.hid hn
  have HO := Lib.hid hok
  have HSB := Lib.hid (fun q => sums_bound (D := D) (by omega) hok q)
  have h4 : n ≤ 100 := by omega
  have hall3 : all ≤ 1099511627776 := hall2
  clear hD hn hok hb hall2 g3
  go_enter Try.func74, Try.ntmps74
  go_wp2_with (go_at_call 76; refine Calls.mono HC.out ?_; rintro e w1 ⟨rfl, hw1⟩; obtain rfl := hw1.symm)
  go_loopg [7, 30] n (fun gk y x wr => ∃ (q : Nat) (s : Int), q + gk = n ∧ x = .int .i64 (q : Int) ∧ y = .int .i64 s ∧ Hid (s = (D.take q).sum) ∧ wr = w)
  case atStart => exact ⟨0, 0, by omega, rfl, rfl, Lib.hid rfl, rfl⟩
  case round =>
    obtain ⟨q, s, hq, rfl, rfl, HQ, rfl⟩ := hrel
    by_cases hqn : q < n
    · obtain ⟨x, hx⟩ : ∃ x, D[q]? = some x := ⟨_, List.getElem?_eq_getElem (by have := HN.out; omega)⟩
      obtain ⟨b, off, rfl, hb, c1⟩ := i64at HD.out hx
      have hqn2 : (q : Int) < (n : Int) := by omega
      obtain ⟨s2, hs2⟩ : ∃ s2, s + x = s2 := ⟨_, rfl⟩
      have HS2 : Hid (s2 = (D.take (q + 1)).sum) := Lib.hid (by rw [sum_take_snoc hx, ← HQ.out, hs2])
      have hb2 := HSB.out (q + 1)
      rw [← HS2.out] at hb2
      have ws : IntKind.i64.wrap s2 = s2 := IntWalk.i64_in _ (by omega)
      clear hx
      go_wp2_with fail
      go_roundg (gk - 1)
      case measure => omega
      case rel => exact ⟨q + 1, s2, by omega, by simp, rfl, HS2, rfl⟩
    · have hqn2 : ¬ (q : Int) < (n : Int) := by omega
      obtain rfl : q = n := by omega
      have HS := Lib.hid (show s = D.sum from by have h := HQ.out; rwa [List.take_of_length_le (by have := HN.out; omega)] at h)
      have hb0 := HSB.out q
      rw [← HQ.out] at hb0
      by_cases h0 : s = 0
      · have HV := Lib.hid (show (5 : Int) = wholeE D from by unfold wholeE; rw [← HS.out, if_pos h0])
        have HW := Lib.hid (show WholeR all D [] from .inl ⟨by rw [← HV.out]; omega, rfl⟩)
        subst h0
        go_wp2_with fail
        go_ret2
        exact ⟨_, [], by rw [← HV.out] <;> rfl, HW.out, IsVals.empty _, Below.refl _ _⟩
      · have h0b : (s == 0) = false := by simpa using h0
        by_cases h1 : 1000000000 < s
        · have HV := Lib.hid (show (2 : Int) = wholeE D from by unfold wholeE; rw [← HS.out, if_neg h0, if_pos h1])
          have HW := Lib.hid (show WholeR all D [] from .inl ⟨by rw [← HV.out]; omega, rfl⟩)
          have h1b : decide (1000000000 < s) = true := by simp [h1]
          go_wp2_with fail
          go_ret2
          exact ⟨_, [], by rw [← HV.out] <;> rfl, HW.out, IsVals.empty _, Below.refl _ _⟩
        · have HV := Lib.hid (show (0 : Int) = wholeE D from by unfold wholeE; rw [← HS.out, if_neg h0, if_neg h1])
          have h1b : decide (1000000000 < s) = false := by simp only [h1, decide_false]
          have hs0 : 0 < s := by omega
          have hs1 : s ≤ 1000000000 := by omega
          obtain ⟨w0, rfl⟩ : ∃ x, x = wr := ⟨_, rfl⟩
          obtain ⟨W1, hW1⟩ : ∃ W, W = w0.alloc (.cells #[.slice none 0 0] 213) := ⟨_, rfl⟩
          obtain ⟨gb, hgb⟩ : ∃ gb, gb = w0.heap.size := ⟨_, rfl⟩
          have HI0 : Hid (WhI gb 0 all s D (.slice none 0 0) (.slice none 0 0) w0 W1) := Lib.hid (by
            rw [hW1, hgb]
            exact ⟨_, World.ownsRow_nil _ _ _ _, World.ownsRow_nil _ _ _ _, World.ownsRow_nil _ _ _ _, heap_alloc_new _ _, (Below.refl _ _).alloc (Nat.le_refl _) _⟩)
          have HGB := Lib.hid hgb
          have HL0 : Hid (all = lefts all s D 0) := Lib.hid (by simp [lefts])
          have HLB := Lib.hid (fun i => lefts_bound (all := all) (D := D) ⟨hall, hall3⟩ hs0 (by have := HN.out; omega) (fun x hx => ⟨(HO.out x hx).1, by rw [HS.out]; exact mem_le_sum (fun y hy => (HO.out y hy).1) hx⟩) i)
          have wa : IntKind.u64.wrap all = all := IntWalk.u64_in _ (by omega)
          have wsu : IntKind.u64.wrap s = s := IntWalk.u64_in _ (by omega)
          go_upto_region 18 with fail
          rw [← hW1, ← hgb]
          clear hW1 hgb hb0 hqn hqn2 hq
          go_wp2_with fail
          go_loopg [10, 11, 13, 47] q (fun gk y vr vo x wr => ∃ (i : Nat) (l : Int), i + gk = q ∧ x = .int .i64 (i : Int) ∧ y = .int .i64 l ∧ Hid (l = lefts all s D i) ∧ Hid (WhI gb i all s D vr vo w0 wr))
          case atStart => exact ⟨0, all, by omega, rfl, rfl, HL0, HI0⟩
          case round =>
            clear HI0 HL0
            obtain ⟨i, l, hi, rfl, rfl, HL, HI⟩ := hrel
            by_cases hiq : i < q
            · obtain ⟨x, hx⟩ : ∃ x, D[i]? = some x := ⟨_, List.getElem?_eq_getElem (by have := HN.out; omega)⟩
              obtain ⟨vs, ht⟩ := HI.out.tri
              obtain ⟨b, off, rfl, hb, c1⟩ := i64at (HD.out.below ht.bel (by have := HGB.out; omega)) hx
              have hiq2 : (i : Int) < (q : Int) := by omega
              have hi0 : (0 : Int) ≤ (i : Int) := by omega
              have hxm := List.mem_of_getElem? hx
              have hx0 := (HO.out x hxm).1
              have hx1 : x ≤ s := by rw [HS.out]; exact mem_le_sum (fun y hy => (HO.out y hy).1) hxm
              have wx0 : IntKind.u64.wrap x = x := IntWalk.u64_in _ (by omega)
              have hqb := quo_bound (all := all) ⟨hall, hall3⟩ hs0 ⟨hx0, hx1⟩
              have hrb := rem_bound (all := all) (x := x) hs0
              have HQX : Hid ((quos all s D)[i]? = some (quoS all s x)) := Lib.hid (by unfold quos; rw [List.getElem?_map, hx]; rfl)
              have HRX : Hid ((rems all s D)[i]? = some (remS all s x)) := Lib.hid (by unfold rems; rw [List.getElem?_map, hx]; rfl)
              have HLN := Lib.hid (lefts_next (all := all) (S := s) hx)
              have hlb := HLB.out (i + 1)
              obtain ⟨hi9, lo9, hm9, hd9⟩ := mulDivW all x s hs0 hs1 hall hall3 hx0 hx1
              have HM9 := Lib.hid hm9
              have HD9 := Lib.hid hd9
              obtain ⟨qv, hqv⟩ : ∃ v, quoS all s x = v := ⟨_, rfl⟩
              obtain ⟨rv, hrv⟩ : ∃ v, remS all s x = v := ⟨_, rfl⟩
              rw [hqv] at hqb HQX HLN HD9
              rw [hrv] at hrb HRX HD9
              rw [HLN.out, ← HL.out] at hlb
              unfold m40 at hqb
              have wq : IntKind.i64.wrap qv = qv := IntWalk.i64_in _ (by omega)
              have wl : IntKind.i64.wrap (l - qv) = l - qv := IntWalk.i64_in _ (by omega)
              have HL2 : Hid (l - qv = lefts all s D (i + 1)) := Lib.hid (by rw [HLN.out, ← HL.out])
              have HT := Lib.hid ht
              clear hx hxm hqv hrv hlb hm9 hd9 ht HI
              go_upto_region 23 with (first
                | (go_at_call 156; refine (HM9.out _).mono ?_; rintro e w1 ⟨rfl, hw1⟩; obtain rfl := hw1.symm)
                | (go_at_call 157; refine (HD9.out _).mono ?_; rintro e w2 ⟨rfl, m2, hm2⟩; obtain rfl := hm2))
              obtain ⟨w3, hw3⟩ : ∃ w3, w3 = wr.drewN m2 := ⟨_, rfl⟩
              rw [← hw3]
              have HT := Lib.hid (show Tri gb vs w0 u11 i (ints64 (upn i)) vs i (rsts ((rems all s D).take i)) u13 i (ints64 ((quos all s D).take i)) w3 from hw3 ▸ HT.out.drewN m2)
              clear hw3
              have k1 := HT.out.cell.1
              have k2 := HT.out.cell.2.1
              have k3 := HT.out.cell.2.2
              refine wp_region_any (by decide +kernel) ?_
              refine wpAny_take (i := 0) (v := u11) rfl (by decide +kernel) (by decide +kernel) (by decide +kernel) (fun _ _ _ h => h) (Or.inl ⟨by rfl, fun w => by simp [execOp, go_sem, Act.eval, Act.put]⟩) ?_
              refine wpAny_take (i := 1) (v := .int .i64 (i : Int)) rfl (by decide +kernel) (by decide +kernel) (by decide +kernel) (fun _ _ _ h => h) (Or.inl ⟨by rfl, fun w => by simp [execOp, go_sem, Act.eval, Act.put]⟩) ?_
              refine wpAny_take (i := 5) (v := .int .u64 rv) rfl (by decide +kernel) (by decide +kernel) (by decide +kernel) (fun _ _ _ h => h) (Or.inl ⟨by rfl, fun w => by simp [execOp, go_sem, Act.eval, Act.put]⟩) ?_
              refine wpAny_take (i := 8) (v := u13) rfl (by decide +kernel) (by decide +kernel) (by decide +kernel) (fun _ _ _ h => h) (Or.inl ⟨by rfl, fun w => by simp [execOp, go_sem, Act.eval, Act.put]⟩) ?_
              refine wpAny_take (i := 9) (v := .int .u64 qv) rfl (by decide +kernel) (by decide +kernel) (by decide +kernel) (fun _ _ _ h => h) (Or.inl ⟨by rfl, fun w => by simp [execOp, go_sem, Act.eval, Act.put]⟩) ?_
              refine wpAny_take (i := 10) (v := .int .i64 qv) rfl (by decide +kernel) (by decide +kernel) (by decide +kernel) (fun _ _ _ h => h) (Or.inl ⟨by rfl, fun w => by simp [execOp, go_sem, Act.eval, Act.put, wq]⟩) ?_
              refine three_tail (i := i) (m := (i : Int)) (rv := rv) (qv := qv) (gb := gb) (vr := u11) (vs := vs) (vo := u13) (by omega) ⟨_, rfl, rfl, rfl, rfl⟩ ⟨_, rfl, rfl, rfl, rfl, by decide +kernel⟩ ⟨_, rfl, rfl, rfl, rfl⟩ ⟨_, rfl, rfl, rfl, rfl⟩ ⟨_, rfl, rfl, rfl, rfl, by decide +kernel, by decide +kernel⟩ ⟨_, rfl, rfl, rfl, rfl⟩ ⟨_, rfl, rfl, rfl, rfl, by decide +kernel⟩ (by simp [Act.put, Act.eval]) (by simp [Act.put, Act.eval]) (by simp [Act.put, Act.eval]) (by simp [Act.put, Act.eval]) (by simp [Act.put, Act.eval]) (by simp [Act.put, Act.eval]) (by decide +kernel) (by decide +kernel) (by decide +kernel) (by decide +kernel) (by decide +kernel) (by decide +kernel) (by decide +kernel) HT.out.drew (by simp [Act.put]) ?_
              intro x70 x72 x74 x79 g1 c1 g2 c2 g3 c3 w5 ht5
              have HT5 := Lib.hid (ht5.store (.slice (some ⟨g2, 0, none⟩) (i + 1) c2))
              have k4 := ht5.cell.1
              have k5 := ht5.cell.2.1
              have k6 := ht5.cell.2.2
              clear ht5
              simp only [List.drop_succ_cons, List.drop_zero]
              go_wp2_with fail
              have HI6 : Hid (WhI gb (i + 1) all s D (.slice (some ⟨g1, 0, none⟩) (i + 1) c1) (.slice (some ⟨g3, 0, none⟩) (i + 1) c3) w0 (w5.setCell ⟨gb, 0, none⟩ (.slice (some ⟨g2, 0, none⟩) (i + 1) c2))) := Lib.hid ⟨_, Tri.next HQX.out HRX.out HT5.out⟩
              go_roundg (gk - 1)
              case measure => omega
              case rel => exact ⟨i + 1, l - qv, by omega, by simp, rfl, HL2, HI6⟩
            · have hiq2 : ¬ (i : Int) < (q : Int) := by omega
              obtain rfl : i = q := by omega
              have hql : (quos all s D).length = i := by rw [HN.out]; exact List.length_map _
              have hrl : (rems all s D).length = i := by rw [HN.out]; exact List.length_map _
              have hS9 := HS.out
              have hlf := left_bound (all := all) (D := D) (by omega)
              rw [← hS9, ← HN.out] at hlf
              have hL9 : l = all - (quos all s D).sum := by rw [HL.out]; unfold lefts; rw [List.take_of_length_le (by omega)]
              rw [← hL9] at hlf
              obtain ⟨k, hk⟩ : ∃ k : Nat, (k : Int) = l := ⟨l.toNat, Int.toNat_of_nonneg hlf.1⟩
              have hk2 : k ≤ i := by omega
              have HK := Lib.hid (show k = (all - (quos all s D).sum).toNat from by omega)
              have hi0 : 0 < i := by
                rcases Nat.eq_zero_or_pos i with h | h
                · have : D = [] := List.eq_nil_of_length_eq_zero (by rw [← HN.out]; exact h)
                  rw [this] at hS9
                  simp at hS9
                  omega
                · exact h
              obtain ⟨vs, ht⟩ := HI.out.tri
              rw [List.take_of_length_le (by omega), List.take_of_length_le (by omega)] at ht
              obtain ⟨g1, c1, g3, c3, rfl, rfl, hf⟩ := ht.fill hrl hi0
              have HF := Lib.hid hf
              have HQL := Lib.hid hql
              have HRL := Lib.hid hrl
              have HQB : Hid (∀ x, x ∈ quos all s D → 0 ≤ x ∧ x ≤ m40) := Lib.hid (fun x hx => by
                obtain ⟨y, hy, rfl⟩ := List.mem_map.1 hx
                exact quo_bound ⟨hall, hall3⟩ hs0 ⟨(HO.out y hy).1, by rw [HS.out]; exact mem_le_sum (fun y hy => (HO.out y hy).1) hy⟩)
              have hc1 : k ≤ c1 := by have := hf.cap; omega
              have hik : (k : Int) ≤ (c1 : Int) := by omega
              clear hql hrl hS9 hlf hL9 HL ht hf HI
              subst hk
              have HSR := Lib.hid (sortS_any 158 whole_enters (.pointer (some ⟨gb, 0, none⟩)) (wholeC (rems all s D)) (kD (rems all s D)) g1 c1 wr (upn i) i wr HF.out.cmp (wholeC_by _ _) HF.out.srt (upn_asc i) (upn_length i) (by omega))
              go_wp2_with (go_at_call 123; refine Calls.mono HSR.out ?_; rintro e w2 ⟨rfl, L, hs1, hs2⟩; have HS1 := Lib.hid hs1; have HS2 := Lib.hid hs2; clear hs1 hs2)
              have HE0 := Lib.hid (WhE.start HF.out HS1.out)
              have HPL := Lib.hid (show L.length = i from by rw [HS1.out.perm.length_eq, upn_length])
              have HPM := Lib.hid HS1.out.perm
              clear HS1 HSR HF
              go_loopg [93] k (fun gk x wr => ∃ j : Nat, j + gk = k ∧ x = .int .i64 (j : Int) ∧ Hid (WhE gb g1 c1 g3 c3 i L (quos all s D) j w0 wr))
              case atStart => exact ⟨0, by omega, rfl, HE0⟩
              case round => as_aux_lemma =>
                clear HE0
                obtain ⟨j, hj, rfl, HE⟩ := hrel
                by_cases hjk : j < k
                · obtain ⟨o, ho⟩ : ∃ o, L[j]? = some o := ⟨_, List.getElem?_eq_getElem (by have := HPL.out; omega)⟩
                  have hom := upn_mem.1 (HPM.out.mem_iff.1 (List.mem_of_getElem? ho))
                  obtain ⟨p, rfl⟩ : ∃ p : Nat, o = (p : Int) := ⟨o.toNat, (Int.toNat_of_nonneg hom.1).symm⟩
                  have hp : p < i := by omega
                  have hp2 : (p : Int) < (i : Int) := by omega
                  have hp3 : (0 : Int) ≤ (p : Int) := by omega
                  have hjk2 : (j : Int) < (k : Int) := by omega
                  have c1 := HE.out.at ho
                  obtain ⟨y, hy⟩ : ∃ y, (bump (quos all s D) (L.take j))[p]? = some y := ⟨_, List.getElem?_eq_getElem (by rw [bump_length, HQL.out]; omega)⟩
                  have k0 := (HE.out.outAt hy).1
                  have k1 := (HE.out.outAt hy).2.1
                  have k2 := (HE.out.outAt hy).2.2
                  have hyb : 0 ≤ y ∧ y ≤ 1099511627776 + 100 := by
                    have h1 := bump_bound HQB.out y (List.mem_of_getElem? hy)
                    have h2 : (L.take j).length ≤ 100 := by rw [List.length_take]; have := HPL.out; omega
                    unfold m40 at h1
                    omega
                  have wy : IntKind.i64.wrap (y + 1) = y + 1 := IntWalk.i64_in _ (by omega)
                  have HE2 := Lib.hid (HE.out.step ho hy)
                  clear ho hom hy hyb
                  go_wp2_with fail
                  go_roundg (gk - 1)
                  case measure => omega
                  case rel => exact ⟨j + 1, by omega, by simp, HE2⟩
                · have hjk2 : ¬ (j : Int) < (k : Int) := by omega
                  obtain rfl : j = k := by omega
                  have HW : Hid (WholeR all D (bump (quos all s D) (L.take j))) := Lib.hid (.inr ⟨HV.out.symm, L, by rw [← HN.out]; exact HPM.out, by rw [← HS.out]; exact HS2.out, by unfold wholeO; rw [← HS.out, ← HK.out]⟩)
                  have HE9 := Lib.hid (IsVals.own HE.out.out)
                  go_wp2_with fail
                  go_ret2
                  exact ⟨_, _, by rw [← HV.out] <;> rfl, HW.out, HE9.out, HGB.out ▸ HE.out.bel⟩
end Go.Proofs.Ytfjoakhcgpckgaa
