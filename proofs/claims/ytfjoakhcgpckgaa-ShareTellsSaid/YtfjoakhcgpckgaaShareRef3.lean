/- Contract: the document's whole shares. -/
import Derived.Test.YtfjoakhcgpckgaaShareRef2
import Derived.Test.YtfjoakhcgpckgaaShareWholeM
import Derived.Test.YtfjoakhcgpckgaaMulDiv
namespace Go.Proofs.Ytfjoakhcgpckgaa
open Go.ChangeShapes Go.WideShapes Go.ChangeAt Go.RowKit
set_option linter.unusedVariables false
open Sh St
def fillI (L : List Int) (q j : Nat) : Value := .int .i64 (if j < q then L.getD j 0 else 0)
theorem fillI_set {w : World} {b n q : Nat} {t : TypeId} {L : List Int} {v : Int} (h : w.rowIs b t n (fillI L q)) (hv : L[q]? = some v) : (w.setCell ⟨b, q, none⟩ (.int .i64 v)).rowIs b t n (fillI L (q + 1)) :=
  (h.set q _).congr fun j hj => by
    unfold fillI
    by_cases e : j = q
    · subst e; rw [if_pos rfl, if_pos (by omega), getD_at hv]
    · rw [if_neg e]
      by_cases e2 : j < q
      · rw [if_pos e2, if_pos (by omega)]
      · rw [if_neg e2, if_neg (by omega)]
theorem fillI_bump {w : World} {b n i : Nat} {t : TypeId} {X : List Int} {v : Int} (h : w.rowIs b t n (fillI X n)) (hi : i < X.length) : (w.setCell ⟨b, i, none⟩ (.int .i64 v)).rowIs b t n (fillI (X.set i v) n) :=
  (h.set i _).congr fun j hj => by
    unfold fillI
    rw [if_pos hj, if_pos hj]
    by_cases e : j = i
    · subst e; rw [if_pos rfl, getD_at (List.getElem?_set_self hi)]
    · rw [if_neg e, List.getD_eq_getElem?_getD, List.getD_eq_getElem?_getD, List.getElem?_set_ne (fun h => e h.symm)]
theorem fillI_list {L : List Int} {n : Nat} (h : L.length = n) : (List.range n).map (fillI L n) = ints64 L := by
  apply List.ext_getElem?
  intro j
  unfold ints64
  by_cases hj : j < n
  · rw [List.getElem?_map, List.getElem?_range hj, List.getElem?_map, List.getElem?_eq_getElem (by omega)]
    simp only [Option.map_some, fillI, if_pos hj]
    rw [getD_at (List.getElem?_eq_getElem (by omega))]
  · rw [List.getElem?_eq_none (by simp; omega), List.getElem?_eq_none (by rw [List.length_map]; omega)]
theorem fillI_vals {w : World} {b n cap : Nat} {t : TypeId} {L : List Int} (h : w.rowIs b t n (fillI L n)) (hl : L.length = n) : IsVals w (.slice (some ⟨b, 0, none⟩) n cap) (ints64 L) := by
  have := IsVals.row (cap := cap) h
  rwa [fillI_list hl] at this
theorem mulDivI (all x S : Int) (w : World) (hS : 0 < S) (hS2 : S ≤ 1000000000) (h0 : 0 ≤ all) (h1 : all ≤ 1099511627776) (hx0 : 0 ≤ x) (hx1 : x ≤ S) :
    Calls Try.prog 160 #[.int .u64 all, .int .u64 x, .int .u64 S] w fun e w' => e = .returned (.tuple #[.int .u64 (quoS all S x), .int .u64 (remS all S x)]) ∧ w' = w := by
  obtain ⟨a, rfl⟩ : ∃ a : Nat, all = (a : Int) := ⟨all.toNat, (Int.toNat_of_nonneg h0).symm⟩
  obtain ⟨b, rfl⟩ : ∃ b : Nat, x = (b : Int) := ⟨x.toNat, (Int.toNat_of_nonneg hx0).symm⟩
  obtain ⟨y, rfl⟩ : ∃ y : Nat, S = (y : Int) := ⟨S.toNat, (Int.toNat_of_nonneg (by omega)).symm⟩
  have := mulDiv_any a b y w hS hS2 h1 (by exact_mod_cast hx1)
  rwa [show ((a * b / y : Nat) : Int) = quoS a y b from by unfold quoS; rw [Int.natCast_ediv, Int.natCast_mul], show ((a * b % y : Nat) : Int) = remS a y b from by unfold remS; rw [Int.natCast_emod, Int.natCast_mul]] at this
def WholeR (all : Int) (D R : List Int) : Prop := (wholeE D ≠ 0 ∧ R = []) ∨ (wholeE D = 0 ∧ WholeIs all D R)
def WholePost (all : Int) (D : List Int) (w : World) (e : Ending) (w' : World) : Prop := ∃ vo R, e = .returned (.tuple #[vo, .int .i64 (wholeE D)]) ∧ WholeR all D R ∧ IsVals w' vo (ints64 R) ∧ Below w.heap.size w w'
theorem WholeR.uniq {all : Int} {D R R' : List Int} (h : WholeR all D R) (h' : WholeR all D R') : R = R' := by
  rcases h with ⟨h1, h2⟩ | ⟨h1, h2⟩ <;> rcases h' with ⟨h3, h4⟩ | ⟨h3, h4⟩
  · rw [h2, h4]
  · exact (h1 h3).elim
  · exact (h3 h1).elim
  · exact h2.uniq h4
/-- what is left behind the first q -/
def lefts (all S : Int) (D : List Int) (q : Nat) : Int := all - ((quos all S D).take q).sum
theorem lefts_next {all S : Int} {D : List Int} {q : Nat} {x : Int} (h : D[q]? = some x) : lefts all S D (q + 1) = lefts all S D q - quoS all S x := by
  have hx : (quos all S D)[q]? = some (quoS all S x) := by unfold quos; rw [List.getElem?_map, h]; rfl
  unfold lefts
  rw [sum_take_snoc hx]
  omega
theorem lefts_bound {all S : Int} {D : List Int} (ha : 0 ≤ all ∧ all ≤ m40) (hS : 0 < S) (hn : D.length ≤ 100) (hD : ∀ x, x ∈ D → 0 ≤ x ∧ x ≤ S) (q : Nat) : -109951162777600 ≤ lefts all S D q ∧ lefts all S D q ≤ 1099511627776 := by
  have h := sum_bound (D := (quos all S D).take q) (m := m40) (fun x hx => by
    obtain ⟨y, hy, rfl⟩ := List.mem_map.1 (List.mem_of_mem_take hx)
    exact quo_bound ha hS (hD y hy))
  have hl : (((quos all S D).take q).length : Int) ≤ 100 := by
    rw [List.length_take]
    have : (quos all S D).length = D.length := List.length_map _
    omega
  unfold lefts
  simp only [m40] at h ha
  omega
theorem sums_bound {D : List Int} (hn : D.length ≤ 100) (hD : ∀ x, x ∈ D → 0 ≤ x ∧ x ≤ m40) (q : Nat) : 0 ≤ (D.take q).sum ∧ (D.take q).sum ≤ 109951162777600 := by
  have h := sum_bound (take_ok hD q)
  have hl : ((D.take q).length : Int) ≤ 100 := by rw [List.length_take]; omega
  simp only [m40] at h
  omega
set_option maxRecDepth 20000 in
set_option maxHeartbeats 1600000 in
theorem rWhole_any (all : Int) (D : List Int) (a : Option Addr) (n cap : Nat) (w : World) (hall : 0 ≤ all) (hall2 : all ≤ 1099511627776) (hn : n = D.length) (h4 : n ≤ 100) (hD : Vals w a (ints64 D)) (hok : ∀ x, x ∈ D → 0 ≤ x ∧ x ≤ m40) :
    Calls Try.prog 77 #[.int .i64 all, .slice a n cap] w fun e w' => WholePost all D w e w' := by
  have HD := Lib.hid hD
  have HN := Lib.hid hn
  have HO := Lib.hid hok
  have HSB := Lib.hid (fun q => sums_bound (D := D) (by omega) hok q)
  have hmk := Lib.hid (run_make_row' (P := Try.prog) 36 2 (.int .i64 0) 8 Try.underlying36 infoI64 rfl .i64 .i64 n (by omega) (by omega))
  clear hD hn hok
  go_enter Try.func77, Try.ntmps77
  go_wp2_with fail
  go_loopg [6, 20] n (fun gk y x wr => ∃ (q : Nat) (s : Int), q + gk = n ∧ x = .int .i64 (q : Int) ∧ y = .int .i64 s ∧ Hid (s = (D.take q).sum) ∧ wr = w)
  case atStart => exact ⟨0, 0, by omega, rfl, rfl, Lib.hid rfl, rfl⟩
  case round =>
    obtain ⟨q, s, hq, rfl, rfl, HQ, rfl⟩ := hrel
    by_cases hqn : q < n
    · obtain ⟨x, hx⟩ : ∃ x, D[q]? = some x := ⟨_, List.getElem?_eq_getElem (by have := HN.out; omega)⟩
      obtain ⟨b, off, rfl, hb, c1⟩ := i64at HD.out hx
      have hqn2 : (q : Int) < (n : Int) := by omega
      obtain ⟨s2, hs2⟩ : ∃ s2, s + x = s2 := ⟨_, rfl⟩
      have HS2 : Hid (s2 = (D.take (q + 1)).sum) := Lib.hid (by rw [sum_take_snoc hx, ← HQ.out, hs2])
      have hb2 := HSB.out (q + 1)
      rw [← HS2.out] at hb2
      have ws : IntKind.i64.wrap s2 = s2 := IntWalk.i64_in _ (by omega)
      clear hx
      go_wp2_with fail
      go_roundg (gk - 1)
      case measure => omega
      case rel => exact ⟨q + 1, s2, by omega, by simp, rfl, HS2, rfl⟩
    · have hqn2 : ¬ (q : Int) < (n : Int) := by omega
      obtain rfl : q = n := by omega
      have HS := Lib.hid (show s = D.sum from by have h := HQ.out; rwa [List.take_of_length_le (by have := HN.out; omega)] at h)
      have hb0 := HSB.out q
      rw [← HQ.out] at hb0
      by_cases h0 : s = 0
      · have HV := Lib.hid (show (5 : Int) = wholeE D from by unfold wholeE; rw [← HS.out, if_pos h0])
        have HW := Lib.hid (show WholeR all D [] from .inl ⟨by rw [← HV.out]; omega, rfl⟩)
        subst h0
        go_wp2_with fail
        go_ret2
        exact ⟨_, [], by rw [← HV.out] <;> rfl, HW.out, IsVals.empty _, Below.refl _ _⟩
      · have h0b : (s == 0) = false := by simpa using h0
        by_cases h1 : 1000000000 < s
        · have HV := Lib.hid (show (2 : Int) = wholeE D from by unfold wholeE; rw [← HS.out, if_neg h0, if_pos h1])
          have HW := Lib.hid (show WholeR all D [] from .inl ⟨by rw [← HV.out]; omega, rfl⟩)
          have h1b : decide (1000000000 < s) = true := by simp [h1]
          go_wp2_with fail
          go_ret2
          exact ⟨_, [], by rw [← HV.out] <;> rfl, HW.out, IsVals.empty _, Below.refl _ _⟩
        · have HV := Lib.hid (show (0 : Int) = wholeE D from by unfold wholeE; rw [← HS.out, if_neg h0, if_neg h1])
          have h1b : decide (1000000000 < s) = false := by simp only [h1, decide_false]
          have hs0 : 0 < s := by omega
          have hs1 : s ≤ 1000000000 := by omega
          have hmk2 := hmk.out
          obtain ⟨W1, hW1⟩ : ∃ W, W = (wr.alloc (.cells (madeCells #[.int .i64 0] q) 2)).alloc (.cells (madeCells #[.int .i64 0] q) 2) := ⟨_, rfl⟩
          obtain ⟨gb, hgb⟩ : ∃ gb, gb = wr.heap.size := ⟨_, rfl⟩
          have HR0 : Hid (W1.rowIs gb 2 q (fillI (quos all s D) 0)) := Lib.hid (by
            rw [hW1, hgb]
            exact ((rowIs_made_at wr (.int .i64 0) q 2 rfl).alloc _).congr fun j hj => (by unfold fillI; rw [if_neg (by omega)]))
          have HT0 : Hid (W1.rowIs (gb + 1) 2 q (fillI (rems all s D) 0)) := Lib.hid (by
            rw [hW1, hgb]
            exact (rowIs_made_at _ (.int .i64 0) q 2 (by simp)).congr fun j hj => (by unfold fillI; rw [if_neg (by omega)]))
          have HB1 := Lib.hid (show Below gb wr W1 from by rw [hW1, hgb]; exact ((Below.refl _ _).alloc (Nat.le_refl _) _).alloc (by simp) _)
          have HGB := Lib.hid hgb
          have HL0 : Hid (all = lefts all s D 0) := Lib.hid (by simp [lefts])
          have HLB := Lib.hid (fun i => lefts_bound (all := all) (D := D) ⟨hall, hall2⟩ hs0 (by have := HN.out; omega) (fun x hx => ⟨(HO.out x hx).1, by rw [HS.out]; exact mem_le_sum (fun y hy => (HO.out y hy).1) hx⟩) i)
          have wa : IntKind.u64.wrap all = all := IntWalk.u64_in _ (by omega)
          have wsu : IntKind.u64.wrap s = s := IntWalk.u64_in _ (by omega)
          go_upto_region 14 with fail
          rw [← hW1, ← hgb]
          clear hmk2 hW1 hgb hb0 hqn hqn2 hq
          have HMD : Hid (∀ x W, 0 ≤ x → x ≤ s → Calls Try.prog 160 #[.int .u64 all, .int .u64 x, .int .u64 s] W fun e w' => e = .returned (.tuple #[.int .u64 (quoS all s x), .int .u64 (remS all s x)]) ∧ w' = W) := Lib.hid (fun x W hx0 hx1 => mulDivI all x s W hs0 hs1 hall hall2 hx0 hx1)
          obtain ⟨w0, rfl⟩ : ∃ x, x = wr := ⟨_, rfl⟩
          go_wp2_with fail
          go_loopg [11, 41] q (fun gk y x wr => ∃ (i : Nat) (l : Int), i + gk = q ∧ x = .int .i64 (i : Int) ∧ y = .int .i64 l ∧ Hid (l = lefts all s D i) ∧ Hid (wr.rowIs gb 2 q (fillI (quos all s D) i)) ∧ Hid (wr.rowIs (gb + 1) 2 q (fillI (rems all s D) i)) ∧ Hid (Below gb w0 wr))
          case atStart => exact ⟨0, all, by omega, rfl, rfl, HL0, HR0, HT0, HB1⟩
          case round => as_aux_lemma =>
            clear HR0 HT0 HB1 HL0
            obtain ⟨i, l, hi, rfl, rfl, HL, HR, HT, HB⟩ := hrel
            by_cases hiq : i < q
            · obtain ⟨x, hx⟩ : ∃ x, D[i]? = some x := ⟨_, List.getElem?_eq_getElem (by have := HN.out; omega)⟩
              obtain ⟨b, off, rfl, hb, c1⟩ := i64at (HD.out.below HB.out (by have := HGB.out; omega)) hx
              have hiq2 : (i : Int) < (q : Int) := by omega
              have hi0 : (0 : Int) ≤ (i : Int) := by omega
              have hxm := List.mem_of_getElem? hx
              have hx0 := (HO.out x hxm).1
              have hx1 : x ≤ s := by rw [HS.out]; exact mem_le_sum (fun y hy => (HO.out y hy).1) hxm
              have wx0 : IntKind.u64.wrap x = x := IntWalk.u64_in _ (by omega)
              have hqb := quo_bound (all := all) ⟨hall, hall2⟩ hs0 ⟨hx0, hx1⟩
              have hrb := rem_bound (all := all) (x := x) hs0
              have HQX : Hid ((quos all s D)[i]? = some (quoS all s x)) := Lib.hid (by unfold quos; rw [List.getElem?_map, hx]; rfl)
              have HRX : Hid ((rems all s D)[i]? = some (remS all s x)) := Lib.hid (by unfold rems; rw [List.getElem?_map, hx]; rfl)
              have HLN := Lib.hid (lefts_next (all := all) (S := s) hx)
              have hlb := HLB.out (i + 1)
              have HC := Lib.hid (HMD.out x wr hx0 hx1)
              obtain ⟨qv, hqv⟩ : ∃ v, quoS all s x = v := ⟨_, rfl⟩
              obtain ⟨rv, hrv⟩ : ∃ v, remS all s x = v := ⟨_, rfl⟩
              rw [hqv] at hqb HQX HLN HC
              rw [hrv] at hrb HRX HC
              rw [HLN.out, ← HL.out] at hlb
              unfold m40 at hqb
              have wq : IntKind.i64.wrap qv = qv := IntWalk.i64_in _ (by omega)
              have wrr : IntKind.i64.wrap rv = rv := IntWalk.i64_in _ (by omega)
              have wl : IntKind.i64.wrap (l - qv) = l - qv := IntWalk.i64_in _ (by omega)
              have HL2 : Hid (l - qv = lefts all s D (i + 1)) := Lib.hid (by rw [HLN.out, ← HL.out])
              have k1 := HR.out.frozen i
              have k2 := HR.out.lt
              have k3 := HT.out.frozen i
              have k4 := HT.out.lt
              have k5 := HR.out.cell hiq
              have k6 := HT.out.cell hiq
              have HR2 := Lib.hid (show ((wr.setCell ⟨gb, i, none⟩ (.int .i64 qv)).setCell ⟨gb + 1, i, none⟩ (.int .i64 rv)).rowIs gb 2 q (fillI (quos all s D) (i + 1)) from (fillI_set HR.out HQX.out).setOther (by simp) _)
              have HT2 := Lib.hid (show ((wr.setCell ⟨gb, i, none⟩ (.int .i64 qv)).setCell ⟨gb + 1, i, none⟩ (.int .i64 rv)).rowIs (gb + 1) 2 q (fillI (rems all s D) (i + 1)) from fillI_set (HT.out.setOther (by simp) _) HRX.out)
              have HB2 := Lib.hid ((HB.out.setCell (p := ⟨gb, i, none⟩) (Nat.le_refl _) (.int .i64 qv)).setCell (p := ⟨gb + 1, i, none⟩) (by show gb ≤ gb + 1; omega) (.int .i64 rv))
              clear hx hxm hqv hrv hlb
              go_wp2_with (go_at_call 160; refine HC.out.mono ?_; rintro e w1 ⟨rfl, rfl⟩)
              go_roundg (gk - 1)
              case measure => omega
              case rel => exact ⟨i + 1, l - qv, by omega, by simp, rfl, HL2, HR2, HT2, HB2⟩
            · have hiq2 : ¬ (i : Int) < (q : Int) := by omega
              obtain rfl : i = q := by omega
              have hql : (quos all s D).length = i := by rw [HN.out]; exact List.length_map _
              have hrl : (rems all s D).length = i := by rw [HN.out]; exact List.length_map _
              have hS9 := HS.out
              have hlf := left_bound (all := all) (D := D) (by omega)
              rw [← hS9, ← HN.out] at hlf
              have hL9 : l = all - (quos all s D).sum := by rw [HL.out]; unfold lefts; rw [List.take_of_length_le (by omega)]
              rw [← hL9] at hlf
              obtain ⟨k, hk⟩ : ∃ k : Nat, (k : Int) = l := ⟨l.toNat, Int.toNat_of_nonneg hlf.1⟩
              have hk2 : k ≤ i := by omega
              have HK := Lib.hid (show k = (all - (quos all s D).sum).toNat from by omega)
              obtain ⟨av, cv, hav, hvv⟩ := fillI_vals (cap := i) HT.out hrl
              have hlr : (ints64 (rems all s D)).length = i := by rw [ints64_length, hrl]
              rw [hlr] at hav
              simp only [Value.slice.injEq, true_and] at hav
              obtain ⟨rfl, rfl⟩ := hav
              have HDC := Lib.hid (Down_any (rems all s D) (some ⟨gb + 1, 0, none⟩) i i wr hrl.symm (by omega) hvv)
              have HQL := Lib.hid hql
              have hgw := HB.out.size
              have hgr := HR.out.lt
              have HQB : Hid (∀ x, x ∈ quos all s D → 0 ≤ x ∧ x ≤ m40) := Lib.hid (fun x hx => by
                obtain ⟨y, hy, rfl⟩ := List.mem_map.1 hx
                exact quo_bound ⟨hall, hall2⟩ hs0 ⟨(HO.out y hy).1, by rw [HS.out]; exact mem_le_sum (fun y hy => (HO.out y hy).1) hy⟩)
              clear hql hrl hS9 hlf hL9 hvv hlr HL
              subst hk
              go_upto_region 22 with (go_at_call 44; refine HDC.out.mono ?_; rintro e w2 ⟨os, vo, rfl, hio, hpo, hso, hbo, hfo⟩; have HBO := Lib.hid hbo; have HPO := Lib.hid hpo; have HSO := Lib.hid hso; obtain ⟨oa, oc, rfl, hov⟩ := hio; have HFO := Lib.hid (show ∀ p, oa = some p → wr.heap.size ≤ p.block from fun p hp => hfo p.block (by rw [hp]; rfl)); clear hfo; have HOV := Lib.hid hov; have hol : os.length = i := (by rw [hpo.length_eq, upn_length]); rw [show (ints64 os).length = i from (by rw [ints64_length, hol])]; have HOL := Lib.hid hol; clear hov hol hpo hso hbo)
              have HX0 := Lib.hid (rowIs_below HR.out HBO.out hgr)
              have HB9 := Lib.hid (HB.out.trans (HBO.out.mono (by have := HGB.out; omega)))
              have hg9 := HBO.out.size
              clear HR HT HB
              go_wp2_with fail
              go_loopg [11, 74] i (fun gk y x wr => ∃ (j : Nat) (l : Int) (X : List Int), j + gk = i ∧ x = .int .i64 (j : Int) ∧ y = .int .i64 l ∧ Hid (l = (k : Int) - (min j k : Nat)) ∧ Hid (X = bump (quos all s D) (os.take (min j k))) ∧ Hid (wr.rowIs gb 2 i (fillI X i)) ∧ Hid (Below gb w0 wr) ∧ Hid (Vals wr oa (ints64 os)))
              case atStart => exact ⟨0, k, _, by omega, rfl, rfl, Lib.hid (by simp), Lib.hid (by simp; rfl), HX0, HB9, HOV⟩
              case round => as_aux_lemma =>
                clear HX0 HB9 HOV
                obtain ⟨j, l, X, hj, rfl, rfl, HL, HX, HR, HB, HV3⟩ := hrel
                have hXl : X.length = i := by rw [HX.out, bump_length, HQL.out]
                by_cases hji : j < i
                · obtain ⟨o, ho⟩ : ∃ o, os[j]? = some o := ⟨_, List.getElem?_eq_getElem (by have := HOL.out; omega)⟩
                  obtain ⟨b, off, rfl, hb, c1⟩ := i64at HV3.out ho
                  have hom := upn_mem.1 (HPO.out.mem_iff.1 (List.mem_of_getElem? ho))
                  obtain ⟨p, rfl⟩ : ∃ p : Nat, o = (p : Int) := ⟨o.toNat, (Int.toNat_of_nonneg hom.1).symm⟩
                  have hp : p < i := by omega
                  have hp2 : (p : Int) < (i : Int) := by omega
                  have hji2 : (j : Int) < (i : Int) := by omega
                  have HO2 := Lib.hid ho
                  clear ho hom
                  by_cases hjk : j < k
                  · have hl0 : l = (k : Int) - (j : Int) := by rw [HL.out]; omega
                    have hl1 : decide (0 < l) = true := by simp only [decide_eq_true_eq]; omega
                    have wl : IntKind.i64.wrap (l - 1) = l - 1 := IntWalk.i64_in _ (by omega)
                    obtain ⟨y, hy⟩ : ∃ y, X.getD p 0 = y := ⟨_, rfl⟩
                    have hyb : 0 ≤ y ∧ y ≤ 1099511627776 + 100 := by
                      have hm : y ∈ X := by rw [← hy, List.getD_eq_getElem?_getD, List.getElem?_eq_getElem (by omega)]; exact List.getElem_mem _
                      rw [HX.out] at hm
                      have h1 := bump_bound HQB.out y hm
                      have h2 : (os.take (min j k)).length ≤ 100 := by rw [List.length_take]; have := HOL.out; omega
                      unfold m40 at h1
                      omega
                    have wy : IntKind.i64.wrap (y + 1) = y + 1 := IntWalk.i64_in _ (by omega)
                    have k0 := HR.out.cell hp
                    unfold fillI at k0
                    rw [if_pos hp, hy] at k0
                    have k1 := HR.out.frozen p
                    have k2 := HR.out.lt
                    have HR2 := Lib.hid (fillI_bump (v := y + 1) HR.out (by omega : p < X.length))
                    have HX2 : Hid (X.set p (y + 1) = bump (quos all s D) (os.take (min (j + 1) k))) := Lib.hid (by
                      rw [show min (j + 1) k = min j k + 1 from by omega, bump_take (show os[min j k]? = some (p : Int) from by rw [show min j k = j from by omega]; exact HO2.out), ← HX.out, Int.toNat_natCast, hy])
                    have HL2 : Hid (l - 1 = (k : Int) - (min (j + 1) k : Nat)) := Lib.hid (by omega)
                    have HB2 := Lib.hid (HB.out.setCell (p := ⟨gb, p, none⟩) (Nat.le_refl _) (.int .i64 (y + 1)))
                    have HV4 : Hid (Vals (wr.setCell ⟨gb, p, none⟩ (.int .i64 (y + 1))) (some ⟨b, off, none⟩) (ints64 os)) := Lib.hid (fun hlen => by
                      obtain ⟨b2, off2, e2, hb2, hv2⟩ := HV3.out hlen
                      simp only [Option.some.injEq, Addr.mk.injEq, and_true] at e2
                      obtain ⟨rfl, rfl⟩ := e2
                      have hne : _ ≤ b := HFO.out _ rfl
                      refine ⟨b, off, rfl, by simpa using hb2, fun i2 v2 hi2 => ?_⟩
                      rw [World.cell?_setCell_other _ _ _ _ (by intro h; have := congrArg Addr.block h; simp only at this; omega)]
                      exact hv2 i2 v2 hi2)
                    clear hl0 hy hyb
                    go_wp2_with fail
                    go_roundg (gk - 1)
                    case measure => omega
                    case rel => exact ⟨j + 1, l - 1, _, by omega, by simp, rfl, HL2, HX2, HR2, HB2, HV4⟩
                  · have hl0 : l = 0 := by rw [HL.out]; omega
                    subst hl0
                    have HX2 : Hid (X = bump (quos all s D) (os.take (min (j + 1) k))) := Lib.hid (by
                      rw [show min (j + 1) k = min j k from by omega]; exact HX.out)
                    have HL2 : Hid ((0 : Int) = (k : Int) - (min (j + 1) k : Nat)) := Lib.hid (by omega)
                    go_wp2_with fail
                    go_roundg (gk - 1)
                    case measure => omega
                    case rel => exact ⟨j + 1, 0, X, by omega, by simp, rfl, HL2, HX2, HR, HB, HV3⟩
                · have hji2 : ¬ (j : Int) < (i : Int) := by omega
                  obtain rfl : j = i := by omega
                  have HW : Hid (WholeR all D X) := Lib.hid (.inr ⟨HV.out.symm, os, by rw [← HN.out]; exact HPO.out, by rw [← HS.out]; exact HSO.out, by unfold wholeO; rw [← HS.out, ← HK.out, HX.out, show min j k = k from by omega]⟩)
                  have HE := Lib.hid (fillI_vals (cap := j) HR.out hXl)
                  have hXl2 : (ints64 X).length = j := by rw [ints64_length, hXl]
                  clear hXl hXl2
                  go_wp2_with fail
                  go_ret2
                  exact ⟨_, X, by rw [← HV.out] <;> rfl, HW.out, HE.out, HGB.out ▸ HB.out⟩
end Go.Proofs.Ytfjoakhcgpckgaa
