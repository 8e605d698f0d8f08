/- The walk of the law DueTells: for all tasks and every row it answers true. -/
import Derived.Test.YtdbipmidjdhjpaaDueValid
import Derived.Test.YtdbipmidjdhjpaaDueRef
import Derived.Test.YtdbipmidjdhjpaaDueOver
namespace Go.Proofs.Ytdbipmidjdhjpaa
open Go.ChangeShapes Go.WideShapes Go.ChangeAt Go.RowKit
set_option linter.unusedVariables false
set_option linter.unusedSimpArgs false
theorem least_nat {P : Nat → Prop} (h : ∃ n, P n) : ∃ n, P n ∧ ∀ m, m < n → ¬ P m := by
  obtain ⟨n, hn⟩ := h
  induction n using Nat.strongRecOn with
  | _ n ih =>
    by_cases hc : ∃ m, m < n ∧ P m
    · obtain ⟨m, h1, h2⟩ := hc
      exact ih m h1 h2
    · exact ⟨n, hn, fun m h1 h2 => hc ⟨m, h1, h2⟩⟩
theorem tight_ex (L : Tk) (h : ∃ a b, 0 ≤ a ∧ a < b ∧ b ≤ 200 ∧ Over L a b) : ∃ p q, TightIs L p q true := by
  obtain ⟨a, b, h0, h1, h2, h3⟩ := h
  obtain ⟨x, rfl⟩ := Int.eq_ofNat_of_zero_le h0
  obtain ⟨y, rfl⟩ := Int.eq_ofNat_of_zero_le (show 0 ≤ b by omega)
  obtain ⟨p, ⟨y, g1, g2, g3⟩, hp⟩ := least_nat (P := fun x : Nat => ∃ y : Nat, (x : Int) < y ∧ (y : Int) ≤ 200 ∧ Over L x y) ⟨x, y, h1, h2, h3⟩
  obtain ⟨q, ⟨k1, k2, k3⟩, hq⟩ := least_nat (P := fun y : Nat => (p : Int) < y ∧ (y : Int) ≤ 200 ∧ Over L p y) ⟨y, g1, g2, g3⟩
  refine ⟨p, q, .inl ⟨rfl, by omega, k1, k2, k3, fun a b e0 e1 e2 e3 e4 => ?_⟩⟩
  obtain ⟨x, rfl⟩ := Int.eq_ofNat_of_zero_le e0
  obtain ⟨y, rfl⟩ := Int.eq_ofNat_of_zero_le (show 0 ≤ b by omega)
  rcases e3 with e3 | ⟨e3, e5⟩
  · exact hp x (by omega) ⟨y, e1, e2, e4⟩
  · obtain rfl : x = p := by omega
    exact hq y (by omega) ⟨e1, e2, e4⟩
theorem eqSame (R : List Int) (a1 a2 : Option Addr) (n1 c1 n2 c2 : Nat) (w : World) (h1 : n1 = R.length) (h2 : n2 = R.length) (hm : R.length ≤ 9223372036854775807) (hA : Vals w a1 (R.map (Value.int .i64))) (hB : Vals w a2 (R.map (Value.int .i64))) :
    Calls Try.prog 46 #[.slice a1 n1 c1, .slice a2 n2 c2] w fun e w' => e = .returned (.bool true) ∧ Below w.heap.size w w' := by
  subst h1 h2
  by_cases h0 : R.length = 0
  · rw [h0]
    refine (Try.slices_Equal_int_empty a1 a2 c1 0 c2 w (by omega)).mono fun e w' ⟨h, h'⟩ => ⟨by rw [h]; rfl, by rw [h']; exact Below.refl _ _⟩
  · obtain ⟨b1, o1, rfl, hb1, hc1⟩ := hA (by simp; omega)
    obtain ⟨b2, o2, rfl, hb2, hc2⟩ := hB (by simp; omega)
    have hg : ∀ j, j < R.length → (R.map (Value.int .i64))[j]? = some (.int .i64 (R.getD j 0)) := fun j hj => by
      rw [List.getElem?_map, List.getElem?_eq_getElem hj]
      simp [List.getD, List.getElem?_eq_getElem hj]
    refine (Try.slices_Equal_int b1 o1 R.length c1 b2 o2 R.length c2 R R w (Nat.le_refl _) (Nat.le_refl _) hm hm (fun j hj => hc1 j _ (hg j hj)) (fun j hj => hc2 j _ (hg j hj))).mono fun e w' ⟨h, q, h'⟩ => ⟨by rw [h]; simp, by rw [h']; exact below_drewN (Below.refl _ _) q⟩
theorem Ints.below {w w' : World} {a : Option Addr} {R : List Int} (h : Ints w a R) {B : Nat} (hb : Below B w w') (hB : w.heap.size ≤ B) : Ints w' a R := fun hl => by
  obtain ⟨b, off, e, h1, h2⟩ := h hl
  exact ⟨b, off, e, Nat.lt_of_lt_of_le h1 hb.size, h2.below hb (by omega)⟩
set_option maxRecDepth 100000 in
set_option maxHeartbeats 2000000 in
theorem dueLaw_bad (L : Tk) (s s2 : Option Addr) (n cap r cap2 : Nat) (w : World) (hn : n = L.length) (hmax : n ≤ 9223372036854775807) (hL : Needs w s L) (hb : tasksE L ≠ 0) :
    Calls Try.prog 8 #[.slice s n cap, .slice s2 r cap2] w fun e w' => e = .returned (.bool true) ∧ Below w.heap.size w w' := by
  have HL := Lib.hid hL
  have HN := Lib.hid hn
  have hb2 : (tasksE L != 0) = true := by simp [hb]
  have HB := Lib.hid hb2
  have hE : (0 : Int) < 1 := by decide
  clear hL hn hb
  have HAB : Hid (∀ w1, Below w.heap.size w w1 → Needs w1 s L) := Lib.hid fun w1 h => HL.out.below h (Nat.le_refl _)
  go_enter Try.func8, Try.ntmps8
  go_wp2_with (first
    | (go_at_call 39; refine Calls.mono (Run_bad L _ _ _ _ HN.out hmax HL.out HB.out) ?_; rintro e w1 ⟨rfl, hB1⟩)
    | (go_at_call 40; refine Calls.mono (Fits_bad L _ _ _ _ HN.out hmax (HAB.out _ hB1) HB.out) ?_; rintro e w2 ⟨rfl, hC2⟩; have hB2 := hB1.trans (hC2.mono hB1.size); clear hC2)
    | (go_at_call 41; refine Calls.mono (Valid_bad L _ _ _ _ _ _ _ HN.out hmax (HAB.out _ hB2) HB.out) ?_; rintro e w3 ⟨rfl, hC2⟩; have hB3 := hB2.trans (hC2.mono hB2.size); clear hC2)
    | (go_at_call 42; refine Calls.mono (Tight_bad L _ _ _ _ HN.out hmax (HAB.out _ hB3) HB.out) ?_; rintro e w4 ⟨rfl, hC2⟩; have hB4 := hB3.trans (hC2.mono hB3.size); clear hC2)
    | (go_at_call 43; refine Calls.mono (tasksFault_any L _ _ _ _ HN.out hmax (HAB.out _ hB4)) ?_; rintro e w5 ⟨rfl, hC2⟩; have hB5 := hB4.trans (hC2.mono hB4.size); clear hC2)
    | (go_at_call 44; refine Calls.mono (dCheck_any L _ _ _ _ HN.out hmax (HAB.out _ hB5)) ?_; rintro e w6 ⟨rfl, hC2⟩; have hB6 := hB5.trans (hC2.mono hB5.size); clear hC2))
  go_ret
  exact ⟨by simp, hB6⟩
set_option maxRecDepth 100000 in
set_option maxHeartbeats 4000000 in
theorem dueLaw_good (L : Tk) (R : List Int) (s s2 : Option Addr) (n cap r cap2 : Nat) (w : World) (hn : n = L.length) (hL : Needs w s L) (hb : tasksE L = 0) (hr : r = R.length) (hmax2 : r ≤ 9223372036854775807) (hR : Ints w s2 R)
    (p q : Int) (is : Bool) (hT : TightIs L p q is) (hI : is = !(lateI L L.length).isEmpty) :
    Calls Try.prog 8 #[.slice s n cap, .slice s2 r cap2] w fun e w' => e = .returned (.bool true) ∧ Below w.heap.size w w' := by
  have HL := Lib.hid hL
  have HN := Lib.hid hn
  have HR := Lib.hid hR
  have HRN := Lib.hid hr
  have HE := Lib.hid hb
  have hmax : n ≤ 20 := by have := (tasksE_good hb).1; omega
  have HTB := Lib.hid (tasksE_good hb).2
  have HLL := Lib.hid (lateI_len L n)
  have HT := Lib.hid hT
  have HAB : Hid (∀ w1, Below w.heap.size w w1 → Needs w1 s L) := Lib.hid fun w1 h => HL.out.below h (Nat.le_refl _)
  have HAC : Hid (∀ w1, Below w.heap.size w w1 → Ints w1 s2 R) := Lib.hid fun w1 h => HR.out.below h (Nat.le_refl _)
  have HLAST : Hid (lateI L L.length = lateI L n) := Lib.hid (by rw [HN.out])
  clear hL hn hR hr hb hT
  cases hg : goodRow L R
  all_goals
    have HG := Lib.hid hg
    clear hg
    have hemp : (lateI L L.length).isEmpty = decide ((lateI L n).length = 0) := by rw [HLAST.out]; cases lateI L n <;> simp
    rw [hemp] at hI
    have HEMP := Lib.hid hemp
    clear hemp
    obtain ⟨m, hm⟩ : ∃ m, (lateI L n).length = m := ⟨_, rfl⟩
    rw [hm] at hI
    have hm20 : m ≤ 20 := by have := HLL.out; omega
    have HM := Lib.hid hm
    clear hm
    cases hz : decide (m = 0)
    all_goals
      rw [hz] at hI
      simp only [Bool.not_true, Bool.not_false] at hI
      subst hI
      have HPQ : Hid (m = 0 → p = 0 ∧ q = 0) := Lib.hid fun h => by
        rcases HT.out with ⟨h1, _⟩ | ⟨h1, h2, h3, _⟩
        · simp [h] at hz h1
        · exact ⟨h2, h3⟩
      have HN1 := Lib.hid (rowI_length L 200).symm
      have HN2 := Lib.hid (show (rowI L 200).length ≤ 9223372036854775807 from by rw [rowI_length]; omega)
      have HN3 := Lib.hid HM.out.symm
      have HN4 := Lib.hid (show (lateI L n).length ≤ 9223372036854775807 from by have := HLL.out; omega)
      have HEM2 := Lib.hid (show (lateI L L.length).isEmpty = _ from HEMP.out.trans ((congrArg (fun x => decide (x = 0)) HM.out).trans hz))
      have hzb : ((m : Int) == 0) = _ := (show ((m : Int) == 0) = decide (m = 0) from by rw [Bool.eq_iff_iff]; simp).trans hz
      try (have hpq := HPQ.out (of_decide_eq_true hz); obtain ⟨rfl, rfl⟩ := hpq)
      clear hz
      go_enter Try.func8, Try.ntmps8
      go_wp2_with (first
        | (go_at_call 39; refine Calls.mono (Run_good L _ _ _ _ HN.out HL.out HE.out) ?_; rintro e w1 ⟨v1, v2, rfl, i1, i2, hB1⟩; rw [HLAST.out] at i2; obtain ⟨a1, c1, rfl, j1⟩ := i1; obtain ⟨a2, c2, rfl, j2⟩ := i2; simp only [List.length_map, rowI_length, HM.out]; have HW1 : Hid (Below w.heap.size w w1 ∧ (∀ w', Below w1.heap.size w1 w' → Needs w' s L) ∧ (∀ w', Below w1.heap.size w1 w' → Ints w' s2 R) ∧ (∀ w', Below w1.heap.size w1 w' → Vals w' a1 ((rowI L 200).map (Value.int .i64))) ∧ (∀ w', Below w1.heap.size w1 w' → Vals w' a2 ((lateI L n).map (Value.int .i64)))) := ⟨hB1, fun w' h => HAB.out w' (hB1.trans (h.mono hB1.size)), fun w' h => HAC.out w' (hB1.trans (h.mono hB1.size)), fun w' h => j1.below h (Nat.le_refl _), fun w' h => j2.below h (Nat.le_refl _)⟩; clear j1 j2 hB1)
        | (go_at_call 40; refine Calls.mono (Fits_good L _ _ _ _ HN.out (HW1.out.2.1 _ (Below.refl _ _)) HE.out) ?_; rw [HEM2.out]; rintro e w2 ⟨rfl, hC2⟩; have HD2 := Lib.hid hC2; clear hC2)
        | (go_at_call 41; refine Calls.mono (Valid_good L R _ _ _ _ _ _ _ HN.out (HW1.out.2.1 _ HD2.out) HE.out HRN.out hmax2 (HW1.out.2.2.1 _ HD2.out)) ?_; rw [HG.out]; rintro e w3 ⟨rfl, hC2⟩; have HD3 := Lib.hid (HD2.out.trans (hC2.mono HD2.out.size)); clear hC2)
        | (go_at_call 42; refine Calls.mono (Tight_good L _ _ _ _ _ _ _ HN.out (HW1.out.2.1 _ HD3.out) HE.out HT.out) ?_; rintro e w4 ⟨rfl, hC2⟩; have HD4 := Lib.hid (HD3.out.trans (hC2.mono HD3.out.size)); clear hC2)
        | (go_at_call 43; refine Calls.mono (tasksFault_any L _ _ _ _ HN.out (by omega) (HW1.out.2.1 _ HD4.out)) ?_; rw [HE.out]; rintro e w5 ⟨rfl, hC2⟩; have HD5 := Lib.hid (HD4.out.trans (hC2.mono HD4.out.size)); clear hC2)
        | (go_at_call 44; refine Calls.mono (dCheck_any L _ _ _ _ HN.out (by omega) (HW1.out.2.1 _ HD5.out)) ?_; rw [HE.out]; rintro e w6 ⟨rfl, hC2⟩; have HD6 := Lib.hid (HD5.out.trans (hC2.mono HD5.out.size)); clear hC2)
        | (go_at_call 45; refine Calls.mono (ref_any L _ _ _ _ HN.out hmax (HW1.out.2.1 _ HD6.out) HTB.out) ?_; rintro e w7 ⟨v3, v4, rfl, i3, i4, hC2⟩; obtain ⟨a3, c3, rfl, j3⟩ := i3; obtain ⟨a4, c4, rfl, j4⟩ := i4; simp only [List.length_map, rowI_length, HM.out]; have HJ4 := Lib.hid j4; clear j4; have HD7 := Lib.hid (HD6.out.trans (hC2.mono HD6.out.size)); have HJ3 := Lib.hid j3; clear hC2 j3)
        | (go_at_call 46; (with_reducible refine Calls.mono (eqSame (rowI L 200) a1 a3 _ _ _ _ _ HN1.out HN1.out HN2.out (HW1.out.2.2.2.1 _ HD7.out) HJ3.out) ?_); rintro e w8 ⟨rfl, hC2⟩; have HD8 := Lib.hid (HD7.out.trans (hC2.mono HD7.out.size)); have HJ5 := Lib.hid (HJ4.out.below hC2 (Nat.le_refl _)); clear hC2)
        | (go_at_call 46; (with_reducible refine Calls.mono (eqSame (lateI L n) a2 a4 _ _ _ _ _ HN3.out HN3.out HN4.out (HW1.out.2.2.2.2 _ HD8.out) HJ5.out) ?_); rintro e w9 ⟨rfl, hC2⟩; have HD9 := Lib.hid (HD8.out.trans (hC2.mono HD8.out.size)); clear hC2)
        | (go_at_call 47; refine Calls.mono (goodRow_any L R _ _ _ _ _ _ _ HN.out hmax (HW1.out.2.1 _ HD9.out) HRN.out hmax2 (HW1.out.2.2.1 _ HD9.out)) ?_; rw [HG.out]; rintro e w10 ⟨rfl, hC2⟩; have HD10 := Lib.hid (HD9.out.trans (hC2.mono HD9.out.size)); clear hC2)
        | (go_at_call 48; refine Calls.mono (tightOf_any L _ _ _ _ _ _ _ HN.out hmax (HW1.out.2.1 _ HD10.out) HTB.out HT.out) ?_; rintro e w11 ⟨rfl, hC2⟩; have HD11 := Lib.hid (HD10.out.trans (hC2.mono HD10.out.size)); clear hC2))
      go_ret
      first | exact ⟨rfl, HW1.out.1.trans (HD11.out.mono HW1.out.1.size)⟩ | exact ⟨rfl, HW1.out.1.trans (HD10.out.mono HW1.out.1.size)⟩
theorem dueLaw_any (L : Tk) (R : List Int) (s s2 : Option Addr) (n cap r cap2 : Nat) (w : World) (hn : n = L.length) (hmax : n ≤ 9223372036854775807) (hL : Needs w s L) (hr : r = R.length) (hmax2 : r ≤ 9223372036854775807) (hR : Ints w s2 R) :
    Calls Try.prog 8 #[.slice s n cap, .slice s2 r cap2] w fun e w' => e = .returned (.bool true) ∧ Below w.heap.size w w' := by
  by_cases hb : tasksE L = 0
  · by_cases hl : lateI L L.length = []
    · refine dueLaw_good L R s s2 n cap r cap2 w hn hL hb hr hmax2 hR 0 0 false (.inr ⟨rfl, rfl, rfl, fun a b h0 h1 _ => fits_over (okT (tasksE_good hb).2) hl a b h0 h1⟩) (by rw [hl]; rfl)
    · obtain ⟨p, q, hT⟩ := tight_ex L (late_over (okT (tasksE_good hb).2) hl)
      refine dueLaw_good L R s s2 n cap r cap2 w hn hL hb hr hmax2 hR p q true hT ?_
      cases h : lateI L L.length with
      | nil => exact (hl h).elim
      | cons x t => rfl
  · exact dueLaw_bad L s s2 n cap r cap2 w hn hmax hL hb
end Go.Proofs.Ytdbipmidjdhjpaa
