/- Contracts: two needs added, taken off; the program's. -/
import Derived.Test.YtnfmopmcckgfdaaNeedOps
namespace Go.Proofs.Ytnfmopmcckgfdaa
open Go.ChangeShapes Go.WideShapes Go.ChangeAt Go.RowKit
set_option linter.unusedVariables false
set_option linter.unusedSimpArgs false

/-- a number, or 0 -/
def pk (b : Bool) (v : Int) : Int := if b then v else 0
theorem pk_yes {b : Bool} (h : b = true) (v : Int) : v = pk b v := by simp [pk, h]
theorem pk_no {b : Bool} (h : b = false) (v : Int) : (0 : Int) = pk b v := by simp [pk, h]
theorem ret_n3 {a b c e a' b' c' e' : Int} (h1 : a = a') (h2 : b = b') (h3 : c = c') (h4 : e = e') : Ending.returned (.tuple #[.agg #[.int .i64 a, .int .i64 b, .int .i64 c], .int .i64 e]) = .returned (.tuple #[.agg #[.int .i64 a', .int .i64 b', .int .i64 c'], .int .i64 e']) := by rw [h1, h2, h3, h4]
def addB (a b c x y z : Int) : Bool := bothB a b c x y z && needB (a + x) (b + y) (c + z)
def addE (a b c x y z : Int) : Int := if bothB a b c x y z then (if needB (a + x) (b + y) (c + z) then 0 else 2) else 4
set_option maxHeartbeats 1000000 in
theorem nAdd_any (a b c x y z : Int) (w : World) : Calls Try.prog 25 #[.agg #[.int .i64 a, .int .i64 b, .int .i64 c], .agg #[.int .i64 x, .int .i64 y, .int .i64 z]] w fun e w' =>
    e = .returned (.tuple #[.agg #[.int .i64 (pk (addB a b c x y z) (a + x)), .int .i64 (pk (addB a b c x y z) (b + y)), .int .i64 (pk (addB a b c x y z) (c + z))], .int .i64 (addE a b c x y z)]) ∧ Below w.heap.size w w' := by
  cases hb : bothB a b c x y z with
  | true =>
    have HE := Lib.hid (show checksE [(a, b, c), (x, y, z)] = 0 from by rw [both_eq]; simp [bothE, hb])
    have hb' := hb
    simp only [bothB, Bool.and_eq_true] at hb'
    obtain ⟨⟨a1, a2⟩, ⟨b1, b2⟩, c1, c2⟩ := needB_yes hb'.1
    obtain ⟨⟨x1, x2⟩, ⟨y1, y2⟩, z1, z2⟩ := needB_yes hb'.2
    clear hb'
    cases hn : needB (a + x) (b + y) (c + z) with
    | true =>
      have hA : addB a b c x y z = true := by simp [addB, hb, hn]
      have HP := Lib.hid (pk_yes hA)
      have HV := Lib.hid (show (0 : Int) = addE a b c x y z from by simp [addE, hb, hn])
      have HC := Lib.hid (needE_yes hn)
      clear hb hn hA
      go_enter Try.func25, Try.ntmps25
      go_wp2_with (first
        | (go_at_call 41; refine Calls.mono (checks_any [(a, b, c), (x, y, z)] _ 2 2 _ rfl (by omega) (pair_needs (by simp [go_sem]) (by simp [go_sem]) (by simp [go_sem]) (by simp [go_sem]) (by simp [go_sem]) (by simp [go_sem]) (by simp))) ?_; rintro e w1 ⟨rfl, hb1⟩; rw [HE.out]; obtain ⟨hc1, hz1⟩ := bcell hb1; have hs1 : w.heap.size < w1.heap.size ∧ w.heap.size + 1 < w1.heap.size ∧ w.heap.size + 1 + 1 < w1.heap.size ∧ w.heap.size + 1 + 1 + 1 < w1.heap.size := (by have := hb1.size; simp at this; omega); obtain ⟨hs1a, hs1b, hs1c, hs1d⟩ := hs1; have hB1 : Below w.heap.size w w1 := Below.trans (by go_grown) (hb1.mono (by simp; omega)))
        | (go_at_call 28; refine Calls.mono (Check_any _ _ _ _) ?_; rintro e w2 ⟨rfl, hb2⟩; rw [HC.out]; obtain ⟨hc2, hz2⟩ := bcell hb2; have hs2 : w.heap.size < w2.heap.size ∧ w.heap.size + 1 < w2.heap.size ∧ w.heap.size + 1 + 1 < w2.heap.size ∧ w.heap.size + 1 + 1 + 1 < w2.heap.size := (by have := hb2.size; simp at this; omega); obtain ⟨hs2a, hs2b, hs2c, hs2d⟩ := hs2; have hB2 : Below w.heap.size w w2 := Below.trans (by go_grown) (hb2.mono (by simp; omega))))
      refine bodyPost_ret (v := .tuple #[.agg #[.int .i64 (a + x), .int .i64 (b + y), .int .i64 (c + z)], .int .i64 0]) (by simp [results, Try.results25, go_sem, cell_set, hc1, hc2, hs1a, hs1b, hs1c, hs1d, hs2a, hs2b, hs2c, hs2d]) rfl ⟨ret_n3 (HP.out _) (HP.out _) (HP.out _) HV.out, ?_⟩
      go_grown
    | false =>
      have hA : addB a b c x y z = false := by simp [addB, hn]
      have HP := Lib.hid (pk_no hA)
      have HV := Lib.hid (show (2 : Int) = addE a b c x y z from by simp [addE, hb, hn])
      have HC := Lib.hid (needE_no hn)
      clear hb hn hA
      go_enter Try.func25, Try.ntmps25
      go_wp2_with (first
        | (go_at_call 41; refine Calls.mono (checks_any [(a, b, c), (x, y, z)] _ 2 2 _ rfl (by omega) (pair_needs (by simp [go_sem]) (by simp [go_sem]) (by simp [go_sem]) (by simp [go_sem]) (by simp [go_sem]) (by simp [go_sem]) (by simp))) ?_; rintro e w1 ⟨rfl, hb1⟩; rw [HE.out]; obtain ⟨hc1, hz1⟩ := bcell hb1; have hs1 : w.heap.size < w1.heap.size ∧ w.heap.size + 1 < w1.heap.size ∧ w.heap.size + 1 + 1 < w1.heap.size ∧ w.heap.size + 1 + 1 + 1 < w1.heap.size := (by have := hb1.size; simp at this; omega); obtain ⟨hs1a, hs1b, hs1c, hs1d⟩ := hs1; have hB1 : Below w.heap.size w w1 := Below.trans (by go_grown) (hb1.mono (by simp; omega)))
        | (go_at_call 28; refine Calls.mono (Check_any _ _ _ _) ?_; rintro e w2 ⟨rfl, hb2⟩; rw [HC.out]; obtain ⟨hc2, hz2⟩ := bcell hb2; have hs2 : w.heap.size < w2.heap.size ∧ w.heap.size + 1 < w2.heap.size ∧ w.heap.size + 1 + 1 < w2.heap.size ∧ w.heap.size + 1 + 1 + 1 < w2.heap.size := (by have := hb2.size; simp at this; omega); obtain ⟨hs2a, hs2b, hs2c, hs2d⟩ := hs2; have hB2 : Below w.heap.size w w2 := Below.trans (by go_grown) (hb2.mono (by simp; omega))))
      refine bodyPost_ret (v := .tuple #[.agg #[.int .i64 0, .int .i64 0, .int .i64 0], .int .i64 2]) (by simp [results, Try.results25, go_sem, cell_set, hc1, hc2, hs1a, hs1b, hs1c, hs1d, hs2a, hs2b, hs2c, hs2d]) rfl ⟨ret_n3 (HP.out _) (HP.out _) (HP.out _) HV.out, ?_⟩
      go_grown
  | false =>
    have HE := Lib.hid (show checksE [(a, b, c), (x, y, z)] = 4 from by rw [both_eq]; simp [bothE, hb])
    have hA : addB a b c x y z = false := by simp [addB, hb]
    have HP := Lib.hid (pk_no hA)
    have HV := Lib.hid (show (4 : Int) = addE a b c x y z from by simp [addE, hb])
    clear hb hA
    go_enter Try.func25, Try.ntmps25
    go_wp2_with (go_at_call 41; refine Calls.mono (checks_any [(a, b, c), (x, y, z)] _ 2 2 _ rfl (by omega) (pair_needs (by simp [go_sem]) (by simp [go_sem]) (by simp [go_sem]) (by simp [go_sem]) (by simp [go_sem]) (by simp [go_sem]) (by simp))) ?_; rintro e w1 ⟨rfl, hb1⟩; rw [HE.out]; obtain ⟨hc1, hz1⟩ := bcell hb1; have hs1 : w.heap.size < w1.heap.size ∧ w.heap.size + 1 < w1.heap.size ∧ w.heap.size + 1 + 1 < w1.heap.size ∧ w.heap.size + 1 + 1 + 1 < w1.heap.size := (by have := hb1.size; simp at this; omega); obtain ⟨hs1a, hs1b, hs1c, hs1d⟩ := hs1; have hB1 : Below w.heap.size w w1 := Below.trans (by go_grown) (hb1.mono (by simp; omega)))
    refine bodyPost_ret (v := .tuple #[.agg #[.int .i64 0, .int .i64 0, .int .i64 0], .int .i64 4]) (by simp [results, Try.results25, go_sem, cell_set, hc1, hs1a, hs1b, hs1c, hs1d]) rfl ⟨ret_n3 (HP.out _) (HP.out _) (HP.out _) HV.out, ?_⟩
    go_grown

def subB (a b c x y z : Int) : Bool := bothB a b c x y z && fitsB x y z a b c
def subE (a b c x y z : Int) : Int := if bothB a b c x y z then (if fitsB x y z a b c then 0 else 10) else 4
set_option maxHeartbeats 1000000 in
theorem nSub_any (a b c x y z : Int) (w : World) : Calls Try.prog 21 #[.agg #[.int .i64 a, .int .i64 b, .int .i64 c], .agg #[.int .i64 x, .int .i64 y, .int .i64 z]] w fun e w' =>
    e = .returned (.tuple #[.agg #[.int .i64 (pk (subB a b c x y z) (a - x)), .int .i64 (pk (subB a b c x y z) (b - y)), .int .i64 (pk (subB a b c x y z) (c - z))], .int .i64 (subE a b c x y z)]) ∧ Below w.heap.size w w' := by
  cases hb : bothB a b c x y z with
  | true =>
    have HE := Lib.hid (show checksE [(a, b, c), (x, y, z)] = 0 from by rw [both_eq]; simp [bothE, hb])
    have hb' := hb
    simp only [bothB, Bool.and_eq_true] at hb'
    obtain ⟨⟨a1, a2⟩, ⟨b1, b2⟩, c1, c2⟩ := needB_yes hb'.1
    obtain ⟨⟨x1, x2⟩, ⟨y1, y2⟩, z1, z2⟩ := needB_yes hb'.2
    clear hb'
    cases hn : fitsB x y z a b c with
    | true =>
      have hA : subB a b c x y z = true := by simp [subB, hb, hn]
      have HP := Lib.hid (pk_yes hA)
      have HV := Lib.hid (show (0 : Int) = subE a b c x y z from by simp [subE, hb, hn])
      have HF := Lib.hid hn
      clear hb hn hA
      go_enter Try.func21, Try.ntmps21
      go_wp2_with (first
        | (go_at_call 41; refine Calls.mono (checks_any [(a, b, c), (x, y, z)] _ 2 2 _ rfl (by omega) (pair_needs (by simp [go_sem]) (by simp [go_sem]) (by simp [go_sem]) (by simp [go_sem]) (by simp [go_sem]) (by simp [go_sem]) (by simp))) ?_; rintro e w1 ⟨rfl, hb1⟩; rw [HE.out]; obtain ⟨hc1, hz1⟩ := bcell hb1; have hs1 : w.heap.size < w1.heap.size ∧ w.heap.size + 1 < w1.heap.size ∧ w.heap.size + 1 + 1 < w1.heap.size ∧ w.heap.size + 1 + 1 + 1 < w1.heap.size := (by have := hb1.size; simp at this; omega); obtain ⟨hs1a, hs1b, hs1c, hs1d⟩ := hs1; have hB1 : Below w.heap.size w w1 := Below.trans (by go_grown) (hb1.mono (by simp; omega)))
        | (go_at_call 42; refine Calls.mono (fits_any _ _ _ _ _ _ _) ?_; rintro e w2 ⟨rfl, hb2⟩; rw [HF.out]; obtain ⟨hc2, hz2⟩ := bcell hb2; have hs2 : w.heap.size < w2.heap.size ∧ w.heap.size + 1 < w2.heap.size ∧ w.heap.size + 1 + 1 < w2.heap.size ∧ w.heap.size + 1 + 1 + 1 < w2.heap.size := (by have := hb2.size; omega); obtain ⟨hs2a, hs2b, hs2c, hs2d⟩ := hs2; have hB2 : Below w.heap.size w w2 := hB1.trans (hb2.mono hB1.size)))
      refine bodyPost_ret (v := .tuple #[.agg #[.int .i64 (a - x), .int .i64 (b - y), .int .i64 (c - z)], .int .i64 0]) (by simp [results, Try.results21, go_sem, cell_set, hc1, hc2, hs1a, hs1b, hs1c, hs1d, hs2a, hs2b, hs2c, hs2d]) rfl ⟨ret_n3 (HP.out _) (HP.out _) (HP.out _) HV.out, ?_⟩
      go_grown
    | false =>
      have hA : subB a b c x y z = false := by simp [subB, hn]
      have HP := Lib.hid (pk_no hA)
      have HV := Lib.hid (show (10 : Int) = subE a b c x y z from by simp [subE, hb, hn])
      have HF := Lib.hid hn
      clear hb hn hA
      go_enter Try.func21, Try.ntmps21
      go_wp2_with (first
        | (go_at_call 41; refine Calls.mono (checks_any [(a, b, c), (x, y, z)] _ 2 2 _ rfl (by omega) (pair_needs (by simp [go_sem]) (by simp [go_sem]) (by simp [go_sem]) (by simp [go_sem]) (by simp [go_sem]) (by simp [go_sem]) (by simp))) ?_; rintro e w1 ⟨rfl, hb1⟩; rw [HE.out]; obtain ⟨hc1, hz1⟩ := bcell hb1; have hs1 : w.heap.size < w1.heap.size ∧ w.heap.size + 1 < w1.heap.size ∧ w.heap.size + 1 + 1 < w1.heap.size ∧ w.heap.size + 1 + 1 + 1 < w1.heap.size := (by have := hb1.size; simp at this; omega); obtain ⟨hs1a, hs1b, hs1c, hs1d⟩ := hs1; have hB1 : Below w.heap.size w w1 := Below.trans (by go_grown) (hb1.mono (by simp; omega)))
        | (go_at_call 42; refine Calls.mono (fits_any _ _ _ _ _ _ _) ?_; rintro e w2 ⟨rfl, hb2⟩; rw [HF.out]; obtain ⟨hc2, hz2⟩ := bcell hb2; have hs2 : w.heap.size < w2.heap.size ∧ w.heap.size + 1 < w2.heap.size ∧ w.heap.size + 1 + 1 < w2.heap.size ∧ w.heap.size + 1 + 1 + 1 < w2.heap.size := (by have := hb2.size; omega); obtain ⟨hs2a, hs2b, hs2c, hs2d⟩ := hs2; have hB2 : Below w.heap.size w w2 := hB1.trans (hb2.mono hB1.size)))
      refine bodyPost_ret (v := .tuple #[.agg #[.int .i64 0, .int .i64 0, .int .i64 0], .int .i64 10]) (by simp [results, Try.results21, go_sem, cell_set, hc1, hc2, hs1a, hs1b, hs1c, hs1d, hs2a, hs2b, hs2c, hs2d]) rfl ⟨ret_n3 (HP.out _) (HP.out _) (HP.out _) HV.out, ?_⟩
      go_grown
  | false =>
    have HE := Lib.hid (show checksE [(a, b, c), (x, y, z)] = 4 from by rw [both_eq]; simp [bothE, hb])
    have hA : subB a b c x y z = false := by simp [subB, hb]
    have HP := Lib.hid (pk_no hA)
    have HV := Lib.hid (show (4 : Int) = subE a b c x y z from by simp [subE, hb])
    clear hb hA
    go_enter Try.func21, Try.ntmps21
    go_wp2_with (go_at_call 41; refine Calls.mono (checks_any [(a, b, c), (x, y, z)] _ 2 2 _ rfl (by omega) (pair_needs (by simp [go_sem]) (by simp [go_sem]) (by simp [go_sem]) (by simp [go_sem]) (by simp [go_sem]) (by simp [go_sem]) (by simp))) ?_; rintro e w1 ⟨rfl, hb1⟩; rw [HE.out]; obtain ⟨hc1, hz1⟩ := bcell hb1; have hs1 : w.heap.size < w1.heap.size ∧ w.heap.size + 1 < w1.heap.size ∧ w.heap.size + 1 + 1 < w1.heap.size ∧ w.heap.size + 1 + 1 + 1 < w1.heap.size := (by have := hb1.size; simp at this; omega); obtain ⟨hs1a, hs1b, hs1c, hs1d⟩ := hs1; have hB1 : Below w.heap.size w w1 := Below.trans (by go_grown) (hb1.mono (by simp; omega)))
    refine bodyPost_ret (v := .tuple #[.agg #[.int .i64 0, .int .i64 0, .int .i64 0], .int .i64 4]) (by simp [results, Try.results21, go_sem, cell_set, hc1, hs1a, hs1b, hs1c, hs1d]) rfl ⟨ret_n3 (HP.out _) (HP.out _) (HP.out _) HV.out, ?_⟩
    go_grown
end Go.Proofs.Ytnfmopmcckgfdaa
