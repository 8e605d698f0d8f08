/- Contract: how often one need is in another one; the program's. -/
import Derived.Test.YtdbipmidjdhjpaaNeedLaw
namespace Go.Proofs.Ytdbipmidjdhjpaa
open Go.ChangeShapes Go.WideShapes Go.ChangeAt Go.RowKit
set_option linter.unusedVariables false
set_option linter.unusedSimpArgs false
/-- the least of what was and of a quotient -/
def tmin (n a x : Int) : Int := if 0 < a then min n (x / a) else n
def tim1 (a x : Int) : Int := tmin 1099511627776 a x
def tim2 (a b x y : Int) : Int := tmin (tim1 a x) b y
def tim3 (a b c x y z : Int) : Int := tmin (tim2 a b x y) c z
def zeroB (a b c : Int) : Bool := decide (a = 0 ∧ b = 0 ∧ c = 0)
def timesE (a b c x y z : Int) : Int := if bothB a b c x y z then (if zeroB a b c then 1 else 0) else 4
def timesV (a b c x y z : Int) : Int := if bothB a b c x y z then (if zeroB a b c then 0 else tim3 a b c x y z) else 0
/-- the two needs, and the rows of their parts -/
def TimesAt (k i j : Nat) (a b c x y z : Int) (W : World) : Prop := k + 1 < W.heap.size ∧ i < W.heap.size ∧ j < W.heap.size ∧ Two3 k a b c x y z W ∧
  (W.cell? ⟨i, 1, none⟩ = some (.pointer (some ⟨k + 1, 0, none⟩)) ∧ W.cell? ⟨i, 3, none⟩ = some (.pointer (some ⟨k + 1, 1, none⟩)) ∧ W.cell? ⟨i, 5, none⟩ = some (.pointer (some ⟨k + 1, 2, none⟩))) ∧
  (∃ s, W.cell? ⟨j, 0, none⟩ = some (.string s)) ∧ W.cell? ⟨j, 1, none⟩ = some (.pointer (some ⟨k, 0, none⟩)) ∧ (∃ s, W.cell? ⟨j, 2, none⟩ = some (.string s)) ∧ W.cell? ⟨j, 3, none⟩ = some (.pointer (some ⟨k, 1, none⟩)) ∧ (∃ s, W.cell? ⟨j, 4, none⟩ = some (.string s)) ∧ W.cell? ⟨j, 5, none⟩ = some (.pointer (some ⟨k, 2, none⟩))
theorem TimesAt.below {k i j : Nat} {a b c x y z : Int} {W W' : World} (h : TimesAt k i j a b c x y z W) (hb : Below W.heap.size W W') : TimesAt k i j a b c x y z W' := by
  obtain ⟨h0, h1, h2, h3, ⟨i0, i1, i2⟩, ⟨s0, j0⟩, j1, ⟨s2, j2⟩, j3, ⟨s4, j4⟩, j5⟩ := h
  have hs := hb.size
  have hi : ∀ o, W'.cell? ⟨i, o, none⟩ = W.cell? ⟨i, o, none⟩ := fun o => hb.cell (p := ⟨i, o, none⟩) h1
  have hj : ∀ o, W'.cell? ⟨j, o, none⟩ = W.cell? ⟨j, o, none⟩ := fun o => hb.cell (p := ⟨j, o, none⟩) h2
  exact ⟨by omega, by omega, by omega, h3.below hb, ⟨(hi _).trans i0, (hi _).trans i1, (hi _).trans i2⟩, ⟨s0, (hj _).trans j0⟩, (hj _).trans j1, ⟨s2, (hj _).trans j2⟩, (hj _).trans j3, ⟨s4, (hj _).trans j4⟩, (hj _).trans j5⟩
/-- after k amounts -/
def timK (a b c x y z : Int) : Nat → Int
  | 0 => 1099511627776
  | 1 => tim1 a x
  | 2 => tim2 a b x y
  | _ => tim3 a b c x y z
theorem tmin_yes {n a x : Int} (h : 0 < a) : min n (x / a) = tmin n a x := by simp [tmin, h]
theorem tmin_no {n a x : Int} (h : a ≤ 0) : n = tmin n a x := by simp [tmin]; omega
set_option maxHeartbeats 4000000 in
theorem nTimes_any (a b c x y z : Int) (w : World) : Calls Try.prog 32 #[.agg #[.int .i64 a, .int .i64 b, .int .i64 c], .agg #[.int .i64 x, .int .i64 y, .int .i64 z]] w fun e w' =>
    e = .returned (.tuple #[.int .i64 (timesV a b c x y z), .int .i64 (timesE a b c x y z)]) ∧ Below w.heap.size w w' := by
  cases hb : bothB a b c x y z with
  | true =>
    have HE := Lib.hid (show checksE [(a, b, c), (x, y, z)] = 0 from by rw [both_eq]; simp [bothE, hb])
    have hb' := hb
    simp only [bothB, Bool.and_eq_true] at hb'
    obtain ⟨⟨a1, a2⟩, ⟨b1, b2⟩, c1, c2⟩ := needB_yes hb'.1
    obtain ⟨⟨x1, x2⟩, ⟨y1, y2⟩, z1, z2⟩ := needB_yes hb'.2
    clear hb'
    cases hn : zeroB a b c with
    | true =>
      have HV := Lib.hid (show (0 : Int) = timesV a b c x y z from by simp [timesV, hb, hn])
      have HF := Lib.hid (show (1 : Int) = timesE a b c x y z from by simp [timesE, hb, hn])
      obtain ⟨ha, hb0, hc⟩ : a = 0 ∧ b = 0 ∧ c = 0 := by simpa [zeroB] using hn
      clear hb hn
      subst ha hb0 hc
      go_enter Try.func32, Try.ntmps32
      go_wp2_with (first
        | (go_at_call 61; refine Calls.mono (checks_any [(0, 0, 0), (x, y, z)] _ 2 2 _ rfl (by omega) (pair_needs (by simp [go_sem]) (by simp [go_sem]) (by simp [go_sem]) (by simp [go_sem]) (by simp [go_sem]) (by simp [go_sem]) (by simp))) ?_; rintro e w1 ⟨rfl, hb1⟩; rw [HE.out]; obtain ⟨hc1, hz1⟩ := bcell hb1; have hs1 : w.heap.size < w1.heap.size ∧ w.heap.size + 1 < w1.heap.size ∧ w.heap.size + 1 + 1 < w1.heap.size := (by have := hb1.size; simp at this; omega); obtain ⟨hs1a, hs1b, hs1c⟩ := hs1; have hB1 : Below w.heap.size w w1 := Below.trans (by go_grown) (hb1.mono (by simp; omega))))
      go_ret2
      exact ⟨ret_ii HV.out HF.out, hB1⟩
    | false =>
      have HV := Lib.hid (show timesV a b c x y z = tim3 a b c x y z from by simp [timesV, hb, hn])
      have HF := Lib.hid (show timesE a b c x y z = 0 from by simp [timesE, hb, hn])
      have hne : ¬ (a = 0 ∧ b = 0 ∧ c = 0) := by simpa [zeroB] using hn
      have HNE := Lib.hid hne
      clear hb hn hne
      go_enter Try.func32, Try.ntmps32
      go_wp2_with (first
        | (go_at_call 61; refine Calls.mono (checks_any [(a, b, c), (x, y, z)] _ 2 2 _ rfl (by omega) (pair_needs (by simp [go_sem]) (by simp [go_sem]) (by simp [go_sem]) (by simp [go_sem]) (by simp [go_sem]) (by simp [go_sem]) (by simp))) ?_; rintro e w1 ⟨rfl, hb1⟩; rw [HE.out]; obtain ⟨hc1, hz1⟩ := bcell hb1; have hs1 : w.heap.size < w1.heap.size ∧ w.heap.size + 1 < w1.heap.size ∧ w.heap.size + 1 + 1 < w1.heap.size := (by have := hb1.size; simp at this; omega); obtain ⟨hs1a, hs1b, hs1c⟩ := hs1; have hB1 : Below w.heap.size w w1 := Below.trans (by go_grown) (hb1.mono (by simp; omega)))
        | (go_at_call 63; refine (parts_any _ _).mono ?_; rintro e w' ⟨rfl, rfl⟩))
      · exact absurd ⟨by assumption, by assumption, by assumption⟩ HNE.out
      all_goals
        go_loopw [7, 26] (fun v t wr => ∃ (q : Nat) (a' b' c' : Int), q ≤ 3 ∧ t = .int .i64 q ∧ v = .int .i64 (timK a' b' c' x y z q) ∧ (0 ≤ a' ∧ 0 ≤ b' ∧ 0 ≤ c') ∧ Hid (tim3 a' b' c' x y z = timesV a b c x y z) ∧ Below w.heap.size w wr ∧ TimesAt w.heap.size w1.heap.size (w1.heap.size + 1) a' b' c' x y z wr) (fun _ t _ => 3 - (intOf t).toNat)
        case atStart =>
          refine ⟨0, _, _, _, by omega, rfl, rfl, ⟨a1, b1, c1⟩, Lib.hid HV.out.symm, by go_grown, by simp; omega, by simp; omega, by simp, ⟨by simp; omega, ?_, ?_, ?_, ?_, ?_, ?_⟩, ⟨?_, ?_, ?_⟩, ⟨⟨#[99, 112, 117]⟩, ?_⟩, ?_, ⟨⟨#[109, 101, 109]⟩, ?_⟩, ?_, ⟨⟨#[103, 112, 117]⟩, ?_⟩, ?_⟩
          all_goals simp [go_sem, hc1, hs1a, hs1b, hs1c]
        case round =>
          obtain ⟨q, a', b', c', hq, rfl, rfl, ⟨ha', hb', hc'⟩, HT, hB, hT⟩ := hrel
          have HK := Lib.hid hT
          have hwb : w.heap.size < wr.heap.size := by have := hT.1; omega
          have hwi : ¬ (w.heap.size = wr.heap.size) := by omega
          obtain ⟨hk, hi, hj, ⟨hk2, p0, p1, p2, p3, p4, p5⟩, ⟨i0, i1, i2⟩, ⟨s0, j0⟩, j1, ⟨s2, j2⟩, j3, ⟨s4, j4⟩, j5⟩ := hT
          have : q = 0 ∨ q = 1 ∨ q = 2 ∨ q = 3 := by omega
          rcases this with rfl | rfl | rfl | rfl
          · by_cases hp : 0 < a'
            · have HQ := Lib.hid (fun n q => @tmin_yes n a' q hp)
              go_wp2_with fail
              go_region
              all_goals
                go_wp2_with fail
                exact ⟨⟨1, a', b', c', by omega, rfl, congrArg (Value.int .i64) (HQ.out _ _), ⟨ha', hb', hc'⟩, HT, by go_grown, HK.out.below (by go_grown)⟩, by simp [intOf]⟩
            · have HQ := Lib.hid (fun n q => @tmin_no n a' q (by omega))
              go_wp2_with fail
              exact ⟨⟨1, a', b', c', by omega, rfl, congrArg (Value.int .i64) (HQ.out _ _), ⟨ha', hb', hc'⟩, HT, by go_grown, HK.out.below (by go_grown)⟩, by simp [intOf]⟩
          · by_cases hp : 0 < b'
            · have HQ := Lib.hid (fun n q => @tmin_yes n b' q hp)
              go_wp2_with fail
              go_region
              all_goals
                go_wp2_with fail
                exact ⟨⟨2, a', b', c', by omega, rfl, congrArg (Value.int .i64) (HQ.out _ _), ⟨ha', hb', hc'⟩, HT, by go_grown, HK.out.below (by go_grown)⟩, by simp [intOf]⟩
            · have HQ := Lib.hid (fun n q => @tmin_no n b' q (by omega))
              go_wp2_with fail
              exact ⟨⟨2, a', b', c', by omega, rfl, congrArg (Value.int .i64) (HQ.out _ _), ⟨ha', hb', hc'⟩, HT, by go_grown, HK.out.below (by go_grown)⟩, by simp [intOf]⟩
          · by_cases hp : 0 < c'
            · have HQ := Lib.hid (fun n q => @tmin_yes n c' q hp)
              go_wp2_with fail
              go_region
              all_goals
                go_wp2_with fail
                exact ⟨⟨3, a', b', c', by omega, rfl, congrArg (Value.int .i64) (HQ.out _ _), ⟨ha', hb', hc'⟩, HT, by go_grown, HK.out.below (by go_grown)⟩, by simp [intOf]⟩
            · have HQ := Lib.hid (fun n q => @tmin_no n c' q (by omega))
              go_wp2_with fail
              exact ⟨⟨3, a', b', c', by omega, rfl, congrArg (Value.int .i64) (HQ.out _ _), ⟨ha', hb', hc'⟩, HT, by go_grown, HK.out.below (by go_grown)⟩, by simp [intOf]⟩
          · go_wp2_with fail
            go_ret2
            exact ⟨ret_ii HT.out HF.out.symm, hB⟩
  | false =>
    have HE := Lib.hid (show checksE [(a, b, c), (x, y, z)] = 4 from by rw [both_eq]; simp [bothE, hb])
    have HV := Lib.hid (show (0 : Int) = timesV a b c x y z from by simp [timesV, hb])
    have HF := Lib.hid (show (4 : Int) = timesE a b c x y z from by simp [timesE, hb])
    clear hb
    go_enter Try.func32, Try.ntmps32
    go_wp2_with (first
        | (go_at_call 61; refine Calls.mono (checks_any [(a, b, c), (x, y, z)] _ 2 2 _ rfl (by omega) (pair_needs (by simp [go_sem]) (by simp [go_sem]) (by simp [go_sem]) (by simp [go_sem]) (by simp [go_sem]) (by simp [go_sem]) (by simp))) ?_; rintro e w1 ⟨rfl, hb1⟩; rw [HE.out]; obtain ⟨hc1, hz1⟩ := bcell hb1; have hs1 : w.heap.size < w1.heap.size ∧ w.heap.size + 1 < w1.heap.size ∧ w.heap.size + 1 + 1 < w1.heap.size := (by have := hb1.size; simp at this; omega); obtain ⟨hs1a, hs1b, hs1c⟩ := hs1; have hB1 : Below w.heap.size w w1 := Below.trans (by go_grown) (hb1.mono (by simp; omega))))
    go_ret2
    exact ⟨ret_ii HV.out HF.out, hB1⟩
end Go.Proofs.Ytdbipmidjdhjpaa
