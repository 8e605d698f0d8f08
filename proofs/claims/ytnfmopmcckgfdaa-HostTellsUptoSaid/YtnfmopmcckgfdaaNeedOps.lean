/- Contracts: several needs checked, one in another one, sums and differences; the program's and the document's. -/
import Derived.Test.YtnfmopmcckgfdaaNeed
namespace Go.Proofs.Ytnfmopmcckgfdaa
open Go.ChangeShapes Go.WideShapes Go.ChangeAt Go.RowKit
set_option linter.unusedVariables false

/-- needs, as they lie in a row -/
def NeedsAt (w : World) (b off : Nat) (L : List (Int × Int × Int)) : Prop := ∀ i c m g, L[i]? = some (c, m, g) →
  w.cell? ⟨b, off + i * 3, none⟩ = some (.int .i64 c) ∧ w.cell? ⟨b, off + i * 3 + 1, none⟩ = some (.int .i64 m) ∧ w.cell? ⟨b, off + i * 3 + 2, none⟩ = some (.int .i64 g)
def Needs (w : World) (a : Option Addr) (L : List (Int × Int × Int)) : Prop := 0 < L.length → ∃ b off, a = some ⟨b, off, none⟩ ∧ b < w.heap.size ∧ NeedsAt w b off L
theorem NeedsAt.below {w w' : World} {b off : Nat} {L : List (Int × Int × Int)} (h : NeedsAt w b off L) {B : Nat} (hb : Below B w w') (hB : b < B) : NeedsAt w' b off L := fun i c m g hi => by
  obtain ⟨h1, h2, h3⟩ := h i c m g hi
  exact ⟨(hb.cell (p := ⟨b, _, none⟩) hB).trans h1, (hb.cell (p := ⟨b, _, none⟩) hB).trans h2, (hb.cell (p := ⟨b, _, none⟩) hB).trans h3⟩
def allB (L : List (Int × Int × Int)) : Bool := L.all fun x => needB x.1 x.2.1 x.2.2
def checksE (L : List (Int × Int × Int)) : Int := if allB L then 0 else 4
theorem allB_at {L : List (Int × Int × Int)} (h : allB L = true) {i : Nat} {c m g : Int} (hi : L[i]? = some (c, m, g)) : needB c m g = true := by
  have := List.all_eq_true.1 h (c, m, g) (List.mem_of_getElem? hi)
  exact this
theorem checks_bad {L : List (Int × Int × Int)} {i : Nat} {c m g : Int} (hi : L[i]? = some (c, m, g)) (h : needB c m g = false) : checksE L = 4 := by
  have : allB L = false := by
    cases hL : allB L with
    | false => rfl
    | true => rw [allB_at hL hi] at h; cases h
  simp [checksE, this]
def Good (L : List (Int × Int × Int)) (j : Nat) : Prop := ∀ i c m g, i < j → L[i]? = some (c, m, g) → needB c m g = true
theorem Good.zero (L : List (Int × Int × Int)) : Good L 0 := fun i c m g h _ => absurd h (by omega)
theorem Good.succ {L : List (Int × Int × Int)} {j : Nat} {c m g : Int} (h : Good L j) (hi : L[j]? = some (c, m, g)) (hb : needB c m g = true) : Good L (j + 1) := fun i c' m' g' h1 h2 => by
  by_cases e : i = j
  · subst e; rw [hi] at h2; cases h2; exact hb
  · exact h i c' m' g' (by omega) h2
theorem Good.all {L : List (Int × Int × Int)} (h : Good L L.length) : checksE L = 0 ∧ allB L = true := by
  have : allB L = true := List.all_eq_true.2 fun x hx => by
    obtain ⟨i, hi, rfl⟩ := List.getElem_of_mem hx
    exact h i _ _ _ hi (List.getElem?_eq_getElem hi)
  exact ⟨by simp [checksE, this], this⟩
theorem needE_yes {c m g : Int} (h : needB c m g = true) : needE c m g = 0 := by simp [needE, h]
theorem needE_no {c m g : Int} (h : needB c m g = false) : needE c m g = 4 := by simp [needE, h]

set_option maxHeartbeats 1000000 in
theorem checks_any (L : List (Int × Int × Int)) (a : Option Addr) (n cap : Nat) (w : World) (hn : n = L.length) (hmax : n ≤ 9223372036854775807) (hL : Needs w a L) :
    Calls Try.prog 41 #[.slice a n cap] w fun e w' => e = .returned (.int .i64 (checksE L)) ∧ Below w.heap.size w w' := by
  have HL := Lib.hid hL
  have HN := Lib.hid hn
  clear hL hn
  go_enter Try.func41, Try.ntmps41
  go_wp2_with fail
  go_loopw [8] (fun i wr => ∃ j : Nat, j ≤ n ∧ i = .int .i64 j ∧ Good L j ∧ Below w.heap.size w wr) (fun i _ => n - (intOf i).toNat)
  case atStart => exact ⟨0, by omega, rfl, Good.zero L, Below.refl _ _⟩
  case round =>
    obtain ⟨j, hj, rfl, hG, hB⟩ := hrel
    have HG := Lib.hid hG
    clear hG
    by_cases hlt : j < n
    · obtain ⟨b, off, rfl, hb, hat⟩ := HL.out (by have := HN.out; omega)
      obtain ⟨⟨c, m, g⟩, hx⟩ : ∃ x, L[j]? = some x := ⟨_, List.getElem?_eq_getElem (by have := HN.out; omega)⟩
      obtain ⟨q0, q1, q2⟩ := hat.below hB hb j c m g hx
      have HX := Lib.hid hx
      have hbr : b < wr.heap.size := Nat.lt_of_lt_of_le hb hB.size
      clear hat hx
      cases hg : needB c m g with
      | true =>
        have HE := Lib.hid (needE_yes hg)
        have HI := Lib.hid (HG.out.succ HX.out hg)
        clear hg
        go_wp2_with (go_at_call 28; refine (Check_any _ _ _ _).mono ?_; rintro e w1 ⟨rfl, hB1⟩; rw [HE.out]; have hB2 : Below w.heap.size w w1 := hB.trans ((show Below w.heap.size wr (wr.alloc _) from (Below.refl _ _).alloc hB.size _).trans (hB1.mono (by simp; have := hB.size; omega))); clear hB1)
        go_roundw
        case rel => exact ⟨j + 1, by omega, rfl, HI.out, hB2⟩
        case measure => simp [intOf]; omega
      | false =>
        have HE := Lib.hid (needE_no hg)
        have HI := Lib.hid (checks_bad HX.out hg)
        clear hg
        go_wp2_with (go_at_call 28; refine (Check_any _ _ _ _).mono ?_; rintro e w1 ⟨rfl, hB1⟩; rw [HE.out]; have hB2 : Below w.heap.size w w1 := hB.trans ((show Below w.heap.size wr (wr.alloc _) from (Below.refl _ _).alloc hB.size _).trans (hB1.mono (by simp; have := hB.size; omega))); clear hB1)
        go_ret
        exact ⟨ret_int HI.out.symm, hB2⟩
    · have HI := Lib.hid (show checksE L = 0 from (by
        have e : j = L.length := by have := HN.out; omega
        exact (e ▸ HG.out).all.1))
      go_wp2
      go_ret
      exact ⟨ret_int HI.out.symm, hB⟩

/-- a pair of needs, checked -/
def bothB (a b c x y z : Int) : Bool := needB a b c && needB x y z
def bothE (a b c x y z : Int) : Int := if bothB a b c x y z then 0 else 4
theorem both_eq (a b c x y z : Int) : checksE [(a, b, c), (x, y, z)] = bothE a b c x y z := by simp [checksE, allB, bothE, bothB]
theorem pair_needs {W : World} {k a b c x y z} (h0 : W.cell? ⟨k, 0, none⟩ = some (.int .i64 a)) (h1 : W.cell? ⟨k, 1, none⟩ = some (.int .i64 b)) (h2 : W.cell? ⟨k, 2, none⟩ = some (.int .i64 c)) (h3 : W.cell? ⟨k, 3, none⟩ = some (.int .i64 x)) (h4 : W.cell? ⟨k, 4, none⟩ = some (.int .i64 y)) (h5 : W.cell? ⟨k, 5, none⟩ = some (.int .i64 z)) (hk : k < W.heap.size) :
    Needs W (some ⟨k, 0, none⟩) [(a, b, c), (x, y, z)] := fun _ => ⟨k, 0, rfl, hk, fun i c' m' g' hi => by
  have : i = 0 ∨ i = 1 := by have := (List.getElem?_eq_some_iff.1 hi).1; simp at this; omega
  rcases this with rfl | rfl
  · simp at hi; obtain ⟨rfl, rfl, rfl⟩ := hi; exact ⟨h0, h1, h2⟩
  · simp at hi; obtain ⟨rfl, rfl, rfl⟩ := hi; exact ⟨h3, h4, h5⟩⟩

/-- is the one no more than the other one, of each? -/
def fitsB (a b c x y z : Int) : Bool := decide (a ≤ x ∧ b ≤ y ∧ c ≤ z)
theorem fitsB_yes {a b c x y z : Int} (h : fitsB a b c x y z = true) : a ≤ x ∧ b ≤ y ∧ c ≤ z := by simpa [fitsB] using h
theorem fitsB_no {a b c x y z : Int} (h : fitsB a b c x y z = false) : x < a ∨ (a ≤ x ∧ y < b) ∨ (a ≤ x ∧ b ≤ y ∧ z < c) := by simp [fitsB] at h; omega
theorem fits_any (a b c x y z : Int) (w : World) : Calls Try.prog 42 #[.agg #[.int .i64 a, .int .i64 b, .int .i64 c], .agg #[.int .i64 x, .int .i64 y, .int .i64 z]] w fun e w' => e = .returned (.bool (fitsB a b c x y z)) ∧ Below w.heap.size w w' := by
  cases hf : fitsB a b c x y z with
  | true =>
    obtain ⟨f1, f2, f3⟩ := fitsB_yes hf
    clear hf
    go_enter Try.func42, Try.ntmps42
    go_wp2
    go_ret
    exact ⟨ret_bool (by first | rfl | (simp; done) | (simp; omega)), by go_grown⟩
  | false =>
    have HF := fitsB_no hf
    clear hf
    rcases HF with f1 | ⟨f1, f2⟩ | ⟨f1, f2, f3⟩
    all_goals
      go_enter Try.func42, Try.ntmps42
      go_wp2
      go_ret
      exact ⟨ret_bool (by first | rfl | (simp; done) | (simp; omega)), by go_grown⟩

set_option maxHeartbeats 1000000 in
theorem Fits_any (a b c x y z : Int) (w : World) : Calls Try.prog 30 #[.agg #[.int .i64 a, .int .i64 b, .int .i64 c], .agg #[.int .i64 x, .int .i64 y, .int .i64 z]] w fun e w' =>
    e = .returned (.tuple #[.bool (bothB a b c x y z && fitsB a b c x y z), .int .i64 (bothE a b c x y z)]) ∧ Below w.heap.size w w' := by
  cases hb : bothB a b c x y z with
  | true =>
    have HE := Lib.hid (show checksE [(a, b, c), (x, y, z)] = 0 from by rw [both_eq]; simp [bothE, hb])
    have HV := Lib.hid (show (0 : Int) = bothE a b c x y z from by simp [bothE, hb])
    clear hb
    go_enter Try.func30, Try.ntmps30
    go_wp2_with (first
      | (go_at_call 41; refine Calls.mono (checks_any [(a, b, c), (x, y, z)] _ 2 2 _ rfl (by omega) (pair_needs (by simp [go_sem]) (by simp [go_sem]) (by simp [go_sem]) (by simp [go_sem]) (by simp [go_sem]) (by simp [go_sem]) (by simp))) ?_; rintro e w1 ⟨rfl, hb1⟩; rw [HE.out]; obtain ⟨hc1, hz1⟩ := bcell hb1; have hs1 : w.heap.size + 2 < w1.heap.size := (by have := hb1.size; simp at this; omega); have hB1 : Below w.heap.size w w1 := Below.trans (by go_grown) (hb1.mono (by simp; omega)))
      | (go_at_call 42; refine (fits_any _ _ _ _ _ _ _).mono ?_; rintro e w2 ⟨rfl, hb2⟩))
    go_ret2
    exact ⟨ret_bi (by simp) HV.out, hB1.trans (hb2.mono hB1.size)⟩
  | false =>
    have HE := Lib.hid (show checksE [(a, b, c), (x, y, z)] = 4 from by rw [both_eq]; simp [bothE, hb])
    have HV := Lib.hid (show (4 : Int) = bothE a b c x y z from by simp [bothE, hb])
    clear hb
    go_enter Try.func30, Try.ntmps30
    go_wp2_with (first
      | (go_at_call 41; refine Calls.mono (checks_any [(a, b, c), (x, y, z)] _ 2 2 _ rfl (by omega) (pair_needs (by simp [go_sem]) (by simp [go_sem]) (by simp [go_sem]) (by simp [go_sem]) (by simp [go_sem]) (by simp [go_sem]) (by simp))) ?_; rintro e w1 ⟨rfl, hb1⟩; rw [HE.out]; obtain ⟨hc1, hz1⟩ := bcell hb1; have hs1 : w.heap.size + 2 < w1.heap.size := (by have := hb1.size; simp at this; omega); have hB1 : Below w.heap.size w w1 := Below.trans (by go_grown) (hb1.mono (by simp; omega))))
    go_ret2
    exact ⟨ret_bi (by simp) HV.out, hB1⟩

/-- a sum, a difference: the document's -/
theorem needPlus_any (a b c x y z t : Int) (w : World) (h : bothB a b c x y z = true) (ht : t = 1 ∨ t = -1) : Calls Try.prog 20 #[.agg #[.int .i64 a, .int .i64 b, .int .i64 c], .agg #[.int .i64 x, .int .i64 y, .int .i64 z], .int .i64 t] w fun e w' =>
    e = .returned (.agg #[.int .i64 (a + t * x), .int .i64 (b + t * y), .int .i64 (c + t * z)]) ∧ Below w.heap.size w w' := by
  simp only [bothB, Bool.and_eq_true] at h
  obtain ⟨⟨a1, a2⟩, ⟨b1, b2⟩, c1, c2⟩ := needB_yes h.1
  obtain ⟨⟨x1, x2⟩, ⟨y1, y2⟩, z1, z2⟩ := needB_yes h.2
  clear h
  rcases ht with rfl | rfl
  all_goals
    go_enter Try.func20, Try.ntmps20
    go_wp2
    refine bodyPost_ret (v := .agg #[.int .i64 (a + _ * x), .int .i64 (b + _ * y), .int .i64 (c + _ * z)]) (by simp [results, Try.results20, go_sem]) rfl ⟨rfl, ?_⟩
    go_grown

end Go.Proofs.Ytnfmopmcckgfdaa
