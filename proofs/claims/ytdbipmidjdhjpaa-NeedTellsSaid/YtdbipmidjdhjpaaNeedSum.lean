/- Contract: the sum of a row of needs; the program's. -/
import Derived.Test.YtdbipmidjdhjpaaNeedAdd
namespace Go.Proofs.Ytdbipmidjdhjpaa
open Go.ChangeShapes Go.WideShapes Go.ChangeAt Go.RowKit
set_option linter.unusedVariables false
set_option linter.unusedSimpArgs false
/-- a need as three numbers, with what was said -/
structure Sum4 where
  c : Int
  m : Int
  g : Int
  e : Int
/-- the sum of what is left of a row, onto what there is -/
def foldN : List (Int × Int × Int) → Int → Int → Int → Sum4
  | [], a, b, c => ⟨a, b, c, 0⟩
  | (x, y, z) :: t, a, b, c => if needB (a + x) (b + y) (c + z) then foldN t (a + x) (b + y) (c + z) else ⟨0, 0, 0, 2⟩
def sumN (L : List (Int × Int × Int)) : Sum4 := if allB L then foldN L 0 0 0 else ⟨0, 0, 0, 4⟩
theorem drop_at {α} {L : List α} {j : Nat} {v : α} (h : L[j]? = some v) : L.drop j = v :: L.drop (j + 1) := by
  obtain ⟨hl, e⟩ := List.getElem?_eq_some_iff.1 h
  rw [← e]; exact List.drop_eq_getElem_cons hl
theorem foldN_yes {L : List (Int × Int × Int)} {j : Nat} {a b c x y z : Int} (h : L[j]? = some (x, y, z)) (hb : needB (a + x) (b + y) (c + z) = true) : foldN (L.drop j) a b c = foldN (L.drop (j + 1)) (a + x) (b + y) (c + z) := by rw [drop_at h]; simp [foldN, hb]
theorem foldN_no {L : List (Int × Int × Int)} {j : Nat} {a b c x y z : Int} (h : L[j]? = some (x, y, z)) (hb : needB (a + x) (b + y) (c + z) = false) : foldN (L.drop j) a b c = ⟨0, 0, 0, 2⟩ := by rw [drop_at h]; simp [foldN, hb]
theorem foldN_end {L : List (Int × Int × Int)} {j : Nat} {a b c : Int} (h : ¬ j < L.length) : foldN (L.drop j) a b c = ⟨a, b, c, 0⟩ := by rw [List.drop_eq_nil_of_le (by omega)]; rfl
theorem addE_yes {a b c x y z : Int} (h : bothB a b c x y z = true) (hn : needB (a + x) (b + y) (c + z) = true) : addB a b c x y z = true ∧ addE a b c x y z = 0 := by simp [addB, addE, h, hn]
theorem addE_no {a b c x y z : Int} (h : bothB a b c x y z = true) (hn : needB (a + x) (b + y) (c + z) = false) : addE a b c x y z = 2 := by simp [addE, h, hn]
def Held1 (k : Nat) (a b c : Int) (w : World) : Prop := w.cell? ⟨k, 0, none⟩ = some (.int .i64 a) ∧ w.cell? ⟨k, 1, none⟩ = some (.int .i64 b) ∧ w.cell? ⟨k, 2, none⟩ = some (.int .i64 c) ∧ w.frozen? ⟨k, 0, none⟩ = false ∧ w.frozen? ⟨k, 1, none⟩ = false ∧ w.frozen? ⟨k, 2, none⟩ = false
theorem ret_sum {a b c e : Int} {s : Sum4} (h : s = ⟨a, b, c, e⟩) : Ending.returned (.tuple #[.agg #[.int .i64 a, .int .i64 b, .int .i64 c], .int .i64 e]) = .returned (.tuple #[.agg #[.int .i64 s.c, .int .i64 s.m, .int .i64 s.g], .int .i64 s.e]) := by subst h; rfl
set_option maxHeartbeats 2000000 in
theorem nSum_any (L : List (Int × Int × Int)) (a : Option Addr) (n cap : Nat) (w : World) (hn : n = L.length) (hmax : n ≤ 9223372036854775807) (hL : Needs w a L) :
    Calls Try.prog 33 #[.slice a n cap] w fun e w' => e = .returned (.tuple #[.agg #[.int .i64 (sumN L).c, .int .i64 (sumN L).m, .int .i64 (sumN L).g], .int .i64 (sumN L).e]) ∧ Below w.heap.size w w' := by
  cases hA : allB L with
  | false =>
    have HE := Lib.hid (show checksE L = 4 from by simp [checksE, hA])
    have HV := Lib.hid (show sumN L = ⟨0, 0, 0, 4⟩ from by simp [sumN, hA])
    have HL := Lib.hid hL
    have HN := Lib.hid hn
    clear hL hn hA
    go_enter Try.func33, Try.ntmps33
    go_wp2_with (go_at_call 61; refine Calls.mono (checks_any L a n cap _ HN.out hmax (fun h => by
      obtain ⟨b, off, rfl, hb, hat⟩ := HL.out h
      exact ⟨b, off, rfl, by simp; omega, hat.below (B := w.heap.size) (by go_grown) hb⟩)) ?_; rintro e w1 ⟨rfl, hb1⟩; rw [HE.out]; obtain ⟨hc1, hz1⟩ := bcell hb1; have hs1a : w.heap.size < w1.heap.size := (by have := hb1.size; simp at this; omega); have hB1 : Below w.heap.size w w1 := Below.trans (by go_grown) (hb1.mono (by simp)))
    refine bodyPost_ret (v := .tuple #[.agg #[.int .i64 0, .int .i64 0, .int .i64 0], .int .i64 4]) (by simp [results, Try.results33, go_sem, cell_set, hc1, hs1a]) rfl ⟨ret_sum HV.out, ?_⟩
    go_grown
  | true =>
    have HE := Lib.hid (show checksE L = 0 from by simp [checksE, hA])
    have HS := Lib.hid (show sumN L = foldN (L.drop 0) 0 0 0 from by simp [sumN, hA])
    have HA := Lib.hid hA
    have HL := Lib.hid hL
    have HN := Lib.hid hn
    clear hL hn hA
    go_enter Try.func33, Try.ntmps33
    go_wp2_with (go_at_call 61; refine Calls.mono (checks_any L a n cap _ HN.out hmax (fun h => by
      obtain ⟨b, off, rfl, hb, hat⟩ := HL.out h
      exact ⟨b, off, rfl, by simp; omega, hat.below (B := w.heap.size) (by go_grown) hb⟩)) ?_; rintro e w1 ⟨rfl, hb1⟩; rw [HE.out]; obtain ⟨hc1, hz1⟩ := bcell hb1; have hs1a : w.heap.size < w1.heap.size := (by have := hb1.size; simp at this; omega); have hB1 : Below w.heap.size w w1 := Below.trans (by go_grown) (hb1.mono (by simp)))
    go_loopw [17] (fun i wr => ∃ (j : Nat) (s1 s2 s3 : Int), j ≤ n ∧ i = .int .i64 j ∧ needB s1 s2 s3 = true ∧ sumN L = foldN (L.drop j) s1 s2 s3 ∧ Below w.heap.size w wr ∧ w1.heap.size < wr.heap.size ∧ Held1 w1.heap.size s1 s2 s3 wr ∧ Held1 w.heap.size 0 0 0 wr) (fun i _ => n - (intOf i).toNat)
    case atStart => exact ⟨0, 0, 0, 0, by omega, rfl, by decide, HS.out, by go_grown, by simp, ⟨by simp [go_sem], by simp [go_sem], by simp [go_sem], by simp [go_sem], by simp [go_sem], by simp [go_sem]⟩, by simp [go_sem, hc1, hs1a], by simp [go_sem, hc1, hs1a], by simp [go_sem, hc1, hs1a], by simp [go_sem, hz1, hs1a], by simp [go_sem, hz1, hs1a], by simp [go_sem, hz1, hs1a]⟩
    case round =>
      obtain ⟨j, s1, s2, s3, hj, rfl, hg, hs, hB, hk, ⟨h0, h1, h2, z0, z1, z2⟩, r0, r1, r2, y0, y1, y2⟩ := hrel
      have HG := Lib.hid hg
      have HT := Lib.hid hs
      have hk2 : w.heap.size < wr.heap.size := by omega
      have hne1 : ¬ (w1.heap.size = w.heap.size) := by omega
      clear hg hs
      by_cases hlt : j < n
      · obtain ⟨b, off, rfl, hb, hat⟩ := HL.out (by have := HN.out; omega)
        obtain ⟨⟨c, m, g⟩, hx⟩ : ∃ x, L[j]? = some x := ⟨_, List.getElem?_eq_getElem (by have := HN.out; omega)⟩
        obtain ⟨q0, q1, q2⟩ := hat.below hB hb j c m g hx
        have HX := Lib.hid hx
        have hbr : b < wr.heap.size := Nat.lt_of_lt_of_le hb hB.size
        have HBO := Lib.hid (show bothB s1 s2 s3 c m g = true from by simp [bothB, HG.out, allB_at HA.out hx])
        clear hat hx
        cases hs' : needB (s1 + c) (s2 + m) (s3 + g) with
        | true =>
          obtain ⟨ea, ee⟩ := addE_yes HBO.out hs'
          have HE2 := Lib.hid ee
          have HP := Lib.hid (fun v => (pk_yes ea v).symm)
          have HI := Lib.hid (HT.out.trans (foldN_yes HX.out hs'))
          have HG2 := Lib.hid hs'
          clear ea ee hs'
          go_wp2_with (go_at_call 30; refine Calls.mono (nAdd_any _ _ _ _ _ _ _) ?_; rintro e w2 ⟨rfl, hb2⟩; simp only [HP.out]; rw [HE2.out]; obtain ⟨hc2, hz2⟩ := bcell hb2; have hs2 : wr.heap.size < w2.heap.size := (by have := hb2.size; simp at this; omega); have hs2b : w1.heap.size < w2.heap.size := (by omega); have hs2c : w.heap.size < w2.heap.size := (by omega); have hB2 : Below w.heap.size w w2 := hB.trans (Below.trans (by go_grown) (hb2.mono (by simp; omega))))
          go_roundw
          case rel => exact ⟨j + 1, _, _, _, by omega, rfl, HG2.out, HI.out, by go_grown, by simp; omega, ⟨by simp [cell_set, go_sem, hs2b, hc2, hk, h0], by simp [cell_set, go_sem, hs2b, hc2, hk, h1], by simp [cell_set, go_sem, hs2b, hc2, hk, h2], by simp [go_sem, hz2, z0, hk], by simp [go_sem, hz2, z1, hk], by simp [go_sem, hz2, z2, hk]⟩, by simp [cell_set, go_sem, hs2c, hne1, hc2, hk2, r0], by simp [cell_set, go_sem, hs2c, hne1, hc2, hk2, r1], by simp [cell_set, go_sem, hs2c, hne1, hc2, hk2, r2], by simp [go_sem, hz2, y0, hk2], by simp [go_sem, hz2, y1, hk2], by simp [go_sem, hz2, y2, hk2]⟩
          case measure => simp [intOf]; omega
        | false =>
          have HE2 := Lib.hid (addE_no HBO.out hs')
          have HI := Lib.hid (HT.out.trans (foldN_no HX.out hs'))
          clear hs'
          go_wp2_with (go_at_call 30; refine Calls.mono (nAdd_any _ _ _ _ _ _ _) ?_; rintro e w2 ⟨rfl, hb2⟩; rw [HE2.out]; obtain ⟨hc2, hz2⟩ := bcell hb2; have hs2 : wr.heap.size < w2.heap.size := (by have := hb2.size; simp at this; omega); have hs2b : w1.heap.size < w2.heap.size := (by omega); have hs2c : w.heap.size < w2.heap.size := (by omega); have hB2 : Below w.heap.size w w2 := hB.trans (Below.trans (by go_grown) (hb2.mono (by simp; omega))))
          refine bodyPost_ret (v := .tuple #[.agg #[.int .i64 0, .int .i64 0, .int .i64 0], .int .i64 2]) (by simp [results, Try.results33, go_sem, cell_set, hs2b, hs2c, hs1a, hne1, Ne.symm hne1, hc2, hk2, r0, r1, r2]) rfl ⟨ret_sum HI.out, ?_⟩
          go_grown
      · have HI := Lib.hid (HT.out.trans (foldN_end (by have := HN.out; omega)))
        go_wp2
        refine bodyPost_ret (v := .tuple #[.agg #[.int .i64 s1, .int .i64 s2, .int .i64 s3], .int .i64 0]) (by simp [results, Try.results33, go_sem, cell_set, hs1a, hk2, hne1, Ne.symm hne1, r0, r1, r2]) rfl ⟨ret_sum HI.out, ?_⟩
        go_grown
end Go.Proofs.Ytdbipmidjdhjpaa
