/- Contract: slices.MinFunc of numbers, by a closure that is handed in. -/
import Derived.Test.YtnfmopmcckgfdaaHostBest2
namespace Go.Proofs.Ytnfmopmcckgfdaa
open Go.ChangeShapes Go.WideShapes Go.ChangeAt Go.RowKit
set_option linter.unusedVariables false
open Tp
/-- the first of the least, m being the least so far -/
def minF (cz : Nat → Nat → Int) : Nat → List Nat → Nat
  | m, [] => m
  | m, x :: l => minF cz (if cz x m < 0 then x else m) l
theorem minF_mem (cz : Nat → Nat → Int) : ∀ (l : List Nat) (m : Nat), minF cz m l = m ∨ minF cz m l ∈ l
  | [], m => .inl rfl
  | x :: l, m => by
    rw [minF]
    rcases minF_mem cz l (if cz x m < 0 then x else m) with h | h
    · rw [h]
      split
      · exact .inr (by simp)
      · exact .inl rfl
    · exact .inr (List.mem_cons_of_mem _ h)
theorem natCell {w : World} {a : Option Addr} {l : List Nat} (h : Vals w a (nats l)) {q x : Nat} (hq : l[q]? = some x) : ∃ b off, a = some ⟨b, off, none⟩ ∧ b < w.heap.size ∧ w.cell? ⟨b, off + q, none⟩ = some (.int .i64 (x : Int)) := by
  have hl : 0 < (nats l).length := by rw [nats_length]; have := (List.getElem?_eq_some_iff.1 hq).1; omega
  obtain ⟨b, off, h1, h2, h3⟩ := h hl
  exact ⟨b, off, h1, h2, h3 q _ (by rw [nats, List.getElem?_map, hq]; rfl)⟩
set_option maxRecDepth 20000 in
set_option maxHeartbeats 8000000 in
theorem minFunc_any (K : FuncId) (hE : Enters K) (ct : Array Value) (cz : Nat → Nat → Int) (J : World → Prop) (hJ : ∀ w w', J w → Below w.heap.size w w' → J w') (m0 : Nat) (l : List Nat)
    (hK : ∀ (x y : Nat) (w : World), x ∈ m0 :: l → y ∈ m0 :: l → J w → Calls Try.prog K (#[.int .i64 (x : Int), .int .i64 (y : Int)] ++ ct) w fun e w' => e = .returned (.int .i64 (cz x y)) ∧ Below w.heap.size w w')
    (hlen : l.length ≤ 1000) (a : Option Addr) (n cap : Nat) (w : World) (hn : n = l.length + 1) (hv : Vals w a (nats (m0 :: l))) (hj : J w) :
    Calls Try.prog 32 #[.slice a n cap, .func (.func K) #[] ct] w fun e w' => e = .returned (.int .i64 (minF cz m0 l : Int)) ∧ Below w.heap.size w w' := by
  have HK := Lib.hid hK
  have HJ := Lib.hid hJ
  have HJW := Lib.hid hj
  have HV := Lib.hid hv
  have HN := Lib.hid hn
  obtain ⟨b, off, rfl, hb, c0⟩ := natCell (q := 0) hv rfl
  simp only [Nat.add_zero] at c0
  have hn0 : 0 < n := by omega
  have hn1 : (1 : Int) ≤ (n : Int) := by omega
  have hn2 : (0 : Int) < (n : Int) := by omega
  have hn3 : n ≤ 1001 := by omega
  unfold Enters at hE
  clear hK hJ hj hv hn hlen
  go_enter Try.func32, Try.ntmps32
  go_wp2_with fail
  go_loopg [5, 6] (n - 1) (fun g u y wr => ∃ (j m : Nat), j + 1 + g = n ∧ y = .int .i64 ((j + 1 : Nat) : Int) ∧ u = .int .i64 (m : Int) ∧ Hid (m ∈ m0 :: l) ∧ Hid (minF cz m0 l = minF cz m (l.drop j)) ∧ Hid (Below w.heap.size w wr))
  case atStart => exact ⟨0, m0, by omega, rfl, rfl, Lib.hid (by simp), Lib.hid rfl, Lib.hid (Below.refl _ _)⟩
  case round =>
    obtain ⟨j, m, hj, rfl, rfl, HM, HD, HB⟩ := hrel
    by_cases hjn : j + 1 < n
    · obtain ⟨x, hx⟩ : ∃ x, l[j]? = some x := ⟨_, List.getElem?_eq_getElem (by have := HN.out; omega)⟩
      obtain ⟨b', off', e9, _, c1⟩ := natCell (q := j + 1) (HV.out.below HB.out (Nat.le_refl _)) (show (m0 :: l)[j + 1]? = some x from by simpa using hx)
      cases e9
      have HXM : Hid (x ∈ m0 :: l) := Lib.hid (List.mem_cons_of_mem _ (List.mem_of_getElem? hx))
      have HX : Hid (minF cz m0 l = minF cz (if cz x m < 0 then x else m) (l.drop (j + 1))) := Lib.hid (by
        rw [HD.out, List.drop_eq_getElem_cons (List.getElem?_eq_some_iff.1 hx).1, minF, (List.getElem?_eq_some_iff.1 hx).2])
      have HC := Lib.hid (HK.out x m wr HXM.out HM.out (HJ.out _ _ HJW.out HB.out))
      have HC2 : Hid (Calls Try.prog K (#[.int .i64 (x : Int), .int .i64 (m : Int)] ++ ct) wr fun e w' => e = .returned (.int .i64 (cz x m)) ∧ Below wr.heap.size wr w') := HC
      have hj1 : ((j + 1 : Nat) : Int) < (n : Int) := by omega
      have hj2 : (0 : Int) ≤ ((j + 1 : Nat) : Int) := by omega
      have hbr : b < wr.heap.size := Nat.lt_of_lt_of_le hb HB.out.size
      have HJJ := Lib.hid hj
      obtain ⟨z, hz⟩ : ∃ z, cz x m = z := ⟨_, rfl⟩
      rw [hz] at HC2 HX
      clear hx HC hz hj
      by_cases hlt : z < 0
      · rw [if_pos hlt] at HX
        go_wp2_with fail
        refine Calls.mono HC2.out ?_
        rintro e' W1 ⟨rfl, hl⟩
        have HB1 := Lib.hid (HB.out.trans (hl.mono HB.out.size))
        have c1 := (hl.cell (p := ⟨b, off + (j + 1), none⟩) hbr).trans c1
        clear hl
        go_wp2_with fail
        go_roundg (n - (j + 2))
        case measure => (have := HJJ.out; omega)
        case rel => exact ⟨j + 1, x, by have := HJJ.out; omega, by simp, rfl, HXM, HX, HB1⟩
      · rw [if_neg hlt] at HX
        have hge : (0 : Int) ≤ z := by omega
        go_wp2_with fail
        refine Calls.mono HC2.out ?_
        rintro e' W1 ⟨rfl, hl⟩
        have HB1 := Lib.hid (HB.out.trans (hl.mono HB.out.size))
        clear hl
        go_wp2_with fail
        go_roundg (n - (j + 2))
        case measure => (have := HJJ.out; omega)
        case rel => exact ⟨j + 1, m, by have := HJJ.out; omega, by simp, rfl, HM, HX, HB1⟩
    · have hjn2 : ¬ ((j + 1 : Nat) : Int) < (n : Int) := by omega
      have HE : Hid (minF cz m0 l = m) := Lib.hid (by rw [HD.out, List.drop_eq_nil_of_le (by have := HN.out; omega), minF])
      go_wp2_with fail
      go_ret
      exact ⟨by rw [HE.out]; rfl, HB.out⟩
end Go.Proofs.Ytnfmopmcckgfdaa
