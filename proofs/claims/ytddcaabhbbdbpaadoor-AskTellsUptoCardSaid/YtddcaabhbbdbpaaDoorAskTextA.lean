/- Contract: the text of a good ask, the program's. -/
import Derived.Test.YtddcaabhbbdbpaaDoorAskWord
import Derived.Test.YtddcaabhbbdbpaaDoorTxtNum
import Derived.Deep.RegionHeld3
import Derived.Deep.CutBlock
import Derived.Deep.DeepCutAuto
namespace Go.Proofs.YtddcaabhbbdbpaaDoor
open Go.ChangeShapes Go.WideShapes Go.ChangeAt Go.RowKit
set_option linter.unusedVariables false
open Tp
theorem add1 (a : Bs) : (⟨#[63]⟩ : ByteArray) ++ bts a = bts (63 :: a) := bts_append [63] a
theorem add2 (a b : Bs) : bts a ++ (⟨#[61]⟩ : ByteArray) ++ bts b = bts (a ++ 61 :: b) := by
  rw [show (⟨#[61]⟩ : ByteArray) = bts [61] from rfl, bts_append, bts_append, List.append_assoc]; rfl
theorem add3 (a b : Bs) : bts a ++ (⟨#[62, 61]⟩ : ByteArray) ++ bts b = bts (a ++ 62 :: 61 :: b) := by
  rw [show (⟨#[62, 61]⟩ : ByteArray) = bts [62, 61] from rfl, bts_append, bts_append, List.append_assoc]; rfl
theorem lab_short {L : Bs} (h : lab L = true) : L.length ≤ 20 := by
  by_cases h2 : 20 < L.length
  · rw [lab_len (.inr h2)] at h; cases h
  · omega
theorem unit_short {L : Bs} (h : Ask.unit L = true) : L.length ≤ 20 := by
  unfold Ask.unit at h
  simp only [Bool.or_eq_true, decide_eq_true_eq] at h
  rcases h with (h | h) | h <;> subst h <;> decide
set_option maxRecDepth 20000 in
set_option maxHeartbeats 4000000 in
theorem textA (x : Ask) (v : Value) (w : World) (he : x.err = 0) (h3 : x.kind ≤ 3) (hp : Env w) (hx : AskV w x v) : Calls Tryd.prog 11 #[v] w fun e w' => e = .returned (.string (bts (Ar.txt x))) ∧ Below w.heap.size w w' := by
  cases x with
  | mk k ka va nu l =>
  rw [AskV] at hx
  obtain ⟨ad, n, cap, rfl, hrest⟩ := hx
  clear hrest
  obtain ⟨hb0, hes⟩ := Ask.err_zero he
  obtain ⟨hk1, hk6, hlen, hn0, hnu, hnu2, _, _, hu, hl1, hl2⟩ := Ask.bad_zero hb0
  have h3 : k ≤ 3 := h3
  clear hb0 hes hlen he
  have hka : ka.length ≤ 20 := by
    by_cases h : k = 3
    · exact unit_short (hu h)
    · exact lab_short (hl1 (by omega))
  obtain ⟨V, hV⟩ : ∃ V, (Ar.txt (Ask.mk k ka va nu l)) = V := ⟨_, rfl⟩
  have HV := Lib.hid hV
  rw [hV]
  clear hV
  obtain ⟨a1, ha1⟩ : ∃ a, bts ka = a := ⟨_, rfl⟩
  obtain ⟨a2, ha2⟩ : ∃ a, bts va = a := ⟨_, rfl⟩
  have HA1 := Lib.hid ha1
  have HA2 := Lib.hid ha2
  have hs1 : a1.size ≤ 20 := by rw [← ha1, bts_size]; exact hka
  rw [ha1, ha2]
  have hb9 : Below w.heap.size w (w.alloc (.cells #[.int .i64 k, .string a1, .string a2, .int .i64 nu, .slice ad n cap] 24)) := (Below.refl _ _).alloc (Nat.le_refl _) _
  have HB9 := Lib.hid hb9
  by_cases h1 : k = 1
  · subst h1
    have HR : Hid ((⟨#[63]⟩ : ByteArray) ++ a1 = bts V) := Lib.hid (by rw [← HV.out, ← HA1.out, add1]; rfl)
    have h63 : (⟨#[63]⟩ : ByteArray).size = 1 := rfl
    clear ha1 ha2 hu hl1 hl2 hb9 hk1 hk6 h3 hn0 hnu hnu2
    go_enter Tryd.func11, Tryd.ntmps11
    go_wp2_with fail
    go_ret
    exact ⟨by rw [← HR.out]; rfl, HB9.out⟩
  by_cases h2 : k = 2
  · have hs2 : a2.size ≤ 20 := by rw [← ha2, bts_size]; exact lab_short (hl2 h2)
    subst h2
    have HR : Hid (a1 ++ (⟨#[61]⟩ : ByteArray) ++ a2 = bts V) := Lib.hid (by rw [← HV.out, ← HA1.out, ← HA2.out, add2]; rfl)
    obtain ⟨p1, hp1⟩ : ∃ p, a1 ++ (⟨#[61]⟩ : ByteArray) = p := ⟨_, rfl⟩
    have h61 : (⟨#[61]⟩ : ByteArray).size = 1 := rfl
    have hsp : p1.size ≤ 21 := by rw [← hp1, ByteArray.size_append]; omega
    rw [hp1] at HR
    clear ha1 ha2 hu hl1 hl2 hb9 hk1 hk6 h3 hn0 hnu hnu2
    go_enter Tryd.func11, Tryd.ntmps11
    go_wp2_with fail
    go_ret
    exact ⟨by rw [← HR.out]; rfl, HB9.out⟩
  · obtain rfl : k = 3 := by omega
    obtain ⟨u, rfl⟩ : ∃ u : Nat, nu = (u : Int) := ⟨nu.toNat, by omega⟩
    have hu9 : u ≤ 1099511627776 := by omega
    obtain ⟨D, hD⟩ : ∃ D, bts (Nt.dec u) = D := ⟨_, rfl⟩
    have hsd : D.size ≤ 19 := by rw [← hD, bts_size]; exact Nt.dec_len 18 u (by omega)
    have HR : Hid (a1 ++ (⟨#[62, 61]⟩ : ByteArray) ++ D = bts V) := Lib.hid (by rw [← HV.out, ← HA1.out, ← hD, add3]; rfl)
    obtain ⟨p1, hp1⟩ : ∃ p, a1 ++ (⟨#[62, 61]⟩ : ByteArray) = p := ⟨_, rfl⟩
    have h62 : (⟨#[62, 61]⟩ : ByteArray).size = 2 := rfl
    have hsp : p1.size ≤ 22 := by rw [← hp1, ByteArray.size_append]; omega
    rw [hp1] at HR
    have hnn1 : ¬ 9223372036854775807 < a1.size + 2 := by omega
    have hnn2 : ¬ 9223372036854775807 < p1.size + D.size := by omega
    obtain ⟨W0, hW0⟩ : ∃ W, W = w.alloc (.cells #[.int .i64 3, .string a1, .string a2, .int .i64 (u : Int), .slice ad n cap] 24) := ⟨_, rfl⟩
    rw [← hW0] at HB9
    obtain ⟨cx, hcx⟩ : ∃ c, c = w.heap.size := ⟨_, rfl⟩
    have d1 : W0.cell? ⟨cx, 1, none⟩ = some (.string a1) := by rw [hcx, hW0]; simp
    have d3 : W0.cell? ⟨cx, 3, none⟩ = some (.int .i64 (u : Int)) := by rw [hcx, hW0]; simp
    have d0 : W0.cell? ⟨cx, 0, none⟩ = some (.int .i64 3) := by rw [hcx, hW0]; simp
    have hc0 : cx < W0.heap.size := by rw [hcx, hW0]; simp
    have HC : Hid (∀ W, Below W0.heap.size W0 W → Calls Tryd.prog 19 #[.int .i64 (u : Int), .int .i64 10] W fun e w' => e = .returned (.string D) ∧ Below W.heap.size W w') := Lib.hid (fun W hW => by rw [← hD]; exact FormatIntN_any u W (by omega) ((hp.below HB9.out (Nat.le_refl _)).below hW (Nat.le_refl _)))
    clear ha1 ha2 hu hl1 hl2 hb9 hk1 hk6 h3 hn0 hnu hnu2 hD h1 h2
    have d1d : W0.drew.cell? ⟨cx, 1, none⟩ = some (.string a1) := d1
    have d3d : W0.drew.cell? ⟨cx, 3, none⟩ = some (.int .i64 (u : Int)) := d3
    go_enter Tryd.func11, Tryd.ntmps11
    go_upto_region 7 with fail
    rw [← hW0, ← hcx]
    clear hW0 hcx
    first | (go_region_held3 (fun W => W.cell? ⟨cx, 1, none⟩ = some (.string a1) ∧ W.cell? ⟨cx, 3, none⟩ = some (.int .i64 (u : Int))) (first | with_reducible exact ⟨d1, d3⟩ | with_reducible exact ⟨d1d, d3d⟩ | with_reducible exact ⟨d1a, d3a⟩ | go_keep) (first | (go_at_call 19; refine Calls.mono (HC.out _ (by first | exact Below.refl _ _ | go_grown)) ?_; rintro e w1 ⟨rfl, hb1⟩; have d1a := (hb1.cell (p := ⟨cx, 1, none⟩) hc0).trans d1; have d3a := (hb1.cell (p := ⟨cx, 3, none⟩) hc0).trans d3))) | fail
    all_goals
      go_wp2_with fail
      go_ret
      exact ⟨by rw [← HR.out]; rfl, HB9.out.trans (((show Below W0.heap.size W0 W0.drew from by go_grown).trans hb1).mono HB9.out.size)⟩
end Go.Proofs.YtddcaabhbbdbpaaDoor
