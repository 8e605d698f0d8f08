/- Contracts: is an ask right? The document's. -/
import Derived.Test.YtkemlckmfgacdaaGreatDoorJnP3
import Derived.Test.YtkemlckmfgacdaaGreatDoorJnP4
namespace Go.Proofs.YtkemlckmfgacdaaGreatDoor
set_option maxRecDepth 20000
set_option maxHeartbeats 64000000
open Go.ChangeShapes Go.WideShapes Go.ChangeAt Go.RowKit
set_option linter.unusedVariables false
open Tp
theorem askErr_all : ∀ (N : Nat) (x : Ask) (v : Value) (w : World), x.size ≤ N → AskV w x v → Calls Tryz.prog 72 #[v] w fun e w' => e = .returned (.int .i64 x.err) ∧ Below w.heap.size w w' := by
 intro N
 induction N with
 | zero => intro x v w h; have := Ask.one_le x; omega
 | succ N ih =>
  intro x v w hN hv
  cases x with
  | mk k ka va nu l =>
  rw [AskV] at hv
  obtain ⟨ad, n, cap, rfl, hn, hcap, hmax, hk1, hk2, hrow⟩ := hv
  have HIH := hid ih
  have HR := hid hrow
  have HN := hid hn
  rw [Ask.size] at hN
  have HE : Hid ((Ask.mk k ka va nu l).err = if Ask.bad k ka va nu n ≠ 0 then Ask.bad k ka va nu n else Ask.errs l) := hid (by rw [Ask.err, hn])
  obtain ⟨E, hE⟩ : ∃ E, (Ask.mk k ka va nu l).err = E := ⟨_, rfl⟩
  rw [hE] at HE ⊢
  have HEV : Hid (∀ c : Int, c ≠ 0 → Ask.bad k ka va nu n = c → c = E) := hid (fun c h0 hc => by rw [HE.out, hc, if_pos h0])
  have HLK := hid (fun w => gLabel_any (bts ka) w (by rw [bts_size]; exact hk1))
  have HLV := hid (fun w => gLabel_any (bts va) w (by rw [bts_size]; exact hk2))
  rw [lst_bts] at HLK HLV
  obtain ⟨a1, ha1⟩ : ∃ a, bts ka = a := ⟨_, rfl⟩
  obtain ⟨a2, ha2⟩ : ∃ a, bts va = a := ⟨_, rfl⟩
  rw [ha1] at HLK ⊢
  rw [ha2] at HLV ⊢
  have HA1 := hid ha1
  have HA2 := hid ha2
  have HB0 : Hid (Below w.heap.size w (w.alloc (.cells #[.int .i64 k, .string a1, .string a2, .int .i64 nu, .slice ad n cap] 26))) := hid ((Below.refl _ _).alloc lr _)
  clear ih hrow hn hE ha1 ha2 hk1 hk2
  by_cases hk : k < 1
  ·have HV : Hid ((1 : Int) = E) := hid (HEV.out 1 (by decide) (by rw [Ask.bad, if_pos (.inl hk)]))
   go_enter Tryz.func72, Tryz.ntmps72
   go_wp2_with fail
   go_ret
   exact ⟨ret_int HV.out, HB0.out⟩
  have hkl := hk
  clear hk
  by_cases hk : 6 < k
  ·have HV : Hid ((1 : Int) = E) := hid (HEV.out 1 (by decide) (by rw [Ask.bad, if_pos (.inr hk)]))
   go_enter Tryz.func72, Tryz.ntmps72
   go_wp2_with fail
   go_ret
   exact ⟨ret_int HV.out, HB0.out⟩
  have hkh := hk
  clear hk
  have HKR : Hid (¬ (k < 1 ∨ 6 < k)) := hid (by omega)
  have hks : k = 1 ∨ k = 2 ∨ k = 3 ∨ k = 4 ∨ k = 5 ∨ k = 6 := by omega
  clear hkl hkh
  rcases hks with rfl | hks
  ·have HKI : Hid (Ask.inner 1 = 0) := hid rfl
   go_enter Tryz.func72, Tryz.ntmps72
   go_upto_region 4 with fail
   obtain ⟨W0, hW0⟩ : ∃ W, W = (w.alloc (.cells #[.int .i64 1, .string a1, .string a2, .int .i64 nu, .slice ad n cap] 26)).alloc (.cells #[.int .i64 0, .int .i64 0, .int .i64 0, .int .i64 0, .int .i64 1, .int .i64 2, .int .i64 2] 3) := ⟨_, rfl⟩
   have HBC : Hid (Below w.heap.size w W0) := hid (by rw [hW0]; exact HB0.out.alloc HB0.out.size _)
   obtain ⟨cx, hcx⟩ : ∃ c, c = w.heap.size := ⟨_, rfl⟩
   have hcx0 : cx < W0.heap.size := by rw [hcx, hW0]; simp <;> omega
   have d0 : W0.cell? ⟨cx, 0, none⟩ = some (.int .i64 1) := by rw [hcx, hW0]; simp
   have d1 : W0.cell? ⟨cx, 1, none⟩ = some (.string a1) := by rw [hcx, hW0]; simp
   have d2 : W0.cell? ⟨cx, 2, none⟩ = some (.string a2) := by rw [hcx, hW0]; simp
   have d3 : W0.cell? ⟨cx, 3, none⟩ = some (.int .i64 nu) := by rw [hcx, hW0]; simp
   have d4 : W0.cell? ⟨cx, 4, none⟩ = some (.slice ad n cap) := by rw [hcx, hW0]; simp
   rw [← hW0, ← hcx]
   clear hW0 hcx HB0
   by_cases hc : n ≠ 0
   ·have HV : Hid ((1 : Int) = E) := hid (HEV.out 1 (by decide) (by rw [Ask.bad, if_neg HKR.out, if_pos (.inl hc)]))
    have hf : ((n : Int) != 0) = true := by simp; omega
    clear hc
    go_wp2_with fail
    go_ret
    exact ⟨ret_int HV.out, HBC.out⟩
   obtain rfl : n = 0 := Decidable.byContradiction hc
   clear hc
   by_cases hc : va ≠ []
   ·have HV : Hid ((1 : Int) = E) := hid (HEV.out 1 (by decide) (by rw [Ask.bad, if_neg HKR.out, if_pos (.inr (.inr (.inl ⟨by decide, hc⟩)))]))
    have hg := isEmpty_no HA2.out hc
    clear hc
    go_wp2_with fail
    go_ret
    exact ⟨ret_int HV.out, HBC.out⟩
   have hva : va = [] := Decidable.byContradiction hc
   clear hc
   obtain rfl := bts_nil HA2.out hva
   have HVA := hid hva
   clear hva
   by_cases hc : nu ≠ 0
   ·have HV : Hid ((1 : Int) = E) := hid (HEV.out 1 (by decide) (by rw [Ask.bad, if_neg HKR.out, if_pos (.inr (.inr (.inr ⟨by decide, hc⟩)))]))
    have hg : (nu != 0) = true := by simpa using hc
    clear hc
    go_wp2_with fail
    go_ret
    exact ⟨ret_int HV.out, HBC.out⟩
   obtain rfl : nu = 0 := Decidable.byContradiction hc
   clear hc
   have H1 : Hid (¬ ((0 : Nat) ≠ Ask.inner 1 ∨ ((4 : Int) ≤ 1 ∧ ka ≠ []) ∨ ((1 : Int) ≠ 2 ∧ va ≠ []) ∨ ((1 : Int) ≠ 3 ∧ (0 : Int) ≠ 0))) := hid (by
    rintro (h | ⟨h, h2⟩ | ⟨h, h2⟩ | ⟨h, h2⟩)
    ·exact h rfl
    ·exact absurd h (by decide)
    ·exact h2 HVA.out
    ·exact h2 rfl)
   cases hu : lab ka with
   | false =>
    have HV : Hid ((3 : Int) = E) := hid (HEV.out 3 (by decide) (by rw [Ask.bad, if_neg HKR.out, if_neg H1.out, if_pos (.inr (.inl ⟨.inl rfl, hu⟩))]))
    rw [hu] at HLK
    clear hu
    go_wp2_with fail
    refine Calls.mono (HLK.out _) ?_
    rintro e' W3 ⟨rfl, hl⟩
    have HBB : Hid (Below w.heap.size w W3) := hid (HBC.out.trans (hl.mono HBC.out.size))
    have e0 := (hl.cell (p := ⟨cx, 0, none⟩) hcx0).trans d0
    have e1 := (hl.cell (p := ⟨cx, 1, none⟩) hcx0).trans d1
    have e2 := (hl.cell (p := ⟨cx, 2, none⟩) hcx0).trans d2
    have e3 := (hl.cell (p := ⟨cx, 3, none⟩) hcx0).trans d3
    have e4 := (hl.cell (p := ⟨cx, 4, none⟩) hcx0).trans d4
    have hcx1 := Nat.lt_of_lt_of_le hcx0 hl.size
    clear d0 d1 d2 d3 d4 hcx0 HBC hl
    have d0 := e0
    have d1 := e1
    have d2 := e2
    have d3 := e3
    have d4 := e4
    have hcx0 := hcx1
    have HBC := HBB
    clear e0 e1 e2 e3 e4 hcx1 HBB
    go_wp2_with fail
    go_ret
    exact ⟨ret_int HV.out, HBC.out⟩
   | true =>
    rw [hu] at HLK
    have H2 : Hid (¬ (((1 : Int) = 3 ∧ Ask.unit ka = false) ∨ (((1 : Int) = 1 ∨ (1 : Int) = 2) ∧ lab ka = false) ∨ ((1 : Int) = 2 ∧ lab va = false))) := hid (by
     rintro (⟨h, _⟩ | ⟨h, h3⟩ | ⟨h, h3⟩)
     ·omega
     ·rw [hu] at h3; cases h3
     ·omega)
    have HZ : Hid (Ask.bad 1 ka va 0 0 = 0) := hid (by rw [Ask.bad, if_neg HKR.out, if_neg H1.out, if_neg H2.out, if_neg (by omega)])
    clear hu
    have HER : Hid (E = Ask.errs l) := hid (by rw [HE.out, if_neg (by rw [HZ.out]; decide)])
    go_wp2_with fail
    refine Calls.mono (HLK.out _) ?_
    rintro e' W3 ⟨rfl, hl⟩
    have HBB : Hid (Below w.heap.size w W3) := hid (HBC.out.trans (hl.mono HBC.out.size))
    have e0 := (hl.cell (p := ⟨cx, 0, none⟩) hcx0).trans d0
    have e1 := (hl.cell (p := ⟨cx, 1, none⟩) hcx0).trans d1
    have e2 := (hl.cell (p := ⟨cx, 2, none⟩) hcx0).trans d2
    have e3 := (hl.cell (p := ⟨cx, 3, none⟩) hcx0).trans d3
    have e4 := (hl.cell (p := ⟨cx, 4, none⟩) hcx0).trans d4
    have hcx1 := Nat.lt_of_lt_of_le hcx0 hl.size
    clear d0 d1 d2 d3 d4 hcx0 HBC hl
    have d0 := e0
    have d1 := e1
    have d2 := e2
    have d3 := e3
    have d4 := e4
    have hcx0 := hcx1
    have HBC := HBB
    clear e0 e1 e2 e3 e4 hcx1 HBB
    go_wp2_with fail
    go_loopg [110] 0 (fun g x wr => ∃ j : Nat, j + g = 0 ∧ x = .int .i64 (j : Int) ∧ Hid (Ask.OkTo l j) ∧ Hid (Below w.heap.size w wr))
    case atStart => exact ⟨0, by omega, rfl, hid (Ask.OkTo.zero l), HBC⟩
    case round =>
     clear d0 d1 d2 d3 d4 hcx0 HBC
     obtain ⟨j, hj, rfl, HO, HB⟩ := hrel
     obtain rfl : j = 0 := by omega
     have HV : Hid ((0 : Int) = E) := hid (by rw [HER.out]; exact (HO.out.fin (by rw [← HN.out]; exact Nat.le_refl _)).symm)
     go_wp2_with fail
     go_ret
     exact ⟨ret_int HV.out, HB.out⟩
  rcases hks with rfl | hks
  ·have HKI : Hid (Ask.inner 2 = 0) := hid rfl
   go_enter Tryz.func72, Tryz.ntmps72
   go_upto_region 4 with fail
   obtain ⟨W0, hW0⟩ : ∃ W, W = (w.alloc (.cells #[.int .i64 2, .string a1, .string a2, .int .i64 nu, .slice ad n cap] 26)).alloc (.cells #[.int .i64 0, .int .i64 0, .int .i64 0, .int .i64 0, .int .i64 1, .int .i64 2, .int .i64 2] 3) := ⟨_, rfl⟩
   have HBC : Hid (Below w.heap.size w W0) := hid (by rw [hW0]; exact HB0.out.alloc HB0.out.size _)
   obtain ⟨cx, hcx⟩ : ∃ c, c = w.heap.size := ⟨_, rfl⟩
   have hcx0 : cx < W0.heap.size := by rw [hcx, hW0]; simp <;> omega
   have d0 : W0.cell? ⟨cx, 0, none⟩ = some (.int .i64 2) := by rw [hcx, hW0]; simp
   have d1 : W0.cell? ⟨cx, 1, none⟩ = some (.string a1) := by rw [hcx, hW0]; simp
   have d2 : W0.cell? ⟨cx, 2, none⟩ = some (.string a2) := by rw [hcx, hW0]; simp
   have d3 : W0.cell? ⟨cx, 3, none⟩ = some (.int .i64 nu) := by rw [hcx, hW0]; simp
   have d4 : W0.cell? ⟨cx, 4, none⟩ = some (.slice ad n cap) := by rw [hcx, hW0]; simp
   rw [← hW0, ← hcx]
   clear hW0 hcx HB0
   by_cases hc : n ≠ 0
   ·have HV : Hid ((1 : Int) = E) := hid (HEV.out 1 (by decide) (by rw [Ask.bad, if_neg HKR.out, if_pos (.inl hc)]))
    have hf : ((n : Int) != 0) = true := by simp; omega
    clear hc
    go_wp2_with fail
    go_ret
    exact ⟨ret_int HV.out, HBC.out⟩
   obtain rfl : n = 0 := Decidable.byContradiction hc
   clear hc
   by_cases hc : nu ≠ 0
   ·have HV : Hid ((1 : Int) = E) := hid (HEV.out 1 (by decide) (by rw [Ask.bad, if_neg HKR.out, if_pos (.inr (.inr (.inr ⟨by decide, hc⟩)))]))
    have hg : (nu != 0) = true := by simpa using hc
    clear hc
    go_wp2_with fail
    go_ret
    exact ⟨ret_int HV.out, HBC.out⟩
   obtain rfl : nu = 0 := Decidable.byContradiction hc
   clear hc
   have H1 : Hid (¬ ((0 : Nat) ≠ Ask.inner 2 ∨ ((4 : Int) ≤ 2 ∧ ka ≠ []) ∨ ((2 : Int) ≠ 2 ∧ va ≠ []) ∨ ((2 : Int) ≠ 3 ∧ (0 : Int) ≠ 0))) := hid (by
    rintro (h | ⟨h, h2⟩ | ⟨h, h2⟩ | ⟨h, h2⟩)
    ·exact h rfl
    ·exact absurd h (by decide)
    ·exact h rfl
    ·exact h2 rfl)
   cases hu : lab ka with
   | false =>
    have HV : Hid ((3 : Int) = E) := hid (HEV.out 3 (by decide) (by rw [Ask.bad, if_neg HKR.out, if_neg H1.out, if_pos (.inr (.inl ⟨.inr rfl, hu⟩))]))
    rw [hu] at HLK
    clear hu
    go_wp2_with fail
    refine Calls.mono (HLK.out _) ?_
    rintro e' W3 ⟨rfl, hl⟩
    have HBB : Hid (Below w.heap.size w W3) := hid (HBC.out.trans (hl.mono HBC.out.size))
    have e0 := (hl.cell (p := ⟨cx, 0, none⟩) hcx0).trans d0
    have e1 := (hl.cell (p := ⟨cx, 1, none⟩) hcx0).trans d1
    have e2 := (hl.cell (p := ⟨cx, 2, none⟩) hcx0).trans d2
    have e3 := (hl.cell (p := ⟨cx, 3, none⟩) hcx0).trans d3
    have e4 := (hl.cell (p := ⟨cx, 4, none⟩) hcx0).trans d4
    have hcx1 := Nat.lt_of_lt_of_le hcx0 hl.size
    clear d0 d1 d2 d3 d4 hcx0 HBC hl
    have d0 := e0
    have d1 := e1
    have d2 := e2
    have d3 := e3
    have d4 := e4
    have hcx0 := hcx1
    have HBC := HBB
    clear e0 e1 e2 e3 e4 hcx1 HBB
    go_wp2_with fail
    go_ret
    exact ⟨ret_int HV.out, HBC.out⟩
   | true =>
    rw [hu] at HLK
    cases hu2 : lab va with
    | false =>
     have HV : Hid ((3 : Int) = E) := hid (HEV.out 3 (by decide) (by rw [Ask.bad, if_neg HKR.out, if_neg H1.out, if_pos (.inr (.inr ⟨rfl, hu2⟩))]))
     rw [hu2] at HLV
     clear hu hu2
     go_wp2_with fail
     refine Calls.mono (HLK.out _) ?_
     rintro e' W3 ⟨rfl, hl⟩
     have HBB : Hid (Below w.heap.size w W3) := hid (HBC.out.trans (hl.mono HBC.out.size))
     have e0 := (hl.cell (p := ⟨cx, 0, none⟩) hcx0).trans d0
     have e1 := (hl.cell (p := ⟨cx, 1, none⟩) hcx0).trans d1
     have e2 := (hl.cell (p := ⟨cx, 2, none⟩) hcx0).trans d2
     have e3 := (hl.cell (p := ⟨cx, 3, none⟩) hcx0).trans d3
     have e4 := (hl.cell (p := ⟨cx, 4, none⟩) hcx0).trans d4
     have hcx1 := Nat.lt_of_lt_of_le hcx0 hl.size
     clear d0 d1 d2 d3 d4 hcx0 HBC hl
     have d0 := e0
     have d1 := e1
     have d2 := e2
     have d3 := e3
     have d4 := e4
     have hcx0 := hcx1
     have HBC := HBB
     clear e0 e1 e2 e3 e4 hcx1 HBB
     go_wp2_with fail
     refine Calls.mono (HLV.out _) ?_
     rintro e' W3 ⟨rfl, hl⟩
     have HBB : Hid (Below w.heap.size w W3) := hid (HBC.out.trans (hl.mono HBC.out.size))
     have e0 := (hl.cell (p := ⟨cx, 0, none⟩) hcx0).trans d0
     have e1 := (hl.cell (p := ⟨cx, 1, none⟩) hcx0).trans d1
     have e2 := (hl.cell (p := ⟨cx, 2, none⟩) hcx0).trans d2
     have e3 := (hl.cell (p := ⟨cx, 3, none⟩) hcx0).trans d3
     have e4 := (hl.cell (p := ⟨cx, 4, none⟩) hcx0).trans d4
     have hcx1 := Nat.lt_of_lt_of_le hcx0 hl.size
     clear d0 d1 d2 d3 d4 hcx0 HBC hl
     have d0 := e0
     have d1 := e1
     have d2 := e2
     have d3 := e3
     have d4 := e4
     have hcx0 := hcx1
     have HBC := HBB
     clear e0 e1 e2 e3 e4 hcx1 HBB
     go_wp2_with fail
     go_ret
     exact ⟨ret_int HV.out, HBC.out⟩
    | true =>
     rw [hu2] at HLV
     have H2 : Hid (¬ (((2 : Int) = 3 ∧ Ask.unit ka = false) ∨ (((2 : Int) = 1 ∨ (2 : Int) = 2) ∧ lab ka = false) ∨ ((2 : Int) = 2 ∧ lab va = false))) := hid (by
      rintro (⟨h, _⟩ | ⟨h, h3⟩ | ⟨h, h3⟩)
      ·omega
      ·rw [hu] at h3; cases h3
      ·rw [hu2] at h3; cases h3)
     have HZ : Hid (Ask.bad 2 ka va 0 0 = 0) := hid (by rw [Ask.bad, if_neg HKR.out, if_neg H1.out, if_neg H2.out, if_neg (by omega)])
     clear hu hu2
     have HER : Hid (E = Ask.errs l) := hid (by rw [HE.out, if_neg (by rw [HZ.out]; decide)])
     go_wp2_with fail
     refine Calls.mono (HLK.out _) ?_
     rintro e' W3 ⟨rfl, hl⟩
     have HBB : Hid (Below w.heap.size w W3) := hid (HBC.out.trans (hl.mono HBC.out.size))
     have e0 := (hl.cell (p := ⟨cx, 0, none⟩) hcx0).trans d0
     have e1 := (hl.cell (p := ⟨cx, 1, none⟩) hcx0).trans d1
     have e2 := (hl.cell (p := ⟨cx, 2, none⟩) hcx0).trans d2
     have e3 := (hl.cell (p := ⟨cx, 3, none⟩) hcx0).trans d3
     have e4 := (hl.cell (p := ⟨cx, 4, none⟩) hcx0).trans d4
     have hcx1 := Nat.lt_of_lt_of_le hcx0 hl.size
     clear d0 d1 d2 d3 d4 hcx0 HBC hl
     have d0 := e0
     have d1 := e1
     have d2 := e2
     have d3 := e3
     have d4 := e4
     have hcx0 := hcx1
     have HBC := HBB
     clear e0 e1 e2 e3 e4 hcx1 HBB
     go_wp2_with fail
     refine Calls.mono (HLV.out _) ?_
     rintro e' W3 ⟨rfl, hl⟩
     have HBB : Hid (Below w.heap.size w W3) := hid (HBC.out.trans (hl.mono HBC.out.size))
     have e0 := (hl.cell (p := ⟨cx, 0, none⟩) hcx0).trans d0
     have e1 := (hl.cell (p := ⟨cx, 1, none⟩) hcx0).trans d1
     have e2 := (hl.cell (p := ⟨cx, 2, none⟩) hcx0).trans d2
     have e3 := (hl.cell (p := ⟨cx, 3, none⟩) hcx0).trans d3
     have e4 := (hl.cell (p := ⟨cx, 4, none⟩) hcx0).trans d4
     have hcx1 := Nat.lt_of_lt_of_le hcx0 hl.size
     clear d0 d1 d2 d3 d4 hcx0 HBC hl
     have d0 := e0
     have d1 := e1
     have d2 := e2
     have d3 := e3
     have d4 := e4
     have hcx0 := hcx1
     have HBC := HBB
     clear e0 e1 e2 e3 e4 hcx1 HBB
     go_wp2_with fail
     go_loopg [110] 0 (fun g x wr => ∃ j : Nat, j + g = 0 ∧ x = .int .i64 (j : Int) ∧ Hid (Ask.OkTo l j) ∧ Hid (Below w.heap.size w wr))
     case atStart => exact ⟨0, by omega, rfl, hid (Ask.OkTo.zero l), HBC⟩
     case round =>
      clear d0 d1 d2 d3 d4 hcx0 HBC
      obtain ⟨j, hj, rfl, HO, HB⟩ := hrel
      obtain rfl : j = 0 := by omega
      have HV : Hid ((0 : Int) = E) := hid (by rw [HER.out]; exact (HO.out.fin (by rw [← HN.out]; exact Nat.le_refl _)).symm)
      go_wp2_with fail
      go_ret
      exact ⟨ret_int HV.out, HB.out⟩
  rcases hks with rfl | hks
  ·have HKI : Hid (Ask.inner 3 = 0) := hid rfl
   go_enter Tryz.func72, Tryz.ntmps72
   go_upto_region 4 with fail
   obtain ⟨W0, hW0⟩ : ∃ W, W = (w.alloc (.cells #[.int .i64 3, .string a1, .string a2, .int .i64 nu, .slice ad n cap] 26)).alloc (.cells #[.int .i64 0, .int .i64 0, .int .i64 0, .int .i64 0, .int .i64 1, .int .i64 2, .int .i64 2] 3) := ⟨_, rfl⟩
   have HBC : Hid (Below w.heap.size w W0) := hid (by rw [hW0]; exact HB0.out.alloc HB0.out.size _)
   obtain ⟨cx, hcx⟩ : ∃ c, c = w.heap.size := ⟨_, rfl⟩
   have hcx0 : cx < W0.heap.size := by rw [hcx, hW0]; simp <;> omega
   have d0 : W0.cell? ⟨cx, 0, none⟩ = some (.int .i64 3) := by rw [hcx, hW0]; simp
   have d1 : W0.cell? ⟨cx, 1, none⟩ = some (.string a1) := by rw [hcx, hW0]; simp
   have d2 : W0.cell? ⟨cx, 2, none⟩ = some (.string a2) := by rw [hcx, hW0]; simp
   have d3 : W0.cell? ⟨cx, 3, none⟩ = some (.int .i64 nu) := by rw [hcx, hW0]; simp
   have d4 : W0.cell? ⟨cx, 4, none⟩ = some (.slice ad n cap) := by rw [hcx, hW0]; simp
   rw [← hW0, ← hcx]
   clear hW0 hcx HB0
   by_cases hc : n ≠ 0
   ·have HV : Hid ((1 : Int) = E) := hid (HEV.out 1 (by decide) (by rw [Ask.bad, if_neg HKR.out, if_pos (.inl hc)]))
    have hf : ((n : Int) != 0) = true := by simp; omega
    clear hc
    go_wp2_with fail
    go_ret
    exact ⟨ret_int HV.out, HBC.out⟩
   obtain rfl : n = 0 := Decidable.byContradiction hc
   clear hc
   by_cases hc : va ≠ []
   ·have HV : Hid ((1 : Int) = E) := hid (HEV.out 1 (by decide) (by rw [Ask.bad, if_neg HKR.out, if_pos (.inr (.inr (.inl ⟨by decide, hc⟩)))]))
    have hg := isEmpty_no HA2.out hc
    clear hc
    go_wp2_with fail
    go_ret
    exact ⟨ret_int HV.out, HBC.out⟩
   have hva : va = [] := Decidable.byContradiction hc
   clear hc
   obtain rfl := bts_nil HA2.out hva
   have HVA := hid hva
   clear hva
   have H1 : Hid (¬ ((0 : Nat) ≠ Ask.inner 3 ∨ ((4 : Int) ≤ 3 ∧ ka ≠ []) ∨ ((3 : Int) ≠ 2 ∧ va ≠ []) ∨ ((3 : Int) ≠ 3 ∧ nu ≠ 0))) := hid (by
    rintro (h | ⟨h, h2⟩ | ⟨h, h2⟩ | ⟨h, h2⟩)
    ·exact h rfl
    ·exact absurd h (by decide)
    ·exact h2 HVA.out
    ·exact h rfl)
   cases hu : Ask.unit ka with
   | false =>
    have HV : Hid ((3 : Int) = E) := hid (HEV.out 3 (by decide) (by rw [Ask.bad, if_neg HKR.out, if_neg H1.out, if_pos (.inl ⟨rfl, hu⟩)]))
    have u1 : ¬ a1.toList = [99, 112, 117] := fun h => by rw [bts_is HA1.out] at h; subst h; cases hu
    have u2 : ¬ a1.toList = [109, 101, 109] := fun h => by rw [bts_is HA1.out] at h; subst h; cases hu
    have u3 : ¬ a1.toList = [103, 112, 117] := fun h => by rw [bts_is HA1.out] at h; subst h; cases hu
    have e1 : (a1.toList != [99, 112, 117]) = true := by simpa using u1
    have e2 : (a1.toList != [109, 101, 109]) = true := by simpa using u2
    have e3 : (a1.toList != [103, 112, 117]) = true := by simpa using u3
    clear hu
    go_wp2_with fail
    go_ret
    exact ⟨ret_int HV.out, HBC.out⟩
   | true =>
    have H2 : Hid (¬ (((3 : Int) = 3 ∧ Ask.unit ka = false) ∨ (((3 : Int) = 1 ∨ (3 : Int) = 2) ∧ lab ka = false) ∨ ((3 : Int) = 2 ∧ lab va = false))) := hid (by
     rintro (⟨_, h⟩ | ⟨h, _⟩ | ⟨h, _⟩)
     ·rw [hu] at h; cases h
     ·omega
     ·omega)
    have hu3 : a1 = ⟨#[99, 112, 117]⟩ ∨ a1 = ⟨#[109, 101, 109]⟩ ∨ a1 = ⟨#[103, 112, 117]⟩ := by
     rw [← HA1.out]
     unfold Ask.unit at hu
     simp only [Bool.or_eq_true, decide_eq_true_eq] at hu
     rcases hu with (rfl | rfl) | rfl
     ·exact .inl rfl
     ·exact .inr (.inl rfl)
     ·exact .inr (.inr rfl)
    clear hu
    by_cases hc : nu < 0
    ·have HV : Hid ((4 : Int) = E) := hid (HEV.out 4 (by decide) (by rw [Ask.bad, if_neg HKR.out, if_neg H1.out, if_neg H2.out, if_pos (.inl hc)]))
     rcases hu3 with rfl | rfl | rfl
     ·go_wp2_with fail
      go_ret
      exact ⟨ret_int HV.out, HBC.out⟩
     ·go_wp2_with fail
      go_ret
      exact ⟨ret_int HV.out, HBC.out⟩
     ·go_wp2_with fail
      go_ret
      exact ⟨ret_int HV.out, HBC.out⟩
    have hlo : ¬ nu < 0 := hc
    clear hc
    by_cases hc : 1099511627776 < nu
    ·have HV : Hid ((4 : Int) = E) := hid (HEV.out 4 (by decide) (by rw [Ask.bad, if_neg HKR.out, if_neg H1.out, if_neg H2.out, if_pos (.inr hc)]))
     rcases hu3 with rfl | rfl | rfl
     ·go_wp2_with fail
      go_ret
      exact ⟨ret_int HV.out, HBC.out⟩
     ·go_wp2_with fail
      go_ret
      exact ⟨ret_int HV.out, HBC.out⟩
     ·go_wp2_with fail
      go_ret
      exact ⟨ret_int HV.out, HBC.out⟩
    have hhi : ¬ 1099511627776 < nu := hc
    clear hc
    have HZ : Hid (Ask.bad 3 ka va nu 0 = 0) := hid (by rw [Ask.bad, if_neg HKR.out, if_neg H1.out, if_neg H2.out, if_neg (by omega)])
    have HER : Hid (E = Ask.errs l) := hid (by rw [HE.out, if_neg (by rw [HZ.out]; decide)])
    rcases hu3 with rfl | rfl | rfl
    ·go_wp2_with fail
     go_loopg [110] 0 (fun g x wr => ∃ j : Nat, j + g = 0 ∧ x = .int .i64 (j : Int) ∧ Hid (Ask.OkTo l j) ∧ Hid (Below w.heap.size w wr))
     case atStart => exact ⟨0, by omega, rfl, hid (Ask.OkTo.zero l), HBC⟩
     case round =>
      clear d0 d1 d2 d3 d4 hcx0 HBC
      obtain ⟨j, hj, rfl, HO, HB⟩ := hrel
      obtain rfl : j = 0 := by omega
      have HV : Hid ((0 : Int) = E) := hid (by rw [HER.out]; exact (HO.out.fin (by rw [← HN.out]; exact Nat.le_refl _)).symm)
      go_wp2_with fail
      go_ret
      exact ⟨ret_int HV.out, HB.out⟩
    ·go_wp2_with fail
     go_loopg [110] 0 (fun g x wr => ∃ j : Nat, j + g = 0 ∧ x = .int .i64 (j : Int) ∧ Hid (Ask.OkTo l j) ∧ Hid (Below w.heap.size w wr))
     case atStart => exact ⟨0, by omega, rfl, hid (Ask.OkTo.zero l), HBC⟩
     case round =>
      clear d0 d1 d2 d3 d4 hcx0 HBC
      obtain ⟨j, hj, rfl, HO, HB⟩ := hrel
      obtain rfl : j = 0 := by omega
      have HV : Hid ((0 : Int) = E) := hid (by rw [HER.out]; exact (HO.out.fin (by rw [← HN.out]; exact Nat.le_refl _)).symm)
      go_wp2_with fail
      go_ret
      exact ⟨ret_int HV.out, HB.out⟩
    ·go_wp2_with fail
     go_loopg [110] 0 (fun g x wr => ∃ j : Nat, j + g = 0 ∧ x = .int .i64 (j : Int) ∧ Hid (Ask.OkTo l j) ∧ Hid (Below w.heap.size w wr))
     case atStart => exact ⟨0, by omega, rfl, hid (Ask.OkTo.zero l), HBC⟩
     case round =>
      clear d0 d1 d2 d3 d4 hcx0 HBC
      obtain ⟨j, hj, rfl, HO, HB⟩ := hrel
      obtain rfl : j = 0 := by omega
      have HV : Hid ((0 : Int) = E) := hid (by rw [HER.out]; exact (HO.out.fin (by rw [← HN.out]; exact Nat.le_refl _)).symm)
      go_wp2_with fail
      go_ret
      exact ⟨ret_int HV.out, HB.out⟩
  rcases hks with rfl | hks
  ·have HKI : Hid (Ask.inner 4 = 1) := hid rfl
   go_enter Tryz.func72, Tryz.ntmps72
   go_upto_region 4 with fail
   obtain ⟨W0, hW0⟩ : ∃ W, W = (w.alloc (.cells #[.int .i64 4, .string a1, .string a2, .int .i64 nu, .slice ad n cap] 26)).alloc (.cells #[.int .i64 0, .int .i64 0, .int .i64 0, .int .i64 0, .int .i64 1, .int .i64 2, .int .i64 2] 3) := ⟨_, rfl⟩
   have HBC : Hid (Below w.heap.size w W0) := hid (by rw [hW0]; exact HB0.out.alloc HB0.out.size _)
   obtain ⟨cx, hcx⟩ : ∃ c, c = w.heap.size := ⟨_, rfl⟩
   have hcx0 : cx < W0.heap.size := by rw [hcx, hW0]; simp <;> omega
   have d0 : W0.cell? ⟨cx, 0, none⟩ = some (.int .i64 4) := by rw [hcx, hW0]; simp
   have d1 : W0.cell? ⟨cx, 1, none⟩ = some (.string a1) := by rw [hcx, hW0]; simp
   have d2 : W0.cell? ⟨cx, 2, none⟩ = some (.string a2) := by rw [hcx, hW0]; simp
   have d3 : W0.cell? ⟨cx, 3, none⟩ = some (.int .i64 nu) := by rw [hcx, hW0]; simp
   have d4 : W0.cell? ⟨cx, 4, none⟩ = some (.slice ad n cap) := by rw [hcx, hW0]; simp
   rw [← hW0, ← hcx]
   clear hW0 hcx HB0
   by_cases hc : n ≠ 1
   ·have HV : Hid ((1 : Int) = E) := hid (HEV.out 1 (by decide) (by rw [Ask.bad, if_neg HKR.out, if_pos (.inl hc)]))
    have hf : ((n : Int) != 1) = true := by simp; omega
    clear hc
    go_wp2_with fail
    go_ret
    exact ⟨ret_int HV.out, HBC.out⟩
   obtain rfl : n = 1 := Decidable.byContradiction hc
   clear hc
   by_cases hc : ka ≠ []
   ·have HV : Hid ((1 : Int) = E) := hid (HEV.out 1 (by decide) (by rw [Ask.bad, if_neg HKR.out, if_pos (.inr (.inl ⟨by decide, hc⟩))]))
    have hg := isEmpty_no HA1.out hc
    clear hc
    go_wp2_with fail
    go_ret
    exact ⟨ret_int HV.out, HBC.out⟩
   have hka : ka = [] := Decidable.byContradiction hc
   clear hc
   obtain rfl := bts_nil HA1.out hka
   have HKA := hid hka
   clear hka
   by_cases hc : va ≠ []
   ·have HV : Hid ((1 : Int) = E) := hid (HEV.out 1 (by decide) (by rw [Ask.bad, if_neg HKR.out, if_pos (.inr (.inr (.inl ⟨by decide, hc⟩)))]))
    have hg := isEmpty_no HA2.out hc
    clear hc
    go_wp2_with fail
    go_ret
    exact ⟨ret_int HV.out, HBC.out⟩
   have hva : va = [] := Decidable.byContradiction hc
   clear hc
   obtain rfl := bts_nil HA2.out hva
   have HVA := hid hva
   clear hva
   by_cases hc : nu ≠ 0
   ·have HV : Hid ((1 : Int) = E) := hid (HEV.out 1 (by decide) (by rw [Ask.bad, if_neg HKR.out, if_pos (.inr (.inr (.inr ⟨by decide, hc⟩)))]))
    have hg : (nu != 0) = true := by simpa using hc
    clear hc
    go_wp2_with fail
    go_ret
    exact ⟨ret_int HV.out, HBC.out⟩
   obtain rfl : nu = 0 := Decidable.byContradiction hc
   clear hc
   have H1 : Hid (¬ ((1 : Nat) ≠ Ask.inner 4 ∨ ((4 : Int) ≤ 4 ∧ ka ≠ []) ∨ ((4 : Int) ≠ 2 ∧ va ≠ []) ∨ ((4 : Int) ≠ 3 ∧ (0 : Int) ≠ 0))) := hid (by
    rintro (h | ⟨h, h2⟩ | ⟨h, h2⟩ | ⟨h, h2⟩)
    ·exact h rfl
    ·exact h2 HKA.out
    ·exact h2 HVA.out
    ·exact h2 rfl)
   have H2 : Hid (¬ (((4 : Int) = 3 ∧ Ask.unit ka = false) ∨ (((4 : Int) = 1 ∨ (4 : Int) = 2) ∧ lab ka = false) ∨ ((4 : Int) = 2 ∧ lab va = false))) := hid (by
    rintro (⟨h, _⟩ | ⟨h, h3⟩ | ⟨h, h3⟩)
    ·omega
    ·omega
    ·omega)
   have HZ : Hid (Ask.bad 4 ka va 0 1 = 0) := hid (by rw [Ask.bad, if_neg HKR.out, if_neg H1.out, if_neg H2.out, if_neg (by omega)])
   have HER : Hid (E = Ask.errs l) := hid (by rw [HE.out, if_neg (by rw [HZ.out]; decide)])
   go_wp2_with fail
   go_loopg [110] 1 (fun g x wr => ∃ j : Nat, j + g = 1 ∧ x = .int .i64 (j : Int) ∧ Hid (Ask.OkTo l j) ∧ Hid (Below w.heap.size w wr))
   case atStart => exact ⟨0, by omega, rfl, hid (Ask.OkTo.zero l), HBC⟩
   case round =>
    clear d0 d1 d2 d3 d4 hcx0 HBC
    obtain ⟨j, hj, rfl, HO, HB⟩ := hrel
    by_cases hjn : j < 1
    ·obtain ⟨y, hy⟩ : ∃ y, l[j]? = some y := ⟨_, List.getElem?_eq_getElem (by rw [← HN.out]; exact hjn)⟩
     obtain ⟨bl, off, rfl, hb, hat⟩ := HR.out (by omega)
     obtain ⟨ad', len', cap', c0, c1, c2, c3, c4, hyv⟩ := (AsksV.below HB.out l bl off hb hat).get hy
     have hbr : bl < wr.heap.size := Nat.lt_of_lt_of_le hb HB.out.size
     have hj1 : (0 : Int) ≤ (j : Int) := by omega
     have hj2 : (j : Int) < 1 := by omega
     have hs1 := Ask.sizes_at hy
     have HY := hid hy
     obtain ⟨E2, hE2⟩ : ∃ E, y.err = E := ⟨_, rfl⟩
     obtain ⟨k1, hk1⟩ : ∃ a, bts y.key = a := ⟨_, rfl⟩
     obtain ⟨k2, hk2⟩ : ∃ a, bts y.val = a := ⟨_, rfl⟩
     obtain ⟨k0, hk0⟩ : ∃ a, y.kind = a := ⟨_, rfl⟩
     obtain ⟨k3, hk3⟩ : ∃ a, y.num = a := ⟨_, rfl⟩
     rw [hk0] at c0 hyv
     rw [hk1] at c1 hyv
     rw [hk2] at c2 hyv
     rw [hk3] at c3 hyv
     obtain ⟨wx, hwx⟩ : ∃ wx, wx = wr.alloc (.cells #[.int .i64 k0, .string k1, .string k2, .int .i64 k3, .slice ad' len' cap'] 26) := ⟨_, rfl⟩
     have hb9 : Below wr.heap.size wr wx := be0 hwx
     have HBX : Hid (Below w.heap.size w wx) := hid (HB.out.trans (hb9.mono HB.out.size))
     have HC := hid (HIH.out y _ wx (by omega) (AskV.below hb9 _ _ hyv))
     rw [hE2] at HC
     have HE2 := hid hE2
     clear hat hy hyv hE2 hk0 hk1 hk2 hk3 hb9
     by_cases he : E2 = 0
     ·have HQ := hid (HO.out.succ HY.out (HE2.out.trans he))
      subst he
      go_wp2_with fail
      rw [← hwx]
      refine Calls.mono HC.out ?_
      rintro e' W3 ⟨rfl, h1⟩
      have HB3 := hid (HBX.out.trans (h1.mono HBX.out.size))
      clear h1
      go_wp2_with fail
      go_roundg (1 - (j + 1))
      case measure => omega
      case rel => exact ⟨j + 1, by omega, by simp, HQ, HB3⟩
     ·have HV : Hid (E2 = E) := hid (by rw [HER.out, HO.out.bad HY.out (by rw [HE2.out]; exact he), HE2.out])
      have he2 : (E2 != 0) = true := by simpa using he
      go_wp2_with fail
      rw [← hwx]
      refine Calls.mono HC.out ?_
      rintro e' W3 ⟨rfl, h1⟩
      have HB3 := hid (HBX.out.trans (h1.mono HBX.out.size))
      clear h1
      go_wp2_with fail
      go_ret
      exact ⟨ret_int HV.out, HB3.out⟩
    ·obtain rfl : j = 1 := by omega
     have HV : Hid ((0 : Int) = E) := hid (by rw [HER.out]; exact (HO.out.fin (by rw [← HN.out]; exact Nat.le_refl _)).symm)
     go_wp2_with fail
     go_ret
     exact ⟨ret_int HV.out, HB.out⟩
  rcases hks with rfl | hks
  ·have HKI : Hid (Ask.inner 5 = 2) := hid rfl
   go_enter Tryz.func72, Tryz.ntmps72
   go_upto_region 4 with fail
   obtain ⟨W0, hW0⟩ : ∃ W, W = (w.alloc (.cells #[.int .i64 5, .string a1, .string a2, .int .i64 nu, .slice ad n cap] 26)).alloc (.cells #[.int .i64 0, .int .i64 0, .int .i64 0, .int .i64 0, .int .i64 1, .int .i64 2, .int .i64 2] 3) := ⟨_, rfl⟩
   have HBC : Hid (Below w.heap.size w W0) := hid (by rw [hW0]; exact HB0.out.alloc HB0.out.size _)
   obtain ⟨cx, hcx⟩ : ∃ c, c = w.heap.size := ⟨_, rfl⟩
   have hcx0 : cx < W0.heap.size := by rw [hcx, hW0]; simp <;> omega
   have d0 : W0.cell? ⟨cx, 0, none⟩ = some (.int .i64 5) := by rw [hcx, hW0]; simp
   have d1 : W0.cell? ⟨cx, 1, none⟩ = some (.string a1) := by rw [hcx, hW0]; simp
   have d2 : W0.cell? ⟨cx, 2, none⟩ = some (.string a2) := by rw [hcx, hW0]; simp
   have d3 : W0.cell? ⟨cx, 3, none⟩ = some (.int .i64 nu) := by rw [hcx, hW0]; simp
   have d4 : W0.cell? ⟨cx, 4, none⟩ = some (.slice ad n cap) := by rw [hcx, hW0]; simp
   rw [← hW0, ← hcx]
   clear hW0 hcx HB0
   by_cases hc : n ≠ 2
   ·have HV : Hid ((1 : Int) = E) := hid (HEV.out 1 (by decide) (by rw [Ask.bad, if_neg HKR.out, if_pos (.inl hc)]))
    have hf : ((n : Int) != 2) = true := by simp; omega
    clear hc
    go_wp2_with fail
    go_ret
    exact ⟨ret_int HV.out, HBC.out⟩
   obtain rfl : n = 2 := Decidable.byContradiction hc
   clear hc
   by_cases hc : ka ≠ []
   ·have HV : Hid ((1 : Int) = E) := hid (HEV.out 1 (by decide) (by rw [Ask.bad, if_neg HKR.out, if_pos (.inr (.inl ⟨by decide, hc⟩))]))
    have hg := isEmpty_no HA1.out hc
    clear hc
    go_wp2_with fail
    go_ret
    exact ⟨ret_int HV.out, HBC.out⟩
   have hka : ka = [] := Decidable.byContradiction hc
   clear hc
   obtain rfl := bts_nil HA1.out hka
   have HKA := hid hka
   clear hka
   by_cases hc : va ≠ []
   ·have HV : Hid ((1 : Int) = E) := hid (HEV.out 1 (by decide) (by rw [Ask.bad, if_neg HKR.out, if_pos (.inr (.inr (.inl ⟨by decide, hc⟩)))]))
    have hg := isEmpty_no HA2.out hc
    clear hc
    go_wp2_with fail
    go_ret
    exact ⟨ret_int HV.out, HBC.out⟩
   have hva : va = [] := Decidable.byContradiction hc
   clear hc
   obtain rfl := bts_nil HA2.out hva
   have HVA := hid hva
   clear hva
   by_cases hc : nu ≠ 0
   ·have HV : Hid ((1 : Int) = E) := hid (HEV.out 1 (by decide) (by rw [Ask.bad, if_neg HKR.out, if_pos (.inr (.inr (.inr ⟨by decide, hc⟩)))]))
    have hg : (nu != 0) = true := by simpa using hc
    clear hc
    go_wp2_with fail
    go_ret
    exact ⟨ret_int HV.out, HBC.out⟩
   obtain rfl : nu = 0 := Decidable.byContradiction hc
   clear hc
   have H1 : Hid (¬ ((2 : Nat) ≠ Ask.inner 5 ∨ ((4 : Int) ≤ 5 ∧ ka ≠ []) ∨ ((5 : Int) ≠ 2 ∧ va ≠ []) ∨ ((5 : Int) ≠ 3 ∧ (0 : Int) ≠ 0))) := hid (by
    rintro (h | ⟨h, h2⟩ | ⟨h, h2⟩ | ⟨h, h2⟩)
    ·exact h rfl
    ·exact h2 HKA.out
    ·exact h2 HVA.out
    ·exact h2 rfl)
   have H2 : Hid (¬ (((5 : Int) = 3 ∧ Ask.unit ka = false) ∨ (((5 : Int) = 1 ∨ (5 : Int) = 2) ∧ lab ka = false) ∨ ((5 : Int) = 2 ∧ lab va = false))) := hid (by
    rintro (⟨h, _⟩ | ⟨h, h3⟩ | ⟨h, h3⟩)
    ·omega
    ·omega
    ·omega)
   have HZ : Hid (Ask.bad 5 ka va 0 2 = 0) := hid (by rw [Ask.bad, if_neg HKR.out, if_neg H1.out, if_neg H2.out, if_neg (by omega)])
   have HER : Hid (E = Ask.errs l) := hid (by rw [HE.out, if_neg (by rw [HZ.out]; decide)])
   go_wp2_with fail
   go_loopg [110] 2 (fun g x wr => ∃ j : Nat, j + g = 2 ∧ x = .int .i64 (j : Int) ∧ Hid (Ask.OkTo l j) ∧ Hid (Below w.heap.size w wr))
   case atStart => exact ⟨0, by omega, rfl, hid (Ask.OkTo.zero l), HBC⟩
   case round =>
    clear d0 d1 d2 d3 d4 hcx0 HBC
    obtain ⟨j, hj, rfl, HO, HB⟩ := hrel
    by_cases hjn : j < 2
    ·obtain ⟨y, hy⟩ : ∃ y, l[j]? = some y := ⟨_, List.getElem?_eq_getElem (by rw [← HN.out]; exact hjn)⟩
     obtain ⟨bl, off, rfl, hb, hat⟩ := HR.out (by omega)
     obtain ⟨ad', len', cap', c0, c1, c2, c3, c4, hyv⟩ := (AsksV.below HB.out l bl off hb hat).get hy
     have hbr : bl < wr.heap.size := Nat.lt_of_lt_of_le hb HB.out.size
     have hj1 : (0 : Int) ≤ (j : Int) := by omega
     have hj2 : (j : Int) < 2 := by omega
     have hs1 := Ask.sizes_at hy
     have HY := hid hy
     obtain ⟨E2, hE2⟩ : ∃ E, y.err = E := ⟨_, rfl⟩
     obtain ⟨k1, hk1⟩ : ∃ a, bts y.key = a := ⟨_, rfl⟩
     obtain ⟨k2, hk2⟩ : ∃ a, bts y.val = a := ⟨_, rfl⟩
     obtain ⟨k0, hk0⟩ : ∃ a, y.kind = a := ⟨_, rfl⟩
     obtain ⟨k3, hk3⟩ : ∃ a, y.num = a := ⟨_, rfl⟩
     rw [hk0] at c0 hyv
     rw [hk1] at c1 hyv
     rw [hk2] at c2 hyv
     rw [hk3] at c3 hyv
     obtain ⟨wx, hwx⟩ : ∃ wx, wx = wr.alloc (.cells #[.int .i64 k0, .string k1, .string k2, .int .i64 k3, .slice ad' len' cap'] 26) := ⟨_, rfl⟩
     have hb9 : Below wr.heap.size wr wx := be0 hwx
     have HBX : Hid (Below w.heap.size w wx) := hid (HB.out.trans (hb9.mono HB.out.size))
     have HC := hid (HIH.out y _ wx (by omega) (AskV.below hb9 _ _ hyv))
     rw [hE2] at HC
     have HE2 := hid hE2
     clear hat hy hyv hE2 hk0 hk1 hk2 hk3 hb9
     by_cases he : E2 = 0
     ·have HQ := hid (HO.out.succ HY.out (HE2.out.trans he))
      subst he
      go_wp2_with fail
      rw [← hwx]
      refine Calls.mono HC.out ?_
      rintro e' W3 ⟨rfl, h1⟩
      have HB3 := hid (HBX.out.trans (h1.mono HBX.out.size))
      clear h1
      go_wp2_with fail
      go_roundg (2 - (j + 1))
      case measure => omega
      case rel => exact ⟨j + 1, by omega, by simp, HQ, HB3⟩
     ·have HV : Hid (E2 = E) := hid (by rw [HER.out, HO.out.bad HY.out (by rw [HE2.out]; exact he), HE2.out])
      have he2 : (E2 != 0) = true := by simpa using he
      go_wp2_with fail
      rw [← hwx]
      refine Calls.mono HC.out ?_
      rintro e' W3 ⟨rfl, h1⟩
      have HB3 := hid (HBX.out.trans (h1.mono HBX.out.size))
      clear h1
      go_wp2_with fail
      go_ret
      exact ⟨ret_int HV.out, HB3.out⟩
    ·obtain rfl : j = 2 := by omega
     have HV : Hid ((0 : Int) = E) := hid (by rw [HER.out]; exact (HO.out.fin (by rw [← HN.out]; exact Nat.le_refl _)).symm)
     go_wp2_with fail
     go_ret
     exact ⟨ret_int HV.out, HB.out⟩
  obtain rfl := hks
  go_enter Tryz.func72, Tryz.ntmps72
  go_upto_region 4 with fail
  obtain ⟨W0, hW0⟩ : ∃ W, W = (w.alloc (.cells #[.int .i64 6, .string a1, .string a2, .int .i64 nu, .slice ad n cap] 26)).alloc (.cells #[.int .i64 0, .int .i64 0, .int .i64 0, .int .i64 0, .int .i64 1, .int .i64 2, .int .i64 2] 3) := ⟨_, rfl⟩
  have HBC : Hid (Below w.heap.size w W0) := hid (by rw [hW0]; exact HB0.out.alloc HB0.out.size _)
  obtain ⟨cx, hcx⟩ : ∃ c, c = w.heap.size := ⟨_, rfl⟩
  have hcx0 : cx < W0.heap.size := by rw [hcx, hW0]; simp <;> omega
  have d0 : W0.cell? ⟨cx, 0, none⟩ = some (.int .i64 6) := by rw [hcx, hW0]; simp
  have d1 : W0.cell? ⟨cx, 1, none⟩ = some (.string a1) := by rw [hcx, hW0]; simp
  have d2 : W0.cell? ⟨cx, 2, none⟩ = some (.string a2) := by rw [hcx, hW0]; simp
  have d3 : W0.cell? ⟨cx, 3, none⟩ = some (.int .i64 nu) := by rw [hcx, hW0]; simp
  have d4 : W0.cell? ⟨cx, 4, none⟩ = some (.slice ad n cap) := by rw [hcx, hW0]; simp
  rw [← hW0, ← hcx]
  clear hW0 hcx HB0
  by_cases hc : n ≠ 2
  ·have HV : Hid ((1 : Int) = E) := hid (HEV.out 1 (by decide) (by rw [Ask.bad, if_neg HKR.out, if_pos (.inl hc)]))
   have hf : ((n : Int) != 2) = true := by simp; omega
   clear hc
   go_wp2_with fail
   go_ret
   exact ⟨ret_int HV.out, HBC.out⟩
  obtain rfl : n = 2 := Decidable.byContradiction hc
  clear hc
  by_cases hc : ka ≠ []
  ·have HV : Hid ((1 : Int) = E) := hid (HEV.out 1 (by decide) (by rw [Ask.bad, if_neg HKR.out, if_pos (.inr (.inl ⟨by decide, hc⟩))]))
   have hg := isEmpty_no HA1.out hc
   clear hc
   go_wp2_with fail
   go_ret
   exact ⟨ret_int HV.out, HBC.out⟩
  have hka : ka = [] := Decidable.byContradiction hc
  clear hc
  obtain rfl := bts_nil HA1.out hka
  have HKA := hid hka
  clear hka
  by_cases hc : va ≠ []
  ·have HV : Hid ((1 : Int) = E) := hid (HEV.out 1 (by decide) (by rw [Ask.bad, if_neg HKR.out, if_pos (.inr (.inr (.inl ⟨by decide, hc⟩)))]))
   have hg := isEmpty_no HA2.out hc
   clear hc
   go_wp2_with fail
   go_ret
   exact ⟨ret_int HV.out, HBC.out⟩
  have hva : va = [] := Decidable.byContradiction hc
  clear hc
  obtain rfl := bts_nil HA2.out hva
  have HVA := hid hva
  clear hva
  by_cases hc : nu ≠ 0
  ·have HV : Hid ((1 : Int) = E) := hid (HEV.out 1 (by decide) (by rw [Ask.bad, if_neg HKR.out, if_pos (.inr (.inr (.inr ⟨by decide, hc⟩)))]))
   have hg : (nu != 0) = true := by simpa using hc
   clear hc
   go_wp2_with fail
   go_ret
   exact ⟨ret_int HV.out, HBC.out⟩
  obtain rfl : nu = 0 := Decidable.byContradiction hc
  clear hc
  have H1 : Hid (¬ ((2 : Nat) ≠ Ask.inner 6 ∨ ((4 : Int) ≤ 6 ∧ ka ≠ []) ∨ ((6 : Int) ≠ 2 ∧ va ≠ []) ∨ ((6 : Int) ≠ 3 ∧ (0 : Int) ≠ 0))) := hid (by
   rintro (h | ⟨h, h2⟩ | ⟨h, h2⟩ | ⟨h, h2⟩)
   ·exact h rfl
   ·exact h2 HKA.out
   ·exact h2 HVA.out
   ·exact h2 rfl)
  have H2 : Hid (¬ (((6 : Int) = 3 ∧ Ask.unit ka = false) ∨ (((6 : Int) = 1 ∨ (6 : Int) = 2) ∧ lab ka = false) ∨ ((6 : Int) = 2 ∧ lab va = false))) := hid (by
   rintro (⟨h, _⟩ | ⟨h, h3⟩ | ⟨h, h3⟩)
   ·omega
   ·omega
   ·omega)
  have HZ : Hid (Ask.bad 6 ka va 0 2 = 0) := hid (by rw [Ask.bad, if_neg HKR.out, if_neg H1.out, if_neg H2.out, if_neg (by omega)])
  have HER : Hid (E = Ask.errs l) := hid (by rw [HE.out, if_neg (by rw [HZ.out]; decide)])
  go_wp2_with fail
  go_loopg [110] 2 (fun g x wr => ∃ j : Nat, j + g = 2 ∧ x = .int .i64 (j : Int) ∧ Hid (Ask.OkTo l j) ∧ Hid (Below w.heap.size w wr))
  case atStart => exact ⟨0, by omega, rfl, hid (Ask.OkTo.zero l), HBC⟩
  case round =>
   clear d0 d1 d2 d3 d4 hcx0 HBC
   obtain ⟨j, hj, rfl, HO, HB⟩ := hrel
   by_cases hjn : j < 2
   ·obtain ⟨y, hy⟩ : ∃ y, l[j]? = some y := ⟨_, List.getElem?_eq_getElem (by rw [← HN.out]; exact hjn)⟩
    obtain ⟨bl, off, rfl, hb, hat⟩ := HR.out (by omega)
    obtain ⟨ad', len', cap', c0, c1, c2, c3, c4, hyv⟩ := (AsksV.below HB.out l bl off hb hat).get hy
    have hbr : bl < wr.heap.size := Nat.lt_of_lt_of_le hb HB.out.size
    have hj1 : (0 : Int) ≤ (j : Int) := by omega
    have hj2 : (j : Int) < 2 := by omega
    have hs1 := Ask.sizes_at hy
    have HY := hid hy
    obtain ⟨E2, hE2⟩ : ∃ E, y.err = E := ⟨_, rfl⟩
    obtain ⟨k1, hk1⟩ : ∃ a, bts y.key = a := ⟨_, rfl⟩
    obtain ⟨k2, hk2⟩ : ∃ a, bts y.val = a := ⟨_, rfl⟩
    obtain ⟨k0, hk0⟩ : ∃ a, y.kind = a := ⟨_, rfl⟩
    obtain ⟨k3, hk3⟩ : ∃ a, y.num = a := ⟨_, rfl⟩
    rw [hk0] at c0 hyv
    rw [hk1] at c1 hyv
    rw [hk2] at c2 hyv
    rw [hk3] at c3 hyv
    obtain ⟨wx, hwx⟩ : ∃ wx, wx = wr.alloc (.cells #[.int .i64 k0, .string k1, .string k2, .int .i64 k3, .slice ad' len' cap'] 26) := ⟨_, rfl⟩
    have hb9 : Below wr.heap.size wr wx := be0 hwx
    have HBX : Hid (Below w.heap.size w wx) := hid (HB.out.trans (hb9.mono HB.out.size))
    have HC := hid (HIH.out y _ wx (by omega) (AskV.below hb9 _ _ hyv))
    rw [hE2] at HC
    have HE2 := hid hE2
    clear hat hy hyv hE2 hk0 hk1 hk2 hk3 hb9
    by_cases he : E2 = 0
    ·have HQ := hid (HO.out.succ HY.out (HE2.out.trans he))
     subst he
     go_wp2_with fail
     rw [← hwx]
     refine Calls.mono HC.out ?_
     rintro e' W3 ⟨rfl, h1⟩
     have HB3 := hid (HBX.out.trans (h1.mono HBX.out.size))
     clear h1
     go_wp2_with fail
     go_roundg (2 - (j + 1))
     case measure => omega
     case rel => exact ⟨j + 1, by omega, by simp, HQ, HB3⟩
    ·have HV : Hid (E2 = E) := hid (by rw [HER.out, HO.out.bad HY.out (by rw [HE2.out]; exact he), HE2.out])
     have he2 : (E2 != 0) = true := by simpa using he
     go_wp2_with fail
     rw [← hwx]
     refine Calls.mono HC.out ?_
     rintro e' W3 ⟨rfl, h1⟩
     have HB3 := hid (HBX.out.trans (h1.mono HBX.out.size))
     clear h1
     go_wp2_with fail
     go_ret
     exact ⟨ret_int HV.out, HB3.out⟩
   ·obtain rfl : j = 2 := by omega
    have HV : Hid ((0 : Int) = E) := hid (by rw [HER.out]; exact (HO.out.fin (by rw [← HN.out]; exact Nat.le_refl _)).symm)
    go_wp2_with fail
    go_ret
    exact ⟨ret_int HV.out, HB.out⟩
theorem askErr_any (x : Ask) (v : Value) (w : World) (hv : AskV w x v) : Calls Tryz.prog 72 #[v] w fun e w' => e = .returned (.int .i64 x.err) ∧ Below w.heap.size w w' := askErr_all x.size x v w lr hv
theorem AskFault_any (x : Ask) (v : Value) (w : World) (hs : x.size ≤ 1000000000) (hv : AskV w x v) : Calls Tryz.prog 37 #[v] w fun e w' => e = .returned (.int .i64 x.fault) ∧ Below w.heap.size w w' := by
 obtain ⟨s, hss⟩ : ∃ s, x.size = s := ⟨_, rfl⟩
 have HS := hid hss
 have hv2 := hv
 cases x with
 | mk k ka va nu l =>
 rw [AskV] at hv
 obtain ⟨ad, n, cap, rfl, hrest⟩ := hv
 clear hrest
 have hb9 : Below w.heap.size w (w.alloc (.cells #[.int .i64 k, .string (bts ka), .string (bts va), .int .i64 nu, .slice ad n cap] 26)) := (Below.refl _ _).alloc lr _
 have HB9 := hid hb9
 have HCN := hid (askSize_any _ _ _ hs (AskV.below hb9 _ _ hv2))
 have HV2 := hid (AskV.below hb9 _ _ hv2)
 rw [hss] at HCN
 obtain ⟨x, hx⟩ : ∃ x, Ask.mk k ka va nu l = x := ⟨_, rfl⟩
 rw [hx] at HS HV2 ⊢
 obtain ⟨a1, ha1⟩ : ∃ a, bts ka = a := ⟨_, rfl⟩
 obtain ⟨a2, ha2⟩ : ∃ a, bts va = a := ⟨_, rfl⟩
 rw [ha1, ha2] at HB9 HCN HV2 ⊢
 clear hv2 hss hx hb9 ha1 ha2
 by_cases hbig : 60 < s
 ·have HV : Hid ((2 : Int) = x.fault) := hid (by rw [Ask.fault, if_pos (by rw [HS.out]; exact hbig)])
  have hb : (s : Int) > 60 := by omega
  go_enter Tryz.func37, Tryz.ntmps37
  go_wp2_with fail
  refine Calls.mono HCN.out ?_
  rintro e' W3 ⟨rfl, h1⟩
  have HB3 := hid (HB9.out.trans (h1.mono HB9.out.size))
  clear h1
  go_wp2_with fail
  go_ret
  exact ⟨ret_int HV.out, HB3.out⟩
 ·have HV : Hid (x.err = x.fault) := hid (by rw [Ask.fault, if_neg (by rw [HS.out]; exact hbig)])
  have hb : ¬ (s : Int) > 60 := by omega
  go_enter Tryz.func37, Tryz.ntmps37
  go_wp2_with fail
  refine Calls.mono HCN.out ?_
  rintro e' W3 ⟨rfl, h1⟩
  have HB3 := hid (HB9.out.trans (h1.mono HB9.out.size))
  have HC2 := hid (askErr_any x _ W3 (AskV.below h1 _ _ HV2.out))
  have d0 : W3.cell? ⟨w.heap.size, 0, none⟩ = some (.int .i64 k) := (h1.cell (p := ⟨w.heap.size, 0, none⟩) (by simp)).trans (by simp)
  have d1 : W3.cell? ⟨w.heap.size, 1, none⟩ = some (.string a1) := (h1.cell (p := ⟨w.heap.size, 1, none⟩) (by simp)).trans (by simp)
  have d2 : W3.cell? ⟨w.heap.size, 2, none⟩ = some (.string a2) := (h1.cell (p := ⟨w.heap.size, 2, none⟩) (by simp)).trans (by simp)
  have d3 : W3.cell? ⟨w.heap.size, 3, none⟩ = some (.int .i64 nu) := (h1.cell (p := ⟨w.heap.size, 3, none⟩) (by simp)).trans (by simp)
  have d4 : W3.cell? ⟨w.heap.size, 4, none⟩ = some (.slice ad n cap) := (h1.cell (p := ⟨w.heap.size, 4, none⟩) (by simp)).trans (by simp)
  clear h1
  go_wp2_with fail
  refine Calls.mono HC2.out ?_
  rintro e' W4 ⟨rfl, h1⟩
  have HB4 := hid (HB3.out.trans (h1.mono HB3.out.size))
  clear h1
  go_wp2_with fail
  go_ret
  exact ⟨ret_int HV.out, HB4.out⟩
end Go.Proofs.YtkemlckmfgacdaaGreatDoor
