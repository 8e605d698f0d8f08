/- Contracts: is an ask right? The program's. -/
import Derived.Test.YtkemlckmfgacdaaGreatDoorJobP0
import Derived.BigQuiet
import Derived.Deep.CutBlock
import Derived.Deep.DeepCutAuto
import Derived.RegionTactic
import Derived.Lib.IndexAny
import Derived.Lib.AtoiAllCases
import Derived.Deep.RegionHeld3
import Derived.Deep.LoopGhost
namespace Go.Proofs.YtkemlckmfgacdaaGreatDoor
open Go.ChangeShapes Go.WideShapes Go.ChangeAt Go.RowKit
set_option linter.unusedVariables false
open Tp
theorem isEmpty_no {a : Bs} {s : ByteArray} (h : bts a = s) (hn : a ≠ []) : s.toList.isEmpty = false := by
  rw [← h, bts_toList]
  cases a with
  | nil => exact absurd rfl hn
  | cons => rfl
theorem bts_nil {a : Bs} {s : ByteArray} (h : bts a = s) (hn : a = []) : s = ⟨#[]⟩ := by rw [← h, hn]; rfl
theorem bts_is {a : Bs} {s : ByteArray} (h : bts a = s) (t : Bs) : s.toList = t ↔ a = t := by rw [← h, bts_toList]
set_option maxRecDepth 20000 in
set_option maxHeartbeats 4000000 in
theorem unit_any (s : ByteArray) (w : World) : Calls Tryz.prog 94 #[.string s] w fun e w' => e = .returned (.bool (Ask.unit (lst s))) ∧ w' = w := by
  have HL : Hid (s.toList = lst s) := Lib.hid (ByteArray.toList_eq ..)
  by_cases h1 : s.toList = [99, 112, 117]
  · have HV : Hid (Ask.unit (lst s) = true) := Lib.hid (by rw [← HL.out, h1]; rfl)
    go_enter Tryz.func94, Tryz.ntmps94
    go_wp2_with fail
    go_ret
    exact ⟨ret_bool HV.out.symm, rfl⟩
  by_cases h2 : s.toList = [109, 101, 109]
  · have HV : Hid (Ask.unit (lst s) = true) := Lib.hid (by rw [← HL.out, h2]; rfl)
    go_enter Tryz.func94, Tryz.ntmps94
    go_wp2_with fail
    go_ret
    exact ⟨ret_bool HV.out.symm, rfl⟩
  by_cases h3 : s.toList = [103, 112, 117]
  · have HV : Hid (Ask.unit (lst s) = true) := Lib.hid (by rw [← HL.out, h3]; rfl)
    go_enter Tryz.func94, Tryz.ntmps94
    go_wp2_with fail
    go_ret
    exact ⟨ret_bool HV.out.symm, rfl⟩
  have HV : Hid (Ask.unit (lst s) = false) := Lib.hid (by
    rw [← HL.out, Ask.unit, decide_eq_false (show ¬ s.toList = Ask.cpu from h1), decide_eq_false (show ¬ s.toList = Ask.mem from h2), decide_eq_false (show ¬ s.toList = Ask.gpu from h3)]; rfl)
  have e1 : (s.toList == [99, 112, 117]) = false := by simpa using h1
  have e2 : (s.toList == [109, 101, 109]) = false := by simpa using h2
  have e3 : (s.toList == [103, 112, 117]) = false := by simpa using h3
  go_enter Tryz.func94, Tryz.ntmps94
  go_wp2_with fail
  go_ret
  exact ⟨ret_bool (by first | exact HV.out.symm | (rw [e1, e2, e3]; exact HV.out.symm)), rfl⟩
set_option maxRecDepth 20000 in
set_option maxHeartbeats 64000000 in
theorem check_all : ∀ (N : Nat) (x : Ask) (v : Value) (w : World), x.size ≤ N → AskV w x v → Calls Tryz.prog 74 #[v] w fun e w' => e = .returned (.int .i64 x.err) ∧ Below w.heap.size w w' := by
  intro N
  induction N with
  | zero => intro x v w h; have := Ask.one_le x; omega
  | succ N ih =>
    intro x v w hN hv
    cases x with
    | mk k ka va nu l =>
    rw [AskV] at hv
    obtain ⟨ad, n, cap, rfl, hn, hcap, hmax, hk1, hk2, hrow⟩ := hv
    have HIH := Lib.hid ih
    have HR := Lib.hid hrow
    have HN := Lib.hid hn
    rw [Ask.size] at hN
    have HE : Hid ((Ask.mk k ka va nu l).err = if Ask.bad k ka va nu n ≠ 0 then Ask.bad k ka va nu n else Ask.errs l) := Lib.hid (by rw [Ask.err, hn])
    obtain ⟨E, hE⟩ : ∃ E, (Ask.mk k ka va nu l).err = E := ⟨_, rfl⟩
    rw [hE] at HE ⊢
    have HEV : Hid (∀ c : Int, c ≠ 0 → Ask.bad k ka va nu n = c → c = E) := Lib.hid (fun c h0 hc => by rw [HE.out, hc, if_pos h0])
    have HLK := Lib.hid (fun w => Label_any (bts ka) w (by rw [bts_size]; exact hk1))
    have HLV := Lib.hid (fun w => Label_any (bts va) w (by rw [bts_size]; exact hk2))
    rw [lst_bts] at HLK HLV
    have HU := Lib.hid (fun w => unit_any (bts ka) w)
    rw [lst_bts] at HU
    obtain ⟨a1, ha1⟩ : ∃ a, bts ka = a := ⟨_, rfl⟩
    obtain ⟨a2, ha2⟩ : ∃ a, bts va = a := ⟨_, rfl⟩
    rw [ha1] at HLK HU ⊢
    rw [ha2] at HLV ⊢
    have HA1 := Lib.hid ha1
    have HA2 := Lib.hid ha2
    have HB0 : Hid (Below w.heap.size w (w.alloc (.cells #[.int .i64 k, .string a1, .string a2, .int .i64 nu, .slice ad n cap] 26))) := Lib.hid ((Below.refl _ _).alloc (Nat.le_refl _) _)
    clear ih hrow hn hE ha1 ha2 hk1 hk2
    by_cases hk : k < 1
    · have HV : Hid ((1 : Int) = E) := Lib.hid (HEV.out 1 (by decide) (by rw [Ask.bad, if_pos (.inl hk)]))
      go_enter Tryz.func74, Tryz.ntmps74
      go_wp2_with fail
      go_ret
      exact ⟨ret_int HV.out, HB0.out⟩
    have hkl := hk
    clear hk
    by_cases hk : 6 < k
    · have HV : Hid ((1 : Int) = E) := Lib.hid (HEV.out 1 (by decide) (by rw [Ask.bad, if_pos (.inr hk)]))
      go_enter Tryz.func74, Tryz.ntmps74
      go_wp2_with fail
      go_ret
      exact ⟨ret_int HV.out, HB0.out⟩
    have hkh := hk
    clear hk
    have HKR : Hid (¬ (k < 1 ∨ 6 < k)) := Lib.hid (by omega)
    have hks : k = 1 ∨ k = 2 ∨ k = 3 ∨ k = 4 ∨ k = 5 ∨ k = 6 := by omega
    clear hkl hkh
    rcases hks with rfl | hks
    · have HKI : Hid (Ask.inner 1 = 0) := Lib.hid rfl
      go_enter Tryz.func74, Tryz.ntmps74
      go_wp2_with fail
      go_quiet (fail)
      go_upto_region 11 with fail
      obtain ⟨W0, hW0⟩ : ∃ W, W = (w.alloc (.cells #[.int .i64 1, .string a1, .string a2, .int .i64 nu, .slice ad n cap] 26)).drewN nq := ⟨_, rfl⟩
      have HBC : Hid (Below w.heap.size w W0) := Lib.hid (by rw [hW0]; exact below_drewN HB0.out _)
      obtain ⟨cx, hcx⟩ : ∃ c, c = w.heap.size := ⟨_, rfl⟩
      have hcx0 : cx < W0.heap.size := by rw [hcx, hW0]; simp <;> omega
      have d0 : W0.cell? ⟨cx, 0, none⟩ = some (.int .i64 1) := by rw [hcx, hW0]; simp
      have d1 : W0.cell? ⟨cx, 1, none⟩ = some (.string a1) := by rw [hcx, hW0]; simp
      have d2 : W0.cell? ⟨cx, 2, none⟩ = some (.string a2) := by rw [hcx, hW0]; simp
      have d3 : W0.cell? ⟨cx, 3, none⟩ = some (.int .i64 nu) := by rw [hcx, hW0]; simp
      have d4 : W0.cell? ⟨cx, 4, none⟩ = some (.slice ad n cap) := by rw [hcx, hW0]; simp
      rw [← hW0, ← hcx]
      clear hW0 hcx HB0
      by_cases hc : n ≠ 0
      · have HV : Hid ((1 : Int) = E) := Lib.hid (HEV.out 1 (by decide) (by rw [Ask.bad, if_neg HKR.out, if_pos (.inl hc)]))
        have hf : ((n : Int) != 0) = true := by simp; omega
        clear hc
        go_wp2_with fail
        go_ret
        exact ⟨ret_int HV.out, HBC.out⟩
      obtain rfl : n = 0 := Decidable.byContradiction hc
      clear hc
      by_cases hc : va ≠ []
      · have HV : Hid ((1 : Int) = E) := Lib.hid (HEV.out 1 (by decide) (by rw [Ask.bad, if_neg HKR.out, if_pos (.inr (.inr (.inl ⟨by decide, hc⟩)))]))
        have hg := isEmpty_no HA2.out hc
        clear hc
        go_wp2_with fail
        go_ret
        exact ⟨ret_int HV.out, HBC.out⟩
      have hva : va = [] := Decidable.byContradiction hc
      clear hc
      obtain rfl := bts_nil HA2.out hva
      have HVA := Lib.hid hva
      clear hva
      by_cases hc : nu ≠ 0
      · have HV : Hid ((1 : Int) = E) := Lib.hid (HEV.out 1 (by decide) (by rw [Ask.bad, if_neg HKR.out, if_pos (.inr (.inr (.inr ⟨by decide, hc⟩)))]))
        have hg : (nu != 0) = true := by simpa using hc
        clear hc
        go_wp2_with fail
        go_ret
        exact ⟨ret_int HV.out, HBC.out⟩
      obtain rfl : nu = 0 := Decidable.byContradiction hc
      clear hc
      have H1 : Hid (¬ ((0 : Nat) ≠ Ask.inner 1 ∨ ((4 : Int) ≤ 1 ∧ ka ≠ []) ∨ ((1 : Int) ≠ 2 ∧ va ≠ []) ∨ ((1 : Int) ≠ 3 ∧ (0 : Int) ≠ 0))) := Lib.hid (by
        rintro (h | ⟨h, h2⟩ | ⟨h, h2⟩ | ⟨h, h2⟩)
        · exact h rfl
        · exact absurd h (by decide)
        · exact h2 HVA.out
        · exact h2 rfl)
      cases hu : lab ka with
      | false =>
        have HV : Hid ((3 : Int) = E) := Lib.hid (HEV.out 3 (by decide) (by rw [Ask.bad, if_neg HKR.out, if_neg H1.out, if_pos (.inr (.inl ⟨.inl rfl, hu⟩))]))
        rw [hu] at HLK
        clear hu
        go_wp2_with fail
        refine Calls.mono (HLK.out _) ?_
        rintro e' W3 ⟨rfl, hl⟩
        have HBB : Hid (Below w.heap.size w W3) := Lib.hid (HBC.out.trans (hl.mono HBC.out.size))
        have e0 := (hl.cell (p := ⟨cx, 0, none⟩) hcx0).trans d0
        have e1 := (hl.cell (p := ⟨cx, 1, none⟩) hcx0).trans d1
        have e2 := (hl.cell (p := ⟨cx, 2, none⟩) hcx0).trans d2
        have e3 := (hl.cell (p := ⟨cx, 3, none⟩) hcx0).trans d3
        have e4 := (hl.cell (p := ⟨cx, 4, none⟩) hcx0).trans d4
        have hcx1 := Nat.lt_of_lt_of_le hcx0 hl.size
        clear d0 d1 d2 d3 d4 hcx0 HBC hl
        have d0 := e0
        have d1 := e1
        have d2 := e2
        have d3 := e3
        have d4 := e4
        have hcx0 := hcx1
        have HBC := HBB
        clear e0 e1 e2 e3 e4 hcx1 HBB
        go_wp2_with fail
        go_ret
        exact ⟨ret_int HV.out, HBC.out⟩
      | true =>
        rw [hu] at HLK
        have H2 : Hid (¬ (((1 : Int) = 3 ∧ Ask.unit ka = false) ∨ (((1 : Int) = 1 ∨ (1 : Int) = 2) ∧ lab ka = false) ∨ ((1 : Int) = 2 ∧ lab va = false))) := Lib.hid (by
          rintro (⟨h, _⟩ | ⟨h, h3⟩ | ⟨h, h3⟩)
          · omega
          · rw [hu] at h3; cases h3
          · omega)
        have HZ : Hid (Ask.bad 1 ka va 0 0 = 0) := Lib.hid (by rw [Ask.bad, if_neg HKR.out, if_neg H1.out, if_neg H2.out, if_neg (by omega)])
        clear hu
        have HER : Hid (E = Ask.errs l) := Lib.hid (by rw [HE.out, if_neg (by rw [HZ.out]; decide)])
        go_wp2_with fail
        refine Calls.mono (HLK.out _) ?_
        rintro e' W3 ⟨rfl, hl⟩
        have HBB : Hid (Below w.heap.size w W3) := Lib.hid (HBC.out.trans (hl.mono HBC.out.size))
        have e0 := (hl.cell (p := ⟨cx, 0, none⟩) hcx0).trans d0
        have e1 := (hl.cell (p := ⟨cx, 1, none⟩) hcx0).trans d1
        have e2 := (hl.cell (p := ⟨cx, 2, none⟩) hcx0).trans d2
        have e3 := (hl.cell (p := ⟨cx, 3, none⟩) hcx0).trans d3
        have e4 := (hl.cell (p := ⟨cx, 4, none⟩) hcx0).trans d4
        have hcx1 := Nat.lt_of_lt_of_le hcx0 hl.size
        clear d0 d1 d2 d3 d4 hcx0 HBC hl
        have d0 := e0
        have d1 := e1
        have d2 := e2
        have d3 := e3
        have d4 := e4
        have hcx0 := hcx1
        have HBC := HBB
        clear e0 e1 e2 e3 e4 hcx1 HBB
        go_wp2_with fail
        go_loopg [105] 0 (fun g x wr => ∃ j : Nat, j + g = 0 ∧ x = .int .i64 (j : Int) ∧ Hid (Ask.OkTo l j) ∧ Hid (Below w.heap.size w wr))
        case atStart => exact ⟨0, by omega, rfl, Lib.hid (Ask.OkTo.zero l), HBC⟩
        case round =>
          clear d0 d1 d2 d3 d4 hcx0 HBC
          obtain ⟨j, hj, rfl, HO, HB⟩ := hrel
          obtain rfl : j = 0 := by omega
          have HV : Hid ((0 : Int) = E) := Lib.hid (by rw [HER.out]; exact (HO.out.fin (by rw [← HN.out]; exact Nat.le_refl _)).symm)
          go_wp2_with fail
          go_ret
          exact ⟨ret_int HV.out, HB.out⟩
    rcases hks with rfl | hks
    · have HKI : Hid (Ask.inner 2 = 0) := Lib.hid rfl
      go_enter Tryz.func74, Tryz.ntmps74
      go_wp2_with fail
      go_quiet (fail)
      go_upto_region 11 with fail
      obtain ⟨W0, hW0⟩ : ∃ W, W = (w.alloc (.cells #[.int .i64 2, .string a1, .string a2, .int .i64 nu, .slice ad n cap] 26)).drewN nq := ⟨_, rfl⟩
      have HBC : Hid (Below w.heap.size w W0) := Lib.hid (by rw [hW0]; exact below_drewN HB0.out _)
      obtain ⟨cx, hcx⟩ : ∃ c, c = w.heap.size := ⟨_, rfl⟩
      have hcx0 : cx < W0.heap.size := by rw [hcx, hW0]; simp <;> omega
      have d0 : W0.cell? ⟨cx, 0, none⟩ = some (.int .i64 2) := by rw [hcx, hW0]; simp
      have d1 : W0.cell? ⟨cx, 1, none⟩ = some (.string a1) := by rw [hcx, hW0]; simp
      have d2 : W0.cell? ⟨cx, 2, none⟩ = some (.string a2) := by rw [hcx, hW0]; simp
      have d3 : W0.cell? ⟨cx, 3, none⟩ = some (.int .i64 nu) := by rw [hcx, hW0]; simp
      have d4 : W0.cell? ⟨cx, 4, none⟩ = some (.slice ad n cap) := by rw [hcx, hW0]; simp
      rw [← hW0, ← hcx]
      clear hW0 hcx HB0
      by_cases hc : n ≠ 0
      · have HV : Hid ((1 : Int) = E) := Lib.hid (HEV.out 1 (by decide) (by rw [Ask.bad, if_neg HKR.out, if_pos (.inl hc)]))
        have hf : ((n : Int) != 0) = true := by simp; omega
        clear hc
        go_wp2_with fail
        go_ret
        exact ⟨ret_int HV.out, HBC.out⟩
      obtain rfl : n = 0 := Decidable.byContradiction hc
      clear hc
      by_cases hc : nu ≠ 0
      · have HV : Hid ((1 : Int) = E) := Lib.hid (HEV.out 1 (by decide) (by rw [Ask.bad, if_neg HKR.out, if_pos (.inr (.inr (.inr ⟨by decide, hc⟩)))]))
        have hg : (nu != 0) = true := by simpa using hc
        clear hc
        go_wp2_with fail
        go_ret
        exact ⟨ret_int HV.out, HBC.out⟩
      obtain rfl : nu = 0 := Decidable.byContradiction hc
      clear hc
      have H1 : Hid (¬ ((0 : Nat) ≠ Ask.inner 2 ∨ ((4 : Int) ≤ 2 ∧ ka ≠ []) ∨ ((2 : Int) ≠ 2 ∧ va ≠ []) ∨ ((2 : Int) ≠ 3 ∧ (0 : Int) ≠ 0))) := Lib.hid (by
        rintro (h | ⟨h, h2⟩ | ⟨h, h2⟩ | ⟨h, h2⟩)
        · exact h rfl
        · exact absurd h (by decide)
        · exact h rfl
        · exact h2 rfl)
      cases hu : lab ka with
      | false =>
        have HV : Hid ((3 : Int) = E) := Lib.hid (HEV.out 3 (by decide) (by rw [Ask.bad, if_neg HKR.out, if_neg H1.out, if_pos (.inr (.inl ⟨.inr rfl, hu⟩))]))
        rw [hu] at HLK
        clear hu
        go_wp2_with fail
        refine Calls.mono (HLK.out _) ?_
        rintro e' W3 ⟨rfl, hl⟩
        have HBB : Hid (Below w.heap.size w W3) := Lib.hid (HBC.out.trans (hl.mono HBC.out.size))
        have e0 := (hl.cell (p := ⟨cx, 0, none⟩) hcx0).trans d0
        have e1 := (hl.cell (p := ⟨cx, 1, none⟩) hcx0).trans d1
        have e2 := (hl.cell (p := ⟨cx, 2, none⟩) hcx0).trans d2
        have e3 := (hl.cell (p := ⟨cx, 3, none⟩) hcx0).trans d3
        have e4 := (hl.cell (p := ⟨cx, 4, none⟩) hcx0).trans d4
        have hcx1 := Nat.lt_of_lt_of_le hcx0 hl.size
        clear d0 d1 d2 d3 d4 hcx0 HBC hl
        have d0 := e0
        have d1 := e1
        have d2 := e2
        have d3 := e3
        have d4 := e4
        have hcx0 := hcx1
        have HBC := HBB
        clear e0 e1 e2 e3 e4 hcx1 HBB
        go_wp2_with fail
        go_ret
        exact ⟨ret_int HV.out, HBC.out⟩
      | true =>
        rw [hu] at HLK
        cases hu2 : lab va with
        | false =>
          have HV : Hid ((3 : Int) = E) := Lib.hid (HEV.out 3 (by decide) (by rw [Ask.bad, if_neg HKR.out, if_neg H1.out, if_pos (.inr (.inr ⟨rfl, hu2⟩))]))
          rw [hu2] at HLV
          clear hu hu2
          go_wp2_with fail
          refine Calls.mono (HLK.out _) ?_
          rintro e' W3 ⟨rfl, hl⟩
          have HBB : Hid (Below w.heap.size w W3) := Lib.hid (HBC.out.trans (hl.mono HBC.out.size))
          have e0 := (hl.cell (p := ⟨cx, 0, none⟩) hcx0).trans d0
          have e1 := (hl.cell (p := ⟨cx, 1, none⟩) hcx0).trans d1
          have e2 := (hl.cell (p := ⟨cx, 2, none⟩) hcx0).trans d2
          have e3 := (hl.cell (p := ⟨cx, 3, none⟩) hcx0).trans d3
          have e4 := (hl.cell (p := ⟨cx, 4, none⟩) hcx0).trans d4
          have hcx1 := Nat.lt_of_lt_of_le hcx0 hl.size
          clear d0 d1 d2 d3 d4 hcx0 HBC hl
          have d0 := e0
          have d1 := e1
          have d2 := e2
          have d3 := e3
          have d4 := e4
          have hcx0 := hcx1
          have HBC := HBB
          clear e0 e1 e2 e3 e4 hcx1 HBB
          go_wp2_with fail
          refine Calls.mono (HLV.out _) ?_
          rintro e' W3 ⟨rfl, hl⟩
          have HBB : Hid (Below w.heap.size w W3) := Lib.hid (HBC.out.trans (hl.mono HBC.out.size))
          have e0 := (hl.cell (p := ⟨cx, 0, none⟩) hcx0).trans d0
          have e1 := (hl.cell (p := ⟨cx, 1, none⟩) hcx0).trans d1
          have e2 := (hl.cell (p := ⟨cx, 2, none⟩) hcx0).trans d2
          have e3 := (hl.cell (p := ⟨cx, 3, none⟩) hcx0).trans d3
          have e4 := (hl.cell (p := ⟨cx, 4, none⟩) hcx0).trans d4
          have hcx1 := Nat.lt_of_lt_of_le hcx0 hl.size
          clear d0 d1 d2 d3 d4 hcx0 HBC hl
          have d0 := e0
          have d1 := e1
          have d2 := e2
          have d3 := e3
          have d4 := e4
          have hcx0 := hcx1
          have HBC := HBB
          clear e0 e1 e2 e3 e4 hcx1 HBB
          go_wp2_with fail
          go_ret
          exact ⟨ret_int HV.out, HBC.out⟩
        | true =>
          rw [hu2] at HLV
          have H2 : Hid (¬ (((2 : Int) = 3 ∧ Ask.unit ka = false) ∨ (((2 : Int) = 1 ∨ (2 : Int) = 2) ∧ lab ka = false) ∨ ((2 : Int) = 2 ∧ lab va = false))) := Lib.hid (by
            rintro (⟨h, _⟩ | ⟨h, h3⟩ | ⟨h, h3⟩)
            · omega
            · rw [hu] at h3; cases h3
            · rw [hu2] at h3; cases h3)
          have HZ : Hid (Ask.bad 2 ka va 0 0 = 0) := Lib.hid (by rw [Ask.bad, if_neg HKR.out, if_neg H1.out, if_neg H2.out, if_neg (by omega)])
          clear hu hu2
          have HER : Hid (E = Ask.errs l) := Lib.hid (by rw [HE.out, if_neg (by rw [HZ.out]; decide)])
          go_wp2_with fail
          refine Calls.mono (HLK.out _) ?_
          rintro e' W3 ⟨rfl, hl⟩
          have HBB : Hid (Below w.heap.size w W3) := Lib.hid (HBC.out.trans (hl.mono HBC.out.size))
          have e0 := (hl.cell (p := ⟨cx, 0, none⟩) hcx0).trans d0
          have e1 := (hl.cell (p := ⟨cx, 1, none⟩) hcx0).trans d1
          have e2 := (hl.cell (p := ⟨cx, 2, none⟩) hcx0).trans d2
          have e3 := (hl.cell (p := ⟨cx, 3, none⟩) hcx0).trans d3
          have e4 := (hl.cell (p := ⟨cx, 4, none⟩) hcx0).trans d4
          have hcx1 := Nat.lt_of_lt_of_le hcx0 hl.size
          clear d0 d1 d2 d3 d4 hcx0 HBC hl
          have d0 := e0
          have d1 := e1
          have d2 := e2
          have d3 := e3
          have d4 := e4
          have hcx0 := hcx1
          have HBC := HBB
          clear e0 e1 e2 e3 e4 hcx1 HBB
          go_wp2_with fail
          refine Calls.mono (HLV.out _) ?_
          rintro e' W3 ⟨rfl, hl⟩
          have HBB : Hid (Below w.heap.size w W3) := Lib.hid (HBC.out.trans (hl.mono HBC.out.size))
          have e0 := (hl.cell (p := ⟨cx, 0, none⟩) hcx0).trans d0
          have e1 := (hl.cell (p := ⟨cx, 1, none⟩) hcx0).trans d1
          have e2 := (hl.cell (p := ⟨cx, 2, none⟩) hcx0).trans d2
          have e3 := (hl.cell (p := ⟨cx, 3, none⟩) hcx0).trans d3
          have e4 := (hl.cell (p := ⟨cx, 4, none⟩) hcx0).trans d4
          have hcx1 := Nat.lt_of_lt_of_le hcx0 hl.size
          clear d0 d1 d2 d3 d4 hcx0 HBC hl
          have d0 := e0
          have d1 := e1
          have d2 := e2
          have d3 := e3
          have d4 := e4
          have hcx0 := hcx1
          have HBC := HBB
          clear e0 e1 e2 e3 e4 hcx1 HBB
          go_wp2_with fail
          go_loopg [105] 0 (fun g x wr => ∃ j : Nat, j + g = 0 ∧ x = .int .i64 (j : Int) ∧ Hid (Ask.OkTo l j) ∧ Hid (Below w.heap.size w wr))
          case atStart => exact ⟨0, by omega, rfl, Lib.hid (Ask.OkTo.zero l), HBC⟩
          case round =>
            clear d0 d1 d2 d3 d4 hcx0 HBC
            obtain ⟨j, hj, rfl, HO, HB⟩ := hrel
            obtain rfl : j = 0 := by omega
            have HV : Hid ((0 : Int) = E) := Lib.hid (by rw [HER.out]; exact (HO.out.fin (by rw [← HN.out]; exact Nat.le_refl _)).symm)
            go_wp2_with fail
            go_ret
            exact ⟨ret_int HV.out, HB.out⟩
    rcases hks with rfl | hks
    · have HKI : Hid (Ask.inner 3 = 0) := Lib.hid rfl
      go_enter Tryz.func74, Tryz.ntmps74
      go_wp2_with fail
      go_quiet (fail)
      go_upto_region 11 with fail
      obtain ⟨W0, hW0⟩ : ∃ W, W = (w.alloc (.cells #[.int .i64 3, .string a1, .string a2, .int .i64 nu, .slice ad n cap] 26)).drewN nq := ⟨_, rfl⟩
      have HBC : Hid (Below w.heap.size w W0) := Lib.hid (by rw [hW0]; exact below_drewN HB0.out _)
      obtain ⟨cx, hcx⟩ : ∃ c, c = w.heap.size := ⟨_, rfl⟩
      have hcx0 : cx < W0.heap.size := by rw [hcx, hW0]; simp <;> omega
      have d0 : W0.cell? ⟨cx, 0, none⟩ = some (.int .i64 3) := by rw [hcx, hW0]; simp
      have d1 : W0.cell? ⟨cx, 1, none⟩ = some (.string a1) := by rw [hcx, hW0]; simp
      have d2 : W0.cell? ⟨cx, 2, none⟩ = some (.string a2) := by rw [hcx, hW0]; simp
      have d3 : W0.cell? ⟨cx, 3, none⟩ = some (.int .i64 nu) := by rw [hcx, hW0]; simp
      have d4 : W0.cell? ⟨cx, 4, none⟩ = some (.slice ad n cap) := by rw [hcx, hW0]; simp
      rw [← hW0, ← hcx]
      clear hW0 hcx HB0
      by_cases hc : n ≠ 0
      · have HV : Hid ((1 : Int) = E) := Lib.hid (HEV.out 1 (by decide) (by rw [Ask.bad, if_neg HKR.out, if_pos (.inl hc)]))
        have hf : ((n : Int) != 0) = true := by simp; omega
        clear hc
        go_wp2_with fail
        go_ret
        exact ⟨ret_int HV.out, HBC.out⟩
      obtain rfl : n = 0 := Decidable.byContradiction hc
      clear hc
      by_cases hc : va ≠ []
      · have HV : Hid ((1 : Int) = E) := Lib.hid (HEV.out 1 (by decide) (by rw [Ask.bad, if_neg HKR.out, if_pos (.inr (.inr (.inl ⟨by decide, hc⟩)))]))
        have hg := isEmpty_no HA2.out hc
        clear hc
        go_wp2_with fail
        go_ret
        exact ⟨ret_int HV.out, HBC.out⟩
      have hva : va = [] := Decidable.byContradiction hc
      clear hc
      obtain rfl := bts_nil HA2.out hva
      have HVA := Lib.hid hva
      clear hva
      have H1 : Hid (¬ ((0 : Nat) ≠ Ask.inner 3 ∨ ((4 : Int) ≤ 3 ∧ ka ≠ []) ∨ ((3 : Int) ≠ 2 ∧ va ≠ []) ∨ ((3 : Int) ≠ 3 ∧ nu ≠ 0))) := Lib.hid (by
        rintro (h | ⟨h, h2⟩ | ⟨h, h2⟩ | ⟨h, h2⟩)
        · exact h rfl
        · exact absurd h (by decide)
        · exact h2 HVA.out
        · exact h rfl)
      cases hu : Ask.unit ka with
      | false =>
        have HV : Hid ((3 : Int) = E) := Lib.hid (HEV.out 3 (by decide) (by rw [Ask.bad, if_neg HKR.out, if_neg H1.out, if_pos (.inl ⟨rfl, hu⟩)]))
        rw [hu] at HU
        clear hu
        go_wp2_with fail
        refine Calls.mono (HU.out _) ?_
        rintro e' W3 ⟨rfl, rfl⟩
        go_wp2_with fail
        go_ret
        exact ⟨ret_int HV.out, HBC.out⟩
      | true =>
        have H2 : Hid (¬ (((3 : Int) = 3 ∧ Ask.unit ka = false) ∨ (((3 : Int) = 1 ∨ (3 : Int) = 2) ∧ lab ka = false) ∨ ((3 : Int) = 2 ∧ lab va = false))) := Lib.hid (by
          rintro (⟨_, h⟩ | ⟨h, _⟩ | ⟨h, _⟩)
          · rw [hu] at h; cases h
          · omega
          · omega)
        rw [hu] at HU
        clear hu
        by_cases hc : nu < 0
        · have HV : Hid ((4 : Int) = E) := Lib.hid (HEV.out 4 (by decide) (by rw [Ask.bad, if_neg HKR.out, if_neg H1.out, if_neg H2.out, if_pos (.inl hc)]))
          go_wp2_with fail
          refine Calls.mono (HU.out _) ?_
          rintro e' W3 ⟨rfl, rfl⟩
          go_wp2_with fail
          go_ret
          exact ⟨ret_int HV.out, HBC.out⟩
        have hlo : ¬ nu < 0 := hc
        clear hc
        by_cases hc : 1099511627776 < nu
        · have HV : Hid ((4 : Int) = E) := Lib.hid (HEV.out 4 (by decide) (by rw [Ask.bad, if_neg HKR.out, if_neg H1.out, if_neg H2.out, if_pos (.inr hc)]))
          go_wp2_with fail
          refine Calls.mono (HU.out _) ?_
          rintro e' W3 ⟨rfl, rfl⟩
          go_wp2_with fail
          go_ret
          exact ⟨ret_int HV.out, HBC.out⟩
        have hhi : ¬ 1099511627776 < nu := hc
        clear hc
        have HZ : Hid (Ask.bad 3 ka va nu 0 = 0) := Lib.hid (by rw [Ask.bad, if_neg HKR.out, if_neg H1.out, if_neg H2.out, if_neg (by omega)])
        have HER : Hid (E = Ask.errs l) := Lib.hid (by rw [HE.out, if_neg (by rw [HZ.out]; decide)])
        go_wp2_with fail
        refine Calls.mono (HU.out _) ?_
        rintro e' W3 ⟨rfl, rfl⟩
        go_wp2_with fail
        go_loopg [105] 0 (fun g x wr => ∃ j : Nat, j + g = 0 ∧ x = .int .i64 (j : Int) ∧ Hid (Ask.OkTo l j) ∧ Hid (Below w.heap.size w wr))
        case atStart => exact ⟨0, by omega, rfl, Lib.hid (Ask.OkTo.zero l), HBC⟩
        case round =>
          clear d0 d1 d2 d3 d4 hcx0 HBC
          obtain ⟨j, hj, rfl, HO, HB⟩ := hrel
          obtain rfl : j = 0 := by omega
          have HV : Hid ((0 : Int) = E) := Lib.hid (by rw [HER.out]; exact (HO.out.fin (by rw [← HN.out]; exact Nat.le_refl _)).symm)
          go_wp2_with fail
          go_ret
          exact ⟨ret_int HV.out, HB.out⟩
    rcases hks with rfl | hks
    · have HKI : Hid (Ask.inner 4 = 1) := Lib.hid rfl
      go_enter Tryz.func74, Tryz.ntmps74
      go_wp2_with fail
      go_quiet (fail)
      go_upto_region 11 with fail
      obtain ⟨W0, hW0⟩ : ∃ W, W = (w.alloc (.cells #[.int .i64 4, .string a1, .string a2, .int .i64 nu, .slice ad n cap] 26)).drewN nq := ⟨_, rfl⟩
      have HBC : Hid (Below w.heap.size w W0) := Lib.hid (by rw [hW0]; exact below_drewN HB0.out _)
      obtain ⟨cx, hcx⟩ : ∃ c, c = w.heap.size := ⟨_, rfl⟩
      have hcx0 : cx < W0.heap.size := by rw [hcx, hW0]; simp <;> omega
      have d0 : W0.cell? ⟨cx, 0, none⟩ = some (.int .i64 4) := by rw [hcx, hW0]; simp
      have d1 : W0.cell? ⟨cx, 1, none⟩ = some (.string a1) := by rw [hcx, hW0]; simp
      have d2 : W0.cell? ⟨cx, 2, none⟩ = some (.string a2) := by rw [hcx, hW0]; simp
      have d3 : W0.cell? ⟨cx, 3, none⟩ = some (.int .i64 nu) := by rw [hcx, hW0]; simp
      have d4 : W0.cell? ⟨cx, 4, none⟩ = some (.slice ad n cap) := by rw [hcx, hW0]; simp
      rw [← hW0, ← hcx]
      clear hW0 hcx HB0
      by_cases hc : n ≠ 1
      · have HV : Hid ((1 : Int) = E) := Lib.hid (HEV.out 1 (by decide) (by rw [Ask.bad, if_neg HKR.out, if_pos (.inl hc)]))
        have hf : ((n : Int) != 1) = true := by simp; omega
        clear hc
        go_wp2_with fail
        go_ret
        exact ⟨ret_int HV.out, HBC.out⟩
      obtain rfl : n = 1 := Decidable.byContradiction hc
      clear hc
      by_cases hc : ka ≠ []
      · have HV : Hid ((1 : Int) = E) := Lib.hid (HEV.out 1 (by decide) (by rw [Ask.bad, if_neg HKR.out, if_pos (.inr (.inl ⟨by decide, hc⟩))]))
        have hg := isEmpty_no HA1.out hc
        clear hc
        go_wp2_with fail
        go_ret
        exact ⟨ret_int HV.out, HBC.out⟩
      have hka : ka = [] := Decidable.byContradiction hc
      clear hc
      obtain rfl := bts_nil HA1.out hka
      have HKA := Lib.hid hka
      clear hka
      by_cases hc : va ≠ []
      · have HV : Hid ((1 : Int) = E) := Lib.hid (HEV.out 1 (by decide) (by rw [Ask.bad, if_neg HKR.out, if_pos (.inr (.inr (.inl ⟨by decide, hc⟩)))]))
        have hg := isEmpty_no HA2.out hc
        clear hc
        go_wp2_with fail
        go_ret
        exact ⟨ret_int HV.out, HBC.out⟩
      have hva : va = [] := Decidable.byContradiction hc
      clear hc
      obtain rfl := bts_nil HA2.out hva
      have HVA := Lib.hid hva
      clear hva
      by_cases hc : nu ≠ 0
      · have HV : Hid ((1 : Int) = E) := Lib.hid (HEV.out 1 (by decide) (by rw [Ask.bad, if_neg HKR.out, if_pos (.inr (.inr (.inr ⟨by decide, hc⟩)))]))
        have hg : (nu != 0) = true := by simpa using hc
        clear hc
        go_wp2_with fail
        go_ret
        exact ⟨ret_int HV.out, HBC.out⟩
      obtain rfl : nu = 0 := Decidable.byContradiction hc
      clear hc
      have H1 : Hid (¬ ((1 : Nat) ≠ Ask.inner 4 ∨ ((4 : Int) ≤ 4 ∧ ka ≠ []) ∨ ((4 : Int) ≠ 2 ∧ va ≠ []) ∨ ((4 : Int) ≠ 3 ∧ (0 : Int) ≠ 0))) := Lib.hid (by
        rintro (h | ⟨h, h2⟩ | ⟨h, h2⟩ | ⟨h, h2⟩)
        · exact h rfl
        · exact h2 HKA.out
        · exact h2 HVA.out
        · exact h2 rfl)
      have H2 : Hid (¬ (((4 : Int) = 3 ∧ Ask.unit ka = false) ∨ (((4 : Int) = 1 ∨ (4 : Int) = 2) ∧ lab ka = false) ∨ ((4 : Int) = 2 ∧ lab va = false))) := Lib.hid (by
        rintro (⟨h, _⟩ | ⟨h, h3⟩ | ⟨h, h3⟩)
        · omega
        · omega
        · omega)
      have HZ : Hid (Ask.bad 4 ka va 0 1 = 0) := Lib.hid (by rw [Ask.bad, if_neg HKR.out, if_neg H1.out, if_neg H2.out, if_neg (by omega)])
      have HER : Hid (E = Ask.errs l) := Lib.hid (by rw [HE.out, if_neg (by rw [HZ.out]; decide)])
      go_wp2_with fail
      go_loopg [105] 1 (fun g x wr => ∃ j : Nat, j + g = 1 ∧ x = .int .i64 (j : Int) ∧ Hid (Ask.OkTo l j) ∧ Hid (Below w.heap.size w wr))
      case atStart => exact ⟨0, by omega, rfl, Lib.hid (Ask.OkTo.zero l), HBC⟩
      case round =>
        clear d0 d1 d2 d3 d4 hcx0 HBC
        obtain ⟨j, hj, rfl, HO, HB⟩ := hrel
        by_cases hjn : j < 1
        · obtain ⟨y, hy⟩ : ∃ y, l[j]? = some y := ⟨_, List.getElem?_eq_getElem (by rw [← HN.out]; exact hjn)⟩
          obtain ⟨bl, off, rfl, hb, hat⟩ := HR.out (by omega)
          obtain ⟨ad', len', cap', c0, c1, c2, c3, c4, hyv⟩ := (AsksV.below HB.out l bl off hb hat).get hy
          have hbr : bl < wr.heap.size := Nat.lt_of_lt_of_le hb HB.out.size
          have hj1 : (0 : Int) ≤ (j : Int) := by omega
          have hj2 : (j : Int) < 1 := by omega
          have hs1 := Ask.sizes_at hy
          have HY := Lib.hid hy
          obtain ⟨E2, hE2⟩ : ∃ E, y.err = E := ⟨_, rfl⟩
          obtain ⟨k1, hk1⟩ : ∃ a, bts y.key = a := ⟨_, rfl⟩
          obtain ⟨k2, hk2⟩ : ∃ a, bts y.val = a := ⟨_, rfl⟩
          obtain ⟨k0, hk0⟩ : ∃ a, y.kind = a := ⟨_, rfl⟩
          obtain ⟨k3, hk3⟩ : ∃ a, y.num = a := ⟨_, rfl⟩
          rw [hk0] at c0 hyv
          rw [hk1] at c1 hyv
          rw [hk2] at c2 hyv
          rw [hk3] at c3 hyv
          obtain ⟨wx, hwx⟩ : ∃ wx, wx = wr.alloc (.cells #[.int .i64 k0, .string k1, .string k2, .int .i64 k3, .slice ad' len' cap'] 26) := ⟨_, rfl⟩
          have hb9 : Below wr.heap.size wr wx := by rw [hwx]; exact (Below.refl _ _).alloc (Nat.le_refl _) _
          have HBX : Hid (Below w.heap.size w wx) := Lib.hid (HB.out.trans (hb9.mono HB.out.size))
          have HC := Lib.hid (HIH.out y _ wx (by omega) (AskV.below hb9 _ _ hyv))
          rw [hE2] at HC
          have HE2 := Lib.hid hE2
          clear hat hy hyv hE2 hk0 hk1 hk2 hk3 hb9
          by_cases he : E2 = 0
          · have HQ := Lib.hid (HO.out.succ HY.out (HE2.out.trans he))
            subst he
            go_wp2_with fail
            rw [← hwx]
            refine Calls.mono HC.out ?_
            rintro e' W3 ⟨rfl, h1⟩
            have HB3 := Lib.hid (HBX.out.trans (h1.mono HBX.out.size))
            clear h1
            go_wp2_with fail
            go_roundg (1 - (j + 1))
            case measure => omega
            case rel => exact ⟨j + 1, by omega, by simp, HQ, HB3⟩
          · have HV : Hid (E2 = E) := Lib.hid (by rw [HER.out, HO.out.bad HY.out (by rw [HE2.out]; exact he), HE2.out])
            have he2 : (E2 != 0) = true := by simpa using he
            go_wp2_with fail
            rw [← hwx]
            refine Calls.mono HC.out ?_
            rintro e' W3 ⟨rfl, h1⟩
            have HB3 := Lib.hid (HBX.out.trans (h1.mono HBX.out.size))
            clear h1
            go_wp2_with fail
            go_ret
            exact ⟨ret_int HV.out, HB3.out⟩
        · obtain rfl : j = 1 := by omega
          have HV : Hid ((0 : Int) = E) := Lib.hid (by rw [HER.out]; exact (HO.out.fin (by rw [← HN.out]; exact Nat.le_refl _)).symm)
          go_wp2_with fail
          go_ret
          exact ⟨ret_int HV.out, HB.out⟩
    rcases hks with rfl | hks
    · have HKI : Hid (Ask.inner 5 = 2) := Lib.hid rfl
      go_enter Tryz.func74, Tryz.ntmps74
      go_wp2_with fail
      go_quiet (fail)
      go_upto_region 11 with fail
      obtain ⟨W0, hW0⟩ : ∃ W, W = (w.alloc (.cells #[.int .i64 5, .string a1, .string a2, .int .i64 nu, .slice ad n cap] 26)).drewN nq := ⟨_, rfl⟩
      have HBC : Hid (Below w.heap.size w W0) := Lib.hid (by rw [hW0]; exact below_drewN HB0.out _)
      obtain ⟨cx, hcx⟩ : ∃ c, c = w.heap.size := ⟨_, rfl⟩
      have hcx0 : cx < W0.heap.size := by rw [hcx, hW0]; simp <;> omega
      have d0 : W0.cell? ⟨cx, 0, none⟩ = some (.int .i64 5) := by rw [hcx, hW0]; simp
      have d1 : W0.cell? ⟨cx, 1, none⟩ = some (.string a1) := by rw [hcx, hW0]; simp
      have d2 : W0.cell? ⟨cx, 2, none⟩ = some (.string a2) := by rw [hcx, hW0]; simp
      have d3 : W0.cell? ⟨cx, 3, none⟩ = some (.int .i64 nu) := by rw [hcx, hW0]; simp
      have d4 : W0.cell? ⟨cx, 4, none⟩ = some (.slice ad n cap) := by rw [hcx, hW0]; simp
      rw [← hW0, ← hcx]
      clear hW0 hcx HB0
      by_cases hc : n ≠ 2
      · have HV : Hid ((1 : Int) = E) := Lib.hid (HEV.out 1 (by decide) (by rw [Ask.bad, if_neg HKR.out, if_pos (.inl hc)]))
        have hf : ((n : Int) != 2) = true := by simp; omega
        clear hc
        go_wp2_with fail
        go_ret
        exact ⟨ret_int HV.out, HBC.out⟩
      obtain rfl : n = 2 := Decidable.byContradiction hc
      clear hc
      by_cases hc : ka ≠ []
      · have HV : Hid ((1 : Int) = E) := Lib.hid (HEV.out 1 (by decide) (by rw [Ask.bad, if_neg HKR.out, if_pos (.inr (.inl ⟨by decide, hc⟩))]))
        have hg := isEmpty_no HA1.out hc
        clear hc
        go_wp2_with fail
        go_ret
        exact ⟨ret_int HV.out, HBC.out⟩
      have hka : ka = [] := Decidable.byContradiction hc
      clear hc
      obtain rfl := bts_nil HA1.out hka
      have HKA := Lib.hid hka
      clear hka
      by_cases hc : va ≠ []
      · have HV : Hid ((1 : Int) = E) := Lib.hid (HEV.out 1 (by decide) (by rw [Ask.bad, if_neg HKR.out, if_pos (.inr (.inr (.inl ⟨by decide, hc⟩)))]))
        have hg := isEmpty_no HA2.out hc
        clear hc
        go_wp2_with fail
        go_ret
        exact ⟨ret_int HV.out, HBC.out⟩
      have hva : va = [] := Decidable.byContradiction hc
      clear hc
      obtain rfl := bts_nil HA2.out hva
      have HVA := Lib.hid hva
      clear hva
      by_cases hc : nu ≠ 0
      · have HV : Hid ((1 : Int) = E) := Lib.hid (HEV.out 1 (by decide) (by rw [Ask.bad, if_neg HKR.out, if_pos (.inr (.inr (.inr ⟨by decide, hc⟩)))]))
        have hg : (nu != 0) = true := by simpa using hc
        clear hc
        go_wp2_with fail
        go_ret
        exact ⟨ret_int HV.out, HBC.out⟩
      obtain rfl : nu = 0 := Decidable.byContradiction hc
      clear hc
      have H1 : Hid (¬ ((2 : Nat) ≠ Ask.inner 5 ∨ ((4 : Int) ≤ 5 ∧ ka ≠ []) ∨ ((5 : Int) ≠ 2 ∧ va ≠ []) ∨ ((5 : Int) ≠ 3 ∧ (0 : Int) ≠ 0))) := Lib.hid (by
        rintro (h | ⟨h, h2⟩ | ⟨h, h2⟩ | ⟨h, h2⟩)
        · exact h rfl
        · exact h2 HKA.out
        · exact h2 HVA.out
        · exact h2 rfl)
      have H2 : Hid (¬ (((5 : Int) = 3 ∧ Ask.unit ka = false) ∨ (((5 : Int) = 1 ∨ (5 : Int) = 2) ∧ lab ka = false) ∨ ((5 : Int) = 2 ∧ lab va = false))) := Lib.hid (by
        rintro (⟨h, _⟩ | ⟨h, h3⟩ | ⟨h, h3⟩)
        · omega
        · omega
        · omega)
      have HZ : Hid (Ask.bad 5 ka va 0 2 = 0) := Lib.hid (by rw [Ask.bad, if_neg HKR.out, if_neg H1.out, if_neg H2.out, if_neg (by omega)])
      have HER : Hid (E = Ask.errs l) := Lib.hid (by rw [HE.out, if_neg (by rw [HZ.out]; decide)])
      go_wp2_with fail
      go_loopg [105] 2 (fun g x wr => ∃ j : Nat, j + g = 2 ∧ x = .int .i64 (j : Int) ∧ Hid (Ask.OkTo l j) ∧ Hid (Below w.heap.size w wr))
      case atStart => exact ⟨0, by omega, rfl, Lib.hid (Ask.OkTo.zero l), HBC⟩
      case round =>
        clear d0 d1 d2 d3 d4 hcx0 HBC
        obtain ⟨j, hj, rfl, HO, HB⟩ := hrel
        by_cases hjn : j < 2
        · obtain ⟨y, hy⟩ : ∃ y, l[j]? = some y := ⟨_, List.getElem?_eq_getElem (by rw [← HN.out]; exact hjn)⟩
          obtain ⟨bl, off, rfl, hb, hat⟩ := HR.out (by omega)
          obtain ⟨ad', len', cap', c0, c1, c2, c3, c4, hyv⟩ := (AsksV.below HB.out l bl off hb hat).get hy
          have hbr : bl < wr.heap.size := Nat.lt_of_lt_of_le hb HB.out.size
          have hj1 : (0 : Int) ≤ (j : Int) := by omega
          have hj2 : (j : Int) < 2 := by omega
          have hs1 := Ask.sizes_at hy
          have HY := Lib.hid hy
          obtain ⟨E2, hE2⟩ : ∃ E, y.err = E := ⟨_, rfl⟩
          obtain ⟨k1, hk1⟩ : ∃ a, bts y.key = a := ⟨_, rfl⟩
          obtain ⟨k2, hk2⟩ : ∃ a, bts y.val = a := ⟨_, rfl⟩
          obtain ⟨k0, hk0⟩ : ∃ a, y.kind = a := ⟨_, rfl⟩
          obtain ⟨k3, hk3⟩ : ∃ a, y.num = a := ⟨_, rfl⟩
          rw [hk0] at c0 hyv
          rw [hk1] at c1 hyv
          rw [hk2] at c2 hyv
          rw [hk3] at c3 hyv
          obtain ⟨wx, hwx⟩ : ∃ wx, wx = wr.alloc (.cells #[.int .i64 k0, .string k1, .string k2, .int .i64 k3, .slice ad' len' cap'] 26) := ⟨_, rfl⟩
          have hb9 : Below wr.heap.size wr wx := by rw [hwx]; exact (Below.refl _ _).alloc (Nat.le_refl _) _
          have HBX : Hid (Below w.heap.size w wx) := Lib.hid (HB.out.trans (hb9.mono HB.out.size))
          have HC := Lib.hid (HIH.out y _ wx (by omega) (AskV.below hb9 _ _ hyv))
          rw [hE2] at HC
          have HE2 := Lib.hid hE2
          clear hat hy hyv hE2 hk0 hk1 hk2 hk3 hb9
          by_cases he : E2 = 0
          · have HQ := Lib.hid (HO.out.succ HY.out (HE2.out.trans he))
            subst he
            go_wp2_with fail
            rw [← hwx]
            refine Calls.mono HC.out ?_
            rintro e' W3 ⟨rfl, h1⟩
            have HB3 := Lib.hid (HBX.out.trans (h1.mono HBX.out.size))
            clear h1
            go_wp2_with fail
            go_roundg (2 - (j + 1))
            case measure => omega
            case rel => exact ⟨j + 1, by omega, by simp, HQ, HB3⟩
          · have HV : Hid (E2 = E) := Lib.hid (by rw [HER.out, HO.out.bad HY.out (by rw [HE2.out]; exact he), HE2.out])
            have he2 : (E2 != 0) = true := by simpa using he
            go_wp2_with fail
            rw [← hwx]
            refine Calls.mono HC.out ?_
            rintro e' W3 ⟨rfl, h1⟩
            have HB3 := Lib.hid (HBX.out.trans (h1.mono HBX.out.size))
            clear h1
            go_wp2_with fail
            go_ret
            exact ⟨ret_int HV.out, HB3.out⟩
        · obtain rfl : j = 2 := by omega
          have HV : Hid ((0 : Int) = E) := Lib.hid (by rw [HER.out]; exact (HO.out.fin (by rw [← HN.out]; exact Nat.le_refl _)).symm)
          go_wp2_with fail
          go_ret
          exact ⟨ret_int HV.out, HB.out⟩
    obtain rfl := hks
    go_enter Tryz.func74, Tryz.ntmps74
    go_wp2_with fail
    go_quiet (fail)
    go_upto_region 11 with fail
    obtain ⟨W0, hW0⟩ : ∃ W, W = (w.alloc (.cells #[.int .i64 6, .string a1, .string a2, .int .i64 nu, .slice ad n cap] 26)).drewN nq := ⟨_, rfl⟩
    have HBC : Hid (Below w.heap.size w W0) := Lib.hid (by rw [hW0]; exact below_drewN HB0.out _)
    obtain ⟨cx, hcx⟩ : ∃ c, c = w.heap.size := ⟨_, rfl⟩
    have hcx0 : cx < W0.heap.size := by rw [hcx, hW0]; simp <;> omega
    have d0 : W0.cell? ⟨cx, 0, none⟩ = some (.int .i64 6) := by rw [hcx, hW0]; simp
    have d1 : W0.cell? ⟨cx, 1, none⟩ = some (.string a1) := by rw [hcx, hW0]; simp
    have d2 : W0.cell? ⟨cx, 2, none⟩ = some (.string a2) := by rw [hcx, hW0]; simp
    have d3 : W0.cell? ⟨cx, 3, none⟩ = some (.int .i64 nu) := by rw [hcx, hW0]; simp
    have d4 : W0.cell? ⟨cx, 4, none⟩ = some (.slice ad n cap) := by rw [hcx, hW0]; simp
    rw [← hW0, ← hcx]
    clear hW0 hcx HB0
    by_cases hc : n ≠ 2
    · have HV : Hid ((1 : Int) = E) := Lib.hid (HEV.out 1 (by decide) (by rw [Ask.bad, if_neg HKR.out, if_pos (.inl hc)]))
      have hf : ((n : Int) != 2) = true := by simp; omega
      clear hc
      go_wp2_with fail
      go_ret
      exact ⟨ret_int HV.out, HBC.out⟩
    obtain rfl : n = 2 := Decidable.byContradiction hc
    clear hc
    by_cases hc : ka ≠ []
    · have HV : Hid ((1 : Int) = E) := Lib.hid (HEV.out 1 (by decide) (by rw [Ask.bad, if_neg HKR.out, if_pos (.inr (.inl ⟨by decide, hc⟩))]))
      have hg := isEmpty_no HA1.out hc
      clear hc
      go_wp2_with fail
      go_ret
      exact ⟨ret_int HV.out, HBC.out⟩
    have hka : ka = [] := Decidable.byContradiction hc
    clear hc
    obtain rfl := bts_nil HA1.out hka
    have HKA := Lib.hid hka
    clear hka
    by_cases hc : va ≠ []
    · have HV : Hid ((1 : Int) = E) := Lib.hid (HEV.out 1 (by decide) (by rw [Ask.bad, if_neg HKR.out, if_pos (.inr (.inr (.inl ⟨by decide, hc⟩)))]))
      have hg := isEmpty_no HA2.out hc
      clear hc
      go_wp2_with fail
      go_ret
      exact ⟨ret_int HV.out, HBC.out⟩
    have hva : va = [] := Decidable.byContradiction hc
    clear hc
    obtain rfl := bts_nil HA2.out hva
    have HVA := Lib.hid hva
    clear hva
    by_cases hc : nu ≠ 0
    · have HV : Hid ((1 : Int) = E) := Lib.hid (HEV.out 1 (by decide) (by rw [Ask.bad, if_neg HKR.out, if_pos (.inr (.inr (.inr ⟨by decide, hc⟩)))]))
      have hg : (nu != 0) = true := by simpa using hc
      clear hc
      go_wp2_with fail
      go_ret
      exact ⟨ret_int HV.out, HBC.out⟩
    obtain rfl : nu = 0 := Decidable.byContradiction hc
    clear hc
    have H1 : Hid (¬ ((2 : Nat) ≠ Ask.inner 6 ∨ ((4 : Int) ≤ 6 ∧ ka ≠ []) ∨ ((6 : Int) ≠ 2 ∧ va ≠ []) ∨ ((6 : Int) ≠ 3 ∧ (0 : Int) ≠ 0))) := Lib.hid (by
      rintro (h | ⟨h, h2⟩ | ⟨h, h2⟩ | ⟨h, h2⟩)
      · exact h rfl
      · exact h2 HKA.out
      · exact h2 HVA.out
      · exact h2 rfl)
    have H2 : Hid (¬ (((6 : Int) = 3 ∧ Ask.unit ka = false) ∨ (((6 : Int) = 1 ∨ (6 : Int) = 2) ∧ lab ka = false) ∨ ((6 : Int) = 2 ∧ lab va = false))) := Lib.hid (by
      rintro (⟨h, _⟩ | ⟨h, h3⟩ | ⟨h, h3⟩)
      · omega
      · omega
      · omega)
    have HZ : Hid (Ask.bad 6 ka va 0 2 = 0) := Lib.hid (by rw [Ask.bad, if_neg HKR.out, if_neg H1.out, if_neg H2.out, if_neg (by omega)])
    have HER : Hid (E = Ask.errs l) := Lib.hid (by rw [HE.out, if_neg (by rw [HZ.out]; decide)])
    go_wp2_with fail
    go_loopg [105] 2 (fun g x wr => ∃ j : Nat, j + g = 2 ∧ x = .int .i64 (j : Int) ∧ Hid (Ask.OkTo l j) ∧ Hid (Below w.heap.size w wr))
    case atStart => exact ⟨0, by omega, rfl, Lib.hid (Ask.OkTo.zero l), HBC⟩
    case round =>
      clear d0 d1 d2 d3 d4 hcx0 HBC
      obtain ⟨j, hj, rfl, HO, HB⟩ := hrel
      by_cases hjn : j < 2
      · obtain ⟨y, hy⟩ : ∃ y, l[j]? = some y := ⟨_, List.getElem?_eq_getElem (by rw [← HN.out]; exact hjn)⟩
        obtain ⟨bl, off, rfl, hb, hat⟩ := HR.out (by omega)
        obtain ⟨ad', len', cap', c0, c1, c2, c3, c4, hyv⟩ := (AsksV.below HB.out l bl off hb hat).get hy
        have hbr : bl < wr.heap.size := Nat.lt_of_lt_of_le hb HB.out.size
        have hj1 : (0 : Int) ≤ (j : Int) := by omega
        have hj2 : (j : Int) < 2 := by omega
        have hs1 := Ask.sizes_at hy
        have HY := Lib.hid hy
        obtain ⟨E2, hE2⟩ : ∃ E, y.err = E := ⟨_, rfl⟩
        obtain ⟨k1, hk1⟩ : ∃ a, bts y.key = a := ⟨_, rfl⟩
        obtain ⟨k2, hk2⟩ : ∃ a, bts y.val = a := ⟨_, rfl⟩
        obtain ⟨k0, hk0⟩ : ∃ a, y.kind = a := ⟨_, rfl⟩
        obtain ⟨k3, hk3⟩ : ∃ a, y.num = a := ⟨_, rfl⟩
        rw [hk0] at c0 hyv
        rw [hk1] at c1 hyv
        rw [hk2] at c2 hyv
        rw [hk3] at c3 hyv
        obtain ⟨wx, hwx⟩ : ∃ wx, wx = wr.alloc (.cells #[.int .i64 k0, .string k1, .string k2, .int .i64 k3, .slice ad' len' cap'] 26) := ⟨_, rfl⟩
        have hb9 : Below wr.heap.size wr wx := by rw [hwx]; exact (Below.refl _ _).alloc (Nat.le_refl _) _
        have HBX : Hid (Below w.heap.size w wx) := Lib.hid (HB.out.trans (hb9.mono HB.out.size))
        have HC := Lib.hid (HIH.out y _ wx (by omega) (AskV.below hb9 _ _ hyv))
        rw [hE2] at HC
        have HE2 := Lib.hid hE2
        clear hat hy hyv hE2 hk0 hk1 hk2 hk3 hb9
        by_cases he : E2 = 0
        · have HQ := Lib.hid (HO.out.succ HY.out (HE2.out.trans he))
          subst he
          go_wp2_with fail
          rw [← hwx]
          refine Calls.mono HC.out ?_
          rintro e' W3 ⟨rfl, h1⟩
          have HB3 := Lib.hid (HBX.out.trans (h1.mono HBX.out.size))
          clear h1
          go_wp2_with fail
          go_roundg (2 - (j + 1))
          case measure => omega
          case rel => exact ⟨j + 1, by omega, by simp, HQ, HB3⟩
        · have HV : Hid (E2 = E) := Lib.hid (by rw [HER.out, HO.out.bad HY.out (by rw [HE2.out]; exact he), HE2.out])
          have he2 : (E2 != 0) = true := by simpa using he
          go_wp2_with fail
          rw [← hwx]
          refine Calls.mono HC.out ?_
          rintro e' W3 ⟨rfl, h1⟩
          have HB3 := Lib.hid (HBX.out.trans (h1.mono HBX.out.size))
          clear h1
          go_wp2_with fail
          go_ret
          exact ⟨ret_int HV.out, HB3.out⟩
      · obtain rfl : j = 2 := by omega
        have HV : Hid ((0 : Int) = E) := Lib.hid (by rw [HER.out]; exact (HO.out.fin (by rw [← HN.out]; exact Nat.le_refl _)).symm)
        go_wp2_with fail
        go_ret
        exact ⟨ret_int HV.out, HB.out⟩
theorem check_any (x : Ask) (v : Value) (w : World) (hv : AskV w x v) : Calls Tryz.prog 74 #[v] w fun e w' => e = .returned (.int .i64 x.err) ∧ Below w.heap.size w w' := check_all x.size x v w (Nat.le_refl _) hv
set_option maxRecDepth 20000 in
set_option maxHeartbeats 4000000 in
theorem askCheck_any (x : Ask) (v : Value) (w : World) (hs : x.size ≤ 1000000000) (hv : AskV w x v) : Calls Tryz.prog 40 #[v] w fun e w' => e = .returned (.int .i64 x.fault) ∧ Below w.heap.size w w' := by
  obtain ⟨s, hss⟩ : ∃ s, x.size = s := ⟨_, rfl⟩
  have HS := Lib.hid hss
  have hv2 := hv
  cases x with
  | mk k ka va nu l =>
  rw [AskV] at hv
  obtain ⟨ad, n, cap, rfl, hrest⟩ := hv
  clear hrest
  have hb9 : Below w.heap.size w (w.alloc (.cells #[.int .i64 k, .string (bts ka), .string (bts va), .int .i64 nu, .slice ad n cap] 26)) := (Below.refl _ _).alloc (Nat.le_refl _) _
  have HB9 := Lib.hid hb9
  have HCN := Lib.hid (count_any _ _ _ hs (AskV.below hb9 _ _ hv2))
  have HV2 := Lib.hid (AskV.below hb9 _ _ hv2)
  rw [hss] at HCN
  obtain ⟨x, hx⟩ : ∃ x, Ask.mk k ka va nu l = x := ⟨_, rfl⟩
  rw [hx] at HS HV2 ⊢
  obtain ⟨a1, ha1⟩ : ∃ a, bts ka = a := ⟨_, rfl⟩
  obtain ⟨a2, ha2⟩ : ∃ a, bts va = a := ⟨_, rfl⟩
  rw [ha1, ha2] at HB9 HCN HV2 ⊢
  clear hv2 hss hx hb9 ha1 ha2
  by_cases hbig : 60 < s
  · have HV : Hid ((2 : Int) = x.fault) := Lib.hid (by rw [Ask.fault, if_pos (by rw [HS.out]; exact hbig)])
    have hb : (s : Int) > 60 := by omega
    go_enter Tryz.func40, Tryz.ntmps40
    go_wp2_with fail
    refine Calls.mono HCN.out ?_
    rintro e' W3 ⟨rfl, h1⟩
    have HB3 := Lib.hid (HB9.out.trans (h1.mono HB9.out.size))
    clear h1
    go_wp2_with fail
    go_ret
    exact ⟨ret_int HV.out, HB3.out⟩
  · have HV : Hid (x.err = x.fault) := Lib.hid (by rw [Ask.fault, if_neg (by rw [HS.out]; exact hbig)])
    have hb : ¬ (s : Int) > 60 := by omega
    go_enter Tryz.func40, Tryz.ntmps40
    go_wp2_with fail
    refine Calls.mono HCN.out ?_
    rintro e' W3 ⟨rfl, h1⟩
    have HB3 := Lib.hid (HB9.out.trans (h1.mono HB9.out.size))
    have HC2 := Lib.hid (check_any x _ W3 (AskV.below h1 _ _ HV2.out))
    have d0 : W3.cell? ⟨w.heap.size, 0, none⟩ = some (.int .i64 k) := (h1.cell (p := ⟨w.heap.size, 0, none⟩) (by simp)).trans (by simp)
    have d1 : W3.cell? ⟨w.heap.size, 1, none⟩ = some (.string a1) := (h1.cell (p := ⟨w.heap.size, 1, none⟩) (by simp)).trans (by simp)
    have d2 : W3.cell? ⟨w.heap.size, 2, none⟩ = some (.string a2) := (h1.cell (p := ⟨w.heap.size, 2, none⟩) (by simp)).trans (by simp)
    have d3 : W3.cell? ⟨w.heap.size, 3, none⟩ = some (.int .i64 nu) := (h1.cell (p := ⟨w.heap.size, 3, none⟩) (by simp)).trans (by simp)
    have d4 : W3.cell? ⟨w.heap.size, 4, none⟩ = some (.slice ad n cap) := (h1.cell (p := ⟨w.heap.size, 4, none⟩) (by simp)).trans (by simp)
    clear h1
    go_wp2_with fail
    refine Calls.mono HC2.out ?_
    rintro e' W4 ⟨rfl, h1⟩
    have HB4 := Lib.hid (HB3.out.trans (h1.mono HB3.out.size))
    clear h1
    go_wp2_with fail
    go_ret
    exact ⟨ret_int HV.out, HB4.out⟩
end Go.Proofs.YtkemlckmfgacdaaGreatDoor
/- Plain: what a good ask holds of; a row's asks, their cells named. -/
namespace Go.Proofs.YtkemlckmfgacdaaGreatDoor
open Go.ChangeShapes Go.WideShapes Go.ChangeAt Go.RowKit
set_option linter.unusedVariables false
open Tp
namespace Ask
theorem err_zero {k : Int} {a b : Bs} {n : Int} {l : List Ask} (h : err (mk k a b n l) = 0) : bad k a b n l.length = 0 ∧ errs l = 0 := by
  rw [err] at h
  split at h
  · rename_i h2; exact absurd h h2
  · rename_i h2; exact ⟨Decidable.byContradiction h2, h⟩
theorem errs_at {l : List Ask} {i : Nat} {x : Ask} (h : errs l = 0) (hx : l[i]? = some x) : err x = 0 := by
  induction l generalizing i with
  | nil => simp at hx
  | cons y l ih =>
    rw [errs] at h
    split at h
    · rename_i h2; exact absurd h h2
    · rename_i h2
      cases i with
      | zero => simp at hx; subst hx; exact Decidable.byContradiction h2
      | succ i => exact ih (i := i) h (by simpa using hx)
theorem bad_zero {k : Int} {a b : Bs} {n : Int} {len : Nat} (h : bad k a b n len = 0) : 1 ≤ k ∧ k ≤ 6 ∧ len = inner k ∧ (k ≠ 3 → n = 0) ∧ 0 ≤ n ∧ n ≤ 1099511627776 ∧ (4 ≤ k → a = []) ∧ (k ≠ 2 → b = []) ∧ (k = 3 → unit a = true) ∧ (k = 1 ∨ k = 2 → lab a = true) ∧ (k = 2 → lab b = true) := by
  unfold bad at h
  split at h
  · cases h
  rename_i h1
  split at h
  · cases h
  rename_i h2
  split at h
  · cases h
  rename_i h3
  split at h
  · cases h
  rename_i h4
  have g1 : len = inner k := Decidable.byContradiction fun e => h2 (.inl e)
  have g2 : 4 ≤ k → a = [] := fun e => Decidable.byContradiction fun e2 => h2 (.inr (.inl ⟨e, e2⟩))
  have g3 : k ≠ 2 → b = [] := fun e => Decidable.byContradiction fun e2 => h2 (.inr (.inr (.inl ⟨e, e2⟩)))
  have g4 : k ≠ 3 → n = 0 := fun e => Decidable.byContradiction fun e2 => h2 (.inr (.inr (.inr ⟨e, e2⟩)))
  have g5 : k = 3 → unit a = true := fun e => by
    cases hu : unit a with
    | true => rfl
    | false => exact absurd (.inl ⟨e, hu⟩) h3
  have g6 : k = 1 ∨ k = 2 → lab a = true := fun e => by
    cases hu : lab a with
    | true => rfl
    | false => exact absurd (.inr (.inl ⟨e, hu⟩)) h3
  have g7 : k = 2 → lab b = true := fun e => by
    cases hu : lab b with
    | true => rfl
    | false => exact absurd (.inr (.inr ⟨e, hu⟩)) h3
  exact ⟨by omega, by omega, g1, g4, by omega, by omega, g2, g3, g5, g6, g7⟩
end Ask
/-- cells of a row's asks, named -/
theorem AsksV.get' {w : World} {l : List Ask} {b off i : Nat} {x : Ask} (h : AsksV w l b off) (hx : l[i]? = some x) : ∃ (k0 : Int) (k1 k2 : ByteArray) (k3 : Int) (ad : Option Addr) (len cap : Nat), w.cell? ⟨b, off + i * 5, none⟩ = some (.int .i64 k0) ∧ w.cell? ⟨b, off + i * 5 + 1, none⟩ = some (.string k1) ∧ w.cell? ⟨b, off + i * 5 + 2, none⟩ = some (.string k2) ∧ w.cell? ⟨b, off + i * 5 + 3, none⟩ = some (.int .i64 k3) ∧ w.cell? ⟨b, off + i * 5 + 4, none⟩ = some (.slice ad len cap) ∧ AskV w x (.agg #[.int .i64 k0, .string k1, .string k2, .int .i64 k3, .slice ad len cap]) := by
  obtain ⟨ad, len, cap, h0, h1, h2, h3, h4, h5⟩ := h.get hx
  exact ⟨_, _, _, _, ad, len, cap, h0, h1, h2, h3, h4, h5⟩
end Go.Proofs.YtkemlckmfgacdaaGreatDoor
/- Plain: a word up to a sign, by its index; how long the text of a good ask is; the reader's count never grows. -/
namespace Go.Proofs.YtkemlckmfgacdaaGreatDoor.Ar
open Go.Proofs.YtkemlckmfgacdaaGreatDoor.Tp
set_option linter.unusedVariables false
/-- the signs -/
def signs : Bs := [63, 61, 62, 33, 40, 41, 38, 124]
theorem sgn_signs (c : UInt8) : signs.contains c = sgn c := by
  unfold signs sgn
  simp only [List.contains_cons, List.contains_nil, Bool.or_false, Bool.or_assoc]
theorem index_word : ∀ s : Bs, Lib.indexAny s signs = if rest s = [] then -1 else ((word s).length : Int)
  | [] => rfl
  | c :: s => by
    rw [Lib.indexAny, sgn_signs]
    have ih := index_word s
    cases h : sgn c with
    | true =>
      have e1 : rest (c :: s) = c :: s := by unfold rest; simp [List.dropWhile, h]
      have e2 : word (c :: s) = [] := by unfold word; simp [List.takeWhile, h]
      rw [e1, e2]; simp
    | false =>
      have e1 : rest (c :: s) = rest s := by unfold rest; simp [List.dropWhile, h]
      have e2 : word (c :: s) = c :: word s := by unfold word; simp [List.takeWhile, h]
      rw [e1, e2, ih]
      by_cases h0 : rest s = []
      · simp [h0]
      · rw [if_neg h0, if_neg h0]
        have : ((word s).length : Int) ≠ -1 := by omega
        simp [this]
theorem word_rest (s : Bs) : word s ++ rest s = s := List.takeWhile_append_dropWhile
theorem word_take (s : Bs) : s.take (word s).length = word s ∧ s.drop (word s).length = rest s := by
  have h := word_rest s
  obtain ⟨a, ha⟩ : ∃ a, word s = a := ⟨_, rfl⟩
  obtain ⟨b, hb⟩ : ∃ a, rest s = a := ⟨_, rfl⟩
  rw [ha, hb] at h ⊢
  subst h
  exact ⟨List.take_left' rfl, List.drop_left' rfl⟩
theorem word_all {s : Bs} (h : rest s = []) : word s = s := by
  have := word_rest s
  rw [h, List.append_nil] at this; exact this
theorem word_len (s : Bs) : (word s).length ≤ s.length := by
  have := congrArg List.length (word_rest s)
  rw [List.length_append] at this; omega
theorem rest_len (s : Bs) : (rest s).length ≤ s.length := by
  have := congrArg List.length (word_rest s)
  rw [List.length_append] at this; omega
/-- around the first c at the front -/
def takeB (c : UInt8) : Bs → Option Bs
  | [] => none
  | x :: t => if x = c then some t else none
theorem askP_less : ∀ (N left : Nat) (s : Bs) (x : Ask) (r : Bs) (l : Nat), askP N left s = some (x, r, l) → l < left ∧ r.length ≤ s.length ∧ x.size ≤ left - l
  | 0, left, s, x, r, l, h => by simp [askP] at h
  | N + 1, left, s, x, r, l, h => by
    unfold askP at h
    split at h
    · cases h
    rename_i h0
    split at h
    · rename_i t
      cases h
      have := rest_len t
      exact ⟨by omega, by simp; omega, by simp [Ask.size, Ask.sizes]; omega⟩
    · rename_i t
      split at h
      · cases h
      · rename_i y r' l' hy
        cases h
        obtain ⟨h1, h2, h3⟩ := askP_less N _ _ _ _ _ hy
        exact ⟨by omega, by simp; omega, by simp [Ask.size, Ask.sizes]; omega⟩
    · rename_i t
      split at h
      · cases h
      · rename_i a r' l' ha
        obtain ⟨h1, h2, h3⟩ := askP_less N _ _ _ _ _ ha
        split at h
        · rename_i r2
          split at h
          · rename_i b r3 l3 hb
            cases h
            obtain ⟨g1, g2, g3⟩ := askP_less N _ _ _ _ _ hb
            simp at h2 g2
            exact ⟨by omega, by simp; omega, by simp [Ask.size, Ask.sizes]; omega⟩
          · cases h
        · rename_i r2
          split at h
          · rename_i b r3 l3 hb
            cases h
            obtain ⟨g1, g2, g3⟩ := askP_less N _ _ _ _ _ hb
            simp at h2 g2
            exact ⟨by omega, by simp; omega, by simp [Ask.size, Ask.sizes]; omega⟩
          · cases h
        · cases h
    · split at h
      · rename_i t ht
        split at h
        · cases h
          have h1 := rest_len s
          have h2 := rest_len t
          rw [ht] at h1
          simp at h1
          exact ⟨by omega, by omega, by simp [Ask.size, Ask.sizes]; omega⟩
        · cases h
      · rename_i t ht
        cases h
        have h1 := rest_len s
        have h2 := rest_len t
        rw [ht] at h1
        simp at h1
        exact ⟨by omega, by omega, by simp [Ask.size, Ask.sizes]; omega⟩
      · cases h
end Go.Proofs.YtkemlckmfgacdaaGreatDoor.Ar
/- Contracts: what is needed, its parts, and whether it is good; the program's and the document's. -/
namespace Go.Proofs.YtkemlckmfgacdaaGreatDoor
open Go.ChangeShapes Go.WideShapes Go.ChangeAt Go.RowKit
set_option linter.unusedVariables false

/-- are the three amounts in their bounds? -/
def needB (c m g : Int) : Bool := decide ((0 ≤ c ∧ c ≤ 1099511627776) ∧ (0 ≤ m ∧ m ≤ 1099511627776) ∧ (0 ≤ g ∧ g ≤ 1099511627776))
def needE (c m g : Int) : Int := if needB c m g then 0 else 4
theorem needB_yes {c m g : Int} (h : needB c m g = true) : (0 ≤ c ∧ c ≤ 1099511627776) ∧ (0 ≤ m ∧ m ≤ 1099511627776) ∧ (0 ≤ g ∧ g ≤ 1099511627776) := by simpa [needB] using h
theorem needB_no {c m g : Int} (h : needB c m g = false) : (c < 0 ∨ 1099511627776 < c) ∨ (m < 0 ∨ 1099511627776 < m) ∨ (g < 0 ∨ 1099511627776 < g) := by simp [needB] at h; omega

theorem parts_any (b : Nat) (w : World) : Calls Tryz.prog 68 #[.pointer (some ⟨b, 0, none⟩)] w fun e w' =>
    e = .returned (.slice (some ⟨w.heap.size, 0, none⟩) 3 3) ∧ w' = (w.alloc (.cells #[.string ⟨#[99, 112, 117]⟩, .pointer (some ⟨b, 0, none⟩), .string ⟨#[109, 101, 109]⟩, .pointer (some ⟨b, 1, none⟩), .string ⟨#[103, 112, 117]⟩, .pointer (some ⟨b, 2, none⟩)] 107)).drew := by
  go_enter Tryz.func68, Tryz.ntmps68
  go_wp2
  go_region
  go_wp2
  go_ret
  exact ⟨rfl, rfl⟩

theorem needB_split {c m g : Int} (h : needB c m g = false) : (c < 0 ∨ (0 ≤ c ∧ 1099511627776 < c)) ∨ ((0 ≤ c ∧ c ≤ 1099511627776) ∧ (m < 0 ∨ (0 ≤ m ∧ 1099511627776 < m))) ∨ ((0 ≤ c ∧ c ≤ 1099511627776) ∧ (0 ≤ m ∧ m ≤ 1099511627776) ∧ (g < 0 ∨ (0 ≤ g ∧ 1099511627776 < g))) := by
  have := needB_no h
  omega
set_option maxHeartbeats 1000000 in
theorem Check_any (c m g : Int) (w : World) : Calls Tryz.prog 39 #[.agg #[.int .i64 c, .int .i64 m, .int .i64 g]] w fun e w' => e = .returned (.int .i64 (needE c m g)) ∧ Below w.heap.size w w' := by
  cases hb : needB c m g with
  | true =>
    obtain ⟨⟨c1, c2⟩, ⟨m1, m2⟩, g1, g2⟩ := needB_yes hb
    have HE := Lib.hid (show 0 = needE c m g from by simp [needE, hb])
    clear hb
    go_enter Tryz.func39, Tryz.ntmps39
    go_wp2_with (go_at_call 68; refine (parts_any _ _).mono ?_; rintro e w' ⟨rfl, rfl⟩)
    go_rounds 4
    go_wp2
    go_ret
    exact ⟨ret_int HE.out, by go_grown⟩
  | false =>
    have HN := needB_split hb
    have HE := Lib.hid (show 4 = needE c m g from by simp [needE, hb])
    clear hb
    rcases HN with (h1 | ⟨h1, h2⟩) | ⟨⟨c1, c2⟩, h1 | ⟨h1, h2⟩⟩ | ⟨⟨c1, c2⟩, ⟨m1, m2⟩, h1 | ⟨h1, h2⟩⟩
    all_goals
      go_enter Tryz.func39, Tryz.ntmps39
      go_wp2_with (go_at_call 68; refine (parts_any _ _).mono ?_; rintro e w' ⟨rfl, rfl⟩)
    · go_rounds 1
      go_ret
      exact ⟨ret_int HE.out, by go_grown⟩
    · go_rounds 1
      go_ret
      exact ⟨ret_int HE.out, by go_grown⟩
    · go_rounds 2
      go_ret
      exact ⟨ret_int HE.out, by go_grown⟩
    · go_rounds 2
      go_ret
      exact ⟨ret_int HE.out, by go_grown⟩
    · go_rounds 3
      go_ret
      exact ⟨ret_int HE.out, by go_grown⟩
    · go_rounds 3
      go_ret
      exact ⟨ret_int HE.out, by go_grown⟩

/-- the document's amounts -/
theorem amounts_any (c m g : Int) (w : World) : Calls Tryz.prog 70 #[.agg #[.int .i64 c, .int .i64 m, .int .i64 g]] w fun e w' => e = .returned (.agg #[.int .i64 c, .int .i64 m, .int .i64 g]) ∧ Below w.heap.size w w' := by
  go_enter Tryz.func70, Tryz.ntmps70
  go_wp2
  refine bodyPost_ret (v := .agg #[.int .i64 c, .int .i64 m, .int .i64 g]) (by simp [results, Tryz.results70, go_sem]) rfl ⟨rfl, ?_⟩
  go_grown

theorem idx3 (c m g : Int) : (∀ w : World, (Instr.index 112 (.agg #[.int .i64 c, .int .i64 m, .int .i64 g]) (.int .i64 0)).run Tryz.prog w = .ok (.int .i64 c) w) ∧ (∀ w : World, (Instr.index 112 (.agg #[.int .i64 c, .int .i64 m, .int .i64 g]) (.int .i64 1)).run Tryz.prog w = .ok (.int .i64 m) w) ∧ (∀ w : World, (Instr.index 112 (.agg #[.int .i64 c, .int .i64 m, .int .i64 g]) (.int .i64 2)).run Tryz.prog w = .ok (.int .i64 g) w) :=
  ⟨fun _ => by kernel_rfl, fun _ => by kernel_rfl, fun _ => by kernel_rfl⟩
set_option maxHeartbeats 1000000 in
theorem needFault_any (c m g : Int) (w : World) : Calls Tryz.prog 36 #[.agg #[.int .i64 c, .int .i64 m, .int .i64 g]] w fun e w' => e = .returned (.int .i64 (needE c m g)) ∧ Below w.heap.size w w' := by
  obtain ⟨i0, i1, i2⟩ := idx3 c m g
  cases hb : needB c m g with
  | true =>
    obtain ⟨⟨c1, c2⟩, ⟨m1, m2⟩, g1, g2⟩ := needB_yes hb
    have HE := Lib.hid (show 0 = needE c m g from by simp [needE, hb])
    clear hb
    go_enter Tryz.func36, Tryz.ntmps36
    go_wp2_with (go_at_call 70; refine (amounts_any _ _ _ _).mono ?_; rintro e w1 ⟨rfl, hB⟩; have hB1 : Below w.heap.size w w1 := (show Below w.heap.size w (w.alloc _) by go_grown).trans (hB.mono (by simp)); clear hB)
    go_rounds 4
    go_wp2
    go_ret
    exact ⟨ret_int HE.out, by go_grown⟩
  | false =>
    have HN := needB_split hb
    have HE := Lib.hid (show 4 = needE c m g from by simp [needE, hb])
    clear hb
    rcases HN with (h1 | ⟨h1, h2⟩) | ⟨⟨c1, c2⟩, h1 | ⟨h1, h2⟩⟩ | ⟨⟨c1, c2⟩, ⟨m1, m2⟩, h1 | ⟨h1, h2⟩⟩
    all_goals
      go_enter Tryz.func36, Tryz.ntmps36
      go_wp2_with (go_at_call 70; refine (amounts_any _ _ _ _).mono ?_; rintro e w1 ⟨rfl, hB⟩; have hB1 : Below w.heap.size w w1 := (show Below w.heap.size w (w.alloc _) by go_grown).trans (hB.mono (by simp)); clear hB)
    · go_rounds 1
      go_ret
      exact ⟨ret_int HE.out, by go_grown⟩
    · go_rounds 1
      go_ret
      exact ⟨ret_int HE.out, by go_grown⟩
    · go_rounds 2
      go_ret
      exact ⟨ret_int HE.out, by go_grown⟩
    · go_rounds 2
      go_ret
      exact ⟨ret_int HE.out, by go_grown⟩
    · go_rounds 3
      go_ret
      exact ⟨ret_int HE.out, by go_grown⟩
    · go_rounds 3
      go_ret
      exact ⟨ret_int HE.out, by go_grown⟩
end Go.Proofs.YtkemlckmfgacdaaGreatDoor
/- Plain: a job; its faults; its text; how it is read, by whatever way to read a number and an ask; that two such ways tell the same. -/
namespace Go.Proofs.YtkemlckmfgacdaaGreatDoor.Jm
open Go.Proofs.YtkemlckmfgacdaaGreatDoor.Tp
open Go.Proofs.YtkemlckmfgacdaaGreatDoor.Nt (dec dec_val dec_ne dec_len isD decI pcs pcs_none pcs_hit pcs_join joinC V3 needText intOf intOf_dec val parseM digs)
set_option linter.unusedVariables false
structure Jb where
  user : Bs
  prio : Int
  a : Int
  b : Int
  c : Int
  ask : Ask
  after : List Int
/-- what is wrong with a row of numbers: each is above the one ahead of it -/
def aftE : Int → List Int → Int
  | _, [] => 0
  | last, n :: l => if n < 1 ∨ 60 < n then 4 else if n ≤ last then 6 else aftE n l
def Jb.fault (j : Jb) : Int := if lab j.user = false then 3 else if j.prio < -1000 ∨ 1000 < j.prio then 4 else if needE j.a j.b j.c ≠ 0 then needE j.a j.b j.c else if j.ask.fault ≠ 0 then j.ask.fault else if 8 < j.after.length then 2 else aftE 0 j.after
def aftT (l : List Int) : Bs := if l = [] then [45] else joinC (l.map decI)
def Jb.text (j : Jb) : Bs := j.user ++ 32 :: (decI j.prio ++ 32 :: (needText (j.a.toNat, j.b.toNat, j.c.toNat) ++ 32 :: (aftT j.after ++ 32 :: Ar.txt j.ask)))
/-- what is needed, out of its text -/
def nd (s : Bs) : Option V3 := match Nt.own (Nt.readR s) s with
  | some v => if needB v.1 v.2.1 v.2.2 then some v else none
  | none => none
def nums (num : Bs → Option Int) : List Bs → Option (List Int)
  | [] => some []
  | x :: l => match num x with
    | none => none
    | some n => match nums num l with
      | none => none
      | some r => some (n :: r)
def aftR (num : Bs → Option Int) (s : Bs) : Option (List Int) := if s = [45] then some [] else nums num (pcs 44 s)
/-- the five pieces, read -/
def parse5 (num : Bs → Option Int) (askr : Bs → Option Ask) (u p n f x : Bs) : Option Jb := match num p, nd n, askr x with
  | some q, some v, some a => match aftR num f with
    | some l => some ⟨u, q, v.1, v.2.1, v.2.2, a, l⟩
    | none => none
  | _, _, _ => none
def parse (num : Bs → Option Int) (askr : Bs → Option Ask) (s : Bs) : Option Jb := match pcs 32 s with
  | [u, p, n, f, x] => parse5 num askr u p n f x
  | _ => none
/-- what is read, if it is right and its text is the text -/
def own (o : Option Jb) (s : Bs) : Option Jb := match o with
  | some j => if j.fault = 0 ∧ j.text = s then some j else none
  | none => none
theorem fault_parts {j : Jb} (h : j.fault = 0) : lab j.user = true ∧ (-1000 ≤ j.prio ∧ j.prio ≤ 1000) ∧ needB j.a j.b j.c = true ∧ j.ask.fault = 0 ∧ j.after.length ≤ 8 ∧ aftE 0 j.after = 0 := by
  unfold Jb.fault at h
  split at h
  · cases h
  rename_i h1
  split at h
  · cases h
  rename_i h2
  split at h
  · rename_i h3; exact absurd h h3
  rename_i h3
  split at h
  · rename_i h4; exact absurd h h4
  rename_i h4
  split at h
  · cases h
  rename_i h5
  refine ⟨by simpa using h1, by omega, ?_, by simpa using h4, by omega, h⟩
  cases hn : needB j.a j.b j.c with
  | true => rfl
  | false => exact absurd (by unfold needE; rw [hn]; rfl : needE j.a j.b j.c = 4) (by simpa using fun e => h3 (by rw [e]; decide))
theorem aftE_at : ∀ (l : List Int) (last : Int), aftE last l = 0 → ∀ n, n ∈ l → 1 ≤ n ∧ n ≤ 60
  | [], _, _, n, h => by cases h
  | m :: l, last, h, n, hn => by
    rw [aftE] at h
    split at h
    · cases h
    rename_i h1
    split at h
    · cases h
    rcases List.mem_cons.1 hn with rfl | hn
    · omega
    · exact aftE_at l m h n hn
theorem isD_ne {c d : UInt8} (h : isD c) (hd : d.toNat < 48 ∨ 57 < d.toNat) : c ≠ d := fun e => by subst e; unfold isD at h; omega
theorem decI_ch {n : Int} : ∀ c, c ∈ decI n → isD c ∨ c = 45 := fun c hc => by
  unfold decI at hc
  split at hc
  · rcases List.mem_cons.1 hc with rfl | hc
    · exact .inr rfl
    · exact .inl ((dec_val (n.natAbs + 1) n.natAbs (by omega)).2 c hc)
  · exact .inl ((dec_val (n.toNat + 1) n.toNat (by omega)).2 c hc)
theorem decI_pos {n : Int} (h : 0 ≤ n) : ∀ c, c ∈ decI n → isD c := fun c hc => by
  unfold decI at hc
  rw [if_neg (by omega)] at hc
  exact (dec_val (n.toNat + 1) n.toNat (by omega)).2 c hc
theorem decI_ne (n : Int) : decI n ≠ [] := by
  unfold decI
  split
  · simp
  · exact dec_ne _
theorem decI_no {n : Int} {d : UInt8} (hd : d = 32 ∨ d = 44) : ∀ c, c ∈ decI n → c ≠ d := fun c hc => by
  rcases decI_ch c hc with h | h
  · exact isD_ne h (by rcases hd with rfl | rfl <;> decide)
  · subst h; rcases hd with rfl | rfl <;> decide
theorem joinC_ch {P : UInt8 → Prop} (h44 : P 44) : ∀ l : List Bs, (∀ t, t ∈ l → ∀ c, c ∈ t → P c) → ∀ c, c ∈ joinC l → P c
  | [], _, c, hc => by cases hc
  | [x], h, c, hc => h x (by simp) c hc
  | x :: y :: l, h, c, hc => by
    rw [joinC, List.mem_append, List.mem_cons] at hc
    rcases hc with hc | rfl | hc
    · exact h x (by simp) c hc
    · exact h44
    · exact joinC_ch h44 (y :: l) (fun t ht => h t (by simp at ht ⊢; exact .inr ht)) c hc
theorem labC_no32 {c : UInt8} (h : labC c = true) : c ≠ 32 := fun e => by subst e; exact absurd h (by decide)
theorem lab_no32 {s : Bs} (h : lab s = true) : ∀ c, c ∈ s → c ≠ 32 := by
  cases s with
  | nil => intro c hc; cases hc
  | cons x s =>
    unfold lab at h
    simp only [Bool.and_eq_true] at h
    intro c hc
    rcases List.mem_cons.1 hc with rfl | hc
    · exact labC_no32 (by unfold labC; rw [h.1.1]; rfl)
    · exact labC_no32 (List.all_eq_true.1 h.1.2 c hc)
theorem unit_no32 {s : Bs} (h : Ask.unit s = true) : ∀ c, c ∈ s → c ≠ 32 := by
  unfold Ask.unit at h
  simp only [Bool.or_eq_true, decide_eq_true_eq] at h
  rcases h with (h | h) | h <;> subst h <;> decide
theorem dec_no32 (u : Nat) : ∀ c, c ∈ dec u → c ≠ 32 := fun c hc => isD_ne ((dec_val (u + 1) u (by omega)).2 c hc) (by decide)
theorem txt_no32 {x : Ask} (hx : Ar.Good x) : ∀ c, c ∈ Ar.txt x → c ≠ 32 := by
  induction hx with
  | @has a h =>
    intro c hc
    rw [show Ar.txt (.mk 1 a [] 0 []) = 63 :: a by simp [Ar.txt]] at hc
    rcases List.mem_cons.1 hc with rfl | hc
    · decide
    · exact lab_no32 h c hc
  | @is a b h h2 =>
    intro c hc
    rw [show Ar.txt (.mk 2 a b 0 []) = a ++ 61 :: b by simp [Ar.txt], List.mem_append, List.mem_cons] at hc
    rcases hc with hc | rfl | hc
    · exact lab_no32 h c hc
    · decide
    · exact lab_no32 h2 c hc
  | @more a n h h0 h1 =>
    intro c hc
    rw [show Ar.txt (.mk 3 a [] n []) = a ++ 62 :: 61 :: dec n.toNat by simp [Ar.txt], List.mem_append, List.mem_cons, List.mem_cons] at hc
    rcases hc with hc | rfl | rfl | hc
    · exact unit_no32 h c hc
    · decide
    · decide
    · exact dec_no32 _ c hc
  | @not y h ih =>
    intro c hc
    rw [Ar.txt4] at hc
    rcases List.mem_cons.1 hc with rfl | hc
    · decide
    · exact ih c hc
  | @and x y h h2 ihx ihy =>
    intro c hc
    rw [Ar.txt5] at hc
    simp only [List.mem_cons, List.mem_append, List.not_mem_nil, or_false] at hc
    rcases hc with rfl | hc | rfl | hc | rfl
    · decide
    · exact ihx c hc
    · decide
    · exact ihy c hc
    · decide
  | @or x y h h2 ihx ihy =>
    intro c hc
    rw [Ar.txt6] at hc
    simp only [List.mem_cons, List.mem_append, List.not_mem_nil, or_false] at hc
    rcases hc with rfl | hc | rfl | hc | rfl
    · decide
    · exact ihx c hc
    · decide
    · exact ihy c hc
    · decide
theorem ent_no32 {n : Bs} {u : Nat} (h : ∀ c, c ∈ n → c ≠ 32) : ∀ t, t ∈ Nt.ent n u → ∀ c, c ∈ t → c ≠ 32 := fun t ht c hc => by
  unfold Nt.ent at ht
  split at ht
  · cases ht
  · simp only [List.mem_singleton] at ht
    subst ht
    rw [List.mem_append, List.mem_cons] at hc
    rcases hc with hc | rfl | hc
    · exact h c hc
    · decide
    · exact dec_no32 u c hc
theorem need_no32 (v : V3) : ∀ c, c ∈ needText v → c ≠ 32 := by
  unfold needText
  split
  · intro c hc; simp at hc; subst hc; decide
  · refine joinC_ch (by decide) _ (fun t ht => ?_)
    unfold Nt.ents at ht
    rw [List.mem_append, List.mem_append] at ht
    rcases ht with (ht | ht) | ht
    · exact ent_no32 (by decide) t ht
    · exact ent_no32 (by decide) t ht
    · exact ent_no32 (by decide) t ht
theorem aft_no32 (l : List Int) : ∀ c, c ∈ aftT l → c ≠ 32 := by
  unfold aftT
  split
  · intro c hc; simp at hc; subst hc; decide
  · refine joinC_ch (by decide) _ (fun t ht => ?_)
    obtain ⟨n, _, rfl⟩ := List.mem_map.1 ht
    exact decI_no (.inl rfl)
theorem text_pcs {j : Jb} (h : j.fault = 0) : pcs 32 j.text = [j.user, decI j.prio, needText (j.a.toNat, j.b.toNat, j.c.toNat), aftT j.after, Ar.txt j.ask] := by
  obtain ⟨h1, _, _, h4, _, _⟩ := fault_parts h
  unfold Jb.text
  rw [pcs_hit (lab_no32 h1), pcs_hit (decI_no (.inl rfl)), pcs_hit (need_no32 _), pcs_hit (aft_no32 _), pcs_none (txt_no32 (Ar.fault_good h4).1)]
theorem nd_text {a b c : Int} (h : needB a b c = true) : nd (needText (a.toNat, b.toNat, c.toNat)) = some (a.toNat, b.toNat, c.toNat) := by
  obtain ⟨h1, h2, h3⟩ := needB_yes h
  have hc : Nt.Can (a.toNat, b.toNat, c.toNat) := ⟨by show a.toNat < _; omega, by show b.toNat < _; omega, by show c.toNat < _; omega⟩
  unfold nd
  rw [Nt.readR_text hc]
  unfold Nt.own
  simp only [if_true]
  rw [show ((a.toNat : Nat) : Int) = a by omega, show ((b.toNat : Nat) : Int) = b by omega, show ((c.toNat : Nat) : Int) = c by omega, h]
  rfl
theorem nums_map {num : Bs → Option Int} : ∀ l : List Int, (∀ n, n ∈ l → num (decI n) = some n) → nums num (l.map decI) = some l
  | [], _ => rfl
  | n :: l, h => by
    rw [List.map_cons, nums, h n (by simp)]
    simp only
    rw [nums_map l (fun m hm => h m (by simp [hm]))]
theorem aftR_text {num : Bs → Option Int} {l : List Int} (h0 : ∀ n, n ∈ l → 1 ≤ n) (h : ∀ n, n ∈ l → num (decI n) = some n) : aftR num (aftT l) = some l := by
  unfold aftR aftT
  by_cases hl : l = []
  · subst hl; rfl
  rw [if_neg hl]
  have hne : l.map decI ≠ [] := by simpa using hl
  have h45 : joinC (l.map decI) ≠ [45] := fun e => by
    have := joinC_ch (P := fun c => c ≠ 45) (by decide) (l.map decI) (fun t ht c hc => by
      obtain ⟨n, hn, rfl⟩ := List.mem_map.1 ht
      exact isD_ne (decI_pos (by have := h0 n hn; omega) c hc) (by decide)) 45 (by rw [e]; simp)
    exact this rfl
  rw [if_neg h45, pcs_join hne (fun t ht => by
    obtain ⟨n, _, rfl⟩ := List.mem_map.1 ht
    exact decI_no (.inr rfl)), nums_map l h]
theorem parse_text {num : Bs → Option Int} {askr : Bs → Option Ask} (hn : ∀ n, -1000 ≤ n → n ≤ 1000 → num (decI n) = some n) {j : Jb} (h : j.fault = 0) (ha : askr (Ar.txt j.ask) = some j.ask) : parse num askr j.text = some j := by
  obtain ⟨h1, h2, h3, h4, h5, h6⟩ := fault_parts h
  obtain ⟨g1, g2, g3⟩ := needB_yes h3
  have hb := aftE_at j.after 0 h6
  unfold parse
  rw [text_pcs h]
  simp only
  unfold parse5
  rw [hn _ h2.1 h2.2, nd_text h3, ha]
  simp only
  rw [aftR_text (fun n hm => (hb n hm).1) (fun n hm => hn n (by have := hb n hm; omega) (by have := hb n hm; omega))]
  simp only
  rw [show ((j.a.toNat : Nat) : Int) = j.a by omega, show ((j.b.toNat : Nat) : Int) = j.b by omega, show ((j.c.toNat : Nat) : Int) = j.c by omega]
theorem txt_le (j : Jb) : (Ar.txt j.ask).length ≤ j.text.length := by
  unfold Jb.text
  simp only [List.length_append, List.length_cons]
  omega
theorem own_key {num num' : Bs → Option Int} {askr askr' : Bs → Option Ask} (hn : ∀ n, -1000 ≤ n → n ≤ 1000 → num' (decI n) = some n) {s : Bs} (ha : ∀ x, x.fault = 0 → (Ar.txt x).length ≤ s.length → askr' (Ar.txt x) = some x) {j : Jb} (h : own (parse num askr s) s = some j) : own (parse num' askr' s) s = some j := by
  unfold own at h
  split at h
  · rename_i y hy
    split at h
    · rename_i ht
      injection h with h
      subst h
      have hp : parse num' askr' s = some y := by
        rw [← ht.2]
        exact parse_text hn ht.1 (ha _ (fault_parts ht.1).2.2.2.1 (by rw [← ht.2]; exact txt_le y))
      rw [hp]
      unfold own
      simp only
      rw [if_pos ht]
    · cases h
  · cases h
/-- two ways to read tell the same -/
theorem own_same {num num' : Bs → Option Int} {askr askr' : Bs → Option Ask} (hn : ∀ n, -1000 ≤ n → n ≤ 1000 → num (decI n) = some n) (hn' : ∀ n, -1000 ≤ n → n ≤ 1000 → num' (decI n) = some n) {s : Bs} (ha : ∀ x, x.fault = 0 → (Ar.txt x).length ≤ s.length → askr (Ar.txt x) = some x) (ha' : ∀ x, x.fault = 0 → (Ar.txt x).length ≤ s.length → askr' (Ar.txt x) = some x) : own (parse num askr s) s = own (parse num' askr' s) s := by
  cases h : own (parse num askr s) s with
  | some v => exact (own_key hn' ha' h).symm
  | none =>
    cases h' : own (parse num' askr' s) s with
    | none => rfl
    | some v => rw [own_key hn ha h'] at h; cases h
-- the two ways to read a number
/-- the library's -/
def numA (s : Bs) : Option Int := match Lib.atoiAll s with
  | .ok v => some v
  | _ => none
theorem parse10 : ∀ (s : Bs) (acc : Nat), (∀ c, c ∈ s → isD c) → val acc s ≤ 18446744073709551615 → Lib.parseUint10 acc s = .ok (val acc s)
  | [], acc, _, _ => rfl
  | c :: s, acc, hd, hv => by
    have h1 := hd c (by simp)
    have hv2 : val (acc * 10 + (c.toNat - 48)) s ≤ 18446744073709551615 := hv
    have h3 := Nt.val_ge (acc * 10 + (c.toNat - 48)) s
    rw [Lib.parseUint10, if_pos (show 48 ≤ c.toNat ∧ c.toNat ≤ 57 from h1), if_neg (by omega), if_neg (by omega), parse10 s _ (fun x hx => hd x (by simp [hx])) hv2]
    rfl
theorem mag_dec {u : Nat} (h : u < 18446744073709551616) : Lib.parseMag (dec u) = .ok u := by
  obtain ⟨h1, h2⟩ := dec_val (u + 1) u (by omega)
  unfold Lib.parseMag
  rw [if_neg (dec_ne u), parse10 (dec u) 0 h2 (by rw [h1]; omega), h1]
theorem numA_dec (n : Int) (h0 : -1000 ≤ n) (h1 : n ≤ 1000) : numA (decI n) = some n := by
  by_cases hn : n < 0
  · have e : Lib.atoiAll (decI n) = .ok n := by
      rw [show decI n = 45 :: dec n.natAbs by unfold decI; rw [if_pos hn], Lib.atoiAll_minus, mag_dec (by omega)]
      unfold Lib.signed
      simp only
      rw [if_neg (by omega)]
      congr 1
      omega
    unfold numA
    rw [e]
  · have e : Lib.atoiAll (decI n) = .ok n := by
      rw [show decI n = dec n.toNat by unfold decI; rw [if_neg hn]]
      cases hd : dec n.toNat with
      | nil => exact absurd hd (dec_ne _)
      | cons c r =>
        have hc : isD c := (dec_val (n.toNat + 1) n.toNat (by omega)).2 c (by rw [hd]; simp)
        unfold isD at hc
        rw [Lib.atoiAll_plain c r (by omega) (by omega), ← hd, mag_dec (by omega)]
        unfold Lib.signless
        simp only
        rw [if_neg (by omega)]
        congr 1
        omega
    unfold numA
    rw [e]
theorem intOf_decI (n : Int) (h0 : -1000 ≤ n) (h1 : n ≤ 1000) : intOf (decI n) = some n := by
  by_cases hn : n < 0
  · obtain ⟨e1, e2⟩ := dec_val (n.natAbs + 1) n.natAbs (by omega)
    have hdI : decI n = 45 :: dec n.natAbs := by unfold decI; rw [if_pos hn]
    have hdg : digs (dec n.natAbs) = some n.natAbs := by
      unfold digs
      rw [if_pos ⟨e2, dec_len 18 n.natAbs (by omega)⟩, e1]
    rw [hdI]
    unfold intOf
    simp only [if_true]
    rw [hdg]
    simp only
    have hnn : (-((n.natAbs : Nat) : Int)) = n := by omega
    rw [if_neg (by simp [dec_ne]; omega), hnn, if_pos hdI]
  · rw [show decI n = dec n.toNat by unfold decI; rw [if_neg hn], intOf_dec (by omega)]
    rw [show ((n.toNat : Nat) : Int) = n by omega]
/-- an ask out of a text that isn't too long -/
def askS (s : Bs) : Option Ask := if 2000 < s.length then none else Ar.own (Ar.readR s) s
def askL (s : Bs) : Option Ask := Ar.own (Ar.readR s) s
theorem askL_text {x : Ask} (h : x.fault = 0) : askL (Ar.txt x) = some x := by
  unfold askL
  rw [Ar.readR_text h]
  unfold Ar.own
  simp only
  rw [if_pos ⟨h, trivial⟩]
theorem askS_text {x : Ask} (h : x.fault = 0) (hl : (Ar.txt x).length ≤ 2000) : askS (Ar.txt x) = some x := by
  unfold askS
  rw [if_neg (by omega)]
  exact askL_text h
/-- the program's reader and the document's -/
def rdA (s : Bs) : Option Jb := own (parse numA askS s) s
def rdR (s : Bs) : Option Jb := own (parse intOf askL s) s
theorem rd_same {s : Bs} (hs : s.length ≤ 2000) : rdA s = rdR s :=
  own_same (fun n h0 h1 => numA_dec n h0 h1) (fun n h0 h1 => intOf_decI n h0 h1) (fun x hx hl => askS_text hx (by omega)) (fun x hx hl => askL_text hx)
end Go.Proofs.YtkemlckmfgacdaaGreatDoor.Jm
/- Contract: are two asks the same? The document's, at two that read as one. -/
namespace Go.Proofs.YtkemlckmfgacdaaGreatDoor
open Go.ChangeShapes Go.WideShapes Go.ChangeAt Go.RowKit
set_option linter.unusedVariables false
open Tp
set_option maxRecDepth 20000 in
set_option maxHeartbeats 64000000 in
theorem same_all : ∀ (N : Nat) (x : Ask) (v v' : Value) (w : World), x.size ≤ N → AskV w x v → AskV w x v' → Calls Tryz.prog 48 #[v, v'] w fun e w' => e = .returned (.bool true) ∧ Below w.heap.size w w' := by
  intro N
  induction N with
  | zero => intro x v v' w h; have := Ask.one_le x; omega
  | succ N ih =>
    intro x v v' w hN hx hx'
    have HIH := Lib.hid ih
    cases x with
    | mk k ka va nu l =>
    rw [AskV] at hx hx'
    obtain ⟨ad, n, cap, rfl, hn, hcap, hmax, u1, u2, hrow⟩ := hx
    obtain ⟨ad', n', cap', rfl, hn', hcap', hmax', u3, u4, hrow'⟩ := hx'
    obtain rfl : n = n' := by rw [hn, hn']
    rw [Ask.size] at hN
    have HN := Lib.hid hn
    have HR := Lib.hid hrow
    have HR' := Lib.hid hrow'
    obtain ⟨a1, ha1⟩ : ∃ a, bts ka = a := ⟨_, rfl⟩
    obtain ⟨a2, ha2⟩ : ∃ a, bts va = a := ⟨_, rfl⟩
    rw [ha1, ha2]
    have hnm : n ≤ 9223372036854775807 := by omega
    clear ih hn hn' hrow hrow' u1 u2 u3 u4 ha1 ha2 hcap hcap' hmax hmax'
    obtain ⟨W0, hW0⟩ : ∃ W, W = (w.alloc (.cells #[.int .i64 k, .string a1, .string a2, .int .i64 nu, .slice ad n cap] 26)).alloc (.cells #[.int .i64 k, .string a1, .string a2, .int .i64 nu, .slice ad' n cap'] 26) := ⟨_, rfl⟩
    have hb9 : Below w.heap.size w W0 := by rw [hW0]; exact ((Below.refl _ _).alloc (Nat.le_refl _) _).alloc (by simp) _
    have HB9 := Lib.hid hb9
    have hsz : W0.heap.size = w.heap.size + 2 := by rw [hW0]; simp
    have d4 : W0.cell? ⟨w.heap.size, 4, none⟩ = some (.slice ad n cap) := by rw [hW0]; simp
    have e4 : W0.cell? ⟨w.heap.size + 1, 4, none⟩ = some (.slice ad' n cap') := by rw [hW0]; simp
    obtain ⟨cx, hcx⟩ : ∃ c, c = w.heap.size := ⟨_, rfl⟩
    rw [← hcx] at d4 e4 hsz
    have hcx0 : cx < W0.heap.size := by omega
    have hcx1 : cx + 1 < W0.heap.size := by omega
    clear hb9 hsz
    have hnn : ((n : Int) != (n : Int)) = false := by simp
    have hs1 : (a1.toList != a1.toList) = false := by simp
    have hs2 : (a2.toList != a2.toList) = false := by simp
    go_enter Tryz.func48, Tryz.ntmps48
    go_upto_region 3 with fail
    rw [← hW0, ← hcx]
    clear hW0 hcx
    go_wp2_with fail
    go_loopg [44] n (fun g x wr => ∃ j : Nat, j + g = n ∧ x = .int .i64 (j : Int) ∧ Hid (Below W0.heap.size W0 wr))
    case atStart => exact ⟨0, by omega, rfl, Lib.hid (Below.refl _ _)⟩
    case round =>
      obtain ⟨j, hj, rfl, HB⟩ := hrel
      have HBW : Hid (Below w.heap.size w wr) := Lib.hid (HB9.out.trans (HB.out.mono HB9.out.size))
      by_cases hjn : j < n
      · obtain ⟨y, hy⟩ : ∃ y, l[j]? = some y := ⟨_, List.getElem?_eq_getElem (by rw [← HN.out]; exact hjn)⟩
        obtain ⟨bl, off, rfl, hb, hat⟩ := HR.out (by omega)
        obtain ⟨bm, ofm, rfl, hbm0, hat'⟩ := HR'.out (by omega)
        have hsy := Ask.sizes_at hy
        obtain ⟨k0, k1, k2, k3, ad0, len0, cap0, c0, c1, c2, c3, c4, hyv⟩ := (AsksV.below HBW.out l bl off hb hat).get' hy
        obtain ⟨m0, m1, m2, m3, ad1, len1, cap1, z0, z1, z2, z3, z4, hzv⟩ := (AsksV.below HBW.out l bm ofm hbm0 hat').get' hy
        have hbr : bl < wr.heap.size := Nat.lt_of_lt_of_le hb HBW.out.size
        have hbm : bm < wr.heap.size := Nat.lt_of_lt_of_le hbm0 HBW.out.size
        have hj1 : (0 : Int) ≤ (j : Int) := by omega
        have hj2 : (j : Int) < (n : Int) := by omega
        have f4 := (HB.out.cell (p := ⟨cx, 4, none⟩) hcx0).trans d4
        have g4 := (HB.out.cell (p := ⟨cx + 1, 4, none⟩) hcx1).trans e4
        have hcr0 : cx < wr.heap.size := Nat.lt_of_lt_of_le hcx0 HB.out.size
        have hcr1 : cx + 1 < wr.heap.size := Nat.lt_of_lt_of_le hcx1 HB.out.size
        have HC : Hid (∀ W, Below wr.heap.size wr W → Calls Tryz.prog 48 #[.agg #[.int .i64 k0, .string k1, .string k2, .int .i64 k3, .slice ad0 len0 cap0], .agg #[.int .i64 m0, .string m1, .string m2, .int .i64 m3, .slice ad1 len1 cap1]] W fun e w' => e = .returned (.bool true) ∧ Below W.heap.size W w') := Lib.hid (fun W hW => HIH.out y _ _ W (by omega) (AskV.below hW _ _ hyv) (AskV.below hW _ _ hzv))
        clear hat hat' hy hyv hzv
        go_upto_region 6 with fail
        go_region_held3 (fun W => W.cell? ⟨cx, 4, none⟩ = some (.slice (some ⟨bl, off, none⟩) n cap) ∧ W.cell? ⟨cx + 1, 4, none⟩ = some (.slice (some ⟨bm, ofm, none⟩) n cap') ∧ W.cell? ⟨bl, off + j * 5, none⟩ = some (.int .i64 k0) ∧ W.cell? ⟨bl, off + j * 5 + 1, none⟩ = some (.string k1) ∧ W.cell? ⟨bl, off + j * 5 + 2, none⟩ = some (.string k2) ∧ W.cell? ⟨bl, off + j * 5 + 3, none⟩ = some (.int .i64 k3) ∧ W.cell? ⟨bl, off + j * 5 + 4, none⟩ = some (.slice ad0 len0 cap0) ∧ W.cell? ⟨bm, ofm + j * 5, none⟩ = some (.int .i64 m0) ∧ W.cell? ⟨bm, ofm + j * 5 + 1, none⟩ = some (.string m1) ∧ W.cell? ⟨bm, ofm + j * 5 + 2, none⟩ = some (.string m2) ∧ W.cell? ⟨bm, ofm + j * 5 + 3, none⟩ = some (.int .i64 m3) ∧ W.cell? ⟨bm, ofm + j * 5 + 4, none⟩ = some (.slice ad1 len1 cap1)) (first | exact ⟨f4, g4, c0, c1, c2, c3, c4, z0, z1, z2, z3, z4⟩ | exact ⟨(hb1.cell (p := ⟨cx, _, none⟩) hcr0).trans f4, (hb1.cell (p := ⟨cx + 1, _, none⟩) hcr1).trans g4, (hb1.cell (p := ⟨bl, _, none⟩) hbr).trans c0, (hb1.cell (p := ⟨bl, _, none⟩) hbr).trans c1, (hb1.cell (p := ⟨bl, _, none⟩) hbr).trans c2, (hb1.cell (p := ⟨bl, _, none⟩) hbr).trans c3, (hb1.cell (p := ⟨bl, _, none⟩) hbr).trans c4, (hb1.cell (p := ⟨bm, _, none⟩) hbm).trans z0, (hb1.cell (p := ⟨bm, _, none⟩) hbm).trans z1, (hb1.cell (p := ⟨bm, _, none⟩) hbm).trans z2, (hb1.cell (p := ⟨bm, _, none⟩) hbm).trans z3, (hb1.cell (p := ⟨bm, _, none⟩) hbm).trans z4⟩) (first | (go_at_call 48; refine Calls.mono (HC.out _ (by first | exact Below.refl _ _ | go_grown)) ?_; rintro e w1 ⟨rfl, hb1⟩))
        all_goals
          have HBX : Hid (Below W0.heap.size W0 w1) := Lib.hid (HB.out.trans (Below.mono (B := wr.heap.size) (by first | exact (show Below wr.heap.size wr wr.drew from by go_grown).trans hb1 | exact hb1) HB.out.size))
          clear hb1
          go_wp2_with fail
          go_roundg (n - (j + 1))
          case measure => omega
          case rel => exact ⟨j + 1, by omega, by simp, HBX⟩
      · obtain rfl : j = n := by omega
        go_wp2_with fail
        go_ret
        exact ⟨rfl, HBW.out⟩
theorem same_any (x : Ask) (v v' : Value) (w : World) (hx : AskV w x v) (hx' : AskV w x v') : Calls Tryz.prog 48 #[v, v'] w fun e w' => e = .returned (.bool true) ∧ Below w.heap.size w w' := same_all x.size x v v' w (Nat.le_refl _) hx hx'
end Go.Proofs.YtkemlckmfgacdaaGreatDoor
/- An ask in memory, and in which blocks its rows lie: so that a store elsewhere leaves it. -/
namespace Go.Proofs.YtkemlckmfgacdaaGreatDoor
open Go.ChangeShapes Go.WideShapes Go.ChangeAt Go.RowKit
set_option linter.unusedVariables false
open Tp
mutual
/-- a value that reads as an ask, its rows in blocks of p -/
def AskVP (p : Nat → Prop) (w : World) : Ask → Value → Prop
  | .mk k a b n l, v => ∃ ad len cap, v = .agg #[.int .i64 k, .string (bts a), .string (bts b), .int .i64 n, .slice ad len cap] ∧ len = l.length ∧ len ≤ cap ∧ cap ≤ 9223372036854775807 ∧ a.length ≤ 9223372036854775807 ∧ b.length ≤ 9223372036854775807 ∧ (0 < len → ∃ bl off, ad = some ⟨bl, off, none⟩ ∧ bl < w.heap.size ∧ p bl ∧ AsksVP p w l bl off)
/-- asks, one behind the other -/
def AsksVP (p : Nat → Prop) (w : World) : List Ask → Nat → Nat → Prop
  | [], _, _ => True
  | x :: l, b, off => (∃ v, Cells5 w b off v ∧ AskVP p w x v) ∧ AsksVP p w l b (off + 5)
end
mutual
theorem AskVP.toV {p : Nat → Prop} {w : World} : ∀ (x : Ask) (v : Value), AskVP p w x v → AskV w x v
  | .mk k a b n l, v, h => by
    rw [AskVP] at h
    rw [AskV]
    obtain ⟨ad, len, cap, e, h1, h2, h3, h5, h6, h4⟩ := h
    refine ⟨ad, len, cap, e, h1, h2, h3, h5, h6, fun hp => ?_⟩
    obtain ⟨bl, off, e2, hlt, _, hh⟩ := h4 hp
    exact ⟨bl, off, e2, hlt, AsksVP.toV l bl off hh⟩
theorem AsksVP.toV {p : Nat → Prop} {w : World} : ∀ (l : List Ask) (b off : Nat), AsksVP p w l b off → AsksV w l b off
  | [], _, _, _ => by rw [AsksV]; trivial
  | x :: l, b, off, h => by
    rw [AsksVP] at h
    rw [AsksV]
    obtain ⟨⟨v, h1, h2⟩, h3⟩ := h
    exact ⟨⟨v, h1, AskVP.toV x v h2⟩, AsksVP.toV l b (off + 5) h3⟩
end
mutual
theorem AskV.toP {w : World} : ∀ (x : Ask) (v : Value), AskV w x v → AskVP (fun b => b < w.heap.size) w x v
  | .mk k a b n l, v, h => by
    rw [AskV] at h
    rw [AskVP]
    obtain ⟨ad, len, cap, e, h1, h2, h3, h5, h6, h4⟩ := h
    refine ⟨ad, len, cap, e, h1, h2, h3, h5, h6, fun hp => ?_⟩
    obtain ⟨bl, off, e2, hlt, hh⟩ := h4 hp
    exact ⟨bl, off, e2, hlt, hlt, AsksV.toP l bl off hh⟩
theorem AsksV.toP {w : World} : ∀ (l : List Ask) (b off : Nat), AsksV w l b off → AsksVP (fun b => b < w.heap.size) w l b off
  | [], _, _, _ => by rw [AsksVP]; trivial
  | x :: l, b, off, h => by
    rw [AsksV] at h
    rw [AsksVP]
    obtain ⟨⟨v, h1, h2⟩, h3⟩ := h
    exact ⟨⟨v, h1, AskV.toP x v h2⟩, AsksV.toP l b (off + 5) h3⟩
end
theorem Cells5.same {w w' : World} {b off : Nat} {v : Value} (h : Cells5 w b off v) (e : w'.heap[b]? = w.heap[b]?) : Cells5 w' b off v := by
  obtain ⟨c0, c1, c2, c3, c4, ev, h0, h1, h2, h3, h4⟩ := h
  exact ⟨c0, c1, c2, c3, c4, ev, (cell_of_block (p := ⟨b, _, none⟩) e).trans h0, (cell_of_block (p := ⟨b, _, none⟩) e).trans h1, (cell_of_block (p := ⟨b, _, none⟩) e).trans h2, (cell_of_block (p := ⟨b, _, none⟩) e).trans h3, (cell_of_block (p := ⟨b, _, none⟩) e).trans h4⟩
mutual
/-- an ask stays, where its rows' blocks stay; p may grow -/
theorem AskVP.stays {p q : Nat → Prop} {w w' : World} (hpq : ∀ b, p b → q b) (hs : w.heap.size ≤ w'.heap.size) (he : ∀ b, p b → b < w.heap.size → w'.heap[b]? = w.heap[b]?) : ∀ (x : Ask) (v : Value), AskVP p w x v → AskVP q w' x v
  | .mk k a b n l, v, h => by
    rw [AskVP] at h ⊢
    obtain ⟨ad, len, cap, e, h1, h2, h3, h5, h6, h4⟩ := h
    refine ⟨ad, len, cap, e, h1, h2, h3, h5, h6, fun hp => ?_⟩
    obtain ⟨bl, off, e2, hlt, hpb, hh⟩ := h4 hp
    exact ⟨bl, off, e2, by omega, hpq _ hpb, AsksVP.stays hpq hs he l bl off hpb hlt hh⟩
theorem AsksVP.stays {p q : Nat → Prop} {w w' : World} (hpq : ∀ b, p b → q b) (hs : w.heap.size ≤ w'.heap.size) (he : ∀ b, p b → b < w.heap.size → w'.heap[b]? = w.heap[b]?) : ∀ (l : List Ask) (b off : Nat), p b → b < w.heap.size → AsksVP p w l b off → AsksVP q w' l b off
  | [], _, _, _, _, _ => by rw [AsksVP]; trivial
  | x :: l, b, off, hpb, hlt, h => by
    rw [AsksVP] at h ⊢
    obtain ⟨⟨v, h1, h2⟩, h3⟩ := h
    exact ⟨⟨v, h1.same (he b hpb hlt), AskVP.stays hpq hs he x v h2⟩, AsksVP.stays hpq hs he l b (off + 5) hpb hlt h3⟩
end
theorem AsksVP.at' {p : Nat → Prop} {w : World} : ∀ {l : List Ask} {b off i : Nat} {x : Ask}, AsksVP p w l b off → l[i]? = some x → ∃ v, Cells5 w b (off + i * 5) v ∧ AskVP p w x v
  | [], _, _, _, _, _, h => by simp at h
  | y :: l, b, off, 0, x, h, hx => by
    rw [AsksVP] at h
    simp at hx; subst hx
    simpa using h.1
  | y :: l, b, off, i + 1, x, h, hx => by
    rw [AsksVP] at h
    have := AsksVP.at' (i := i) h.2 (by simpa using hx)
    rwa [show off + 5 + i * 5 = off + (i + 1) * 5 from by omega] at this
end Go.Proofs.YtkemlckmfgacdaaGreatDoor
/- An ask's value, its parts named; five cells of a block, written. -/
namespace Go.Proofs.YtkemlckmfgacdaaGreatDoor
open Go.ChangeShapes Go.WideShapes Go.ChangeAt Go.RowKit
set_option linter.unusedVariables false
open Tp
/-- an ask's value, its parts named -/
theorem AskV.form {w : World} {x : Ask} {v : Value} (h : AskV w x v) : ∃ (k0 : Int) (k1 k2 : ByteArray) (k3 : Int) (ad : Option Addr) (len cap : Nat), v = .agg #[.int .i64 k0, .string k1, .string k2, .int .i64 k3, .slice ad len cap] := by
  cases x with
  | mk k a b n l =>
  rw [AskV] at h
  obtain ⟨ad, len, cap, e, _⟩ := h
  exact ⟨_, _, _, _, _, _, _, e⟩
theorem cell_top (W : World) (c : Array Value) (T : TypeId) (b i : Nat) (hb : b = W.heap.size) : (W.alloc (.cells c T)).cell? ⟨b, i, none⟩ = c[i]? := by
  subst hb
  simp
/-- five cells of a block, written -/
def five (W : World) (c : Nat) (v0 v1 v2 v3 v4 : Value) : World := ((((W.setCell ⟨c, 0, none⟩ v0).setCell ⟨c, 1, none⟩ v1).setCell ⟨c, 2, none⟩ v2).setCell ⟨c, 3, none⟩ v3).setCell ⟨c, 4, none⟩ v4
theorem five_heap (W : World) (c : Nat) (v0 v1 v2 v3 v4 : Value) (b : Nat) (h : b ≠ c) : (five W c v0 v1 v2 v3 v4).heap[b]? = W.heap[b]? := by
  unfold five
  rw [Below.heap_setCell _ _ _ _ h, Below.heap_setCell _ _ _ _ h, Below.heap_setCell _ _ _ _ h, Below.heap_setCell _ _ _ _ h, Below.heap_setCell _ _ _ _ h]
theorem five_size (W : World) (c : Nat) (v0 v1 v2 v3 v4 : Value) : (five W c v0 v1 v2 v3 v4).heap.size = W.heap.size := by unfold five; simp
theorem five_below {B : Nat} {w W : World} (h : Below B w W) (c : Nat) (v0 v1 v2 v3 v4 : Value) (hB : B ≤ c) : Below B w (five W c v0 v1 v2 v3 v4) :=
  ((((h.setCell (p := ⟨c, 0, none⟩) hB _).setCell (p := ⟨c, 1, none⟩) hB _).setCell (p := ⟨c, 2, none⟩) hB _).setCell (p := ⟨c, 3, none⟩) hB _).setCell (p := ⟨c, 4, none⟩) hB _
theorem frozen_top (W : World) (c : Array Value) (T : TypeId) (b i : Nat) (hb : b = W.heap.size) : (W.alloc (.cells c T)).frozen? ⟨b, i, none⟩ = false := by
  subst hb
  have := heap_alloc_new W (.cells c T)
  unfold World.frozen?
  simp only [this]
  rfl
theorem AsksVP.get' {p : Nat → Prop} {w : World} {l : List Ask} {b off i : Nat} {x : Ask} (h : AsksVP p w l b off) (hx : l[i]? = some x) : ∃ (k0 : Int) (k1 k2 : ByteArray) (k3 : Int) (ad : Option Addr) (len cap : Nat), w.cell? ⟨b, off + i * 5, none⟩ = some (.int .i64 k0) ∧ w.cell? ⟨b, off + i * 5 + 1, none⟩ = some (.string k1) ∧ w.cell? ⟨b, off + i * 5 + 2, none⟩ = some (.string k2) ∧ w.cell? ⟨b, off + i * 5 + 3, none⟩ = some (.int .i64 k3) ∧ w.cell? ⟨b, off + i * 5 + 4, none⟩ = some (.slice ad len cap) ∧ AskVP p w x (.agg #[.int .i64 k0, .string k1, .string k2, .int .i64 k3, .slice ad len cap]) := by
  obtain ⟨v, ⟨c0, c1, c2, c3, c4, e, h0, h1, h2, h3, h4⟩, hv⟩ := h.at' hx
  obtain ⟨k0, k1, k2, k3, ad, len, cap, e2⟩ := AskV.form (AskVP.toV _ _ hv)
  rw [e] at e2
  simp only [Value.agg.injEq, Array.mk.injEq, List.cons.injEq, and_true] at e2
  obtain ⟨rfl, rfl, rfl, rfl, rfl⟩ := e2
  exact ⟨k0, k1, k2, k3, ad, len, cap, h0, h1, h2, h3, h4, e ▸ hv⟩
end Go.Proofs.YtkemlckmfgacdaaGreatDoor
/- A job as a value. -/
namespace Go.Proofs.YtkemlckmfgacdaaGreatDoor
open Go.ChangeShapes Go.WideShapes Go.ChangeAt Go.RowKit
set_option linter.unusedVariables false
open Tp Jm
/-- numbers, as cells -/
def ints (l : List Int) : List Value := l.map fun n => .int .i64 n
theorem ints_len (l : List Int) : (ints l).length = l.length := by simp [ints]
theorem ints_at {l : List Int} {i : Nat} {n : Int} (h : l[i]? = some n) : (ints l)[i]? = some (.int .i64 n) := by simp [ints, h]
theorem ints_push (l : List Int) (n : Int) : ints (l ++ [n]) = ints l ++ [.int .i64 n] := by simp [ints]
/-- a job's parts -/
structure JobP (w : World) (j : Jb) (x0 : Int) (x1 x2 : ByteArray) (x3 : Int) (xd : Option Addr) (xl xc : Nat) (aa : Option Addr) (ac : Nat) : Prop where
  ask : AskV w j.ask (.agg #[.int .i64 x0, .string x1, .string x2, .int .i64 x3, .slice xd xl xc])
  aft : Vals w aa (ints j.after)
  user : j.user.length ≤ 1099511627776
  len : j.after.length ≤ ac
  cap : ac ≤ 9223372036854775807
def jobVal (u : ByteArray) (p a b c x0 : Int) (x1 x2 : ByteArray) (x3 : Int) (xd : Option Addr) (xl xc : Nat) (aa : Option Addr) (n ac : Nat) : Value := .agg #[.string u, .int .i64 p, .int .i64 a, .int .i64 b, .int .i64 c, .int .i64 x0, .string x1, .string x2, .int .i64 x3, .slice xd xl xc, .slice aa n ac]
def JobV (w : World) (j : Jb) (v : Value) : Prop := ∃ (x0 : Int) (x1 x2 : ByteArray) (x3 : Int) (xd : Option Addr) (xl xc : Nat) (aa : Option Addr) (ac : Nat), v = jobVal (bts j.user) j.prio j.a j.b j.c x0 x1 x2 x3 xd xl xc aa j.after.length ac ∧ JobP w j x0 x1 x2 x3 xd xl xc aa ac
theorem JobP.below {w w' : World} {j : Jb} {x0 : Int} {x1 x2 : ByteArray} {x3 : Int} {xd : Option Addr} {xl xc : Nat} {aa : Option Addr} {ac : Nat} (h : JobP w j x0 x1 x2 x3 xd xl xc aa ac) (hb : Below w.heap.size w w') : JobP w' j x0 x1 x2 x3 xd xl xc aa ac :=
  ⟨AskV.below hb _ _ h.ask, h.aft.below hb (Nat.le_refl _), h.user, h.len, h.cap⟩
theorem JobV.below {w w' : World} {j : Jb} {v : Value} (h : JobV w j v) (hb : Below w.heap.size w w') : JobV w' j v := by
  obtain ⟨x0, x1, x2, x3, xd, xl, xc, aa, ac, e, hp⟩ := h
  exact ⟨x0, x1, x2, x3, xd, xl, xc, aa, ac, e, hp.below hb⟩
/-- a number of the row, where it lies -/
theorem aft_cell {w : World} {aa : Option Addr} {l : List Int} (h : Vals w aa (ints l)) {k : Nat} {n : Int} (hk : l[k]? = some n) : ∃ b off, aa = some ⟨b, off, none⟩ ∧ b < w.heap.size ∧ ∀ (i : Nat) (m : Int), l[i]? = some m → w.cell? ⟨b, off + i, none⟩ = some (.int .i64 m) := by
  have hl : 0 < (ints l).length := by rw [ints_len]; have := (List.getElem?_eq_some_iff.1 hk).1; omega
  obtain ⟨b, off, e1, e2, e3⟩ := h hl
  exact ⟨b, off, e1, e2, fun i m hi => e3 i _ (ints_at hi)⟩
theorem aftE_cons (last n : Int) (l : List Int) : aftE last (n :: l) = if n < 1 ∨ 60 < n then 4 else if n ≤ last then 6 else aftE n l := rfl
end Go.Proofs.YtkemlckmfgacdaaGreatDoor
/- Contract: job.Check. -/
namespace Go.Proofs.YtkemlckmfgacdaaGreatDoor
open Go.ChangeShapes Go.WideShapes Go.ChangeAt Go.RowKit
set_option linter.unusedVariables false
set_option linter.unusedSimpArgs false
open Tp Jm
set_option maxRecDepth 20000 in
set_option maxHeartbeats 16000000 in
theorem jobCheck_any (j : Jb) (v : Value) (w : World) (hs : j.ask.size ≤ 1000000000) (hv : JobV w j v) : Calls Tryz.prog 9 #[v] w fun e w' => e = .returned (.int .i64 j.fault) ∧ Below w.heap.size w w' := by
  obtain ⟨x0, x1, x2, x3, xd, xl, xc, aa, ac, rfl, hp⟩ := hv
  unfold jobVal
  obtain ⟨u, P, a, b, c, x, l⟩ := j
  simp only at hp hs ⊢
  obtain ⟨U, hU⟩ : ∃ U, bts u = U := ⟨_, rfl⟩
  obtain ⟨n, hn⟩ : ∃ n, l.length = n := ⟨_, rfl⟩
  rw [hU, hn]
  obtain ⟨B, hB⟩ : ∃ B, B = w.heap.size := ⟨_, rfl⟩
  obtain ⟨W0, hW0⟩ : ∃ W, W = w.alloc (.cells #[.string U, .int .i64 P, .int .i64 a, .int .i64 b, .int .i64 c, .int .i64 x0, .string x1, .string x2, .int .i64 x3, .slice xd xl xc, .slice aa n ac] 29) := ⟨_, rfl⟩
  have hb0 : Below w.heap.size w W0 := by rw [hW0]; exact (Below.refl _ _).alloc (Nat.le_refl _) _
  have b0 : W0.cell? ⟨B, 0, none⟩ = some (.string U) := by rw [hW0]; exact (cell_top _ _ _ _ _ hB).trans rfl
  have b1 : W0.cell? ⟨B, 1, none⟩ = some (.int .i64 P) := by rw [hW0]; exact (cell_top _ _ _ _ _ hB).trans rfl
  have b2 : W0.cell? ⟨B, 2, none⟩ = some (.int .i64 a) := by rw [hW0]; exact (cell_top _ _ _ _ _ hB).trans rfl
  have b3 : W0.cell? ⟨B, 3, none⟩ = some (.int .i64 b) := by rw [hW0]; exact (cell_top _ _ _ _ _ hB).trans rfl
  have b4 : W0.cell? ⟨B, 4, none⟩ = some (.int .i64 c) := by rw [hW0]; exact (cell_top _ _ _ _ _ hB).trans rfl
  have b5 : W0.cell? ⟨B, 5, none⟩ = some (.int .i64 x0) := by rw [hW0]; exact (cell_top _ _ _ _ _ hB).trans rfl
  have b6 : W0.cell? ⟨B, 6, none⟩ = some (.string x1) := by rw [hW0]; exact (cell_top _ _ _ _ _ hB).trans rfl
  have b7 : W0.cell? ⟨B, 7, none⟩ = some (.string x2) := by rw [hW0]; exact (cell_top _ _ _ _ _ hB).trans rfl
  have b8 : W0.cell? ⟨B, 8, none⟩ = some (.int .i64 x3) := by rw [hW0]; exact (cell_top _ _ _ _ _ hB).trans rfl
  have b9 : W0.cell? ⟨B, 9, none⟩ = some (.slice xd xl xc) := by rw [hW0]; exact (cell_top _ _ _ _ _ hB).trans rfl
  have b10 : W0.cell? ⟨B, 10, none⟩ = some (.slice aa n ac) := by rw [hW0]; exact (cell_top _ _ _ _ _ hB).trans rfl
  have hBl : B < W0.heap.size := by rw [hW0, hB]; simp
  have HB0 := Lib.hid hb0
  have HV : Hid (∀ W, Below w.heap.size w W → Vals W aa (ints l)) := Lib.hid (fun W h => hp.aft.below h (Nat.le_refl _))
  have HX : Hid (∀ W, Below w.heap.size w W → AskV W x (.agg #[.int .i64 x0, .string x1, .string x2, .int .i64 x3, .slice xd xl xc])) := Lib.hid (fun W h => AskV.below h _ _ hp.ask)
  have HLB : Hid (∀ W, Calls Tryz.prog 38 #[.string U] W fun e w' => e = .returned (.bool (lab u)) ∧ Below W.heap.size W w') := Lib.hid (fun W => by rw [← hU]; exact Label_any (bts u) W (by rw [bts_size]; exact Nat.le_trans hp.user (by omega)))
  have HND := Lib.hid (fun W => Check_any a b c W)
  have HAK := Lib.hid (fun W (h : Below w.heap.size w W) => askCheck_any x _ W hs (HX.out W h))
  have hac := hp.len
  simp only at hac
  rw [hn] at hac
  have hcap := hp.cap
  have HNL := Lib.hid hn
  obtain ⟨F, hF⟩ : ∃ F, (Jb.mk u P a b c x l).fault = F := ⟨_, rfl⟩
  have HF := Lib.hid hF
  rw [hF]
  obtain ⟨lb, hlb⟩ : ∃ b, lab u = b := ⟨_, rfl⟩
  rw [hlb] at HLB
  have HL := Lib.hid hlb
  obtain ⟨ne, hne⟩ : ∃ e, needE a b c = e := ⟨_, rfl⟩
  rw [hne] at HND
  have HNE := Lib.hid hne
  obtain ⟨ae, hae⟩ : ∃ e, x.fault = e := ⟨_, rfl⟩
  rw [hae] at HAK
  have HAE := Lib.hid hae
  clear hb0 hp hs hU hn hF hlb hne hae
  go_enter Tryz.func9, Tryz.ntmps9
  go_upto_region 1 with fail
  rw [← hW0, ← hB]
  clear hW0 hB
  go_wp2_with fail
  refine Calls.mono (HLB.out W0) ?_
  rintro e W1 ⟨rfl, hbn⟩
  have HB1 := Lib.hid (HB0.out.trans (hbn.mono HB0.out.size))
  replace b0 := (hbn.cell (p := ⟨B, 0, none⟩) hBl).trans b0
  replace b1 := (hbn.cell (p := ⟨B, 1, none⟩) hBl).trans b1
  replace b2 := (hbn.cell (p := ⟨B, 2, none⟩) hBl).trans b2
  replace b3 := (hbn.cell (p := ⟨B, 3, none⟩) hBl).trans b3
  replace b4 := (hbn.cell (p := ⟨B, 4, none⟩) hBl).trans b4
  replace b5 := (hbn.cell (p := ⟨B, 5, none⟩) hBl).trans b5
  replace b6 := (hbn.cell (p := ⟨B, 6, none⟩) hBl).trans b6
  replace b7 := (hbn.cell (p := ⟨B, 7, none⟩) hBl).trans b7
  replace b8 := (hbn.cell (p := ⟨B, 8, none⟩) hBl).trans b8
  replace b9 := (hbn.cell (p := ⟨B, 9, none⟩) hBl).trans b9
  replace b10 := (hbn.cell (p := ⟨B, 10, none⟩) hBl).trans b10
  replace hBl := Nat.lt_of_lt_of_le hBl hbn.size
  clear hbn
  cases lb with
  | false =>
    obtain rfl : F = 3 := by rw [← HF.out]; unfold Jb.fault; rw [if_pos HL.out]
    go_wp2_with fail
    go_ret
    exact ⟨rfl, HB1.out⟩
  | true =>
    by_cases hp : P < -1000 ∨ 1000 < P
    · obtain rfl : F = 4 := by rw [← HF.out]; unfold Jb.fault; rw [if_neg (by rw [HL.out]; simp), if_pos hp]
      rcases hp with hp | hp
      · go_wp2_with fail
        go_ret
        exact ⟨rfl, HB1.out⟩
      · have hp2 : ¬ P < -1000 := by omega
        go_wp2_with fail
        go_ret
        exact ⟨rfl, HB1.out⟩
    have hp1 : ¬ P < -1000 := by omega
    have hp2 : ¬ 1000 < P := by omega
    have HP := Lib.hid hp
    clear hp
    go_wp2_with fail
    refine Calls.mono (HND.out W1) ?_
    rintro e W2 ⟨rfl, hbn⟩
    have HB2 := Lib.hid (HB1.out.trans (hbn.mono HB1.out.size))
    replace b0 := (hbn.cell (p := ⟨B, 0, none⟩) hBl).trans b0
    replace b1 := (hbn.cell (p := ⟨B, 1, none⟩) hBl).trans b1
    replace b2 := (hbn.cell (p := ⟨B, 2, none⟩) hBl).trans b2
    replace b3 := (hbn.cell (p := ⟨B, 3, none⟩) hBl).trans b3
    replace b4 := (hbn.cell (p := ⟨B, 4, none⟩) hBl).trans b4
    replace b5 := (hbn.cell (p := ⟨B, 5, none⟩) hBl).trans b5
    replace b6 := (hbn.cell (p := ⟨B, 6, none⟩) hBl).trans b6
    replace b7 := (hbn.cell (p := ⟨B, 7, none⟩) hBl).trans b7
    replace b8 := (hbn.cell (p := ⟨B, 8, none⟩) hBl).trans b8
    replace b9 := (hbn.cell (p := ⟨B, 9, none⟩) hBl).trans b9
    replace b10 := (hbn.cell (p := ⟨B, 10, none⟩) hBl).trans b10
    replace hBl := Nat.lt_of_lt_of_le hBl hbn.size
    clear hbn
    by_cases hne : ne = 0
    · have hz : (ne == 0) = true := by simpa using hne
      have hz2 : (ne != 0) = false := by simpa using hne
      have HE0 := Lib.hid hne
      clear hne
      go_wp2_with fail
      refine Calls.mono (HAK.out W2 HB2.out) ?_
      rintro e W3 ⟨rfl, hbn⟩
      have HB3 := Lib.hid (HB2.out.trans (hbn.mono HB2.out.size))
      replace b0 := (hbn.cell (p := ⟨B, 0, none⟩) hBl).trans b0
      replace b1 := (hbn.cell (p := ⟨B, 1, none⟩) hBl).trans b1
      replace b2 := (hbn.cell (p := ⟨B, 2, none⟩) hBl).trans b2
      replace b3 := (hbn.cell (p := ⟨B, 3, none⟩) hBl).trans b3
      replace b4 := (hbn.cell (p := ⟨B, 4, none⟩) hBl).trans b4
      replace b5 := (hbn.cell (p := ⟨B, 5, none⟩) hBl).trans b5
      replace b6 := (hbn.cell (p := ⟨B, 6, none⟩) hBl).trans b6
      replace b7 := (hbn.cell (p := ⟨B, 7, none⟩) hBl).trans b7
      replace b8 := (hbn.cell (p := ⟨B, 8, none⟩) hBl).trans b8
      replace b9 := (hbn.cell (p := ⟨B, 9, none⟩) hBl).trans b9
      replace b10 := (hbn.cell (p := ⟨B, 10, none⟩) hBl).trans b10
      replace hBl := Nat.lt_of_lt_of_le hBl hbn.size
      clear hbn
      by_cases hae : ae = 0
      · have hy : (ae == 0) = true := by simpa using hae
        have hy2 : (ae != 0) = false := by simpa using hae
        have HA0 := Lib.hid hae
        clear hae
        have HFF : Hid (F = if 8 < n then 2 else aftE 0 l) := Lib.hid (by
          rw [← HF.out]; unfold Jb.fault
          rw [if_neg (by rw [HL.out]; simp), if_neg HP.out, if_neg (by show ¬ needE a b c ≠ 0; rw [HNE.out, HE0.out]; simp), if_neg (by show ¬ x.fault ≠ 0; rw [HAE.out, HA0.out]; simp)]
          show (if 8 < l.length then 2 else aftE 0 l) = _
          rw [HNL.out])
        by_cases h8 : 8 < n
        · obtain rfl : F = 2 := by rw [HFF.out, if_pos h8]
          have h8' : (8 : Int) < (n : Int) := by omega
          go_wp2_with fail
          go_ret
          exact ⟨rfl, HB3.out⟩
        · have h8' : ¬ (8 : Int) < (n : Int) := by omega
          obtain rfl : F = aftE 0 l := by rw [HFF.out, if_neg h8]
          have hn8 : n ≤ 8 := by omega
          clear h8
          have HVV := Lib.hid (HV.out W3 HB3.out)
          go_wp2_with fail
          go_loopg [5, 41] n (fun g x y wr => ∃ (k : Nat) (last : Int), k + g = n ∧ x = .int .i64 last ∧ y = .int .i64 (k : Int) ∧ Hid (W3 = wr) ∧ Hid (aftE last (l.drop k) = aftE 0 l))
          case atStart => exact ⟨0, 0, by omega, rfl, rfl, Lib.hid rfl, Lib.hid rfl⟩
          case round =>
            obtain ⟨k, last, hk, rfl, rfl, HW, HI⟩ := hrel
            obtain rfl := HW.out
            by_cases hkn : k < n
            · obtain ⟨m, hm⟩ : ∃ m, l[k]? = some m := ⟨_, List.getElem?_eq_getElem (by rw [HNL.out]; exact hkn)⟩
              obtain ⟨bb, off, rfl, hbl, hcells⟩ := aft_cell HVV.out hm
              have hcell := hcells k m hm
              have HC := Lib.hid hcells
              have HD : Hid (l.drop k = m :: l.drop (k + 1)) := Lib.hid (drop_some hm)
              have hk1 : (0 : Int) ≤ (k : Int) := by omega
              have hk2 : (k : Int) < (n : Int) := by omega
              have HK := Lib.hid hk
              have HI2 : Hid (aftE 0 l = if m < 1 ∨ 60 < m then 4 else if m ≤ last then 6 else aftE m (l.drop (k + 1))) := Lib.hid (by rw [← HI.out, HD.out, aftE_cons])
              clear hm hk hcells
              by_cases h1 : m < 1
              · have HE : Hid (aftE 0 l = 4) := Lib.hid (by rw [HI2.out, if_pos (.inl h1)])
                go_wp2_with fail
                go_ret
                exact ⟨by rw [HE.out]; try rfl, HB3.out⟩
              by_cases h2 : 60 < m
              · have HE : Hid (aftE 0 l = 4) := Lib.hid (by rw [HI2.out, if_pos (.inr h2)])
                go_wp2_with fail
                go_ret
                exact ⟨by rw [HE.out]; try rfl, HB3.out⟩
              by_cases h3 : m ≤ last
              · have HE : Hid (aftE 0 l = 6) := Lib.hid (by rw [HI2.out, if_neg (by omega), if_pos h3])
                go_wp2_with fail
                go_ret
                exact ⟨by rw [HE.out]; try rfl, HB3.out⟩
              · have HE : Hid (aftE m (l.drop (k + 1)) = aftE 0 l) := Lib.hid (by rw [HI2.out, if_neg (by omega), if_neg h3])
                go_wp2_with fail
                go_roundg (n - (k + 1))
                case measure => (have := HK.out; omega)
                case rel => exact ⟨k + 1, m, by have := HK.out; omega, rfl, by simp, Lib.hid rfl, HE⟩
            · have HE : Hid (aftE 0 l = 0) := Lib.hid (by rw [← HI.out, List.drop_eq_nil_of_le (by have := HNL.out; omega)]; rfl)
              have hk2 : ¬ (k : Int) < (n : Int) := by omega
              clear hk hkn
              go_wp2_with fail
              go_ret
              exact ⟨by rw [HE.out]; try rfl, HB3.out⟩
      · obtain rfl : F = ae := by rw [← HF.out]; unfold Jb.fault; rw [if_neg (by rw [HL.out]; simp), if_neg HP.out, if_neg (by show ¬ needE a b c ≠ 0; rw [HNE.out, HE0.out]; simp), if_pos (by show x.fault ≠ 0; rw [HAE.out]; exact hae)]; exact HAE.out
        have hy : (F == 0) = false := by simpa using hae
        have hy2 : (F != 0) = true := by simpa using hae
        clear hae
        go_wp2_with fail
        go_ret
        exact ⟨rfl, HB3.out⟩
    · obtain rfl : F = ne := by rw [← HF.out]; unfold Jb.fault; rw [if_neg (by rw [HL.out]; simp), if_neg HP.out, if_pos (by show needE a b c ≠ 0; rw [HNE.out]; exact hne)]; exact HNE.out
      have hz : (F == 0) = false := by simpa using hne
      have hz2 : (F != 0) = true := by simpa using hne
      clear hne
      go_wp2_with fail
      go_ret
      exact ⟨rfl, HB2.out⟩
end Go.Proofs.YtkemlckmfgacdaaGreatDoor
