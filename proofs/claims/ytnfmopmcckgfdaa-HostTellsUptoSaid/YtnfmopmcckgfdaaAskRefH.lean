/- Contract: does an ask hold of a host? The document's. -/
import Derived.Test.YtnfmopmcckgfdaaAskHolds
namespace Go.Proofs.Ytnfmopmcckgfdaa
open Go.ChangeShapes Go.WideShapes Go.ChangeAt Go.RowKit
set_option linter.unusedVariables false
open Tp
set_option maxRecDepth 20000 in
set_option maxHeartbeats 4000000 in
theorem kAmounts_any (a : Amt) (w : World) : Calls Try.prog 39 #[.agg #[.int .i64 a.cpu, .int .i64 a.mem, .int .i64 a.gpu]] w fun e w' => e = .returned (.agg #[.int .i64 a.cpu, .int .i64 a.mem, .int .i64 a.gpu]) ∧ Below w.heap.size w w' := by
  obtain ⟨x, hx⟩ : ∃ x, a.cpu = x := ⟨_, rfl⟩
  obtain ⟨y, hy⟩ : ∃ x, a.mem = x := ⟨_, rfl⟩
  obtain ⟨z, hz⟩ : ∃ x, a.gpu = x := ⟨_, rfl⟩
  rw [hx, hy, hz]
  clear hx hy hz
  go_enter Try.func39, Try.ntmps39
  go_wp2_with fail
  refine bodyPost_ret (v := .agg #[.int .i64 x, .int .i64 y, .int .i64 z]) (by simp [results, Try.results39, go_sem]) rfl ⟨rfl, ?_⟩
  exact ((Below.refl _ _).alloc (Nat.le_refl _) _).alloc (by simp) _
set_option maxRecDepth 20000 in
set_option maxHeartbeats 64000000 in
theorem refHolds_all (h : Hst) : ∀ (N : Nat) (x : Ask) (v hv : Value) (w : World), x.size ≤ N → x.err = 0 → AskV w x v → HostV w h hv → Calls Try.prog 40 #[v, hv] w fun e w' => e = .returned (.bool (x.ev (atomB h))) ∧ Below w.heap.size w w' := by
  intro N
  induction N with
  | zero => intro x v hv w h; have := Ask.one_le x; omega
  | succ N ih =>
    intro x v hv w hN herr hx hh
    have HIH := Lib.hid ih
    have HHV := Lib.hid hh
    obtain ⟨la, ln, lc, rfl, h1, h2, h3, h4⟩ := hh
    cases x with
    | mk k ka va nu l =>
    rw [AskV] at hx
    obtain ⟨ad, n, cap, rfl, hn, hcap, hmax, u1, u2, hrow⟩ := hx
    clear u1 u2
    obtain ⟨hb0, hes⟩ := Ask.err_zero herr
    obtain ⟨hk1, hk6, hlen, u1, u2, u3, u4, u5, hun, u6⟩ := Ask.bad_zero hb0
    clear u1 u2 u3 u4 u5 u6
    have HUN := Lib.hid hun
    rw [Ask.size] at hN
    rw [← hn] at hlen
    obtain ⟨V, hV⟩ : ∃ V, (Ask.mk k ka va nu l).ev (atomB h) = V := ⟨_, rfl⟩
    have HV := Lib.hid hV
    rw [hV]
    have HN := Lib.hid hn
    have HR := Lib.hid hrow
    have HES := Lib.hid hes
    have HLB := Lib.hid h4
    have HLN := Lib.hid h1
    have HKA := Lib.hid (fun l : Lab => bts_eq l.1 ka)
    have HVA := Lib.hid (fun l : Lab => bts_eq l.2 va)
    have HA1 : Hid (∃ a, bts ka = a) := Lib.hid ⟨_, rfl⟩
    obtain ⟨a1, ha1⟩ : ∃ a, bts ka = a := ⟨_, rfl⟩
    obtain ⟨a2, ha2⟩ : ∃ a, bts va = a := ⟨_, rfl⟩
    obtain ⟨a3, ha3⟩ : ∃ s, bts h.name = s := ⟨_, rfl⟩
    rw [ha1] at HKA ⊢
    rw [ha2] at HVA ⊢
    rw [ha3] at HHV ⊢
    have HAK := Lib.hid ha1
    obtain ⟨W0, hW0⟩ : ∃ W, W = (w.alloc (.cells #[.int .i64 k, .string a1, .string a2, .int .i64 nu, .slice ad n cap] 25)).alloc (.cells #[.string a3, .slice la ln lc, .int .i64 h.has.cpu, .int .i64 h.has.mem, .int .i64 h.has.gpu, .int .i64 h.used.cpu, .int .i64 h.used.mem, .int .i64 h.used.gpu] 30) := ⟨_, rfl⟩
    have hb9 : Below w.heap.size w W0 := by rw [hW0]; exact ((Below.refl _ _).alloc (Nat.le_refl _) _).alloc (by simp) _
    have HB9 := Lib.hid hb9
    have hsz : W0.heap.size = w.heap.size + 2 := by rw [hW0]; simp
    have d0 : W0.cell? ⟨w.heap.size, 0, none⟩ = some (.int .i64 k) := by rw [hW0]; simp
    have d1 : W0.cell? ⟨w.heap.size, 1, none⟩ = some (.string a1) := by rw [hW0]; simp
    have d2 : W0.cell? ⟨w.heap.size, 2, none⟩ = some (.string a2) := by rw [hW0]; simp
    have d3 : W0.cell? ⟨w.heap.size, 3, none⟩ = some (.int .i64 nu) := by rw [hW0]; simp
    have d4 : W0.cell? ⟨w.heap.size, 4, none⟩ = some (.slice ad n cap) := by rw [hW0]; simp
    have g0 : W0.cell? ⟨w.heap.size + 1, 0, none⟩ = some (.string a3) := by rw [hW0]; simp
    have g1 : W0.cell? ⟨w.heap.size + 1, 1, none⟩ = some (.slice la ln lc) := by rw [hW0]; simp
    have g2 : W0.cell? ⟨w.heap.size + 1, 2, none⟩ = some (.int .i64 h.has.cpu) := by rw [hW0]; simp
    have g3 : W0.cell? ⟨w.heap.size + 1, 3, none⟩ = some (.int .i64 h.has.mem) := by rw [hW0]; simp
    have g4 : W0.cell? ⟨w.heap.size + 1, 4, none⟩ = some (.int .i64 h.has.gpu) := by rw [hW0]; simp
    have g5 : W0.cell? ⟨w.heap.size + 1, 5, none⟩ = some (.int .i64 h.used.cpu) := by rw [hW0]; simp
    have g6 : W0.cell? ⟨w.heap.size + 1, 6, none⟩ = some (.int .i64 h.used.mem) := by rw [hW0]; simp
    have g7 : W0.cell? ⟨w.heap.size + 1, 7, none⟩ = some (.int .i64 h.used.gpu) := by rw [hW0]; simp
    have HAM := Lib.hid (fun w => kAmounts_any h.has w)
    obtain ⟨hc, ehc⟩ : ∃ x, h.has.cpu = x := ⟨_, rfl⟩
    obtain ⟨hm, ehm⟩ : ∃ x, h.has.mem = x := ⟨_, rfl⟩
    obtain ⟨hg, ehg⟩ : ∃ x, h.has.gpu = x := ⟨_, rfl⟩
    obtain ⟨uc, euc⟩ : ∃ x, h.used.cpu = x := ⟨_, rfl⟩
    obtain ⟨um, eum⟩ : ∃ x, h.used.mem = x := ⟨_, rfl⟩
    obtain ⟨ug, eug⟩ : ∃ x, h.used.gpu = x := ⟨_, rfl⟩
    have HHS : Hid (h.has = ⟨hc, hm, hg⟩) := Lib.hid (by rw [← ehc, ← ehm, ← ehg])
    rw [ehc] at g2 hW0
    rw [ehm] at g3 hW0
    rw [ehg] at g4 hW0
    rw [euc] at g5 hW0
    rw [eum] at g6 hW0
    rw [eug] at g7 hW0
    rw [ehc, ehm, ehg] at HAM
    rw [ehc, ehm, ehg, euc, eum, eug] at HHV ⊢
    obtain ⟨cx, hcx⟩ : ∃ c, c = w.heap.size := ⟨_, rfl⟩
    rw [← hcx] at d0 d1 d2 d3 d4 g0 g1 g2 g3 g4 g5 g6 g7 hsz
    have hcx0 : cx < W0.heap.size := by omega
    have hcx1 : cx + 1 < W0.heap.size := by omega
    have HLEN := Lib.hid hlen
    clear hlen
    clear ih herr hn hrow hb0 hes hV hb9 ha1 ha2 ha3 h1 h4 hun ehc ehm ehg euc eum eug HA1
    by_cases h12 : k = 1 ∨ k = 2
    · have HVV : Hid (V = h.labels.any (labFit k ka va)) := Lib.hid (by rw [← HV.out, Ask.ev, if_neg (by omega), if_neg (by omega), if_neg (by omega), atomB, if_neg (by omega)])
      clear hsz
      go_enter Try.func40, Try.ntmps40
      go_upto_region 1 with fail
      rw [← hW0, ← hcx]
      clear hW0 hcx
      obtain ⟨gg, hgg⟩ : ∃ g, labFit k ka va = g := ⟨_, rfl⟩
      have HGG : Hid (∀ y, gg y = labFit k ka va y) := Lib.hid (fun y => by rw [hgg])
      rw [hgg] at HVV
      clear hgg
      rcases h12 with rfl | rfl
      all_goals
        go_wp2_with fail
        go_loopg [18] ln (fun g x wr => ∃ j : Nat, j + g = ln ∧ x = .int .i64 (j : Int) ∧ Hid (NoFit gg h.labels j) ∧ Hid (Below W0.heap.size W0 wr))
        case atStart => exact ⟨0, by omega, rfl, Lib.hid (NoFit.zero _ _), Lib.hid (Below.refl _ _)⟩
        case round =>
          obtain ⟨j, hj, rfl, HF, HB⟩ := hrel
          have HBW : Hid (Below w.heap.size w wr) := Lib.hid (HB9.out.trans (HB.out.mono HB9.out.size))
          by_cases hjn : j < ln
          · obtain ⟨y, hy⟩ : ∃ y, h.labels[j]? = some y := ⟨_, List.getElem?_eq_getElem (by rw [← HLN.out]; exact hjn)⟩
            obtain ⟨bl, off, rfl, hb, hat⟩ := HLB.out (by have := HLN.out; omega)
            obtain ⟨r0, r1⟩ := (hat.below HBW.out hb) j y hy
            have hbr : bl < wr.heap.size := Nat.lt_of_lt_of_le hb HBW.out.size
            have hj1 : (0 : Int) ≤ (j : Int) := by omega
            have hj2 : (j : Int) < (ln : Int) := by omega
            have f0 := (HB.out.cell (p := ⟨cx, 0, none⟩) hcx0).trans d0
            have f1 := (HB.out.cell (p := ⟨cx, 1, none⟩) hcx0).trans d1
            have f2 := (HB.out.cell (p := ⟨cx, 2, none⟩) hcx0).trans d2
            have hcr : cx < wr.heap.size := Nat.lt_of_lt_of_le hcx0 HB.out.size
            have HY := Lib.hid hy
            have E1 := Lib.hid (HKA.out y)
            have E2 := Lib.hid (HVA.out y)
            obtain ⟨y1, hy1⟩ : ∃ s, bts y.1 = s := ⟨_, rfl⟩
            obtain ⟨y2, hy2⟩ : ∃ s, bts y.2 = s := ⟨_, rfl⟩
            rw [hy1] at r0 E1
            rw [hy2] at r1 E2
            clear hat hy hy1 hy2
            have HBA : Hid (Below W0.heap.size W0 (wr.alloc (.cells #[.string y1, .string y2] 56))) := Lib.hid (HB.out.alloc HB.out.size _)
            have HBF : Hid (Below w.heap.size w (wr.alloc (.cells #[.string y1, .string y2] 56))) := Lib.hid (HBW.out.alloc HBW.out.size _)
            cases e1 : decide (y.1 = ka) with
            | false =>
              have HQ := Lib.hid (HF.out.succ HY.out (by rw [HGG.out, labFit, e1]; rfl))
              have x1 : (y1.toList == a1.toList) = false := by rw [E1.out, e1]
              clear e1
              go_wp2_with fail
              go_roundg (ln - (j + 1))
              case measure => omega
              case rel => exact ⟨j + 1, by omega, by simp, HQ, HBA⟩
            | true =>
              have x1 : (y1.toList == a1.toList) = true := by rw [E1.out, e1]
              cases e2 : decide (y.2 = va) with
              | false =>
                have x2 : (y2.toList == a2.toList) = false := by rw [E2.out, e2]
                first
                  | (have HQ := Lib.hid (HF.out.succ HY.out (by rw [HGG.out, labFit, e1, e2]; decide))
                     clear e1 e2
                     go_wp2_with fail
                     go_roundg (ln - (j + 1))
                     case measure => omega
                     case rel => exact ⟨j + 1, by omega, by simp, HQ, HBA⟩)
                  | (have HVT : Hid (true = V) := Lib.hid (by rw [HVV.out]; exact (any_hit HY.out (by rw [HGG.out, labFit, e1, e2]; decide)).symm)
                     clear e1 e2
                     go_wp2_with fail
                     go_ret
                     exact ⟨ret_bool HVT.out, HBF.out⟩)
              | true =>
                have x2 : (y2.toList == a2.toList) = true := by rw [E2.out, e2]
                have HVT : Hid (true = V) := Lib.hid (by rw [HVV.out]; exact (any_hit HY.out (by rw [HGG.out, labFit, e1, e2]; decide)).symm)
                clear e1 e2
                go_wp2_with fail
                go_ret
                exact ⟨ret_bool HVT.out, HBF.out⟩
          · obtain rfl : j = ln := by omega
            have HVF : Hid (false = V) := Lib.hid (by rw [HVV.out]; rw [HLN.out] at HF; exact HF.out.fin.symm)
            go_wp2_with fail
            go_ret
            exact ⟨ret_bool HVF.out, HBW.out⟩
    by_cases h3k : k = 3
    · subst h3k
      have HVV : Hid (V = decide (nu ≤ h.has.get ka)) := Lib.hid (by rw [← HV.out, Ask.ev, if_neg (by decide), if_neg (by decide), if_neg (by decide), atomB, if_pos rfl])
      have hu3 : (a1 = ⟨#[99, 112, 117]⟩ ∧ V = decide (nu ≤ hc)) ∨ (a1 = ⟨#[109, 101, 109]⟩ ∧ V = decide (nu ≤ hm)) ∨ (a1 = ⟨#[103, 112, 117]⟩ ∧ V = decide (nu ≤ hg)) := by
        have hu := HUN.out rfl
        have hvv := HVV.out
        rw [HHS.out] at hvv
        rw [← HAK.out]
        unfold Ask.unit at hu
        simp only [Bool.or_eq_true, decide_eq_true_eq] at hu
        rcases hu with (rfl | rfl) | rfl
        · exact .inl ⟨rfl, hvv⟩
        · exact .inr (.inl ⟨rfl, hvv⟩)
        · exact .inr (.inr ⟨rfl, hvv⟩)
      clear hsz HUN
      go_enter Try.func40, Try.ntmps40
      go_upto_region 1 with fail
      rw [← hW0, ← hcx]
      clear hW0 hcx
      rcases hu3 with ⟨rfl, hvv⟩ | ⟨rfl, hvv⟩ | ⟨rfl, hvv⟩
      · have HVF := Lib.hid hvv
        clear hvv
        go_wp2_with fail
        refine Calls.mono (HAM.out _) ?_
        rintro e' W3 ⟨rfl, hl⟩
        have HB3 := Lib.hid (HB9.out.trans (hl.mono HB9.out.size))
        have f1 := (hl.cell (p := ⟨cx, 1, none⟩) hcx0).trans d1
        have f3 := (hl.cell (p := ⟨cx, 3, none⟩) hcx0).trans d3
        have hcr : cx < W3.heap.size := Nat.lt_of_lt_of_le hcx0 hl.size
        clear hl d0 d1 d2 d3 d4 g0 g1 g2 g3 g4 g5 g6 g7
        go_wp2_with fail
        go_rounds 1
        go_quiet (fail)
        go_wp2_with fail
        go_ret
        exact ⟨ret_bool HVF.out.symm, below_drewN (HB3.out.trans (Below.mono (B := W3.heap.size) (by go_grown) HB3.out.size)) _⟩
      · have HVF := Lib.hid hvv
        clear hvv
        go_wp2_with fail
        refine Calls.mono (HAM.out _) ?_
        rintro e' W3 ⟨rfl, hl⟩
        have HB3 := Lib.hid (HB9.out.trans (hl.mono HB9.out.size))
        have f1 := (hl.cell (p := ⟨cx, 1, none⟩) hcx0).trans d1
        have f3 := (hl.cell (p := ⟨cx, 3, none⟩) hcx0).trans d3
        have hcr : cx < W3.heap.size := Nat.lt_of_lt_of_le hcx0 hl.size
        clear hl d0 d1 d2 d3 d4 g0 g1 g2 g3 g4 g5 g6 g7
        go_wp2_with fail
        go_rounds 2
        go_quiet (fail)
        go_wp2_with fail
        go_ret
        exact ⟨ret_bool HVF.out.symm, below_drewN (HB3.out.trans (Below.mono (B := W3.heap.size) (by go_grown) HB3.out.size)) _⟩
      · have HVF := Lib.hid hvv
        clear hvv
        go_wp2_with fail
        refine Calls.mono (HAM.out _) ?_
        rintro e' W3 ⟨rfl, hl⟩
        have HB3 := Lib.hid (HB9.out.trans (hl.mono HB9.out.size))
        have f1 := (hl.cell (p := ⟨cx, 1, none⟩) hcx0).trans d1
        have f3 := (hl.cell (p := ⟨cx, 3, none⟩) hcx0).trans d3
        have hcr : cx < W3.heap.size := Nat.lt_of_lt_of_le hcx0 hl.size
        clear hl d0 d1 d2 d3 d4 g0 g1 g2 g3 g4 g5 g6 g7
        go_wp2_with fail
        go_rounds 3
        go_quiet (fail)
        go_wp2_with fail
        go_ret
        exact ⟨ret_bool HVF.out.symm, below_drewN (HB3.out.trans (Below.mono (B := W3.heap.size) (by go_grown) HB3.out.size)) _⟩
    obtain ⟨y, hy⟩ : ∃ y, l[0]? = some y := ⟨_, List.getElem?_eq_getElem (by rw [← HN.out, HLEN.out]; unfold Ask.inner; split <;> (try split) <;> omega)⟩
    have hn0 : 0 < n := by rw [HLEN.out]; unfold Ask.inner; split <;> (try split) <;> omega
    obtain ⟨bl, off, rfl, hb, hat⟩ := HR.out hn0
    have HAT := Lib.hid hat
    have hy1 := Ask.sizes_at hy
    have HY0 := Lib.hid (Ask.errs_at HES.out hy)
    have HE0 := Lib.hid (Ask.evs_at (f := atomB h) hy)
    have hbr : bl < W0.heap.size := Nat.lt_of_lt_of_le hb HB9.out.size
    obtain ⟨v0, hv0⟩ : ∃ b, y.ev (atomB h) = b := ⟨_, rfl⟩
    rw [hv0] at HE0
    obtain ⟨k0, k1, k2, k3, ad0, len0, cap0, c0, c1, c2, c3, c4, hyv'⟩ := hat.get' hy
    have HC0 : Hid (∀ W, Below w.heap.size w W → Calls Try.prog 40 #[.agg #[.int .i64 k0, .string k1, .string k2, .int .i64 k3, .slice ad0 len0 cap0], .agg #[.string a3, .slice la ln lc, .int .i64 hc, .int .i64 hm, .int .i64 hg, .int .i64 uc, .int .i64 um, .int .i64 ug]] W fun e w' => e = .returned (.bool v0) ∧ Below W.heap.size W w') := Lib.hid (fun W hW => by
      have := HIH.out y _ _ W (by omega) HY0.out (AskV.below hW _ _ hyv') (HHV.out.below hW)
      rw [hv0] at this
      exact this)
    simp only [Nat.zero_mul, Nat.add_zero] at c0 c1 c2 c3 c4
    replace c0 := (HB9.out.cell (p := ⟨bl, _, none⟩) hb).trans c0
    replace c1 := (HB9.out.cell (p := ⟨bl, _, none⟩) hb).trans c1
    replace c2 := (HB9.out.cell (p := ⟨bl, _, none⟩) hb).trans c2
    replace c3 := (HB9.out.cell (p := ⟨bl, _, none⟩) hb).trans c3
    replace c4 := (HB9.out.cell (p := ⟨bl, _, none⟩) hb).trans c4
    have hnz : (0 : Int) < (n : Int) := by omega
    clear hat hy hyv' hv0 d0 d1 d2 d3 hsz
    by_cases h4 : k = 4
    · subst h4
      have HVV : Hid (V = !v0) := Lib.hid (by rw [← HV.out, Ask.ev, if_pos rfl, HE0.out])
      go_enter Try.func40, Try.ntmps40
      go_upto_region 21 with fail
      rw [← hW0, ← hcx]
      clear hW0 hcx
      go_region_held3 (fun W => W.cell? ⟨cx, 4, none⟩ = some (.slice (some ⟨bl, off, none⟩) n cap) ∧ W.cell? ⟨bl, off, none⟩ = some (.int .i64 k0) ∧ W.cell? ⟨bl, off + 1, none⟩ = some (.string k1) ∧ W.cell? ⟨bl, off + 2, none⟩ = some (.string k2) ∧ W.cell? ⟨bl, off + 3, none⟩ = some (.int .i64 k3) ∧ W.cell? ⟨bl, off + 4, none⟩ = some (.slice ad0 len0 cap0) ∧ W.cell? ⟨cx + 1, 0, none⟩ = some (.string a3) ∧ W.cell? ⟨cx + 1, 1, none⟩ = some (.slice la ln lc) ∧ W.cell? ⟨cx + 1, 2, none⟩ = some (.int .i64 hc) ∧ W.cell? ⟨cx + 1, 3, none⟩ = some (.int .i64 hm) ∧ W.cell? ⟨cx + 1, 4, none⟩ = some (.int .i64 hg) ∧ W.cell? ⟨cx + 1, 5, none⟩ = some (.int .i64 uc) ∧ W.cell? ⟨cx + 1, 6, none⟩ = some (.int .i64 um) ∧ W.cell? ⟨cx + 1, 7, none⟩ = some (.int .i64 ug)) (first | exact ⟨d4, c0, c1, c2, c3, c4, g0, g1, g2, g3, g4, g5, g6, g7⟩ | exact ⟨(hb1.cell (p := ⟨cx, _, none⟩) hcx0).trans d4, (hb1.cell (p := ⟨bl, _, none⟩) hbr).trans c0, (hb1.cell (p := ⟨bl, _, none⟩) hbr).trans c1, (hb1.cell (p := ⟨bl, _, none⟩) hbr).trans c2, (hb1.cell (p := ⟨bl, _, none⟩) hbr).trans c3, (hb1.cell (p := ⟨bl, _, none⟩) hbr).trans c4, (hb1.cell (p := ⟨cx + 1, _, none⟩) hcx1).trans g0, (hb1.cell (p := ⟨cx + 1, _, none⟩) hcx1).trans g1, (hb1.cell (p := ⟨cx + 1, _, none⟩) hcx1).trans g2, (hb1.cell (p := ⟨cx + 1, _, none⟩) hcx1).trans g3, (hb1.cell (p := ⟨cx + 1, _, none⟩) hcx1).trans g4, (hb1.cell (p := ⟨cx + 1, _, none⟩) hcx1).trans g5, (hb1.cell (p := ⟨cx + 1, _, none⟩) hcx1).trans g6, (hb1.cell (p := ⟨cx + 1, _, none⟩) hcx1).trans g7⟩ | exact ⟨(hb2.cell (p := ⟨cx, _, none⟩) (Nat.lt_of_lt_of_le hcx0 hb1.size)).trans ((hb1.cell (p := ⟨cx, _, none⟩) hcx0).trans d4), (hb2.cell (p := ⟨bl, _, none⟩) (Nat.lt_of_lt_of_le hbr hb1.size)).trans ((hb1.cell (p := ⟨bl, _, none⟩) hbr).trans c0), (hb2.cell (p := ⟨bl, _, none⟩) (Nat.lt_of_lt_of_le hbr hb1.size)).trans ((hb1.cell (p := ⟨bl, _, none⟩) hbr).trans c1), (hb2.cell (p := ⟨bl, _, none⟩) (Nat.lt_of_lt_of_le hbr hb1.size)).trans ((hb1.cell (p := ⟨bl, _, none⟩) hbr).trans c2), (hb2.cell (p := ⟨bl, _, none⟩) (Nat.lt_of_lt_of_le hbr hb1.size)).trans ((hb1.cell (p := ⟨bl, _, none⟩) hbr).trans c3), (hb2.cell (p := ⟨bl, _, none⟩) (Nat.lt_of_lt_of_le hbr hb1.size)).trans ((hb1.cell (p := ⟨bl, _, none⟩) hbr).trans c4), (hb2.cell (p := ⟨cx + 1, _, none⟩) (Nat.lt_of_lt_of_le hcx1 hb1.size)).trans ((hb1.cell (p := ⟨cx + 1, _, none⟩) hcx1).trans g0), (hb2.cell (p := ⟨cx + 1, _, none⟩) (Nat.lt_of_lt_of_le hcx1 hb1.size)).trans ((hb1.cell (p := ⟨cx + 1, _, none⟩) hcx1).trans g1), (hb2.cell (p := ⟨cx + 1, _, none⟩) (Nat.lt_of_lt_of_le hcx1 hb1.size)).trans ((hb1.cell (p := ⟨cx + 1, _, none⟩) hcx1).trans g2), (hb2.cell (p := ⟨cx + 1, _, none⟩) (Nat.lt_of_lt_of_le hcx1 hb1.size)).trans ((hb1.cell (p := ⟨cx + 1, _, none⟩) hcx1).trans g3), (hb2.cell (p := ⟨cx + 1, _, none⟩) (Nat.lt_of_lt_of_le hcx1 hb1.size)).trans ((hb1.cell (p := ⟨cx + 1, _, none⟩) hcx1).trans g4), (hb2.cell (p := ⟨cx + 1, _, none⟩) (Nat.lt_of_lt_of_le hcx1 hb1.size)).trans ((hb1.cell (p := ⟨cx + 1, _, none⟩) hcx1).trans g5), (hb2.cell (p := ⟨cx + 1, _, none⟩) (Nat.lt_of_lt_of_le hcx1 hb1.size)).trans ((hb1.cell (p := ⟨cx + 1, _, none⟩) hcx1).trans g6), (hb2.cell (p := ⟨cx + 1, _, none⟩) (Nat.lt_of_lt_of_le hcx1 hb1.size)).trans ((hb1.cell (p := ⟨cx + 1, _, none⟩) hcx1).trans g7)⟩) (first | (go_at_call 40; refine Calls.mono (HC0.out _ (by first | exact HB9.out | exact HB9.out.trans (Below.mono (B := W0.heap.size) (by go_grown) HB9.out.size) | exact HB9.out.trans (Below.mono (B := W0.heap.size) ((show Below W0.heap.size W0 W0.drew from by go_grown).trans hb1) HB9.out.size) | exact HB9.out.trans (Below.mono (B := W0.heap.size) (hb1) HB9.out.size) | exact (HB9.out.trans (Below.mono (B := W0.heap.size) (hb1) HB9.out.size)).trans (by go_grown))) ?_; rintro e w1 ⟨rfl, hb1⟩))
      all_goals
        go_wp2_with fail
        go_ret
        exact ⟨ret_bool HVV.out.symm, (by first | exact HB9.out.trans (Below.mono (B := W0.heap.size) (((show Below W0.heap.size W0 W0.drew from by go_grown).trans hb1).trans (hb2.mono hb1.size)) HB9.out.size) | exact HB9.out.trans (Below.mono (B := W0.heap.size) ((show Below W0.heap.size W0 W0.drew from by go_grown).trans hb1) HB9.out.size) | exact HB9.out.trans (Below.mono (B := W0.heap.size) hb1 HB9.out.size))⟩
    have hlen2 : n = 2 := by rw [HLEN.out]; unfold Ask.inner; rw [if_pos (by omega)]
    subst hlen2
    obtain ⟨z, hz⟩ : ∃ z, l[1]? = some z := ⟨_, List.getElem?_eq_getElem (by rw [← HN.out]; omega)⟩
    have hz1 := Ask.sizes_at hz
    have HZ0 := Lib.hid (Ask.errs_at HES.out hz)
    have HE1 := Lib.hid (Ask.evs_at (f := atomB h) hz)
    obtain ⟨v1, hv1⟩ : ∃ b, z.ev (atomB h) = b := ⟨_, rfl⟩
    rw [hv1] at HE1
    obtain ⟨m0, m1, m2, m3, ad1, len1, cap1, z0, z1, z2, z3, z4, hzv⟩ := HAT.out.get' hz
    have HC1 : Hid (∀ W, Below w.heap.size w W → Calls Try.prog 40 #[.agg #[.int .i64 m0, .string m1, .string m2, .int .i64 m3, .slice ad1 len1 cap1], .agg #[.string a3, .slice la ln lc, .int .i64 hc, .int .i64 hm, .int .i64 hg, .int .i64 uc, .int .i64 um, .int .i64 ug]] W fun e w' => e = .returned (.bool v1) ∧ Below W.heap.size W w') := Lib.hid (fun W hW => by
      have := HIH.out z _ _ W (by omega) HZ0.out (AskV.below hW _ _ hzv) (HHV.out.below hW)
      rw [hv1] at this
      exact this)
    simp only [Nat.one_mul] at z0 z1 z2 z3 z4
    replace z0 := (HB9.out.cell (p := ⟨bl, _, none⟩) hb).trans z0
    replace z1 := (HB9.out.cell (p := ⟨bl, _, none⟩) hb).trans z1
    replace z2 := (HB9.out.cell (p := ⟨bl, _, none⟩) hb).trans z2
    replace z3 := (HB9.out.cell (p := ⟨bl, _, none⟩) hb).trans z3
    replace z4 := (HB9.out.cell (p := ⟨bl, _, none⟩) hb).trans z4
    have h56 : k = 5 ∨ k = 6 := by omega
    clear hz hzv hv1
    rcases h56 with rfl | rfl
    · have HVV : Hid (V = (v0 && v1)) := Lib.hid (by rw [← HV.out, Ask.ev, if_neg (by omega), if_pos rfl, HE0.out, HE1.out])
      go_enter Try.func40, Try.ntmps40
      go_upto_region 23 with fail
      rw [← hW0, ← hcx]
      clear hW0 hcx
      cases v0 with
      | false =>
        refine wp_region_held_drew (S := fun W => W.cell? ⟨cx, 4, none⟩ = some (.slice (some ⟨bl, off, none⟩) 2 cap) ∧ W.cell? ⟨bl, off, none⟩ = some (.int .i64 k0) ∧ W.cell? ⟨bl, off + 1, none⟩ = some (.string k1) ∧ W.cell? ⟨bl, off + 2, none⟩ = some (.string k2) ∧ W.cell? ⟨bl, off + 3, none⟩ = some (.int .i64 k3) ∧ W.cell? ⟨bl, off + 4, none⟩ = some (.slice ad0 len0 cap0) ∧ W.cell? ⟨bl, off + 5, none⟩ = some (.int .i64 m0) ∧ W.cell? ⟨bl, off + 5 + 1, none⟩ = some (.string m1) ∧ W.cell? ⟨bl, off + 5 + 2, none⟩ = some (.string m2) ∧ W.cell? ⟨bl, off + 5 + 3, none⟩ = some (.int .i64 m3) ∧ W.cell? ⟨bl, off + 5 + 4, none⟩ = some (.slice ad1 len1 cap1) ∧ W.cell? ⟨cx + 1, 0, none⟩ = some (.string a3) ∧ W.cell? ⟨cx + 1, 1, none⟩ = some (.slice la ln lc) ∧ W.cell? ⟨cx + 1, 2, none⟩ = some (.int .i64 hc) ∧ W.cell? ⟨cx + 1, 3, none⟩ = some (.int .i64 hm) ∧ W.cell? ⟨cx + 1, 4, none⟩ = some (.int .i64 hg) ∧ W.cell? ⟨cx + 1, 5, none⟩ = some (.int .i64 uc) ∧ W.cell? ⟨cx + 1, 6, none⟩ = some (.int .i64 um) ∧ W.cell? ⟨cx + 1, 7, none⟩ = some (.int .i64 ug)) (by kernel_rfl) (by exact ⟨d4, c0, c1, c2, c3, c4, z0, z1, z2, z3, z4, g0, g1, g2, g3, g4, g5, g6, g7⟩) (fun hHeld => ?_)
        refine wpAnyH_take (i := 0) (v := ?va0) rfl (by kernel_rfl) (by kernel_rfl) (by kernel_rfl) (fun _ _ _ h => h) (Or.inl ⟨by rfl, ?hya0⟩) (by assumption) ?resta0
        case hya0 =>
          intro w hSw
          (try dsimp only at hSw)
          go_simp
          (try with_reducible rfl)
        change wpAnyH _ _ _ _ _ _ _ (Act.put _ (some 74) _) _
        try simp only [Act.put, List.setIfInBounds_toArray, List.set_cons_zero, List.set_cons_succ]
        refine wpAnyH_take (i := 1) (v := ?va1) rfl (by kernel_rfl) (by kernel_rfl) (by kernel_rfl) (fun _ _ _ h => h) (Or.inl ⟨by rfl, ?hya1⟩) (by assumption) ?resta1
        case hya1 =>
          intro w hSw
          (try dsimp only at hSw)
          go_simp
          (try with_reducible rfl)
        change wpAnyH _ _ _ _ _ _ _ (Act.put _ (some 75) _) _
        try simp only [Act.put, List.setIfInBounds_toArray, List.set_cons_zero, List.set_cons_succ]
        refine wpAnyH_take (i := 2) (v := ?va2) rfl (by kernel_rfl) (by kernel_rfl) (by kernel_rfl) (fun _ _ _ h => h) (Or.inl ⟨by rfl, ?hya2⟩) (by assumption) ?resta2
        case hya2 =>
          intro w hSw
          (try dsimp only at hSw)
          go_simp
          (try with_reducible rfl)
        change wpAnyH _ _ _ _ _ _ _ (Act.put _ (some 76) _) _
        try simp only [Act.put, List.setIfInBounds_toArray, List.set_cons_zero, List.set_cons_succ]
        refine wpAnyH_take (i := 3) (v := ?va3) rfl (by kernel_rfl) (by kernel_rfl) (by kernel_rfl) (fun _ _ _ h => h) (Or.inl ⟨by rfl, ?hya3⟩) (by assumption) ?resta3
        case hya3 =>
          intro w hSw
          (try dsimp only at hSw)
          go_simp
          (try with_reducible rfl)
        change wpAnyH _ _ _ _ _ _ _ (Act.put _ (some 77) _) _
        try simp only [Act.put, List.setIfInBounds_toArray, List.set_cons_zero, List.set_cons_succ]
        refine wpAnyH_take (i := 4) (v := ?va4) rfl (by kernel_rfl) (by kernel_rfl) (by kernel_rfl) (fun _ _ _ h => h) (Or.inl ⟨by rfl, ?hya4⟩) (by assumption) ?resta4
        case hya4 =>
          intro w hSw
          (try dsimp only at hSw)
          go_simp
          (try with_reducible rfl)
        change wpAnyH _ _ _ _ _ _ _ (Act.put _ (some 78) _) _
        try simp only [Act.put, List.setIfInBounds_toArray, List.set_cons_zero, List.set_cons_succ]
        refine wpAnyH_ready (rs := [5]) (by kernel_rfl) (by simp) ?_
        refine AllReadyH.cons rfl (fun K hK => ?_) AllReadyH.nil
        go_simp
        go_at_call 40
        refine Calls.mono (HC0.out _ (by first | exact HB9.out | exact HB9.out.trans (Below.mono (B := W0.heap.size) (by go_grown) HB9.out.size))) ?_
        rintro e w1 ⟨rfl, hb1⟩
        (try go_wp2_with fail)
        refine hK.out _ _ (by exact ⟨(hb1.cell (p := ⟨cx, _, none⟩) hcx0).trans d4, (hb1.cell (p := ⟨bl, _, none⟩) hbr).trans c0, (hb1.cell (p := ⟨bl, _, none⟩) hbr).trans c1, (hb1.cell (p := ⟨bl, _, none⟩) hbr).trans c2, (hb1.cell (p := ⟨bl, _, none⟩) hbr).trans c3, (hb1.cell (p := ⟨bl, _, none⟩) hbr).trans c4, (hb1.cell (p := ⟨bl, _, none⟩) hbr).trans z0, (hb1.cell (p := ⟨bl, _, none⟩) hbr).trans z1, (hb1.cell (p := ⟨bl, _, none⟩) hbr).trans z2, (hb1.cell (p := ⟨bl, _, none⟩) hbr).trans z3, (hb1.cell (p := ⟨bl, _, none⟩) hbr).trans z4, (hb1.cell (p := ⟨cx + 1, _, none⟩) hcx1).trans g0, (hb1.cell (p := ⟨cx + 1, _, none⟩) hcx1).trans g1, (hb1.cell (p := ⟨cx + 1, _, none⟩) hcx1).trans g2, (hb1.cell (p := ⟨cx + 1, _, none⟩) hcx1).trans g3, (hb1.cell (p := ⟨cx + 1, _, none⟩) hcx1).trans g4, (hb1.cell (p := ⟨cx + 1, _, none⟩) hcx1).trans g5, (hb1.cell (p := ⟨cx + 1, _, none⟩) hcx1).trans g6, (hb1.cell (p := ⟨cx + 1, _, none⟩) hcx1).trans g7⟩) (fun hHeld => ?_)
        clear hK K
        try simp only [Act.put, List.setIfInBounds_toArray, List.set_cons_zero, List.set_cons_succ]
        refine wpAnyH_take (i := 6) (v := ?va6) rfl (by kernel_rfl) (by kernel_rfl) (by kernel_rfl) (fun _ _ _ h => h) (Or.inl ⟨by rfl, ?hya6⟩) (by assumption) ?resta6
        case hya6 =>
          intro w hSw
          (try dsimp only at hSw)
          go_simp
          (try with_reducible rfl)
        change wpAnyH _ _ _ _ _ _ _ (Act.put _ (some 80) _) _
        try simp only [Act.put, List.setIfInBounds_toArray, List.set_cons_zero, List.set_cons_succ]
        refine wpAnyH_take (i := 7) (v := undef) rfl (by kernel_rfl) (by kernel_rfl) (by kernel_rfl) (fun _ _ _ h => h) (Or.inr ⟨by rfl, rfl⟩) (by assumption) ?_
        change wpAnyH _ _ _ _ _ _ _ (Act.put _ (some 81) _) _
        try simp only [Act.put, List.setIfInBounds_toArray, List.set_cons_zero, List.set_cons_succ]
        refine wpAnyH_take (i := 8) (v := undef) rfl (by kernel_rfl) (by kernel_rfl) (by kernel_rfl) (fun _ _ _ h => h) (Or.inr ⟨by rfl, rfl⟩) (by assumption) ?_
        change wpAnyH _ _ _ _ _ _ _ (Act.put _ (some 82) _) _
        try simp only [Act.put, List.setIfInBounds_toArray, List.set_cons_zero, List.set_cons_succ]
        refine wpAnyH_take (i := 9) (v := undef) rfl (by kernel_rfl) (by kernel_rfl) (by kernel_rfl) (fun _ _ _ h => h) (Or.inr ⟨by rfl, rfl⟩) (by assumption) ?_
        change wpAnyH _ _ _ _ _ _ _ (Act.put _ (some 83) _) _
        try simp only [Act.put, List.setIfInBounds_toArray, List.set_cons_zero, List.set_cons_succ]
        refine wpAnyH_take (i := 10) (v := undef) rfl (by kernel_rfl) (by kernel_rfl) (by kernel_rfl) (fun _ _ _ h => h) (Or.inr ⟨by rfl, rfl⟩) (by assumption) ?_
        change wpAnyH _ _ _ _ _ _ _ (Act.put _ (some 84) _) _
        try simp only [Act.put, List.setIfInBounds_toArray, List.set_cons_zero, List.set_cons_succ]
        refine wpAnyH_take (i := 11) (v := undef) rfl (by kernel_rfl) (by kernel_rfl) (by kernel_rfl) (fun _ _ _ h => h) (Or.inr ⟨by rfl, rfl⟩) (by assumption) ?_
        change wpAnyH _ _ _ _ _ _ _ (Act.put _ (some 85) _) _
        try simp only [Act.put, List.setIfInBounds_toArray, List.set_cons_zero, List.set_cons_succ]
        refine wpAnyH_take (i := 12) (v := undef) rfl (by kernel_rfl) (by kernel_rfl) (by kernel_rfl) (fun _ _ _ h => h) (Or.inr ⟨by rfl, rfl⟩) (by assumption) ?_
        change wpAnyH _ _ _ _ _ _ _ (Act.put _ (some 86) _) _
        try simp only [Act.put, List.setIfInBounds_toArray, List.set_cons_zero, List.set_cons_succ]
        refine wpAnyH_take (i := 13) (v := ?va13) rfl (by kernel_rfl) (by kernel_rfl) (by kernel_rfl) (fun _ _ _ h => h) (Or.inl ⟨by rfl, ?hya13⟩) (by assumption) ?resta13
        case hya13 =>
          intro w hSw
          (try dsimp only at hSw)
          go_simp
          (try with_reducible rfl)
        change wpAnyH _ _ _ _ _ _ _ (Act.put _ (some 87) _) _
        try simp only [Act.put, List.setIfInBounds_toArray, List.set_cons_zero, List.set_cons_succ]
        refine wpAnyH_take (i := 14) (v := ?va14) rfl (by kernel_rfl) (by kernel_rfl) (by kernel_rfl) (fun _ _ _ h => h) (Or.inl ⟨by rfl, ?hya14⟩) (by assumption) ?resta14
        case hya14 =>
          intro w hSw
          (try dsimp only at hSw)
          go_simp
          (try with_reducible rfl)
        change wpAnyH _ _ _ _ _ _ _ (Act.put _ (some 4) _) _
        try simp only [Act.put, List.setIfInBounds_toArray, List.set_cons_zero, List.set_cons_succ]
        refine wpAnyH_done (by kernel_rfl) ?_ _
        all_goals
          go_wp2_with fail
          go_ret
          exact ⟨ret_bool HVV.out.symm, (by first | exact HB9.out.trans (Below.mono (B := W0.heap.size) ((show Below W0.heap.size W0 W0.drew from by go_grown).trans hb1) HB9.out.size) | exact HB9.out.trans (Below.mono (B := W0.heap.size) hb1 HB9.out.size))⟩
      | true =>
        go_region_held3 (fun W => W.cell? ⟨cx, 4, none⟩ = some (.slice (some ⟨bl, off, none⟩) 2 cap) ∧ W.cell? ⟨bl, off, none⟩ = some (.int .i64 k0) ∧ W.cell? ⟨bl, off + 1, none⟩ = some (.string k1) ∧ W.cell? ⟨bl, off + 2, none⟩ = some (.string k2) ∧ W.cell? ⟨bl, off + 3, none⟩ = some (.int .i64 k3) ∧ W.cell? ⟨bl, off + 4, none⟩ = some (.slice ad0 len0 cap0) ∧ W.cell? ⟨bl, off + 5, none⟩ = some (.int .i64 m0) ∧ W.cell? ⟨bl, off + 5 + 1, none⟩ = some (.string m1) ∧ W.cell? ⟨bl, off + 5 + 2, none⟩ = some (.string m2) ∧ W.cell? ⟨bl, off + 5 + 3, none⟩ = some (.int .i64 m3) ∧ W.cell? ⟨bl, off + 5 + 4, none⟩ = some (.slice ad1 len1 cap1) ∧ W.cell? ⟨cx + 1, 0, none⟩ = some (.string a3) ∧ W.cell? ⟨cx + 1, 1, none⟩ = some (.slice la ln lc) ∧ W.cell? ⟨cx + 1, 2, none⟩ = some (.int .i64 hc) ∧ W.cell? ⟨cx + 1, 3, none⟩ = some (.int .i64 hm) ∧ W.cell? ⟨cx + 1, 4, none⟩ = some (.int .i64 hg) ∧ W.cell? ⟨cx + 1, 5, none⟩ = some (.int .i64 uc) ∧ W.cell? ⟨cx + 1, 6, none⟩ = some (.int .i64 um) ∧ W.cell? ⟨cx + 1, 7, none⟩ = some (.int .i64 ug)) (first | exact ⟨d4, c0, c1, c2, c3, c4, z0, z1, z2, z3, z4, g0, g1, g2, g3, g4, g5, g6, g7⟩ | exact ⟨(hb2.cell (p := ⟨cx, _, none⟩) (Nat.lt_of_lt_of_le hcx0 hb1.size)).trans ((hb1.cell (p := ⟨cx, _, none⟩) hcx0).trans d4), (hb2.cell (p := ⟨bl, _, none⟩) (Nat.lt_of_lt_of_le hbr hb1.size)).trans ((hb1.cell (p := ⟨bl, _, none⟩) hbr).trans c0), (hb2.cell (p := ⟨bl, _, none⟩) (Nat.lt_of_lt_of_le hbr hb1.size)).trans ((hb1.cell (p := ⟨bl, _, none⟩) hbr).trans c1), (hb2.cell (p := ⟨bl, _, none⟩) (Nat.lt_of_lt_of_le hbr hb1.size)).trans ((hb1.cell (p := ⟨bl, _, none⟩) hbr).trans c2), (hb2.cell (p := ⟨bl, _, none⟩) (Nat.lt_of_lt_of_le hbr hb1.size)).trans ((hb1.cell (p := ⟨bl, _, none⟩) hbr).trans c3), (hb2.cell (p := ⟨bl, _, none⟩) (Nat.lt_of_lt_of_le hbr hb1.size)).trans ((hb1.cell (p := ⟨bl, _, none⟩) hbr).trans c4), (hb2.cell (p := ⟨bl, _, none⟩) (Nat.lt_of_lt_of_le hbr hb1.size)).trans ((hb1.cell (p := ⟨bl, _, none⟩) hbr).trans z0), (hb2.cell (p := ⟨bl, _, none⟩) (Nat.lt_of_lt_of_le hbr hb1.size)).trans ((hb1.cell (p := ⟨bl, _, none⟩) hbr).trans z1), (hb2.cell (p := ⟨bl, _, none⟩) (Nat.lt_of_lt_of_le hbr hb1.size)).trans ((hb1.cell (p := ⟨bl, _, none⟩) hbr).trans z2), (hb2.cell (p := ⟨bl, _, none⟩) (Nat.lt_of_lt_of_le hbr hb1.size)).trans ((hb1.cell (p := ⟨bl, _, none⟩) hbr).trans z3), (hb2.cell (p := ⟨bl, _, none⟩) (Nat.lt_of_lt_of_le hbr hb1.size)).trans ((hb1.cell (p := ⟨bl, _, none⟩) hbr).trans z4), (hb2.cell (p := ⟨cx + 1, _, none⟩) (Nat.lt_of_lt_of_le hcx1 hb1.size)).trans ((hb1.cell (p := ⟨cx + 1, _, none⟩) hcx1).trans g0), (hb2.cell (p := ⟨cx + 1, _, none⟩) (Nat.lt_of_lt_of_le hcx1 hb1.size)).trans ((hb1.cell (p := ⟨cx + 1, _, none⟩) hcx1).trans g1), (hb2.cell (p := ⟨cx + 1, _, none⟩) (Nat.lt_of_lt_of_le hcx1 hb1.size)).trans ((hb1.cell (p := ⟨cx + 1, _, none⟩) hcx1).trans g2), (hb2.cell (p := ⟨cx + 1, _, none⟩) (Nat.lt_of_lt_of_le hcx1 hb1.size)).trans ((hb1.cell (p := ⟨cx + 1, _, none⟩) hcx1).trans g3), (hb2.cell (p := ⟨cx + 1, _, none⟩) (Nat.lt_of_lt_of_le hcx1 hb1.size)).trans ((hb1.cell (p := ⟨cx + 1, _, none⟩) hcx1).trans g4), (hb2.cell (p := ⟨cx + 1, _, none⟩) (Nat.lt_of_lt_of_le hcx1 hb1.size)).trans ((hb1.cell (p := ⟨cx + 1, _, none⟩) hcx1).trans g5), (hb2.cell (p := ⟨cx + 1, _, none⟩) (Nat.lt_of_lt_of_le hcx1 hb1.size)).trans ((hb1.cell (p := ⟨cx + 1, _, none⟩) hcx1).trans g6), (hb2.cell (p := ⟨cx + 1, _, none⟩) (Nat.lt_of_lt_of_le hcx1 hb1.size)).trans ((hb1.cell (p := ⟨cx + 1, _, none⟩) hcx1).trans g7)⟩ | exact ⟨(hb1.cell (p := ⟨cx, _, none⟩) hcx0).trans d4, (hb1.cell (p := ⟨bl, _, none⟩) hbr).trans c0, (hb1.cell (p := ⟨bl, _, none⟩) hbr).trans c1, (hb1.cell (p := ⟨bl, _, none⟩) hbr).trans c2, (hb1.cell (p := ⟨bl, _, none⟩) hbr).trans c3, (hb1.cell (p := ⟨bl, _, none⟩) hbr).trans c4, (hb1.cell (p := ⟨bl, _, none⟩) hbr).trans z0, (hb1.cell (p := ⟨bl, _, none⟩) hbr).trans z1, (hb1.cell (p := ⟨bl, _, none⟩) hbr).trans z2, (hb1.cell (p := ⟨bl, _, none⟩) hbr).trans z3, (hb1.cell (p := ⟨bl, _, none⟩) hbr).trans z4, (hb1.cell (p := ⟨cx + 1, _, none⟩) hcx1).trans g0, (hb1.cell (p := ⟨cx + 1, _, none⟩) hcx1).trans g1, (hb1.cell (p := ⟨cx + 1, _, none⟩) hcx1).trans g2, (hb1.cell (p := ⟨cx + 1, _, none⟩) hcx1).trans g3, (hb1.cell (p := ⟨cx + 1, _, none⟩) hcx1).trans g4, (hb1.cell (p := ⟨cx + 1, _, none⟩) hcx1).trans g5, (hb1.cell (p := ⟨cx + 1, _, none⟩) hcx1).trans g6, (hb1.cell (p := ⟨cx + 1, _, none⟩) hcx1).trans g7⟩) (first | (go_at_call 40; have hxx := hb1.size; clear hxx; refine Calls.mono (HC1.out _ (by first | exact HB9.out.trans (Below.mono (B := W0.heap.size) ((show Below W0.heap.size W0 W0.drew from by go_grown).trans hb1) HB9.out.size) | exact HB9.out.trans (Below.mono (B := W0.heap.size) hb1 HB9.out.size) | exact (HB9.out.trans (Below.mono (B := W0.heap.size) ((show Below W0.heap.size W0 W0.drew from by go_grown).trans hb1) HB9.out.size)).drew)) ?_; rintro e w2 ⟨rfl, hb2⟩) | (go_at_call 40; refine Calls.mono (HC0.out _ (by first | exact HB9.out | exact HB9.out.trans (Below.mono (B := W0.heap.size) (by go_grown) HB9.out.size))) ?_; rintro e w1 ⟨rfl, hb1⟩))
        all_goals
          go_wp2_with fail
          go_ret
          exact ⟨ret_bool HVV.out.symm, (by first | exact HB9.out.trans (Below.mono (B := W0.heap.size) (((show Below W0.heap.size W0 W0.drew from by go_grown).trans hb1).trans (hb2.mono hb1.size)) HB9.out.size) | exact HB9.out.trans (Below.mono (B := W0.heap.size) (hb1.trans (hb2.mono hb1.size)) HB9.out.size))⟩
    · have HVV : Hid (V = (v0 || v1)) := Lib.hid (by rw [← HV.out, Ask.ev, if_neg (by omega), if_neg (by omega), if_pos rfl, HE0.out, HE1.out])
      go_enter Try.func40, Try.ntmps40
      go_upto_region 24 with fail
      rw [← hW0, ← hcx]
      clear hW0 hcx
      cases v0 with
      | true =>
        refine wp_region_held_drew (S := fun W => W.cell? ⟨cx, 4, none⟩ = some (.slice (some ⟨bl, off, none⟩) 2 cap) ∧ W.cell? ⟨bl, off, none⟩ = some (.int .i64 k0) ∧ W.cell? ⟨bl, off + 1, none⟩ = some (.string k1) ∧ W.cell? ⟨bl, off + 2, none⟩ = some (.string k2) ∧ W.cell? ⟨bl, off + 3, none⟩ = some (.int .i64 k3) ∧ W.cell? ⟨bl, off + 4, none⟩ = some (.slice ad0 len0 cap0) ∧ W.cell? ⟨bl, off + 5, none⟩ = some (.int .i64 m0) ∧ W.cell? ⟨bl, off + 5 + 1, none⟩ = some (.string m1) ∧ W.cell? ⟨bl, off + 5 + 2, none⟩ = some (.string m2) ∧ W.cell? ⟨bl, off + 5 + 3, none⟩ = some (.int .i64 m3) ∧ W.cell? ⟨bl, off + 5 + 4, none⟩ = some (.slice ad1 len1 cap1) ∧ W.cell? ⟨cx + 1, 0, none⟩ = some (.string a3) ∧ W.cell? ⟨cx + 1, 1, none⟩ = some (.slice la ln lc) ∧ W.cell? ⟨cx + 1, 2, none⟩ = some (.int .i64 hc) ∧ W.cell? ⟨cx + 1, 3, none⟩ = some (.int .i64 hm) ∧ W.cell? ⟨cx + 1, 4, none⟩ = some (.int .i64 hg) ∧ W.cell? ⟨cx + 1, 5, none⟩ = some (.int .i64 uc) ∧ W.cell? ⟨cx + 1, 6, none⟩ = some (.int .i64 um) ∧ W.cell? ⟨cx + 1, 7, none⟩ = some (.int .i64 ug)) (by kernel_rfl) (by exact ⟨d4, c0, c1, c2, c3, c4, z0, z1, z2, z3, z4, g0, g1, g2, g3, g4, g5, g6, g7⟩) (fun hHeld => ?_)
        refine wpAnyH_take (i := 0) (v := ?vb0) rfl (by kernel_rfl) (by kernel_rfl) (by kernel_rfl) (fun _ _ _ h => h) (Or.inl ⟨by rfl, ?hyb0⟩) (by assumption) ?restb0
        case hyb0 =>
          intro w hSw
          (try dsimp only at hSw)
          go_simp
          (try with_reducible rfl)
        change wpAnyH _ _ _ _ _ _ _ (Act.put _ (some 88) _) _
        try simp only [Act.put, List.setIfInBounds_toArray, List.set_cons_zero, List.set_cons_succ]
        refine wpAnyH_take (i := 1) (v := ?vb1) rfl (by kernel_rfl) (by kernel_rfl) (by kernel_rfl) (fun _ _ _ h => h) (Or.inl ⟨by rfl, ?hyb1⟩) (by assumption) ?restb1
        case hyb1 =>
          intro w hSw
          (try dsimp only at hSw)
          go_simp
          (try with_reducible rfl)
        change wpAnyH _ _ _ _ _ _ _ (Act.put _ (some 89) _) _
        try simp only [Act.put, List.setIfInBounds_toArray, List.set_cons_zero, List.set_cons_succ]
        refine wpAnyH_take (i := 2) (v := ?vb2) rfl (by kernel_rfl) (by kernel_rfl) (by kernel_rfl) (fun _ _ _ h => h) (Or.inl ⟨by rfl, ?hyb2⟩) (by assumption) ?restb2
        case hyb2 =>
          intro w hSw
          (try dsimp only at hSw)
          go_simp
          (try with_reducible rfl)
        change wpAnyH _ _ _ _ _ _ _ (Act.put _ (some 90) _) _
        try simp only [Act.put, List.setIfInBounds_toArray, List.set_cons_zero, List.set_cons_succ]
        refine wpAnyH_take (i := 3) (v := ?vb3) rfl (by kernel_rfl) (by kernel_rfl) (by kernel_rfl) (fun _ _ _ h => h) (Or.inl ⟨by rfl, ?hyb3⟩) (by assumption) ?restb3
        case hyb3 =>
          intro w hSw
          (try dsimp only at hSw)
          go_simp
          (try with_reducible rfl)
        change wpAnyH _ _ _ _ _ _ _ (Act.put _ (some 91) _) _
        try simp only [Act.put, List.setIfInBounds_toArray, List.set_cons_zero, List.set_cons_succ]
        refine wpAnyH_take (i := 4) (v := ?vb4) rfl (by kernel_rfl) (by kernel_rfl) (by kernel_rfl) (fun _ _ _ h => h) (Or.inl ⟨by rfl, ?hyb4⟩) (by assumption) ?restb4
        case hyb4 =>
          intro w hSw
          (try dsimp only at hSw)
          go_simp
          (try with_reducible rfl)
        change wpAnyH _ _ _ _ _ _ _ (Act.put _ (some 92) _) _
        try simp only [Act.put, List.setIfInBounds_toArray, List.set_cons_zero, List.set_cons_succ]
        refine wpAnyH_ready (rs := [5]) (by kernel_rfl) (by simp) ?_
        refine AllReadyH.cons rfl (fun K hK => ?_) AllReadyH.nil
        go_simp
        go_at_call 40
        refine Calls.mono (HC0.out _ (by first | exact HB9.out | exact HB9.out.trans (Below.mono (B := W0.heap.size) (by go_grown) HB9.out.size))) ?_
        rintro e w1 ⟨rfl, hb1⟩
        (try go_wp2_with fail)
        refine hK.out _ _ (by exact ⟨(hb1.cell (p := ⟨cx, _, none⟩) hcx0).trans d4, (hb1.cell (p := ⟨bl, _, none⟩) hbr).trans c0, (hb1.cell (p := ⟨bl, _, none⟩) hbr).trans c1, (hb1.cell (p := ⟨bl, _, none⟩) hbr).trans c2, (hb1.cell (p := ⟨bl, _, none⟩) hbr).trans c3, (hb1.cell (p := ⟨bl, _, none⟩) hbr).trans c4, (hb1.cell (p := ⟨bl, _, none⟩) hbr).trans z0, (hb1.cell (p := ⟨bl, _, none⟩) hbr).trans z1, (hb1.cell (p := ⟨bl, _, none⟩) hbr).trans z2, (hb1.cell (p := ⟨bl, _, none⟩) hbr).trans z3, (hb1.cell (p := ⟨bl, _, none⟩) hbr).trans z4, (hb1.cell (p := ⟨cx + 1, _, none⟩) hcx1).trans g0, (hb1.cell (p := ⟨cx + 1, _, none⟩) hcx1).trans g1, (hb1.cell (p := ⟨cx + 1, _, none⟩) hcx1).trans g2, (hb1.cell (p := ⟨cx + 1, _, none⟩) hcx1).trans g3, (hb1.cell (p := ⟨cx + 1, _, none⟩) hcx1).trans g4, (hb1.cell (p := ⟨cx + 1, _, none⟩) hcx1).trans g5, (hb1.cell (p := ⟨cx + 1, _, none⟩) hcx1).trans g6, (hb1.cell (p := ⟨cx + 1, _, none⟩) hcx1).trans g7⟩) (fun hHeld => ?_)
        clear hK K
        try simp only [Act.put, List.setIfInBounds_toArray, List.set_cons_zero, List.set_cons_succ]
        refine wpAnyH_take (i := 6) (v := ?vb6) rfl (by kernel_rfl) (by kernel_rfl) (by kernel_rfl) (fun _ _ _ h => h) (Or.inl ⟨by rfl, ?hyb6⟩) (by assumption) ?restb6
        case hyb6 =>
          intro w hSw
          (try dsimp only at hSw)
          go_simp
          (try with_reducible rfl)
        change wpAnyH _ _ _ _ _ _ _ (Act.put _ (some 94) _) _
        try simp only [Act.put, List.setIfInBounds_toArray, List.set_cons_zero, List.set_cons_succ]
        refine wpAnyH_take (i := 7) (v := undef) rfl (by kernel_rfl) (by kernel_rfl) (by kernel_rfl) (fun _ _ _ h => h) (Or.inr ⟨by rfl, rfl⟩) (by assumption) ?_
        change wpAnyH _ _ _ _ _ _ _ (Act.put _ (some 95) _) _
        try simp only [Act.put, List.setIfInBounds_toArray, List.set_cons_zero, List.set_cons_succ]
        refine wpAnyH_take (i := 8) (v := undef) rfl (by kernel_rfl) (by kernel_rfl) (by kernel_rfl) (fun _ _ _ h => h) (Or.inr ⟨by rfl, rfl⟩) (by assumption) ?_
        change wpAnyH _ _ _ _ _ _ _ (Act.put _ (some 96) _) _
        try simp only [Act.put, List.setIfInBounds_toArray, List.set_cons_zero, List.set_cons_succ]
        refine wpAnyH_take (i := 9) (v := undef) rfl (by kernel_rfl) (by kernel_rfl) (by kernel_rfl) (fun _ _ _ h => h) (Or.inr ⟨by rfl, rfl⟩) (by assumption) ?_
        change wpAnyH _ _ _ _ _ _ _ (Act.put _ (some 97) _) _
        try simp only [Act.put, List.setIfInBounds_toArray, List.set_cons_zero, List.set_cons_succ]
        refine wpAnyH_take (i := 10) (v := undef) rfl (by kernel_rfl) (by kernel_rfl) (by kernel_rfl) (fun _ _ _ h => h) (Or.inr ⟨by rfl, rfl⟩) (by assumption) ?_
        change wpAnyH _ _ _ _ _ _ _ (Act.put _ (some 98) _) _
        try simp only [Act.put, List.setIfInBounds_toArray, List.set_cons_zero, List.set_cons_succ]
        refine wpAnyH_take (i := 11) (v := undef) rfl (by kernel_rfl) (by kernel_rfl) (by kernel_rfl) (fun _ _ _ h => h) (Or.inr ⟨by rfl, rfl⟩) (by assumption) ?_
        change wpAnyH _ _ _ _ _ _ _ (Act.put _ (some 99) _) _
        try simp only [Act.put, List.setIfInBounds_toArray, List.set_cons_zero, List.set_cons_succ]
        refine wpAnyH_take (i := 12) (v := undef) rfl (by kernel_rfl) (by kernel_rfl) (by kernel_rfl) (fun _ _ _ h => h) (Or.inr ⟨by rfl, rfl⟩) (by assumption) ?_
        change wpAnyH _ _ _ _ _ _ _ (Act.put _ (some 100) _) _
        try simp only [Act.put, List.setIfInBounds_toArray, List.set_cons_zero, List.set_cons_succ]
        refine wpAnyH_take (i := 13) (v := ?vb13) rfl (by kernel_rfl) (by kernel_rfl) (by kernel_rfl) (fun _ _ _ h => h) (Or.inl ⟨by rfl, ?hyb13⟩) (by assumption) ?restb13
        case hyb13 =>
          intro w hSw
          (try dsimp only at hSw)
          go_simp
          (try with_reducible rfl)
        change wpAnyH _ _ _ _ _ _ _ (Act.put _ (some 101) _) _
        try simp only [Act.put, List.setIfInBounds_toArray, List.set_cons_zero, List.set_cons_succ]
        refine wpAnyH_take (i := 14) (v := ?vb14) rfl (by kernel_rfl) (by kernel_rfl) (by kernel_rfl) (fun _ _ _ h => h) (Or.inl ⟨by rfl, ?hyb14⟩) (by assumption) ?restb14
        case hyb14 =>
          intro w hSw
          (try dsimp only at hSw)
          go_simp
          (try with_reducible rfl)
        change wpAnyH _ _ _ _ _ _ _ (Act.put _ (some 4) _) _
        try simp only [Act.put, List.setIfInBounds_toArray, List.set_cons_zero, List.set_cons_succ]
        refine wpAnyH_done (by kernel_rfl) ?_ _
        all_goals
          go_wp2_with fail
          go_ret
          exact ⟨ret_bool HVV.out.symm, (by first | exact HB9.out.trans (Below.mono (B := W0.heap.size) ((show Below W0.heap.size W0 W0.drew from by go_grown).trans hb1) HB9.out.size) | exact HB9.out.trans (Below.mono (B := W0.heap.size) hb1 HB9.out.size))⟩
      | false =>
        go_region_held3 (fun W => W.cell? ⟨cx, 4, none⟩ = some (.slice (some ⟨bl, off, none⟩) 2 cap) ∧ W.cell? ⟨bl, off, none⟩ = some (.int .i64 k0) ∧ W.cell? ⟨bl, off + 1, none⟩ = some (.string k1) ∧ W.cell? ⟨bl, off + 2, none⟩ = some (.string k2) ∧ W.cell? ⟨bl, off + 3, none⟩ = some (.int .i64 k3) ∧ W.cell? ⟨bl, off + 4, none⟩ = some (.slice ad0 len0 cap0) ∧ W.cell? ⟨bl, off + 5, none⟩ = some (.int .i64 m0) ∧ W.cell? ⟨bl, off + 5 + 1, none⟩ = some (.string m1) ∧ W.cell? ⟨bl, off + 5 + 2, none⟩ = some (.string m2) ∧ W.cell? ⟨bl, off + 5 + 3, none⟩ = some (.int .i64 m3) ∧ W.cell? ⟨bl, off + 5 + 4, none⟩ = some (.slice ad1 len1 cap1) ∧ W.cell? ⟨cx + 1, 0, none⟩ = some (.string a3) ∧ W.cell? ⟨cx + 1, 1, none⟩ = some (.slice la ln lc) ∧ W.cell? ⟨cx + 1, 2, none⟩ = some (.int .i64 hc) ∧ W.cell? ⟨cx + 1, 3, none⟩ = some (.int .i64 hm) ∧ W.cell? ⟨cx + 1, 4, none⟩ = some (.int .i64 hg) ∧ W.cell? ⟨cx + 1, 5, none⟩ = some (.int .i64 uc) ∧ W.cell? ⟨cx + 1, 6, none⟩ = some (.int .i64 um) ∧ W.cell? ⟨cx + 1, 7, none⟩ = some (.int .i64 ug)) (first | exact ⟨d4, c0, c1, c2, c3, c4, z0, z1, z2, z3, z4, g0, g1, g2, g3, g4, g5, g6, g7⟩ | exact ⟨(hb2.cell (p := ⟨cx, _, none⟩) (Nat.lt_of_lt_of_le hcx0 hb1.size)).trans ((hb1.cell (p := ⟨cx, _, none⟩) hcx0).trans d4), (hb2.cell (p := ⟨bl, _, none⟩) (Nat.lt_of_lt_of_le hbr hb1.size)).trans ((hb1.cell (p := ⟨bl, _, none⟩) hbr).trans c0), (hb2.cell (p := ⟨bl, _, none⟩) (Nat.lt_of_lt_of_le hbr hb1.size)).trans ((hb1.cell (p := ⟨bl, _, none⟩) hbr).trans c1), (hb2.cell (p := ⟨bl, _, none⟩) (Nat.lt_of_lt_of_le hbr hb1.size)).trans ((hb1.cell (p := ⟨bl, _, none⟩) hbr).trans c2), (hb2.cell (p := ⟨bl, _, none⟩) (Nat.lt_of_lt_of_le hbr hb1.size)).trans ((hb1.cell (p := ⟨bl, _, none⟩) hbr).trans c3), (hb2.cell (p := ⟨bl, _, none⟩) (Nat.lt_of_lt_of_le hbr hb1.size)).trans ((hb1.cell (p := ⟨bl, _, none⟩) hbr).trans c4), (hb2.cell (p := ⟨bl, _, none⟩) (Nat.lt_of_lt_of_le hbr hb1.size)).trans ((hb1.cell (p := ⟨bl, _, none⟩) hbr).trans z0), (hb2.cell (p := ⟨bl, _, none⟩) (Nat.lt_of_lt_of_le hbr hb1.size)).trans ((hb1.cell (p := ⟨bl, _, none⟩) hbr).trans z1), (hb2.cell (p := ⟨bl, _, none⟩) (Nat.lt_of_lt_of_le hbr hb1.size)).trans ((hb1.cell (p := ⟨bl, _, none⟩) hbr).trans z2), (hb2.cell (p := ⟨bl, _, none⟩) (Nat.lt_of_lt_of_le hbr hb1.size)).trans ((hb1.cell (p := ⟨bl, _, none⟩) hbr).trans z3), (hb2.cell (p := ⟨bl, _, none⟩) (Nat.lt_of_lt_of_le hbr hb1.size)).trans ((hb1.cell (p := ⟨bl, _, none⟩) hbr).trans z4), (hb2.cell (p := ⟨cx + 1, _, none⟩) (Nat.lt_of_lt_of_le hcx1 hb1.size)).trans ((hb1.cell (p := ⟨cx + 1, _, none⟩) hcx1).trans g0), (hb2.cell (p := ⟨cx + 1, _, none⟩) (Nat.lt_of_lt_of_le hcx1 hb1.size)).trans ((hb1.cell (p := ⟨cx + 1, _, none⟩) hcx1).trans g1), (hb2.cell (p := ⟨cx + 1, _, none⟩) (Nat.lt_of_lt_of_le hcx1 hb1.size)).trans ((hb1.cell (p := ⟨cx + 1, _, none⟩) hcx1).trans g2), (hb2.cell (p := ⟨cx + 1, _, none⟩) (Nat.lt_of_lt_of_le hcx1 hb1.size)).trans ((hb1.cell (p := ⟨cx + 1, _, none⟩) hcx1).trans g3), (hb2.cell (p := ⟨cx + 1, _, none⟩) (Nat.lt_of_lt_of_le hcx1 hb1.size)).trans ((hb1.cell (p := ⟨cx + 1, _, none⟩) hcx1).trans g4), (hb2.cell (p := ⟨cx + 1, _, none⟩) (Nat.lt_of_lt_of_le hcx1 hb1.size)).trans ((hb1.cell (p := ⟨cx + 1, _, none⟩) hcx1).trans g5), (hb2.cell (p := ⟨cx + 1, _, none⟩) (Nat.lt_of_lt_of_le hcx1 hb1.size)).trans ((hb1.cell (p := ⟨cx + 1, _, none⟩) hcx1).trans g6), (hb2.cell (p := ⟨cx + 1, _, none⟩) (Nat.lt_of_lt_of_le hcx1 hb1.size)).trans ((hb1.cell (p := ⟨cx + 1, _, none⟩) hcx1).trans g7)⟩ | exact ⟨(hb1.cell (p := ⟨cx, _, none⟩) hcx0).trans d4, (hb1.cell (p := ⟨bl, _, none⟩) hbr).trans c0, (hb1.cell (p := ⟨bl, _, none⟩) hbr).trans c1, (hb1.cell (p := ⟨bl, _, none⟩) hbr).trans c2, (hb1.cell (p := ⟨bl, _, none⟩) hbr).trans c3, (hb1.cell (p := ⟨bl, _, none⟩) hbr).trans c4, (hb1.cell (p := ⟨bl, _, none⟩) hbr).trans z0, (hb1.cell (p := ⟨bl, _, none⟩) hbr).trans z1, (hb1.cell (p := ⟨bl, _, none⟩) hbr).trans z2, (hb1.cell (p := ⟨bl, _, none⟩) hbr).trans z3, (hb1.cell (p := ⟨bl, _, none⟩) hbr).trans z4, (hb1.cell (p := ⟨cx + 1, _, none⟩) hcx1).trans g0, (hb1.cell (p := ⟨cx + 1, _, none⟩) hcx1).trans g1, (hb1.cell (p := ⟨cx + 1, _, none⟩) hcx1).trans g2, (hb1.cell (p := ⟨cx + 1, _, none⟩) hcx1).trans g3, (hb1.cell (p := ⟨cx + 1, _, none⟩) hcx1).trans g4, (hb1.cell (p := ⟨cx + 1, _, none⟩) hcx1).trans g5, (hb1.cell (p := ⟨cx + 1, _, none⟩) hcx1).trans g6, (hb1.cell (p := ⟨cx + 1, _, none⟩) hcx1).trans g7⟩) (first | (go_at_call 40; have hxx := hb1.size; clear hxx; refine Calls.mono (HC1.out _ (by first | exact HB9.out.trans (Below.mono (B := W0.heap.size) ((show Below W0.heap.size W0 W0.drew from by go_grown).trans hb1) HB9.out.size) | exact HB9.out.trans (Below.mono (B := W0.heap.size) hb1 HB9.out.size) | exact (HB9.out.trans (Below.mono (B := W0.heap.size) ((show Below W0.heap.size W0 W0.drew from by go_grown).trans hb1) HB9.out.size)).drew)) ?_; rintro e w2 ⟨rfl, hb2⟩) | (go_at_call 40; refine Calls.mono (HC0.out _ (by first | exact HB9.out | exact HB9.out.trans (Below.mono (B := W0.heap.size) (by go_grown) HB9.out.size))) ?_; rintro e w1 ⟨rfl, hb1⟩))
        all_goals
          go_wp2_with fail
          go_ret
          exact ⟨ret_bool HVV.out.symm, (by first | exact HB9.out.trans (Below.mono (B := W0.heap.size) (((show Below W0.heap.size W0 W0.drew from by go_grown).trans hb1).trans (hb2.mono hb1.size)) HB9.out.size) | exact HB9.out.trans (Below.mono (B := W0.heap.size) (hb1.trans (hb2.mono hb1.size)) HB9.out.size))⟩
theorem refHolds_any (h : Hst) (x : Ask) (v hv : Value) (w : World) (he : x.err = 0) (hx : AskV w x v) (hh : HostV w h hv) : Calls Try.prog 40 #[v, hv] w fun e w' => e = .returned (.bool (x.ev (atomB h))) ∧ Below w.heap.size w w' := refHolds_all h x.size x v hv w (Nat.le_refl _) he hx hh
end Go.Proofs.Ytnfmopmcckgfdaa
