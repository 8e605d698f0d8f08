/- Contracts: the document's AllAtoms and AlikeAsks. -/
import Derived.Test.YtkelkpfjkjcmgaaDoorAskPlain
namespace Go.Proofs.YtkelkpfjkjcmgaaDoor
open Go.ChangeShapes Go.WideShapes Go.ChangeAt Go.RowKit
set_option linter.unusedVariables false
open Tp
theorem err_pair {x y : Ask} (hx : x.err = 0) (hy : y.err = 0) : (Ask.mk 5 [] [] 0 [x, y]).err = 0 := by
  have e : Ask.bad 5 [] [] 0 2 = 0 := by decide
  rw [Ask.err, Ask.errs, Ask.errs, Ask.errs]
  simp only [List.length_cons, List.length_nil, Nat.zero_add, e, ne_eq, not_true_eq_false, if_false, hx, hy]
theorem leaves_pair (x y : Ask) : addL [] (Ask.mk 5 [] [] 0 [x, y]).leaves = allAt x y := by
  rw [Ask.leaves, if_neg (by omega), Ask.leavess, Ask.leavess, Ask.leavess, List.append_nil, addL_append]
  rfl
theorem allAt_len (x y : Ask) : (allAt x y).length ≤ x.size + y.size := by
  unfold allAt
  have h1 := addL_len [] x.leaves
  have h2 := Ask.leaves_len x
  have h4 := addL_len (addL [] x.leaves) y.leaves
  have h5 := Ask.leaves_len y
  simp only [List.length_nil] at h1
  omega
set_option maxRecDepth 20000 in
set_option maxHeartbeats 16000000 in
theorem AllAtoms_any (x y : Ask) (vx vy : Value) (w : World) (hex : x.err = 0) (hey : y.err = 0) (hsx : x.size ≤ 60) (hsy : y.size ≤ 60) (hx : AskV w x vx) (hy : AskV w y vy) : Calls Tryd.prog 12 #[vx, vy] w (RefAQ w (allAt x y)) := by
  obtain ⟨k, a1, a2, nu, ad, n, cap, rfl⟩ := hx.form
  obtain ⟨k', a1', a2', nu', ad', n', cap', rfl⟩ := hy.form
  obtain ⟨W0, hW0⟩ : ∃ W, W = (w.alloc (.cells #[.int .i64 k, .string a1, .string a2, .int .i64 nu, .slice ad n cap] 24)).alloc (.cells #[.int .i64 k', .string a1', .string a2', .int .i64 nu', .slice ad' n' cap'] 24) := ⟨_, rfl⟩
  have hb9 : Below w.heap.size w W0 := by rw [hW0]; exact ((Below.refl _ _).alloc (Nat.le_refl _) _).alloc (by simp) _
  have HB9 := Lib.hid hb9
  have hsz : W0.heap.size = w.heap.size + 2 := by rw [hW0]; simp
  obtain ⟨cx, hcx⟩ : ∃ c, c = w.heap.size := ⟨_, rfl⟩
  have d0 : W0.cell? ⟨cx, 0, none⟩ = some (.int .i64 k) := by rw [hW0, hcx]; simp
  have d1 : W0.cell? ⟨cx, 1, none⟩ = some (.string a1) := by rw [hW0, hcx]; simp
  have d2 : W0.cell? ⟨cx, 2, none⟩ = some (.string a2) := by rw [hW0, hcx]; simp
  have d3 : W0.cell? ⟨cx, 3, none⟩ = some (.int .i64 nu) := by rw [hW0, hcx]; simp
  have d4 : W0.cell? ⟨cx, 4, none⟩ = some (.slice ad n cap) := by rw [hW0, hcx]; simp
  have g0 : W0.cell? ⟨cx + 1, 0, none⟩ = some (.int .i64 k') := by rw [hW0, hcx]; simp
  have g1 : W0.cell? ⟨cx + 1, 1, none⟩ = some (.string a1') := by rw [hW0, hcx]; simp
  have g2 : W0.cell? ⟨cx + 1, 2, none⟩ = some (.string a2') := by rw [hW0, hcx]; simp
  have g3 : W0.cell? ⟨cx + 1, 3, none⟩ = some (.int .i64 nu') := by rw [hW0, hcx]; simp
  have g4 : W0.cell? ⟨cx + 1, 4, none⟩ = some (.slice ad' n' cap') := by rw [hW0, hcx]; simp
  have hcx0 : cx < W0.heap.size := by omega
  have hcx1 : cx + 1 < W0.heap.size := by omega
  have hxv := AskV.below hb9 _ _ hx
  have hyv := AskV.below hb9 _ _ hy
  have HXV := Lib.hid hxv
  have HYV := Lib.hid hyv
  obtain ⟨W1, hW1⟩ : ∃ W, W = W0.alloc (.cells #[.int .i64 k, .string a1, .string a2, .int .i64 nu, .slice ad n cap, .int .i64 k', .string a1', .string a2', .int .i64 nu', .slice ad' n' cap'] 24) := ⟨_, rfl⟩
  have hb1 : Below W0.heap.size W0 W1 := by rw [hW1]; exact (Below.refl _ _).alloc (Nat.le_refl _) _
  obtain ⟨cs, hcs⟩ : ∃ c, c = W0.heap.size := ⟨_, rfl⟩
  have m0 : W1.cell? ⟨cs, 0, none⟩ = some (.int .i64 k) := by rw [hW1]; exact (cell_top _ _ _ _ _ hcs).trans rfl
  have m1 : W1.cell? ⟨cs, 1, none⟩ = some (.string a1) := by rw [hW1]; exact (cell_top _ _ _ _ _ hcs).trans rfl
  have m2 : W1.cell? ⟨cs, 2, none⟩ = some (.string a2) := by rw [hW1]; exact (cell_top _ _ _ _ _ hcs).trans rfl
  have m3 : W1.cell? ⟨cs, 3, none⟩ = some (.int .i64 nu) := by rw [hW1]; exact (cell_top _ _ _ _ _ hcs).trans rfl
  have m4 : W1.cell? ⟨cs, 4, none⟩ = some (.slice ad n cap) := by rw [hW1]; exact (cell_top _ _ _ _ _ hcs).trans rfl
  have m5 : W1.cell? ⟨cs, 5, none⟩ = some (.int .i64 k') := by rw [hW1]; exact (cell_top _ _ _ _ _ hcs).trans rfl
  have m6 : W1.cell? ⟨cs, 6, none⟩ = some (.string a1') := by rw [hW1]; exact (cell_top _ _ _ _ _ hcs).trans rfl
  have m7 : W1.cell? ⟨cs, 7, none⟩ = some (.string a2') := by rw [hW1]; exact (cell_top _ _ _ _ _ hcs).trans rfl
  have m8 : W1.cell? ⟨cs, 8, none⟩ = some (.int .i64 nu') := by rw [hW1]; exact (cell_top _ _ _ _ _ hcs).trans rfl
  have m9 : W1.cell? ⟨cs, 9, none⟩ = some (.slice ad' n' cap') := by rw [hW1]; exact (cell_top _ _ _ _ _ hcs).trans rfl
  have hpair : AskV W1 (.mk 5 [] [] 0 [x, y]) (.agg #[.int .i64 5, .string ⟨#[]⟩, .string ⟨#[]⟩, .int .i64 0, .slice (some ⟨cs, 0, none⟩) 2 2]) := by
    rw [AskV]
    refine ⟨_, _, _, rfl, rfl, Nat.le_refl _, by omega, by simp, by simp, fun _ => ⟨cs, 0, rfl, by rw [hW1, hcs]; simp, ?_⟩⟩
    rw [AsksV, AsksV, AsksV]
    exact ⟨⟨_, ⟨_, _, _, _, _, rfl, m0, m1, m2, m3, m4⟩, AskV.below hb1 _ _ hxv⟩, ⟨_, ⟨_, _, _, _, _, rfl, m5, m6, m7, m8, m9⟩, AskV.below hb1 _ _ hyv⟩, trivial⟩
  have HB1 := Lib.hid (hb9.trans (hb1.mono hb9.size))
  have HC := Lib.hid (Atoms_any (.mk 5 [] [] 0 [x, y]) _ W1 (err_pair hex hey) (by simp only [Ask.size, Ask.sizes]; omega) hpair)
  rw [leaves_pair] at HC
  clear hpair m0 m1 m2 m3 m4 m5 m6 m7 m8 m9 hb1 hb9 hx hy hxv hyv hex hey hsx hsy hsz
  go_enter Tryd.func12, Tryd.ntmps12
  go_upto_region 1 with fail
  rw [← hW0, ← hcx]
  clear hW0 hcx
  go_wp2_with fail
  try rw [← hW1]
  try rw [← hcs]
  refine Calls.mono HC.out ?_
  rintro e' W3 ⟨a, m, c, rfl, hm, hmc, hc, hf, hl⟩
  have HB3 := Lib.hid (HB1.out.trans (hl.mono HB1.out.size))
  have HFR := Lib.hid hf
  have HM := Lib.hid hm
  have HS := Lib.hid HB1.out.size
  clear hl hf hm hW1 hcs
  go_wp2_with fail
  go_ret
  exact ⟨a, m, c, rfl, HM.out, hmc, hc, fun h => (by obtain ⟨b, off, e, h1, h2⟩ := HFR.out h; exact ⟨b, off, e, Nat.le_trans HS.out h1, h2⟩), HB3.out⟩
set_option maxRecDepth 20000 in
set_option maxHeartbeats 16000000 in
theorem AlikeAsks_any (x y : Ask) (vx vy : Value) (w : World) (hex : x.err = 0) (hey : y.err = 0) (hsx : x.size ≤ 60) (hsy : y.size ≤ 60) (hx : AskV w x vx) (hy : AskV w y vy) : Calls Tryd.prog 13 #[vx, vy] w fun e w' => e = .returned (.bool (alikeR x y (allAt x y) [])) ∧ Below w.heap.size w w' := by
  obtain ⟨k, a1, a2, nu, ad, n, cap, rfl⟩ := hx.form
  obtain ⟨k', a1', a2', nu', ad', n', cap', rfl⟩ := hy.form
  obtain ⟨W0, hW0⟩ : ∃ W, W = (w.alloc (.cells #[.int .i64 k, .string a1, .string a2, .int .i64 nu, .slice ad n cap] 24)).alloc (.cells #[.int .i64 k', .string a1', .string a2', .int .i64 nu', .slice ad' n' cap'] 24) := ⟨_, rfl⟩
  have hb9 : Below w.heap.size w W0 := by rw [hW0]; exact ((Below.refl _ _).alloc (Nat.le_refl _) _).alloc (by simp) _
  have HB9 := Lib.hid hb9
  have hsz : W0.heap.size = w.heap.size + 2 := by rw [hW0]; simp
  obtain ⟨cx, hcx⟩ : ∃ c, c = w.heap.size := ⟨_, rfl⟩
  have d0 : W0.cell? ⟨cx, 0, none⟩ = some (.int .i64 k) := by rw [hW0, hcx]; simp
  have d1 : W0.cell? ⟨cx, 1, none⟩ = some (.string a1) := by rw [hW0, hcx]; simp
  have d2 : W0.cell? ⟨cx, 2, none⟩ = some (.string a2) := by rw [hW0, hcx]; simp
  have d3 : W0.cell? ⟨cx, 3, none⟩ = some (.int .i64 nu) := by rw [hW0, hcx]; simp
  have d4 : W0.cell? ⟨cx, 4, none⟩ = some (.slice ad n cap) := by rw [hW0, hcx]; simp
  have g0 : W0.cell? ⟨cx + 1, 0, none⟩ = some (.int .i64 k') := by rw [hW0, hcx]; simp
  have g1 : W0.cell? ⟨cx + 1, 1, none⟩ = some (.string a1') := by rw [hW0, hcx]; simp
  have g2 : W0.cell? ⟨cx + 1, 2, none⟩ = some (.string a2') := by rw [hW0, hcx]; simp
  have g3 : W0.cell? ⟨cx + 1, 3, none⟩ = some (.int .i64 nu') := by rw [hW0, hcx]; simp
  have g4 : W0.cell? ⟨cx + 1, 4, none⟩ = some (.slice ad' n' cap') := by rw [hW0, hcx]; simp
  have hcx0 : cx < W0.heap.size := by omega
  have hcx1 : cx + 1 < W0.heap.size := by omega
  have hxv := AskV.below hb9 _ _ hx
  have hyv := AskV.below hb9 _ _ hy
  have HXV := Lib.hid hxv
  have HYV := Lib.hid hyv
  obtain ⟨V, hV⟩ : ∃ V, alikeR x y (allAt x y) [] = V := ⟨_, rfl⟩
  have HC0 : Hid (∀ W, Below W0.heap.size W0 W → Calls Tryd.prog 12 #[.agg #[.int .i64 k, .string a1, .string a2, .int .i64 nu, .slice ad n cap], .agg #[.int .i64 k', .string a1', .string a2', .int .i64 nu', .slice ad' n' cap']] W (RefAQ W (allAt x y))) := Lib.hid (fun W hW => AllAtoms_any x y _ _ W hex hey hsx hsy (AskV.below hW _ _ HXV.out) (AskV.below hW _ _ HYV.out))
  have HC1 : Hid (∀ W a m c, Below W0.heap.size W0 W → m = (allAt x y).length → m ≤ c → c ≤ 9223372036854775807 → Vals W a (txv (allAt x y)) → Calls Tryd.prog 29 #[.agg #[.int .i64 k, .string a1, .string a2, .int .i64 nu, .slice ad n cap], .agg #[.int .i64 k', .string a1', .string a2', .int .i64 nu', .slice ad' n' cap'], .slice a m c, .slice none 0 0] W fun e w' => e = .returned (.bool V) ∧ Below W.heap.size W w') := Lib.hid (fun W a m c hW hm hc hc2 hv => by
    rw [← hV]
    exact alikeBy_all x y hex hey (allAt x y) [] _ _ W a m c none 0 0 hm hc hc2 rfl (by have := allAt_len x y; omega) (Nat.le_refl _) (by omega) (fun _ => ⟨rfl, rfl⟩) (fun p h => by cases h) hv (Vals.nil _ _) (AskV.below hW _ _ HXV.out) (AskV.below hW _ _ HYV.out))
  rw [hV]
  have d0d : W0.drew.cell? ⟨cx, 0, none⟩ = some (.int .i64 k) := d0
  have d1d : W0.drew.cell? ⟨cx, 1, none⟩ = some (.string a1) := d1
  have d2d : W0.drew.cell? ⟨cx, 2, none⟩ = some (.string a2) := d2
  have d3d : W0.drew.cell? ⟨cx, 3, none⟩ = some (.int .i64 nu) := d3
  have d4d : W0.drew.cell? ⟨cx, 4, none⟩ = some (.slice ad n cap) := d4
  have g0d : W0.drew.cell? ⟨cx + 1, 0, none⟩ = some (.int .i64 k') := g0
  have g1d : W0.drew.cell? ⟨cx + 1, 1, none⟩ = some (.string a1') := g1
  have g2d : W0.drew.cell? ⟨cx + 1, 2, none⟩ = some (.string a2') := g2
  have g3d : W0.drew.cell? ⟨cx + 1, 3, none⟩ = some (.int .i64 nu') := g3
  have g4d : W0.drew.cell? ⟨cx + 1, 4, none⟩ = some (.slice ad' n' cap') := g4
  clear hex hey hsx hsy hx hy hxv hyv hb9 hsz hV
  go_enter Tryd.func13, Tryd.ntmps13
  go_upto_region 1 with fail
  rw [← hW0, ← hcx]
  clear hW0 hcx
  (go_region_held3 (fun W => W.cell? ⟨cx, 0, none⟩ = some (.int .i64 k) ∧ W.cell? ⟨cx, 1, none⟩ = some (.string a1) ∧ W.cell? ⟨cx, 2, none⟩ = some (.string a2) ∧ W.cell? ⟨cx, 3, none⟩ = some (.int .i64 nu) ∧ W.cell? ⟨cx, 4, none⟩ = some (.slice ad n cap) ∧ W.cell? ⟨cx + 1, 0, none⟩ = some (.int .i64 k') ∧ W.cell? ⟨cx + 1, 1, none⟩ = some (.string a1') ∧ W.cell? ⟨cx + 1, 2, none⟩ = some (.string a2') ∧ W.cell? ⟨cx + 1, 3, none⟩ = some (.int .i64 nu') ∧ W.cell? ⟨cx + 1, 4, none⟩ = some (.slice ad' n' cap')) (first | with_reducible exact ⟨d0, d1, d2, d3, d4, g0, g1, g2, g3, g4⟩ | with_reducible exact ⟨d0d, d1d, d2d, d3d, d4d, g0d, g1d, g2d, g3d, g4d⟩ | with_reducible exact ⟨d0a, d1a, d2a, d3a, d4a, g0a, g1a, g2a, g3a, g4a⟩ | with_reducible exact ⟨d0b, d1b, d2b, d3b, d4b, g0b, g1b, g2b, g3b, g4b⟩ | go_keep) (first | (go_at_call 29; refine Calls.mono (HC1.out _ _ _ _ hb01 HMM.out hmc hc HFF.out.vals) ?_; rintro e w2 ⟨rfl, hb2⟩; have d0b : w2.cell? ⟨cx, 0, none⟩ = some (.int .i64 k) := (hb2.cell (p := ⟨cx, 0, none⟩) (Nat.lt_of_lt_of_le hcx0 hb1.size)).trans d0a; have d1b : w2.cell? ⟨cx, 1, none⟩ = some (.string a1) := (hb2.cell (p := ⟨cx, 1, none⟩) (Nat.lt_of_lt_of_le hcx0 hb1.size)).trans d1a; have d2b : w2.cell? ⟨cx, 2, none⟩ = some (.string a2) := (hb2.cell (p := ⟨cx, 2, none⟩) (Nat.lt_of_lt_of_le hcx0 hb1.size)).trans d2a; have d3b : w2.cell? ⟨cx, 3, none⟩ = some (.int .i64 nu) := (hb2.cell (p := ⟨cx, 3, none⟩) (Nat.lt_of_lt_of_le hcx0 hb1.size)).trans d3a; have d4b : w2.cell? ⟨cx, 4, none⟩ = some (.slice ad n cap) := (hb2.cell (p := ⟨cx, 4, none⟩) (Nat.lt_of_lt_of_le hcx0 hb1.size)).trans d4a; have g0b : w2.cell? ⟨cx + 1, 0, none⟩ = some (.int .i64 k') := (hb2.cell (p := ⟨cx + 1, 0, none⟩) (Nat.lt_of_lt_of_le hcx1 hb1.size)).trans g0a; have g1b : w2.cell? ⟨cx + 1, 1, none⟩ = some (.string a1') := (hb2.cell (p := ⟨cx + 1, 1, none⟩) (Nat.lt_of_lt_of_le hcx1 hb1.size)).trans g1a; have g2b : w2.cell? ⟨cx + 1, 2, none⟩ = some (.string a2') := (hb2.cell (p := ⟨cx + 1, 2, none⟩) (Nat.lt_of_lt_of_le hcx1 hb1.size)).trans g2a; have g3b : w2.cell? ⟨cx + 1, 3, none⟩ = some (.int .i64 nu') := (hb2.cell (p := ⟨cx + 1, 3, none⟩) (Nat.lt_of_lt_of_le hcx1 hb1.size)).trans g3a; have g4b : w2.cell? ⟨cx + 1, 4, none⟩ = some (.slice ad' n' cap') := (hb2.cell (p := ⟨cx + 1, 4, none⟩) (Nat.lt_of_lt_of_le hcx1 hb1.size)).trans g4a) | (go_at_call 12; refine Calls.mono (HC0.out _ (by first | exact Below.refl _ _ | go_grown)) ?_; rintro e w1 ⟨a, m, c, rfl, hm, hmc, hc, hf, hb1⟩; have HMM := Lib.hid hm; have HFF := Lib.hid hf; clear hm hf; have hb01 := (show Below W0.heap.size W0 W0.drew from by go_grown).trans hb1; have d0a : w1.cell? ⟨cx, 0, none⟩ = some (.int .i64 k) := (hb1.cell (p := ⟨cx, 0, none⟩) hcx0).trans d0; have d1a : w1.cell? ⟨cx, 1, none⟩ = some (.string a1) := (hb1.cell (p := ⟨cx, 1, none⟩) hcx0).trans d1; have d2a : w1.cell? ⟨cx, 2, none⟩ = some (.string a2) := (hb1.cell (p := ⟨cx, 2, none⟩) hcx0).trans d2; have d3a : w1.cell? ⟨cx, 3, none⟩ = some (.int .i64 nu) := (hb1.cell (p := ⟨cx, 3, none⟩) hcx0).trans d3; have d4a : w1.cell? ⟨cx, 4, none⟩ = some (.slice ad n cap) := (hb1.cell (p := ⟨cx, 4, none⟩) hcx0).trans d4; have g0a : w1.cell? ⟨cx + 1, 0, none⟩ = some (.int .i64 k') := (hb1.cell (p := ⟨cx + 1, 0, none⟩) hcx1).trans g0; have g1a : w1.cell? ⟨cx + 1, 1, none⟩ = some (.string a1') := (hb1.cell (p := ⟨cx + 1, 1, none⟩) hcx1).trans g1; have g2a : w1.cell? ⟨cx + 1, 2, none⟩ = some (.string a2') := (hb1.cell (p := ⟨cx + 1, 2, none⟩) hcx1).trans g2; have g3a : w1.cell? ⟨cx + 1, 3, none⟩ = some (.int .i64 nu') := (hb1.cell (p := ⟨cx + 1, 3, none⟩) hcx1).trans g3; have g4a : w1.cell? ⟨cx + 1, 4, none⟩ = some (.slice ad' n' cap') := (hb1.cell (p := ⟨cx + 1, 4, none⟩) hcx1).trans g4)))
  all_goals
    go_wp2_with fail
    go_ret
    exact ⟨rfl, HB9.out.trans ((hb01.trans (hb2.mono hb01.size)).mono HB9.out.size)⟩
end Go.Proofs.YtkelkpfjkjcmgaaDoor
