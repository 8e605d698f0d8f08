/- Contract: Best's other closure: which of two hosts has less left. -/
import Derived.Test.YtnfmopmcckgfdaaHostCmp
import Derived.Deep.RegionHeld3
namespace Go.Proofs.Ytnfmopmcckgfdaa
open Go.ChangeShapes Go.WideShapes Go.ChangeAt Go.RowKit
set_option linter.unusedVariables false
set_option linter.unusedSimpArgs false
open Tp
def Amt.cmp (a b : Amt) : Int := or3 (cmpI a.cpu b.cpu) (cmpI a.mem b.mem) (cmpI a.gpu b.gpu)
theorem enCmp : Enters 33 := fun args w => by kernel_rfl
/-- what the closure has: the other closure, boxed, and the hosts, boxed -/
structure CmpBox (w : World) (cf cb : Nat) (L : List Hst) : Prop where
  f : w.cell? ⟨cf, 0, none⟩ = some (.func (.func 31) #[] #[.pointer (some ⟨cb, 0, none⟩)])
  lt : cf < w.heap.size
  b : HBox w cb L
theorem CmpBox.below {w w' : World} {cf cb : Nat} {L : List Hst} (h : CmpBox w cf cb L) (hb : Below w.heap.size w w') : CmpBox w' cf cb L :=
  ⟨(hb.cell (p := ⟨cf, 0, none⟩) h.lt).trans h.f, Nat.lt_of_lt_of_le h.lt hb.size, h.b.below hb⟩
set_option maxRecDepth 20000 in
set_option maxHeartbeats 16000000 in
theorem less_any (L : List Hst) (hok : ∀ (i : Nat) (h : Hst), L[i]? = some h → h.has.ok = true ∧ h.used.ok = true ∧ h.used.le h.has = true) (cf cb i k : Nat) (h h' : Hst) (W0 : World) (hx : L[i]? = some h) (hy : L[k]? = some h') (hB : CmpBox W0 cf cb L) :
    Calls Try.prog 33 #[.int .i64 (i : Int), .int .i64 (k : Int), .pointer (some ⟨cf, 0, none⟩)] W0 fun e w' => e = .returned (.int .i64 (h.left.cmp h'.left)) ∧ Below W0.heap.size W0 w' := by
  obtain ⟨s0, hcf, hBB⟩ := hB
  have HA : Hid (∀ W, Below W0.heap.size W0 W → Calls Try.prog 31 #[.int .i64 (i : Int), .pointer (some ⟨cb, 0, none⟩)] W fun e w' => e = .returned (.agg #[.int .i64 h.left.cpu, .int .i64 h.left.mem, .int .i64 h.left.gpu]) ∧ Below W.heap.size W w') := Lib.hid (fun W hW => left_any L hok cb i h W hx (hBB.below hW))
  have HB : Hid (∀ W, Below W0.heap.size W0 W → Calls Try.prog 31 #[.int .i64 (k : Int), .pointer (some ⟨cb, 0, none⟩)] W fun e w' => e = .returned (.agg #[.int .i64 h'.left.cpu, .int .i64 h'.left.mem, .int .i64 h'.left.gpu]) ∧ Below W.heap.size W w') := Lib.hid (fun W hW => left_any L hok cb k h' W hy (hBB.below hW))
  have HF0 := Lib.hid (show W0.heap.size ≤ W0.heap.size from Nat.le_refl _)
  unfold Amt.cmp
  obtain ⟨p0, hp0⟩ : ∃ q, h.left.cpu = q := ⟨_, rfl⟩
  obtain ⟨p1, hp1⟩ : ∃ q, h.left.mem = q := ⟨_, rfl⟩
  obtain ⟨p2, hp2⟩ : ∃ q, h.left.gpu = q := ⟨_, rfl⟩
  obtain ⟨q0, hq0⟩ : ∃ q, h'.left.cpu = q := ⟨_, rfl⟩
  obtain ⟨q1, hq1⟩ : ∃ q, h'.left.mem = q := ⟨_, rfl⟩
  obtain ⟨q2, hq2⟩ : ∃ q, h'.left.gpu = q := ⟨_, rfl⟩
  rw [hp0, hp1, hp2] at HA ⊢
  rw [hq0, hq1, hq2] at HB ⊢
  clear hp0 hp1 hp2 hq0 hq1 hq2 hx hy hBB hok
  go_enter Try.func33, Try.ntmps33
  go_upto_region 1 with fail
  refine wp_region_held_drew (S := fun W => Below W0.heap.size W0 W) (by kernel_rfl) ((Below.refl _ _).drew) (fun hHeld => ?_)
  refine wpAnyH_take (i := 0) (v := ?vb1b0x1) rfl (by kernel_rfl) (by kernel_rfl) (by kernel_rfl) (fun _ _ _ h => h) (Or.inl ⟨by rfl, ?hyb1b0x1⟩) (by assumption) ?restb1b0x1
  case hyb1b0x1 =>
    intro w hSw
    (try dsimp only at hSw)
    have s0 := (hSw.cell (p := ⟨cf, 0, none⟩) hcf).trans s0
    go_simp
    (try with_reducible rfl)
  change wpAnyH _ _ _ _ _ _ _ (Act.put _ (some 8) _) _
  try simp only [Act.put, List.setIfInBounds_toArray, List.set_cons_zero, List.set_cons_succ]
  refine wpAnyH_take (i := 1) (v := ?vb1b1x2) rfl (by kernel_rfl) (by kernel_rfl) (by kernel_rfl) (fun _ _ _ h => h) (Or.inl ⟨by rfl, ?hyb1b1x2⟩) (by assumption) ?restb1b1x2
  case hyb1b1x2 =>
    intro w hSw
    (try dsimp only at hSw)
    go_simp
    (try with_reducible rfl)
  change wpAnyH _ _ _ _ _ _ _ (Act.put _ (some 9) _) _
  try simp only [Act.put, List.setIfInBounds_toArray, List.set_cons_zero, List.set_cons_succ]
  refine wpAnyH_take (i := 3) (v := ?vb1b3x3) rfl (by kernel_rfl) (by kernel_rfl) (by kernel_rfl) (fun _ _ _ h => h) (Or.inl ⟨by rfl, ?hyb1b3x3⟩) (by assumption) ?restb1b3x3
  case hyb1b3x3 =>
    intro w hSw
    (try dsimp only at hSw)
    have s0 := (hSw.cell (p := ⟨cf, 0, none⟩) hcf).trans s0
    go_simp
    (try with_reducible rfl)
  change wpAnyH _ _ _ _ _ _ _ (Act.put _ (some 11) _) _
  try simp only [Act.put, List.setIfInBounds_toArray, List.set_cons_zero, List.set_cons_succ]
  refine wpAnyH_take (i := 4) (v := ?vb1b4x4) rfl (by kernel_rfl) (by kernel_rfl) (by kernel_rfl) (fun _ _ _ h => h) (Or.inl ⟨by rfl, ?hyb1b4x4⟩) (by assumption) ?restb1b4x4
  case hyb1b4x4 =>
    intro w hSw
    (try dsimp only at hSw)
    go_simp
    (try with_reducible rfl)
  change wpAnyH _ _ _ _ _ _ _ (Act.put _ (some 12) _) _
  try simp only [Act.put, List.setIfInBounds_toArray, List.set_cons_zero, List.set_cons_succ]
  refine fold_any (fun G hG => ?_)
  have H211 : ∀ (w : World) (ca cc : Nat), Below W0.heap.size W0 w → Zr W0.heap.size w ca → Zr W0.heap.size w cc → ca ≠ cc → G 2 #[true, true, true, true, true, true, true, true, false, false] { tmps := #[.int .i64 (i : Int), .int .i64 (k : Int), .pointer (some ⟨cf, 0, none⟩), undef, undef, .int .i64 0, .pointer (some ⟨ca, 0, none⟩), .pointer (some ⟨cc, 0, none⟩), .func (.func 31) #[] #[.pointer (some ⟨cb, 0, none⟩)], .int .i64 (i : Int), .agg #[.int .i64 p0, .int .i64 p1, .int .i64 p2], .func (.func 31) #[] #[.pointer (some ⟨cb, 0, none⟩)], .int .i64 (k : Int), .agg #[.int .i64 q0, .int .i64 q1, .int .i64 q2], undef, undef, undef, undef, undef, undef, undef, undef, undef, undef, undef, undef, undef, undef, undef, undef, undef], defers := [] } w := by
    intro w ca cc hHeld zca zcc necacc 
    rw [hG]
    obtain ⟨za, hla, za0, za1, za2, fa0, fa1, fa2⟩ := zca
    obtain ⟨zc, hlb, zc0, zc1, zc2, fc0, fc1, fc2⟩ := zcc
    have hne := Lib.hid necacc
    have nx1 : ¬ ca = cc := necacc
    have nx2 : ¬ cc = ca := fun e => necacc e.symm
    obtain ⟨W9, hW9⟩ : ∃ W, W = ((((((w.setCell ⟨ca, 0, none⟩ (.int .i64 p0)).setCell ⟨ca, 1, none⟩ (.int .i64 p1)).setCell ⟨ca, 2, none⟩ (.int .i64 p2)).setCell ⟨cc, 0, none⟩ (.int .i64 q0)).setCell ⟨cc, 1, none⟩ (.int .i64 q1)).setCell ⟨cc, 2, none⟩ (.int .i64 q2)) := ⟨_, rfl⟩
    have a0 : W9.cell? ⟨ca, 0, none⟩ = some (.int .i64 p0) := by rw [hW9]; simp [cell_set, za0, za1, za2, zc0, zc1, zc2, nx1, nx2]
    have a1 : W9.cell? ⟨ca, 1, none⟩ = some (.int .i64 p1) := by rw [hW9]; simp [cell_set, za0, za1, za2, zc0, zc1, zc2, nx1, nx2]
    have a2 : W9.cell? ⟨ca, 2, none⟩ = some (.int .i64 p2) := by rw [hW9]; simp [cell_set, za0, za1, za2, zc0, zc1, zc2, nx1, nx2]
    have b0 : W9.cell? ⟨cc, 0, none⟩ = some (.int .i64 q0) := by rw [hW9]; simp [cell_set, za0, za1, za2, zc0, zc1, zc2, nx1, nx2]
    have b1 : W9.cell? ⟨cc, 1, none⟩ = some (.int .i64 q1) := by rw [hW9]; simp [cell_set, za0, za1, za2, zc0, zc1, zc2, nx1, nx2]
    have b2 : W9.cell? ⟨cc, 2, none⟩ = some (.int .i64 q2) := by rw [hW9]; simp [cell_set, za0, za1, za2, zc0, zc1, zc2, nx1, nx2]
    have hb9 : Below W0.heap.size W0 W9 := by rw [hW9]; exact three_below (three_below hHeld ca _ _ _ za) cc _ _ _ zc
    have HB9 := Lib.hid hb9
    have hl9 : W9.heap.size = w.heap.size := by rw [hW9]; simp
    refine wpAnyH_ready (rs := [8]) (by kernel_rfl) (by simp) ?_
    refine AllReadyH.cons rfl (fun K hK => ?_) AllReadyH.nil
    go_simp
    (try go_wp2_with fail)
    refine hK.out _ _ (three_below hHeld ca _ _ _ za) (fun hHeld => ?_)
    clear hK K
    try simp only [Act.put, List.setIfInBounds_toArray, List.set_cons_zero, List.set_cons_succ]
    refine wpAnyH_ready (rs := [9]) (by kernel_rfl) (by simp) ?_
    refine AllReadyH.cons rfl (fun K hK => ?_) AllReadyH.nil
    go_simp
    (try go_wp2_with fail)
    refine hK.out _ _ (three_below hHeld cc _ _ _ zc) (fun hHeld => ?_)
    clear hK K
    try simp only [Act.put, List.setIfInBounds_toArray, List.set_cons_zero, List.set_cons_succ]
    refine wpAnyH_done (by kernel_rfl) ?_ _
    rw [← hl9] at hla hlb
    go_upto_region 2 with fail
    rw [← hW9]
    clear hW9 hl9 za0 za1 za2 zc0 zc1 zc2 fa0 fa1 fa2 fc0 fc1 fc2 hb9
    refine wp_region_held_drew (S := fun W => Below W9.heap.size W9 W) (by kernel_rfl) ((Below.refl _ _).drew) (fun hHeld => ?_)
    refine wpAnyH_take (i := 0) (v := ?vb2b0x1) rfl (by kernel_rfl) (by kernel_rfl) (by kernel_rfl) (fun _ _ _ h => h) (Or.inl ⟨by rfl, ?hyb2b0x1⟩) (by assumption) ?restb2b0x1
    case hyb2b0x1 =>
      intro w hSw
      (try dsimp only at hSw)
      have a0 := (hSw.cell (p := ⟨ca, 0, none⟩) hla).trans a0
      have a1 := (hSw.cell (p := ⟨ca, 1, none⟩) hla).trans a1
      have a2 := (hSw.cell (p := ⟨ca, 2, none⟩) hla).trans a2
      have b0 := (hSw.cell (p := ⟨cc, 0, none⟩) hlb).trans b0
      have b1 := (hSw.cell (p := ⟨cc, 1, none⟩) hlb).trans b1
      have b2 := (hSw.cell (p := ⟨cc, 2, none⟩) hlb).trans b2
      go_simp
      (try with_reducible rfl)
    change wpAnyH _ _ _ _ _ _ _ (Act.put _ (some 14) _) _
    try simp only [Act.put, List.setIfInBounds_toArray, List.set_cons_zero, List.set_cons_succ]
    refine wpAnyH_take (i := 1) (v := ?vb2b1x2) rfl (by kernel_rfl) (by kernel_rfl) (by kernel_rfl) (fun _ _ _ h => h) (Or.inl ⟨by rfl, ?hyb2b1x2⟩) (by assumption) ?restb2b1x2
    case hyb2b1x2 =>
      intro w hSw
      (try dsimp only at hSw)
      have a0 := (hSw.cell (p := ⟨ca, 0, none⟩) hla).trans a0
      have a1 := (hSw.cell (p := ⟨ca, 1, none⟩) hla).trans a1
      have a2 := (hSw.cell (p := ⟨ca, 2, none⟩) hla).trans a2
      have b0 := (hSw.cell (p := ⟨cc, 0, none⟩) hlb).trans b0
      have b1 := (hSw.cell (p := ⟨cc, 1, none⟩) hlb).trans b1
      have b2 := (hSw.cell (p := ⟨cc, 2, none⟩) hlb).trans b2
      go_simp
      (try with_reducible rfl)
    change wpAnyH _ _ _ _ _ _ _ (Act.put _ (some 15) _) _
    try simp only [Act.put, List.setIfInBounds_toArray, List.set_cons_zero, List.set_cons_succ]
    refine wpAnyH_take (i := 2) (v := ?vb2b2x3) rfl (by kernel_rfl) (by kernel_rfl) (by kernel_rfl) (fun _ _ _ h => h) (Or.inl ⟨by rfl, ?hyb2b2x3⟩) (by assumption) ?restb2b2x3
    case hyb2b2x3 =>
      intro w hSw
      (try dsimp only at hSw)
      have a0 := (hSw.cell (p := ⟨ca, 0, none⟩) hla).trans a0
      have a1 := (hSw.cell (p := ⟨ca, 1, none⟩) hla).trans a1
      have a2 := (hSw.cell (p := ⟨ca, 2, none⟩) hla).trans a2
      have b0 := (hSw.cell (p := ⟨cc, 0, none⟩) hlb).trans b0
      have b1 := (hSw.cell (p := ⟨cc, 1, none⟩) hlb).trans b1
      have b2 := (hSw.cell (p := ⟨cc, 2, none⟩) hlb).trans b2
      go_simp
      (try with_reducible rfl)
    change wpAnyH _ _ _ _ _ _ _ (Act.put _ (some 16) _) _
    try simp only [Act.put, List.setIfInBounds_toArray, List.set_cons_zero, List.set_cons_succ]
    refine wpAnyH_take (i := 3) (v := ?vb2b3x4) rfl (by kernel_rfl) (by kernel_rfl) (by kernel_rfl) (fun _ _ _ h => h) (Or.inl ⟨by rfl, ?hyb2b3x4⟩) (by assumption) ?restb2b3x4
    case hyb2b3x4 =>
      intro w hSw
      (try dsimp only at hSw)
      have a0 := (hSw.cell (p := ⟨ca, 0, none⟩) hla).trans a0
      have a1 := (hSw.cell (p := ⟨ca, 1, none⟩) hla).trans a1
      have a2 := (hSw.cell (p := ⟨ca, 2, none⟩) hla).trans a2
      have b0 := (hSw.cell (p := ⟨cc, 0, none⟩) hlb).trans b0
      have b1 := (hSw.cell (p := ⟨cc, 1, none⟩) hlb).trans b1
      have b2 := (hSw.cell (p := ⟨cc, 2, none⟩) hlb).trans b2
      go_simp
      (try with_reducible rfl)
    change wpAnyH _ _ _ _ _ _ _ (Act.put _ (some 17) _) _
    try simp only [Act.put, List.setIfInBounds_toArray, List.set_cons_zero, List.set_cons_succ]
    refine wpAnyH_take (i := 5) (v := ?vb2b5x5) rfl (by kernel_rfl) (by kernel_rfl) (by kernel_rfl) (fun _ _ _ h => h) (Or.inl ⟨by rfl, ?hyb2b5x5⟩) (by assumption) ?restb2b5x5
    case hyb2b5x5 =>
      intro w hSw
      (try dsimp only at hSw)
      have a0 := (hSw.cell (p := ⟨ca, 0, none⟩) hla).trans a0
      have a1 := (hSw.cell (p := ⟨ca, 1, none⟩) hla).trans a1
      have a2 := (hSw.cell (p := ⟨ca, 2, none⟩) hla).trans a2
      have b0 := (hSw.cell (p := ⟨cc, 0, none⟩) hlb).trans b0
      have b1 := (hSw.cell (p := ⟨cc, 1, none⟩) hlb).trans b1
      have b2 := (hSw.cell (p := ⟨cc, 2, none⟩) hlb).trans b2
      go_simp
      (try with_reducible rfl)
    change wpAnyH _ _ _ _ _ _ _ (Act.put _ (some 19) _) _
    try simp only [Act.put, List.setIfInBounds_toArray, List.set_cons_zero, List.set_cons_succ]
    refine wpAnyH_take (i := 6) (v := ?vb2b6x6) rfl (by kernel_rfl) (by kernel_rfl) (by kernel_rfl) (fun _ _ _ h => h) (Or.inl ⟨by rfl, ?hyb2b6x6⟩) (by assumption) ?restb2b6x6
    case hyb2b6x6 =>
      intro w hSw
      (try dsimp only at hSw)
      have a0 := (hSw.cell (p := ⟨ca, 0, none⟩) hla).trans a0
      have a1 := (hSw.cell (p := ⟨ca, 1, none⟩) hla).trans a1
      have a2 := (hSw.cell (p := ⟨ca, 2, none⟩) hla).trans a2
      have b0 := (hSw.cell (p := ⟨cc, 0, none⟩) hlb).trans b0
      have b1 := (hSw.cell (p := ⟨cc, 1, none⟩) hlb).trans b1
      have b2 := (hSw.cell (p := ⟨cc, 2, none⟩) hlb).trans b2
      go_simp
      (try with_reducible rfl)
    change wpAnyH _ _ _ _ _ _ _ (Act.put _ (some 20) _) _
    try simp only [Act.put, List.setIfInBounds_toArray, List.set_cons_zero, List.set_cons_succ]
    refine wpAnyH_take (i := 7) (v := ?vb2b7x7) rfl (by kernel_rfl) (by kernel_rfl) (by kernel_rfl) (fun _ _ _ h => h) (Or.inl ⟨by rfl, ?hyb2b7x7⟩) (by assumption) ?restb2b7x7
    case hyb2b7x7 =>
      intro w hSw
      (try dsimp only at hSw)
      have a0 := (hSw.cell (p := ⟨ca, 0, none⟩) hla).trans a0
      have a1 := (hSw.cell (p := ⟨ca, 1, none⟩) hla).trans a1
      have a2 := (hSw.cell (p := ⟨ca, 2, none⟩) hla).trans a2
      have b0 := (hSw.cell (p := ⟨cc, 0, none⟩) hlb).trans b0
      have b1 := (hSw.cell (p := ⟨cc, 1, none⟩) hlb).trans b1
      have b2 := (hSw.cell (p := ⟨cc, 2, none⟩) hlb).trans b2
      go_simp
      (try with_reducible rfl)
    change wpAnyH _ _ _ _ _ _ _ (Act.put _ (some 21) _) _
    try simp only [Act.put, List.setIfInBounds_toArray, List.set_cons_zero, List.set_cons_succ]
    refine wpAnyH_take (i := 8) (v := ?vb2b8x8) rfl (by kernel_rfl) (by kernel_rfl) (by kernel_rfl) (fun _ _ _ h => h) (Or.inl ⟨by rfl, ?hyb2b8x8⟩) (by assumption) ?restb2b8x8
    case hyb2b8x8 =>
      intro w hSw
      (try dsimp only at hSw)
      have a0 := (hSw.cell (p := ⟨ca, 0, none⟩) hla).trans a0
      have a1 := (hSw.cell (p := ⟨ca, 1, none⟩) hla).trans a1
      have a2 := (hSw.cell (p := ⟨ca, 2, none⟩) hla).trans a2
      have b0 := (hSw.cell (p := ⟨cc, 0, none⟩) hlb).trans b0
      have b1 := (hSw.cell (p := ⟨cc, 1, none⟩) hlb).trans b1
      have b2 := (hSw.cell (p := ⟨cc, 2, none⟩) hlb).trans b2
      go_simp
      (try with_reducible rfl)
    change wpAnyH _ _ _ _ _ _ _ (Act.put _ (some 22) _) _
    try simp only [Act.put, List.setIfInBounds_toArray, List.set_cons_zero, List.set_cons_succ]
    refine wpAnyH_take (i := 10) (v := ?vb2b10x9) rfl (by kernel_rfl) (by kernel_rfl) (by kernel_rfl) (fun _ _ _ h => h) (Or.inl ⟨by rfl, ?hyb2b10x9⟩) (by assumption) ?restb2b10x9
    case hyb2b10x9 =>
      intro w hSw
      (try dsimp only at hSw)
      have a0 := (hSw.cell (p := ⟨ca, 0, none⟩) hla).trans a0
      have a1 := (hSw.cell (p := ⟨ca, 1, none⟩) hla).trans a1
      have a2 := (hSw.cell (p := ⟨ca, 2, none⟩) hla).trans a2
      have b0 := (hSw.cell (p := ⟨cc, 0, none⟩) hlb).trans b0
      have b1 := (hSw.cell (p := ⟨cc, 1, none⟩) hlb).trans b1
      have b2 := (hSw.cell (p := ⟨cc, 2, none⟩) hlb).trans b2
      go_simp
      (try with_reducible rfl)
    change wpAnyH _ _ _ _ _ _ _ (Act.put _ (some 24) _) _
    try simp only [Act.put, List.setIfInBounds_toArray, List.set_cons_zero, List.set_cons_succ]
    refine wpAnyH_take (i := 11) (v := ?vb2b11x10) rfl (by kernel_rfl) (by kernel_rfl) (by kernel_rfl) (fun _ _ _ h => h) (Or.inl ⟨by rfl, ?hyb2b11x10⟩) (by assumption) ?restb2b11x10
    case hyb2b11x10 =>
      intro w hSw
      (try dsimp only at hSw)
      have a0 := (hSw.cell (p := ⟨ca, 0, none⟩) hla).trans a0
      have a1 := (hSw.cell (p := ⟨ca, 1, none⟩) hla).trans a1
      have a2 := (hSw.cell (p := ⟨ca, 2, none⟩) hla).trans a2
      have b0 := (hSw.cell (p := ⟨cc, 0, none⟩) hlb).trans b0
      have b1 := (hSw.cell (p := ⟨cc, 1, none⟩) hlb).trans b1
      have b2 := (hSw.cell (p := ⟨cc, 2, none⟩) hlb).trans b2
      go_simp
      (try with_reducible rfl)
    change wpAnyH _ _ _ _ _ _ _ (Act.put _ (some 25) _) _
    try simp only [Act.put, List.setIfInBounds_toArray, List.set_cons_zero, List.set_cons_succ]
    refine wpAnyH_take (i := 12) (v := ?vb2b12x11) rfl (by kernel_rfl) (by kernel_rfl) (by kernel_rfl) (fun _ _ _ h => h) (Or.inl ⟨by rfl, ?hyb2b12x11⟩) (by assumption) ?restb2b12x11
    case hyb2b12x11 =>
      intro w hSw
      (try dsimp only at hSw)
      have a0 := (hSw.cell (p := ⟨ca, 0, none⟩) hla).trans a0
      have a1 := (hSw.cell (p := ⟨ca, 1, none⟩) hla).trans a1
      have a2 := (hSw.cell (p := ⟨ca, 2, none⟩) hla).trans a2
      have b0 := (hSw.cell (p := ⟨cc, 0, none⟩) hlb).trans b0
      have b1 := (hSw.cell (p := ⟨cc, 1, none⟩) hlb).trans b1
      have b2 := (hSw.cell (p := ⟨cc, 2, none⟩) hlb).trans b2
      go_simp
      (try with_reducible rfl)
    change wpAnyH _ _ _ _ _ _ _ (Act.put _ (some 26) _) _
    try simp only [Act.put, List.setIfInBounds_toArray, List.set_cons_zero, List.set_cons_succ]
    refine wpAnyH_take (i := 13) (v := ?vb2b13x12) rfl (by kernel_rfl) (by kernel_rfl) (by kernel_rfl) (fun _ _ _ h => h) (Or.inl ⟨by rfl, ?hyb2b13x12⟩) (by assumption) ?restb2b13x12
    case hyb2b13x12 =>
      intro w hSw
      (try dsimp only at hSw)
      have a0 := (hSw.cell (p := ⟨ca, 0, none⟩) hla).trans a0
      have a1 := (hSw.cell (p := ⟨ca, 1, none⟩) hla).trans a1
      have a2 := (hSw.cell (p := ⟨ca, 2, none⟩) hla).trans a2
      have b0 := (hSw.cell (p := ⟨cc, 0, none⟩) hlb).trans b0
      have b1 := (hSw.cell (p := ⟨cc, 1, none⟩) hlb).trans b1
      have b2 := (hSw.cell (p := ⟨cc, 2, none⟩) hlb).trans b2
      go_simp
      (try with_reducible rfl)
    change wpAnyH _ _ _ _ _ _ _ (Act.put _ (some 27) _) _
    try simp only [Act.put, List.setIfInBounds_toArray, List.set_cons_zero, List.set_cons_succ]
    refine wpAnyH_ready (rs := [4]) (by kernel_rfl) (by simp) ?_
    refine AllReadyH.cons rfl (fun K hK => ?_) AllReadyH.nil
    go_simp
    go_at_call 35
    refine Calls.mono (cmpI_any p0 q0 _) ?_
    rintro e w1 ⟨rfl, rfl⟩
    (try go_wp2_with fail)
    refine hK.out _ _ (hHeld) (fun hHeld => ?_)
    clear hK K
    try simp only [Act.put, List.setIfInBounds_toArray, List.set_cons_zero, List.set_cons_succ]
    refine wpAnyH_ready (rs := [9]) (by kernel_rfl) (by simp) ?_
    refine AllReadyH.cons rfl (fun K hK => ?_) AllReadyH.nil
    go_simp
    go_at_call 35
    refine Calls.mono (cmpI_any p1 q1 _) ?_
    rintro e w1 ⟨rfl, rfl⟩
    (try go_wp2_with fail)
    refine hK.out _ _ (hHeld) (fun hHeld => ?_)
    clear hK K
    try simp only [Act.put, List.setIfInBounds_toArray, List.set_cons_zero, List.set_cons_succ]
    refine wpAnyH_ready (rs := [14]) (by kernel_rfl) (by simp) ?_
    refine AllReadyH.cons rfl (fun K hK => ?_) AllReadyH.nil
    go_simp
    go_at_call 35
    refine Calls.mono (cmpI_any p2 q2 _) ?_
    rintro e w1 ⟨rfl, rfl⟩
    (try go_wp2_with fail)
    refine hK.out _ _ (hHeld) (fun hHeld => ?_)
    clear hK K
    try simp only [Act.put, List.setIfInBounds_toArray, List.set_cons_zero, List.set_cons_succ]
    have hsl : Below W9.drew.heap.size W9.drew (W9.drew.alloc (.cells #[.int .i64 (cmpI p0 q0), .int .i64 (cmpI p1 q1), .int .i64 (cmpI p2 q2)] 3)) := (Below.refl _ _).alloc (Nat.le_refl _) _
    refine wpAnyH_ready (rs := [15]) (by kernel_rfl) (by simp) ?_
    refine AllReadyH.cons rfl (fun K hK => ?_) AllReadyH.nil
    go_simp
    (try go_wp2_with fail)
    refine hK.out _ _ (hHeld.trans (hsl.mono hHeld.size)) (fun hHeld => ?_)
    clear hK K
    try simp only [Act.put, List.setIfInBounds_toArray, List.set_cons_zero, List.set_cons_succ]
    refine wpAnyH_ready (rs := [16]) (by kernel_rfl) (by simp) ?_
    refine AllReadyH.cons rfl (fun K hK => ?_) AllReadyH.nil
    go_simp
    go_at_call 34
    refine Calls.mono (or3_any (cmpI p0 q0) (cmpI p1 q1) (cmpI p2 q2) _ _ (by simp) (by simp) (by simp)) ?_
    rintro e w1 ⟨rfl, rfl⟩
    (try go_wp2_with fail)
    refine hK.out _ _ (hHeld) (fun hHeld => ?_)
    clear hK K
    try simp only [Act.put, List.setIfInBounds_toArray, List.set_cons_zero, List.set_cons_succ]
    refine wpAnyH_take (i := 17) (v := ?vb2b17x13) rfl (by kernel_rfl) (by kernel_rfl) (by kernel_rfl) (fun _ _ _ h => h) (Or.inl ⟨by rfl, ?hyb2b17x13⟩) (by assumption) ?restb2b17x13
    case hyb2b17x13 =>
      intro w hSw
      (try dsimp only at hSw)
      go_simp
      (try with_reducible rfl)
    change wpAnyH _ _ _ _ _ _ _ (Act.put _ (some 5) _) _
    try simp only [Act.put, List.setIfInBounds_toArray, List.set_cons_zero, List.set_cons_succ]
    refine wpAnyH_done (by kernel_rfl) ?_ _
    go_wp2_with fail
    go_ret
    exact ⟨rfl, HB9.out.trans (hHeld.mono HB9.out.size)⟩
  have H111 : ∀ (w : World) (ca cc : Nat), Below W0.heap.size W0 w → Zr W0.heap.size w ca → Zr W0.heap.size w cc → ca ≠ cc → G 3 #[true, true, true, true, true, false, true, true, false, false] { tmps := #[.int .i64 (i : Int), .int .i64 (k : Int), .pointer (some ⟨cf, 0, none⟩), undef, undef, .int .i64 0, .pointer (some ⟨ca, 0, none⟩), .pointer (some ⟨cc, 0, none⟩), .func (.func 31) #[] #[.pointer (some ⟨cb, 0, none⟩)], .int .i64 (i : Int), .agg #[.int .i64 p0, .int .i64 p1, .int .i64 p2], .func (.func 31) #[] #[.pointer (some ⟨cb, 0, none⟩)], .int .i64 (k : Int), undef, undef, undef, undef, undef, undef, undef, undef, undef, undef, undef, undef, undef, undef, undef, undef, undef, undef], defers := [] } w := by
    intro w ca cc hHeld zca zcc necacc 
    rw [hG]
    refine wpAnyH_ready (rs := [5]) (by kernel_rfl) (by simp) ?_
    refine AllReadyH.cons rfl (fun K hK => ?_) (AllReadyH.nil)
    · go_simp
      go_at_call 31
      refine Calls.mono (HB.out w hHeld) ?_
      rintro e w1 ⟨rfl, hb1⟩
      (try go_wp2_with fail)
      have hHeld1 := hHeld.trans (hb1.mono hHeld.size)
      refine hK.out _ _ hHeld1 (fun _ => ?_)
      clear hK K
      rw [← hG]
      try simp only [Act.put, List.setIfInBounds_toArray, List.set_cons_zero, List.set_cons_succ]
      exact H211 w1 ca cc hHeld1 (zca.below hb1) (zcc.below hb1) necacc
  have H201 : ∀ (w : World) (cc : Nat), Below W0.heap.size W0 w → Zr W0.heap.size w cc → G 3 #[true, true, true, true, true, true, false, true, false, false] { tmps := #[.int .i64 (i : Int), .int .i64 (k : Int), .pointer (some ⟨cf, 0, none⟩), undef, undef, .int .i64 0, undef, .pointer (some ⟨cc, 0, none⟩), .func (.func 31) #[] #[.pointer (some ⟨cb, 0, none⟩)], .int .i64 (i : Int), .agg #[.int .i64 p0, .int .i64 p1, .int .i64 p2], .func (.func 31) #[] #[.pointer (some ⟨cb, 0, none⟩)], .int .i64 (k : Int), .agg #[.int .i64 q0, .int .i64 q1, .int .i64 q2], undef, undef, undef, undef, undef, undef, undef, undef, undef, undef, undef, undef, undef, undef, undef, undef, undef], defers := [] } w := by
    intro w cc hHeld zcc 
    rw [hG]
    refine wpAnyH_ready (rs := [6]) (by kernel_rfl) (by simp) ?_
    refine AllReadyH.cons rfl (fun K hK => ?_) (AllReadyH.nil)
    · go_simp
      (try go_wp2_with fail)
      have hal : Below w.heap.size w (w.alloc (.cells #[.int .i64 0, .int .i64 0, .int .i64 0] 27)) := (Below.refl _ _).alloc (Nat.le_refl _) _
      have hHeld1 := hHeld.trans (hal.mono hHeld.size)
      refine hK.out _ _ hHeld1 (fun _ => ?_)
      clear hK K
      rw [← hG]
      try simp only [Act.put, List.setIfInBounds_toArray, List.set_cons_zero, List.set_cons_succ]
      exact H211 (w.alloc (.cells #[.int .i64 0, .int .i64 0, .int .i64 0] 27)) w.heap.size cc hHeld1 (Zr.made hHeld.size _) (zcc.below hal) (Nat.ne_of_gt zcc.lt)
  have H210 : ∀ (w : World) (ca : Nat), Below W0.heap.size W0 w → Zr W0.heap.size w ca → G 3 #[true, true, true, true, true, true, true, false, false, false] { tmps := #[.int .i64 (i : Int), .int .i64 (k : Int), .pointer (some ⟨cf, 0, none⟩), undef, undef, .int .i64 0, .pointer (some ⟨ca, 0, none⟩), undef, .func (.func 31) #[] #[.pointer (some ⟨cb, 0, none⟩)], .int .i64 (i : Int), .agg #[.int .i64 p0, .int .i64 p1, .int .i64 p2], .func (.func 31) #[] #[.pointer (some ⟨cb, 0, none⟩)], .int .i64 (k : Int), .agg #[.int .i64 q0, .int .i64 q1, .int .i64 q2], undef, undef, undef, undef, undef, undef, undef, undef, undef, undef, undef, undef, undef, undef, undef, undef, undef], defers := [] } w := by
    intro w ca hHeld zca 
    rw [hG]
    refine wpAnyH_ready (rs := [7]) (by kernel_rfl) (by simp) ?_
    refine AllReadyH.cons rfl (fun K hK => ?_) (AllReadyH.nil)
    · go_simp
      (try go_wp2_with fail)
      have hal : Below w.heap.size w (w.alloc (.cells #[.int .i64 0, .int .i64 0, .int .i64 0] 27)) := (Below.refl _ _).alloc (Nat.le_refl _) _
      have hHeld1 := hHeld.trans (hal.mono hHeld.size)
      refine hK.out _ _ hHeld1 (fun _ => ?_)
      clear hK K
      rw [← hG]
      try simp only [Act.put, List.setIfInBounds_toArray, List.set_cons_zero, List.set_cons_succ]
      exact H211 (w.alloc (.cells #[.int .i64 0, .int .i64 0, .int .i64 0] 27)) ca w.heap.size hHeld1 (zca.below hal) (Zr.made hHeld.size _) (Nat.ne_of_lt zca.lt)
  have H011 : ∀ (w : World) (ca cc : Nat), Below W0.heap.size W0 w → Zr W0.heap.size w ca → Zr W0.heap.size w cc → ca ≠ cc → G 4 #[true, true, false, true, true, false, true, true, false, false] { tmps := #[.int .i64 (i : Int), .int .i64 (k : Int), .pointer (some ⟨cf, 0, none⟩), undef, undef, .int .i64 0, .pointer (some ⟨ca, 0, none⟩), .pointer (some ⟨cc, 0, none⟩), .func (.func 31) #[] #[.pointer (some ⟨cb, 0, none⟩)], .int .i64 (i : Int), undef, .func (.func 31) #[] #[.pointer (some ⟨cb, 0, none⟩)], .int .i64 (k : Int), undef, undef, undef, undef, undef, undef, undef, undef, undef, undef, undef, undef, undef, undef, undef, undef, undef, undef], defers := [] } w := by
    intro w ca cc hHeld zca zcc necacc 
    rw [hG]
    refine wpAnyH_ready (rs := [2]) (by kernel_rfl) (by simp) ?_
    refine AllReadyH.cons rfl (fun K hK => ?_) (AllReadyH.nil)
    · go_simp
      go_at_call 31
      refine Calls.mono (HA.out w hHeld) ?_
      rintro e w1 ⟨rfl, hb1⟩
      (try go_wp2_with fail)
      have hHeld1 := hHeld.trans (hb1.mono hHeld.size)
      refine hK.out _ _ hHeld1 (fun _ => ?_)
      clear hK K
      rw [← hG]
      try simp only [Act.put, List.setIfInBounds_toArray, List.set_cons_zero, List.set_cons_succ]
      exact H111 w1 ca cc hHeld1 (zca.below hb1) (zcc.below hb1) necacc
  have H101 : ∀ (w : World) (cc : Nat), Below W0.heap.size W0 w → Zr W0.heap.size w cc → G 4 #[true, true, true, true, true, false, false, true, false, false] { tmps := #[.int .i64 (i : Int), .int .i64 (k : Int), .pointer (some ⟨cf, 0, none⟩), undef, undef, .int .i64 0, undef, .pointer (some ⟨cc, 0, none⟩), .func (.func 31) #[] #[.pointer (some ⟨cb, 0, none⟩)], .int .i64 (i : Int), .agg #[.int .i64 p0, .int .i64 p1, .int .i64 p2], .func (.func 31) #[] #[.pointer (some ⟨cb, 0, none⟩)], .int .i64 (k : Int), undef, undef, undef, undef, undef, undef, undef, undef, undef, undef, undef, undef, undef, undef, undef, undef, undef, undef], defers := [] } w := by
    intro w cc hHeld zcc 
    rw [hG]
    refine wpAnyH_ready (rs := [5, 6]) (by kernel_rfl) (by simp) ?_
    refine AllReadyH.cons rfl (fun K hK => ?_) (AllReadyH.cons rfl (fun K hK => ?_) (AllReadyH.nil))
    · go_simp
      go_at_call 31
      refine Calls.mono (HB.out w hHeld) ?_
      rintro e w1 ⟨rfl, hb1⟩
      (try go_wp2_with fail)
      have hHeld1 := hHeld.trans (hb1.mono hHeld.size)
      refine hK.out _ _ hHeld1 (fun _ => ?_)
      clear hK K
      rw [← hG]
      try simp only [Act.put, List.setIfInBounds_toArray, List.set_cons_zero, List.set_cons_succ]
      exact H201 w1 cc hHeld1 (zcc.below hb1)
    · go_simp
      (try go_wp2_with fail)
      have hal : Below w.heap.size w (w.alloc (.cells #[.int .i64 0, .int .i64 0, .int .i64 0] 27)) := (Below.refl _ _).alloc (Nat.le_refl _) _
      have hHeld1 := hHeld.trans (hal.mono hHeld.size)
      refine hK.out _ _ hHeld1 (fun _ => ?_)
      clear hK K
      rw [← hG]
      try simp only [Act.put, List.setIfInBounds_toArray, List.set_cons_zero, List.set_cons_succ]
      exact H111 (w.alloc (.cells #[.int .i64 0, .int .i64 0, .int .i64 0] 27)) w.heap.size cc hHeld1 (Zr.made hHeld.size _) (zcc.below hal) (Nat.ne_of_gt zcc.lt)
  have H110 : ∀ (w : World) (ca : Nat), Below W0.heap.size W0 w → Zr W0.heap.size w ca → G 4 #[true, true, true, true, true, false, true, false, false, false] { tmps := #[.int .i64 (i : Int), .int .i64 (k : Int), .pointer (some ⟨cf, 0, none⟩), undef, undef, .int .i64 0, .pointer (some ⟨ca, 0, none⟩), undef, .func (.func 31) #[] #[.pointer (some ⟨cb, 0, none⟩)], .int .i64 (i : Int), .agg #[.int .i64 p0, .int .i64 p1, .int .i64 p2], .func (.func 31) #[] #[.pointer (some ⟨cb, 0, none⟩)], .int .i64 (k : Int), undef, undef, undef, undef, undef, undef, undef, undef, undef, undef, undef, undef, undef, undef, undef, undef, undef, undef], defers := [] } w := by
    intro w ca hHeld zca 
    rw [hG]
    refine wpAnyH_ready (rs := [5, 7]) (by kernel_rfl) (by simp) ?_
    refine AllReadyH.cons rfl (fun K hK => ?_) (AllReadyH.cons rfl (fun K hK => ?_) (AllReadyH.nil))
    · go_simp
      go_at_call 31
      refine Calls.mono (HB.out w hHeld) ?_
      rintro e w1 ⟨rfl, hb1⟩
      (try go_wp2_with fail)
      have hHeld1 := hHeld.trans (hb1.mono hHeld.size)
      refine hK.out _ _ hHeld1 (fun _ => ?_)
      clear hK K
      rw [← hG]
      try simp only [Act.put, List.setIfInBounds_toArray, List.set_cons_zero, List.set_cons_succ]
      exact H210 w1 ca hHeld1 (zca.below hb1)
    · go_simp
      (try go_wp2_with fail)
      have hal : Below w.heap.size w (w.alloc (.cells #[.int .i64 0, .int .i64 0, .int .i64 0] 27)) := (Below.refl _ _).alloc (Nat.le_refl _) _
      have hHeld1 := hHeld.trans (hal.mono hHeld.size)
      refine hK.out _ _ hHeld1 (fun _ => ?_)
      clear hK K
      rw [← hG]
      try simp only [Act.put, List.setIfInBounds_toArray, List.set_cons_zero, List.set_cons_succ]
      exact H111 (w.alloc (.cells #[.int .i64 0, .int .i64 0, .int .i64 0] 27)) ca w.heap.size hHeld1 (zca.below hal) (Zr.made hHeld.size _) (Nat.ne_of_lt zca.lt)
  have H200 : ∀ (w : World), Below W0.heap.size W0 w → G 4 #[true, true, true, true, true, true, false, false, false, false] { tmps := #[.int .i64 (i : Int), .int .i64 (k : Int), .pointer (some ⟨cf, 0, none⟩), undef, undef, .int .i64 0, undef, undef, .func (.func 31) #[] #[.pointer (some ⟨cb, 0, none⟩)], .int .i64 (i : Int), .agg #[.int .i64 p0, .int .i64 p1, .int .i64 p2], .func (.func 31) #[] #[.pointer (some ⟨cb, 0, none⟩)], .int .i64 (k : Int), .agg #[.int .i64 q0, .int .i64 q1, .int .i64 q2], undef, undef, undef, undef, undef, undef, undef, undef, undef, undef, undef, undef, undef, undef, undef, undef, undef], defers := [] } w := by
    intro w hHeld 
    rw [hG]
    refine wpAnyH_ready (rs := [6, 7]) (by kernel_rfl) (by simp) ?_
    refine AllReadyH.cons rfl (fun K hK => ?_) (AllReadyH.cons rfl (fun K hK => ?_) (AllReadyH.nil))
    · go_simp
      (try go_wp2_with fail)
      have hal : Below w.heap.size w (w.alloc (.cells #[.int .i64 0, .int .i64 0, .int .i64 0] 27)) := (Below.refl _ _).alloc (Nat.le_refl _) _
      have hHeld1 := hHeld.trans (hal.mono hHeld.size)
      refine hK.out _ _ hHeld1 (fun _ => ?_)
      clear hK K
      rw [← hG]
      try simp only [Act.put, List.setIfInBounds_toArray, List.set_cons_zero, List.set_cons_succ]
      exact H210 (w.alloc (.cells #[.int .i64 0, .int .i64 0, .int .i64 0] 27)) w.heap.size hHeld1 (Zr.made hHeld.size _)
    · go_simp
      (try go_wp2_with fail)
      have hal : Below w.heap.size w (w.alloc (.cells #[.int .i64 0, .int .i64 0, .int .i64 0] 27)) := (Below.refl _ _).alloc (Nat.le_refl _) _
      have hHeld1 := hHeld.trans (hal.mono hHeld.size)
      refine hK.out _ _ hHeld1 (fun _ => ?_)
      clear hK K
      rw [← hG]
      try simp only [Act.put, List.setIfInBounds_toArray, List.set_cons_zero, List.set_cons_succ]
      exact H201 (w.alloc (.cells #[.int .i64 0, .int .i64 0, .int .i64 0] 27)) w.heap.size hHeld1 (Zr.made hHeld.size _)
  have H001 : ∀ (w : World) (cc : Nat), Below W0.heap.size W0 w → Zr W0.heap.size w cc → G 5 #[true, true, false, true, true, false, false, true, false, false] { tmps := #[.int .i64 (i : Int), .int .i64 (k : Int), .pointer (some ⟨cf, 0, none⟩), undef, undef, .int .i64 0, undef, .pointer (some ⟨cc, 0, none⟩), .func (.func 31) #[] #[.pointer (some ⟨cb, 0, none⟩)], .int .i64 (i : Int), undef, .func (.func 31) #[] #[.pointer (some ⟨cb, 0, none⟩)], .int .i64 (k : Int), undef, undef, undef, undef, undef, undef, undef, undef, undef, undef, undef, undef, undef, undef, undef, undef, undef, undef], defers := [] } w := by
    intro w cc hHeld zcc 
    rw [hG]
    refine wpAnyH_ready (rs := [2, 6]) (by kernel_rfl) (by simp) ?_
    refine AllReadyH.cons rfl (fun K hK => ?_) (AllReadyH.cons rfl (fun K hK => ?_) (AllReadyH.nil))
    · go_simp
      go_at_call 31
      refine Calls.mono (HA.out w hHeld) ?_
      rintro e w1 ⟨rfl, hb1⟩
      (try go_wp2_with fail)
      have hHeld1 := hHeld.trans (hb1.mono hHeld.size)
      refine hK.out _ _ hHeld1 (fun _ => ?_)
      clear hK K
      rw [← hG]
      try simp only [Act.put, List.setIfInBounds_toArray, List.set_cons_zero, List.set_cons_succ]
      exact H101 w1 cc hHeld1 (zcc.below hb1)
    · go_simp
      (try go_wp2_with fail)
      have hal : Below w.heap.size w (w.alloc (.cells #[.int .i64 0, .int .i64 0, .int .i64 0] 27)) := (Below.refl _ _).alloc (Nat.le_refl _) _
      have hHeld1 := hHeld.trans (hal.mono hHeld.size)
      refine hK.out _ _ hHeld1 (fun _ => ?_)
      clear hK K
      rw [← hG]
      try simp only [Act.put, List.setIfInBounds_toArray, List.set_cons_zero, List.set_cons_succ]
      exact H011 (w.alloc (.cells #[.int .i64 0, .int .i64 0, .int .i64 0] 27)) w.heap.size cc hHeld1 (Zr.made hHeld.size _) (zcc.below hal) (Nat.ne_of_gt zcc.lt)
  have H010 : ∀ (w : World) (ca : Nat), Below W0.heap.size W0 w → Zr W0.heap.size w ca → G 5 #[true, true, false, true, true, false, true, false, false, false] { tmps := #[.int .i64 (i : Int), .int .i64 (k : Int), .pointer (some ⟨cf, 0, none⟩), undef, undef, .int .i64 0, .pointer (some ⟨ca, 0, none⟩), undef, .func (.func 31) #[] #[.pointer (some ⟨cb, 0, none⟩)], .int .i64 (i : Int), undef, .func (.func 31) #[] #[.pointer (some ⟨cb, 0, none⟩)], .int .i64 (k : Int), undef, undef, undef, undef, undef, undef, undef, undef, undef, undef, undef, undef, undef, undef, undef, undef, undef, undef], defers := [] } w := by
    intro w ca hHeld zca 
    rw [hG]
    refine wpAnyH_ready (rs := [2, 7]) (by kernel_rfl) (by simp) ?_
    refine AllReadyH.cons rfl (fun K hK => ?_) (AllReadyH.cons rfl (fun K hK => ?_) (AllReadyH.nil))
    · go_simp
      go_at_call 31
      refine Calls.mono (HA.out w hHeld) ?_
      rintro e w1 ⟨rfl, hb1⟩
      (try go_wp2_with fail)
      have hHeld1 := hHeld.trans (hb1.mono hHeld.size)
      refine hK.out _ _ hHeld1 (fun _ => ?_)
      clear hK K
      rw [← hG]
      try simp only [Act.put, List.setIfInBounds_toArray, List.set_cons_zero, List.set_cons_succ]
      exact H110 w1 ca hHeld1 (zca.below hb1)
    · go_simp
      (try go_wp2_with fail)
      have hal : Below w.heap.size w (w.alloc (.cells #[.int .i64 0, .int .i64 0, .int .i64 0] 27)) := (Below.refl _ _).alloc (Nat.le_refl _) _
      have hHeld1 := hHeld.trans (hal.mono hHeld.size)
      refine hK.out _ _ hHeld1 (fun _ => ?_)
      clear hK K
      rw [← hG]
      try simp only [Act.put, List.setIfInBounds_toArray, List.set_cons_zero, List.set_cons_succ]
      exact H011 (w.alloc (.cells #[.int .i64 0, .int .i64 0, .int .i64 0] 27)) ca w.heap.size hHeld1 (zca.below hal) (Zr.made hHeld.size _) (Nat.ne_of_lt zca.lt)
  have H100 : ∀ (w : World), Below W0.heap.size W0 w → G 5 #[true, true, true, true, true, false, false, false, false, false] { tmps := #[.int .i64 (i : Int), .int .i64 (k : Int), .pointer (some ⟨cf, 0, none⟩), undef, undef, .int .i64 0, undef, undef, .func (.func 31) #[] #[.pointer (some ⟨cb, 0, none⟩)], .int .i64 (i : Int), .agg #[.int .i64 p0, .int .i64 p1, .int .i64 p2], .func (.func 31) #[] #[.pointer (some ⟨cb, 0, none⟩)], .int .i64 (k : Int), undef, undef, undef, undef, undef, undef, undef, undef, undef, undef, undef, undef, undef, undef, undef, undef, undef, undef], defers := [] } w := by
    intro w hHeld 
    rw [hG]
    refine wpAnyH_ready (rs := [5, 6, 7]) (by kernel_rfl) (by simp) ?_
    refine AllReadyH.cons rfl (fun K hK => ?_) (AllReadyH.cons rfl (fun K hK => ?_) (AllReadyH.cons rfl (fun K hK => ?_) (AllReadyH.nil)))
    · go_simp
      go_at_call 31
      refine Calls.mono (HB.out w hHeld) ?_
      rintro e w1 ⟨rfl, hb1⟩
      (try go_wp2_with fail)
      have hHeld1 := hHeld.trans (hb1.mono hHeld.size)
      refine hK.out _ _ hHeld1 (fun _ => ?_)
      clear hK K
      rw [← hG]
      try simp only [Act.put, List.setIfInBounds_toArray, List.set_cons_zero, List.set_cons_succ]
      exact H200 w1 hHeld1
    · go_simp
      (try go_wp2_with fail)
      have hal : Below w.heap.size w (w.alloc (.cells #[.int .i64 0, .int .i64 0, .int .i64 0] 27)) := (Below.refl _ _).alloc (Nat.le_refl _) _
      have hHeld1 := hHeld.trans (hal.mono hHeld.size)
      refine hK.out _ _ hHeld1 (fun _ => ?_)
      clear hK K
      rw [← hG]
      try simp only [Act.put, List.setIfInBounds_toArray, List.set_cons_zero, List.set_cons_succ]
      exact H110 (w.alloc (.cells #[.int .i64 0, .int .i64 0, .int .i64 0] 27)) w.heap.size hHeld1 (Zr.made hHeld.size _)
    · go_simp
      (try go_wp2_with fail)
      have hal : Below w.heap.size w (w.alloc (.cells #[.int .i64 0, .int .i64 0, .int .i64 0] 27)) := (Below.refl _ _).alloc (Nat.le_refl _) _
      have hHeld1 := hHeld.trans (hal.mono hHeld.size)
      refine hK.out _ _ hHeld1 (fun _ => ?_)
      clear hK K
      rw [← hG]
      try simp only [Act.put, List.setIfInBounds_toArray, List.set_cons_zero, List.set_cons_succ]
      exact H101 (w.alloc (.cells #[.int .i64 0, .int .i64 0, .int .i64 0] 27)) w.heap.size hHeld1 (Zr.made hHeld.size _)
  have H000 : ∀ (w : World), Below W0.heap.size W0 w → G 6 #[true, true, false, true, true, false, false, false, false, false] { tmps := #[.int .i64 (i : Int), .int .i64 (k : Int), .pointer (some ⟨cf, 0, none⟩), undef, undef, .int .i64 0, undef, undef, .func (.func 31) #[] #[.pointer (some ⟨cb, 0, none⟩)], .int .i64 (i : Int), undef, .func (.func 31) #[] #[.pointer (some ⟨cb, 0, none⟩)], .int .i64 (k : Int), undef, undef, undef, undef, undef, undef, undef, undef, undef, undef, undef, undef, undef, undef, undef, undef, undef, undef], defers := [] } w := by
    intro w hHeld 
    rw [hG]
    refine wpAnyH_ready (rs := [2, 6, 7]) (by kernel_rfl) (by simp) ?_
    refine AllReadyH.cons rfl (fun K hK => ?_) (AllReadyH.cons rfl (fun K hK => ?_) (AllReadyH.cons rfl (fun K hK => ?_) (AllReadyH.nil)))
    · go_simp
      go_at_call 31
      refine Calls.mono (HA.out w hHeld) ?_
      rintro e w1 ⟨rfl, hb1⟩
      (try go_wp2_with fail)
      have hHeld1 := hHeld.trans (hb1.mono hHeld.size)
      refine hK.out _ _ hHeld1 (fun _ => ?_)
      clear hK K
      rw [← hG]
      try simp only [Act.put, List.setIfInBounds_toArray, List.set_cons_zero, List.set_cons_succ]
      exact H100 w1 hHeld1
    · go_simp
      (try go_wp2_with fail)
      have hal : Below w.heap.size w (w.alloc (.cells #[.int .i64 0, .int .i64 0, .int .i64 0] 27)) := (Below.refl _ _).alloc (Nat.le_refl _) _
      have hHeld1 := hHeld.trans (hal.mono hHeld.size)
      refine hK.out _ _ hHeld1 (fun _ => ?_)
      clear hK K
      rw [← hG]
      try simp only [Act.put, List.setIfInBounds_toArray, List.set_cons_zero, List.set_cons_succ]
      exact H010 (w.alloc (.cells #[.int .i64 0, .int .i64 0, .int .i64 0] 27)) w.heap.size hHeld1 (Zr.made hHeld.size _)
    · go_simp
      (try go_wp2_with fail)
      have hal : Below w.heap.size w (w.alloc (.cells #[.int .i64 0, .int .i64 0, .int .i64 0] 27)) := (Below.refl _ _).alloc (Nat.le_refl _) _
      have hHeld1 := hHeld.trans (hal.mono hHeld.size)
      refine hK.out _ _ hHeld1 (fun _ => ?_)
      clear hK K
      rw [← hG]
      try simp only [Act.put, List.setIfInBounds_toArray, List.set_cons_zero, List.set_cons_succ]
      exact H001 (w.alloc (.cells #[.int .i64 0, .int .i64 0, .int .i64 0] 27)) w.heap.size hHeld1 (Zr.made hHeld.size _)
  exact H000 _ hHeld
end Go.Proofs.Ytnfmopmcckgfdaa
