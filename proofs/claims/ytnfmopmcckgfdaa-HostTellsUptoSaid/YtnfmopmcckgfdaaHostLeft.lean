/- Contract: Best's closure: what is left of a host. -/
import Derived.Test.YtnfmopmcckgfdaaHostFit
import Derived.Deep.RegionHeld3
namespace Go.Proofs.Ytnfmopmcckgfdaa
open Go.ChangeShapes Go.WideShapes Go.ChangeAt Go.RowKit
set_option linter.unusedVariables false
set_option linter.unusedSimpArgs false
open Tp
/-- the hosts' slice, boxed -/
def HBox (w : World) (cb : Nat) (L : List Hst) : Prop := ∃ a n cap, n = L.length ∧ n ≤ 40 ∧ w.cell? ⟨cb, 0, none⟩ = some (.slice a n cap) ∧ cb < w.heap.size ∧ Hosts w a L
theorem HBox.below {w w' : World} {cb : Nat} {L : List Hst} (h : HBox w cb L) (hb : Below w.heap.size w w') : HBox w' cb L := by
  obtain ⟨a, n, cap, h1, h2, h3, h4, h5⟩ := h
  exact ⟨a, n, cap, h1, h2, (hb.cell (p := ⟨cb, 0, none⟩) h4).trans h3, Nat.lt_of_lt_of_le h4 hb.size, h5.below hb⟩
theorem enLeft : Enters 31 := fun args w => by kernel_rfl
set_option maxRecDepth 20000 in
set_option maxHeartbeats 16000000 in
theorem left_any (L : List Hst) (hok : ∀ (i : Nat) (h : Hst), L[i]? = some h → h.has.ok = true ∧ h.used.ok = true ∧ h.used.le h.has = true) (cb j : Nat) (h : Hst) (w : World) (hx : L[j]? = some h) (hB : HBox w cb L) :
    Calls Try.prog 31 #[.int .i64 (j : Int), .pointer (some ⟨cb, 0, none⟩)] w fun e w' => e = .returned h.left.v ∧ Below w.heap.size w w' := by
  obtain ⟨W0, hW0⟩ : ∃ W, W = w.alloc (.cells #[.int .i64 0, .int .i64 0, .int .i64 0] 27) := ⟨_, rfl⟩
  obtain ⟨cr, hcr⟩ : ∃ c, c = w.heap.size := ⟨_, rfl⟩
  have HCR := Lib.hid hcr
  have hb9 : Below w.heap.size w W0 := by rw [hW0]; exact (Below.refl _ _).alloc (Nat.le_refl _) _
  have HB0 := Lib.hid hb9
  have r0 : W0.cell? ⟨cr, 0, none⟩ = some (.int .i64 0) := by rw [hW0]; exact (top_cell _ _ _ _ _ hcr).trans rfl
  have r1 : W0.cell? ⟨cr, 1, none⟩ = some (.int .i64 0) := by rw [hW0]; exact (top_cell _ _ _ _ _ hcr).trans rfl
  have r2 : W0.cell? ⟨cr, 2, none⟩ = some (.int .i64 0) := by rw [hW0]; exact (top_cell _ _ _ _ _ hcr).trans rfl
  have p0 : W0.frozen? ⟨cr, 0, none⟩ = false := by rw [hW0]; exact top_frozen _ _ _ _ _ hcr
  have p1 : W0.frozen? ⟨cr, 1, none⟩ = false := by rw [hW0]; exact top_frozen _ _ _ _ _ hcr
  have p2 : W0.frozen? ⟨cr, 2, none⟩ = false := by rw [hW0]; exact top_frozen _ _ _ _ _ hcr
  have hlt3 : cr < W0.heap.size := by rw [hW0, hcr]; exact top_lt _ _
  obtain ⟨a, n, cap, hn, h40, s0, hcb, hL⟩ := hB.below hb9
  have hjn : j < n := by rw [hn]; exact (List.getElem?_eq_some_iff.1 hx).1
  obtain ⟨b, off, rfl, hb, hat⟩ := hL (by omega)
  obtain ⟨la, lc, hhv, c0, c1, c2, c3, c4, c5, c6, c7⟩ := (hat j h hx).val
  obtain ⟨ok1, ok2, ok3⟩ := hok j h hx
  have HSUB : Hid (∀ W, Calls Try.prog 21 #[.agg #[.int .i64 h.has.cpu, .int .i64 h.has.mem, .int .i64 h.has.gpu], .agg #[.int .i64 h.used.cpu, .int .i64 h.used.mem, .int .i64 h.used.gpu]] W fun e w' => e = .returned (.tuple #[.agg #[.int .i64 h.left.cpu, .int .i64 h.left.mem, .int .i64 h.left.gpu], .int .i64 0]) ∧ Below W.heap.size W w') := Lib.hid (fun W => by
    have h9 := nSub_any h.has.cpu h.has.mem h.has.gpu h.used.cpu h.used.mem h.used.gpu W
    have h8 := left_sub ok1 ok2 ok3
    have h5 : subE h.has.cpu h.has.mem h.has.gpu h.used.cpu h.used.mem h.used.gpu = 0 := h8.2
    have h6 := congrArg Amt.cpu h8.1
    have h7 := congrArg Amt.mem h8.1
    have h4 := congrArg Amt.gpu h8.1
    unfold Amt.sub at h6 h7 h4
    simp only at h6 h7 h4
    rw [h5, h6, h7, h4] at h9
    exact h9)
  unfold Amt.v
  obtain ⟨l0, hl0⟩ : ∃ q, h.left.cpu = q := ⟨_, rfl⟩
  obtain ⟨l1, hl1'⟩ : ∃ q, h.left.mem = q := ⟨_, rfl⟩
  obtain ⟨l2, hl2⟩ : ∃ q, h.left.gpu = q := ⟨_, rfl⟩
  rw [hl0, hl1', hl2] at HSUB ⊢
  have hj1 : (0 : Int) ≤ (j : Int) := by omega
  have hj2 : (j : Int) < (n : Int) := by omega
  clear hat hx hhv hl0 hl1' hl2 ok1 ok2 ok3 hB hL hok hb9 c0 c1 hn
  go_enter Try.func31, Try.ntmps31
  go_upto_region 1 with fail
  rw [← hW0, ← hcr]
  clear hW0 hcr
  refine wp_region_held_drew (S := fun W => Below W0.heap.size W0 W) (by kernel_rfl) ((Below.refl _ _).drew) (fun hHeld => ?_)
  refine wpAnyH_take (i := 0) (v := ?vb1b0x1) rfl (by kernel_rfl) (by kernel_rfl) (by kernel_rfl) (fun _ _ _ h => h) (Or.inl ⟨by rfl, ?hyb1b0x1⟩) (by assumption) ?restb1b0x1
  case hyb1b0x1 =>
    intro w hSw
    (try dsimp only at hSw)
    have s0 := (hSw.cell (p := ⟨cb, 0, none⟩) hcb).trans s0
    have c2 := (hSw.cell (p := ⟨b, off + j * 8 + 2, none⟩) hb).trans c2
    have c3 := (hSw.cell (p := ⟨b, off + j * 8 + 3, none⟩) hb).trans c3
    have c4 := (hSw.cell (p := ⟨b, off + j * 8 + 4, none⟩) hb).trans c4
    have c5 := (hSw.cell (p := ⟨b, off + j * 8 + 5, none⟩) hb).trans c5
    have c6 := (hSw.cell (p := ⟨b, off + j * 8 + 6, none⟩) hb).trans c6
    have c7 := (hSw.cell (p := ⟨b, off + j * 8 + 7, none⟩) hb).trans c7
    go_simp
    (try with_reducible rfl)
  change wpAnyH _ _ _ _ _ _ _ (Act.put _ (some 7) _) _
  try simp only [Act.put, List.setIfInBounds_toArray, List.set_cons_zero, List.set_cons_succ]
  refine wpAnyH_take (i := 1) (v := ?vb1b1x2) rfl (by kernel_rfl) (by kernel_rfl) (by kernel_rfl) (fun _ _ _ h => h) (Or.inl ⟨by rfl, ?hyb1b1x2⟩) (by assumption) ?restb1b1x2
  case hyb1b1x2 =>
    intro w hSw
    (try dsimp only at hSw)
    go_simp
    (try with_reducible rfl)
  change wpAnyH _ _ _ _ _ _ _ (Act.put _ (some 8) _) _
  try simp only [Act.put, List.setIfInBounds_toArray, List.set_cons_zero, List.set_cons_succ]
  refine wpAnyH_take (i := 2) (v := ?vb1b2x3) rfl (by kernel_rfl) (by kernel_rfl) (by kernel_rfl) (fun _ _ _ h => h) (Or.inl ⟨by rfl, ?hyb1b2x3⟩) (by assumption) ?restb1b2x3
  case hyb1b2x3 =>
    intro w hSw
    (try dsimp only at hSw)
    go_simp
    (try with_reducible rfl)
  change wpAnyH _ _ _ _ _ _ _ (Act.put _ (some 9) _) _
  try simp only [Act.put, List.setIfInBounds_toArray, List.set_cons_zero, List.set_cons_succ]
  refine wpAnyH_take (i := 3) (v := ?vb1b3x4) rfl (by kernel_rfl) (by kernel_rfl) (by kernel_rfl) (fun _ _ _ h => h) (Or.inl ⟨by rfl, ?hyb1b3x4⟩) (by assumption) ?restb1b3x4
  case hyb1b3x4 =>
    intro w hSw
    (try dsimp only at hSw)
    go_simp
    (try with_reducible rfl)
  change wpAnyH _ _ _ _ _ _ _ (Act.put _ (some 10) _) _
  try simp only [Act.put, List.setIfInBounds_toArray, List.set_cons_zero, List.set_cons_succ]
  refine wpAnyH_take (i := 4) (v := ?vb1b4x5) rfl (by kernel_rfl) (by kernel_rfl) (by kernel_rfl) (fun _ _ _ h => h) (Or.inl ⟨by rfl, ?hyb1b4x5⟩) (by assumption) ?restb1b4x5
  case hyb1b4x5 =>
    intro w hSw
    (try dsimp only at hSw)
    have s0 := (hSw.cell (p := ⟨cb, 0, none⟩) hcb).trans s0
    have c2 := (hSw.cell (p := ⟨b, off + j * 8 + 2, none⟩) hb).trans c2
    have c3 := (hSw.cell (p := ⟨b, off + j * 8 + 3, none⟩) hb).trans c3
    have c4 := (hSw.cell (p := ⟨b, off + j * 8 + 4, none⟩) hb).trans c4
    have c5 := (hSw.cell (p := ⟨b, off + j * 8 + 5, none⟩) hb).trans c5
    have c6 := (hSw.cell (p := ⟨b, off + j * 8 + 6, none⟩) hb).trans c6
    have c7 := (hSw.cell (p := ⟨b, off + j * 8 + 7, none⟩) hb).trans c7
    go_simp
    (try with_reducible rfl)
  change wpAnyH _ _ _ _ _ _ _ (Act.put _ (some 11) _) _
  try simp only [Act.put, List.setIfInBounds_toArray, List.set_cons_zero, List.set_cons_succ]
  refine wpAnyH_take (i := 5) (v := ?vb1b5x6) rfl (by kernel_rfl) (by kernel_rfl) (by kernel_rfl) (fun _ _ _ h => h) (Or.inl ⟨by rfl, ?hyb1b5x6⟩) (by assumption) ?restb1b5x6
  case hyb1b5x6 =>
    intro w hSw
    (try dsimp only at hSw)
    have s0 := (hSw.cell (p := ⟨cb, 0, none⟩) hcb).trans s0
    have c2 := (hSw.cell (p := ⟨b, off + j * 8 + 2, none⟩) hb).trans c2
    have c3 := (hSw.cell (p := ⟨b, off + j * 8 + 3, none⟩) hb).trans c3
    have c4 := (hSw.cell (p := ⟨b, off + j * 8 + 4, none⟩) hb).trans c4
    have c5 := (hSw.cell (p := ⟨b, off + j * 8 + 5, none⟩) hb).trans c5
    have c6 := (hSw.cell (p := ⟨b, off + j * 8 + 6, none⟩) hb).trans c6
    have c7 := (hSw.cell (p := ⟨b, off + j * 8 + 7, none⟩) hb).trans c7
    go_simp
    (try with_reducible rfl)
  change wpAnyH _ _ _ _ _ _ _ (Act.put _ (some 12) _) _
  try simp only [Act.put, List.setIfInBounds_toArray, List.set_cons_zero, List.set_cons_succ]
  refine wpAnyH_take (i := 6) (v := ?vb1b6x7) rfl (by kernel_rfl) (by kernel_rfl) (by kernel_rfl) (fun _ _ _ h => h) (Or.inl ⟨by rfl, ?hyb1b6x7⟩) (by assumption) ?restb1b6x7
  case hyb1b6x7 =>
    intro w hSw
    (try dsimp only at hSw)
    go_simp
    (try with_reducible rfl)
  change wpAnyH _ _ _ _ _ _ _ (Act.put _ (some 13) _) _
  try simp only [Act.put, List.setIfInBounds_toArray, List.set_cons_zero, List.set_cons_succ]
  refine wpAnyH_take (i := 7) (v := ?vb1b7x8) rfl (by kernel_rfl) (by kernel_rfl) (by kernel_rfl) (fun _ _ _ h => h) (Or.inl ⟨by rfl, ?hyb1b7x8⟩) (by assumption) ?restb1b7x8
  case hyb1b7x8 =>
    intro w hSw
    (try dsimp only at hSw)
    go_simp
    (try with_reducible rfl)
  change wpAnyH _ _ _ _ _ _ _ (Act.put _ (some 14) _) _
  try simp only [Act.put, List.setIfInBounds_toArray, List.set_cons_zero, List.set_cons_succ]
  refine wpAnyH_take (i := 8) (v := ?vb1b8x9) rfl (by kernel_rfl) (by kernel_rfl) (by kernel_rfl) (fun _ _ _ h => h) (Or.inl ⟨by rfl, ?hyb1b8x9⟩) (by assumption) ?restb1b8x9
  case hyb1b8x9 =>
    intro w hSw
    (try dsimp only at hSw)
    go_simp
    (try with_reducible rfl)
  change wpAnyH _ _ _ _ _ _ _ (Act.put _ (some 15) _) _
  try simp only [Act.put, List.setIfInBounds_toArray, List.set_cons_zero, List.set_cons_succ]
  refine wpAnyH_take (i := 9) (v := ?vb1b9x10) rfl (by kernel_rfl) (by kernel_rfl) (by kernel_rfl) (fun _ _ _ h => h) (Or.inl ⟨by rfl, ?hyb1b9x10⟩) (by assumption) ?restb1b9x10
  case hyb1b9x10 =>
    intro w hSw
    (try dsimp only at hSw)
    have s0 := (hSw.cell (p := ⟨cb, 0, none⟩) hcb).trans s0
    have c2 := (hSw.cell (p := ⟨b, off + j * 8 + 2, none⟩) hb).trans c2
    have c3 := (hSw.cell (p := ⟨b, off + j * 8 + 3, none⟩) hb).trans c3
    have c4 := (hSw.cell (p := ⟨b, off + j * 8 + 4, none⟩) hb).trans c4
    have c5 := (hSw.cell (p := ⟨b, off + j * 8 + 5, none⟩) hb).trans c5
    have c6 := (hSw.cell (p := ⟨b, off + j * 8 + 6, none⟩) hb).trans c6
    have c7 := (hSw.cell (p := ⟨b, off + j * 8 + 7, none⟩) hb).trans c7
    go_simp
    (try with_reducible rfl)
  change wpAnyH _ _ _ _ _ _ _ (Act.put _ (some 16) _) _
  try simp only [Act.put, List.setIfInBounds_toArray, List.set_cons_zero, List.set_cons_succ]
  refine wpAnyH_ready (rs := [10, 14]) (by kernel_rfl) (by simp) ?_
  refine AllReadyH.cons rfl (fun K hK => ?_) (AllReadyH.cons rfl (fun K hK => ?_) AllReadyH.nil)
  · go_simp
    go_at_call 21
    refine Calls.mono (HSUB.out _) ?_
    rintro e w1 ⟨rfl, hb1⟩
    (try go_wp2_with fail)
    refine hK.out _ _ (hHeld.trans (hb1.mono hHeld.size)) (fun hHeld => ?_)
    clear hK K
    try simp only [Act.put, List.setIfInBounds_toArray, List.set_cons_zero, List.set_cons_succ]
    refine wpAnyH_take (i := 11) (v := ?vb1b11x11) rfl (by kernel_rfl) (by kernel_rfl) (by kernel_rfl) (fun _ _ _ h => h) (Or.inl ⟨by rfl, ?hyb1b11x11⟩) (by assumption) ?restb1b11x11
    case hyb1b11x11 =>
      intro w hSw
      (try dsimp only at hSw)
      go_simp
      (try with_reducible rfl)
    change wpAnyH _ _ _ _ _ _ _ (Act.put _ (some 6) _) _
    try simp only [Act.put, List.setIfInBounds_toArray, List.set_cons_zero, List.set_cons_succ]
    refine wpAnyH_take (i := 12) (v := ?vb1b12x12) rfl (by kernel_rfl) (by kernel_rfl) (by kernel_rfl) (fun _ _ _ h => h) (Or.inl ⟨by rfl, ?hyb1b12x12⟩) (by assumption) ?restb1b12x12
    case hyb1b12x12 =>
      intro w hSw
      (try dsimp only at hSw)
      go_simp
      (try with_reducible rfl)
    change wpAnyH _ _ _ _ _ _ _ (Act.put _ (some 18) _) _
    try simp only [Act.put, List.setIfInBounds_toArray, List.set_cons_zero, List.set_cons_succ]
    refine wpAnyH_take (i := 13) (v := ?vb1b13x13) rfl (by kernel_rfl) (by kernel_rfl) (by kernel_rfl) (fun _ _ _ h => h) (Or.inl ⟨by rfl, ?hyb1b13x13⟩) (by assumption) ?restb1b13x13
    case hyb1b13x13 =>
      intro w hSw
      (try dsimp only at hSw)
      go_simp
      (try with_reducible rfl)
    change wpAnyH _ _ _ _ _ _ _ (Act.put _ (some 19) _) _
    try simp only [Act.put, List.setIfInBounds_toArray, List.set_cons_zero, List.set_cons_succ]
    refine wpAnyH_ready (rs := [14]) (by kernel_rfl) (by simp) ?_
    refine AllReadyH.cons rfl (fun K hK => ?_) AllReadyH.nil
    go_simp
    obtain ⟨W2, hW2⟩ : ∃ W, W = w1.alloc (.cells #[.int .i64 0, .int .i64 0, .int .i64 0] 27) := ⟨_, rfl⟩
    obtain ⟨cl, hcl⟩ : ∃ c, c = w1.heap.size := ⟨_, rfl⟩
    have hal : Below w1.heap.size w1 W2 := by rw [hW2]; first | exact (Below.refl _ _).alloc (Nat.le_refl _) _ | exact ((Below.refl _ _).alloc (Nat.le_refl _) _).drew
    have q0 : W2.cell? ⟨cl, 0, none⟩ = some (.int .i64 0) := by rw [hW2]; exact (top_cell _ _ _ _ _ hcl).trans rfl
    have q1 : W2.cell? ⟨cl, 1, none⟩ = some (.int .i64 0) := by rw [hW2]; exact (top_cell _ _ _ _ _ hcl).trans rfl
    have q2 : W2.cell? ⟨cl, 2, none⟩ = some (.int .i64 0) := by rw [hW2]; exact (top_cell _ _ _ _ _ hcl).trans rfl
    have e0 : W2.frozen? ⟨cl, 0, none⟩ = false := by rw [hW2]; exact top_frozen _ _ _ _ _ hcl
    have e1 : W2.frozen? ⟨cl, 1, none⟩ = false := by rw [hW2]; exact top_frozen _ _ _ _ _ hcl
    have e2 : W2.frozen? ⟨cl, 2, none⟩ = false := by rw [hW2]; exact top_frozen _ _ _ _ _ hcl
    have hlcl : cl < W2.heap.size := by rw [hW2, hcl]; exact top_lt _ _
    have hge : W0.heap.size ≤ cl := by rw [hcl]; exact hHeld.size
    rw [← hW2, ← hcl]
    clear hW2 hcl
    (try go_wp2_with fail)
    refine hK.out _ _ (hHeld.trans (hal.mono hHeld.size)) (fun hHeld => ?_)
    clear hK K
    try simp only [Act.put, List.setIfInBounds_toArray, List.set_cons_zero, List.set_cons_succ]
    have hHeld2 := hHeld
    refine wpAnyH_ready (rs := [15]) (by kernel_rfl) (by simp) ?_
    refine AllReadyH.cons rfl (fun K hK => ?_) AllReadyH.nil
    go_simp
    (try go_wp2_with fail)
    refine hK.out _ _ (three_below hHeld cl _ _ _ hge) (fun hHeld => ?_)
    clear hK K
    try simp only [Act.put, List.setIfInBounds_toArray, List.set_cons_zero, List.set_cons_succ]
    refine wpAnyH_take (i := 16) (v := ?vb1b16x14) rfl (by kernel_rfl) (by kernel_rfl) (by kernel_rfl) (fun _ _ _ h => h) (Or.inl ⟨by rfl, ?hyb1b16x14⟩) (by assumption) ?restb1b16x14
    case hyb1b16x14 =>
      intro w hSw
      (try dsimp only at hSw)
      go_simp
      (try with_reducible rfl)
    change wpAnyH _ _ _ _ _ _ _ (Act.put _ (some 5) _) _
    try simp only [Act.put, List.setIfInBounds_toArray, List.set_cons_zero, List.set_cons_succ]
    refine wpAnyH_done (by kernel_rfl) ?_ _
    have r0 := (hHeld2.cell (p := ⟨cr, 0, none⟩) hlt3).trans r0
    have r1 := (hHeld2.cell (p := ⟨cr, 1, none⟩) hlt3).trans r1
    have r2 := (hHeld2.cell (p := ⟨cr, 2, none⟩) hlt3).trans r2
    have p0 := (hHeld2.frozen (p := ⟨cr, 0, none⟩) hlt3).trans p0
    have p1 := (hHeld2.frozen (p := ⟨cr, 1, none⟩) hlt3).trans p1
    have p2 := (hHeld2.frozen (p := ⟨cr, 2, none⟩) hlt3).trans p2
    have nx1 : ¬ cl = cr := by omega
    have nx2 : ¬ cr = cl := by omega
    have HBE := Lib.hid (HB0.out.trans (hHeld2.mono HB0.out.size))
    go_wp2_with fail
    exact bodyPost_ret (v := .agg #[.int .i64 l0, .int .i64 l1, .int .i64 l2]) (by simp [results, Try.results31, go_sem, cell_set, r0, r1, r2]) rfl ⟨rfl, three_below (three_below HBE.out cl _ _ _ (Nat.le_trans HB0.out.size hge)) cr _ _ _ (by have := HCR.out; omega)⟩
  · go_simp
    obtain ⟨W2, hW2⟩ : ∃ W, W = (W0.alloc (.cells #[.int .i64 0, .int .i64 0, .int .i64 0] 27)).drew := ⟨_, rfl⟩
    obtain ⟨cl, hcl⟩ : ∃ c, c = W0.heap.size := ⟨_, rfl⟩
    have hal : Below W0.heap.size W0 W2 := by rw [hW2]; first | exact (Below.refl _ _).alloc (Nat.le_refl _) _ | exact ((Below.refl _ _).alloc (Nat.le_refl _) _).drew
    have q0 : W2.cell? ⟨cl, 0, none⟩ = some (.int .i64 0) := by rw [hW2]; exact (top_cell _ _ _ _ _ hcl).trans rfl
    have q1 : W2.cell? ⟨cl, 1, none⟩ = some (.int .i64 0) := by rw [hW2]; exact (top_cell _ _ _ _ _ hcl).trans rfl
    have q2 : W2.cell? ⟨cl, 2, none⟩ = some (.int .i64 0) := by rw [hW2]; exact (top_cell _ _ _ _ _ hcl).trans rfl
    have e0 : W2.frozen? ⟨cl, 0, none⟩ = false := by rw [hW2]; exact top_frozen _ _ _ _ _ hcl
    have e1 : W2.frozen? ⟨cl, 1, none⟩ = false := by rw [hW2]; exact top_frozen _ _ _ _ _ hcl
    have e2 : W2.frozen? ⟨cl, 2, none⟩ = false := by rw [hW2]; exact top_frozen _ _ _ _ _ hcl
    have hlcl : cl < W2.heap.size := by rw [hW2, hcl]; exact top_lt _ _
    have hge : W0.heap.size ≤ cl := by rw [hcl]; exact hHeld.size
    rw [← hW2, ← hcl]
    clear hW2 hcl
    (try go_wp2_with fail)
    refine hK.out _ _ (hal) (fun hHeld => ?_)
    clear hK K
    try simp only [Act.put, List.setIfInBounds_toArray, List.set_cons_zero, List.set_cons_succ]
    refine wpAnyH_ready (rs := [10]) (by kernel_rfl) (by simp) ?_
    refine AllReadyH.cons rfl (fun K hK => ?_) AllReadyH.nil
    go_simp
    go_at_call 21
    refine Calls.mono (HSUB.out _) ?_
    rintro e w1 ⟨rfl, hb1⟩
    have q0 := (hb1.cell (p := ⟨cl, 0, none⟩) hlcl).trans q0
    have e0 := (hb1.frozen (p := ⟨cl, 0, none⟩) hlcl).trans e0
    have q1 := (hb1.cell (p := ⟨cl, 1, none⟩) hlcl).trans q1
    have e1 := (hb1.frozen (p := ⟨cl, 1, none⟩) hlcl).trans e1
    have q2 := (hb1.cell (p := ⟨cl, 2, none⟩) hlcl).trans q2
    have e2 := (hb1.frozen (p := ⟨cl, 2, none⟩) hlcl).trans e2
    (try go_wp2_with fail)
    refine hK.out _ _ (hHeld.trans (hb1.mono hHeld.size)) (fun hHeld => ?_)
    clear hK K
    try simp only [Act.put, List.setIfInBounds_toArray, List.set_cons_zero, List.set_cons_succ]
    refine wpAnyH_take (i := 11) (v := ?vb1b11x15) rfl (by kernel_rfl) (by kernel_rfl) (by kernel_rfl) (fun _ _ _ h => h) (Or.inl ⟨by rfl, ?hyb1b11x15⟩) (by assumption) ?restb1b11x15
    case hyb1b11x15 =>
      intro w hSw
      (try dsimp only at hSw)
      go_simp
      (try with_reducible rfl)
    change wpAnyH _ _ _ _ _ _ _ (Act.put _ (some 6) _) _
    try simp only [Act.put, List.setIfInBounds_toArray, List.set_cons_zero, List.set_cons_succ]
    refine wpAnyH_take (i := 12) (v := ?vb1b12x16) rfl (by kernel_rfl) (by kernel_rfl) (by kernel_rfl) (fun _ _ _ h => h) (Or.inl ⟨by rfl, ?hyb1b12x16⟩) (by assumption) ?restb1b12x16
    case hyb1b12x16 =>
      intro w hSw
      (try dsimp only at hSw)
      go_simp
      (try with_reducible rfl)
    change wpAnyH _ _ _ _ _ _ _ (Act.put _ (some 18) _) _
    try simp only [Act.put, List.setIfInBounds_toArray, List.set_cons_zero, List.set_cons_succ]
    refine wpAnyH_take (i := 13) (v := ?vb1b13x17) rfl (by kernel_rfl) (by kernel_rfl) (by kernel_rfl) (fun _ _ _ h => h) (Or.inl ⟨by rfl, ?hyb1b13x17⟩) (by assumption) ?restb1b13x17
    case hyb1b13x17 =>
      intro w hSw
      (try dsimp only at hSw)
      go_simp
      (try with_reducible rfl)
    change wpAnyH _ _ _ _ _ _ _ (Act.put _ (some 19) _) _
    try simp only [Act.put, List.setIfInBounds_toArray, List.set_cons_zero, List.set_cons_succ]
    have hHeld2 := hHeld
    refine wpAnyH_ready (rs := [15]) (by kernel_rfl) (by simp) ?_
    refine AllReadyH.cons rfl (fun K hK => ?_) AllReadyH.nil
    go_simp
    (try go_wp2_with fail)
    refine hK.out _ _ (three_below hHeld cl _ _ _ hge) (fun hHeld => ?_)
    clear hK K
    try simp only [Act.put, List.setIfInBounds_toArray, List.set_cons_zero, List.set_cons_succ]
    refine wpAnyH_take (i := 16) (v := ?vb1b16x18) rfl (by kernel_rfl) (by kernel_rfl) (by kernel_rfl) (fun _ _ _ h => h) (Or.inl ⟨by rfl, ?hyb1b16x18⟩) (by assumption) ?restb1b16x18
    case hyb1b16x18 =>
      intro w hSw
      (try dsimp only at hSw)
      go_simp
      (try with_reducible rfl)
    change wpAnyH _ _ _ _ _ _ _ (Act.put _ (some 5) _) _
    try simp only [Act.put, List.setIfInBounds_toArray, List.set_cons_zero, List.set_cons_succ]
    refine wpAnyH_done (by kernel_rfl) ?_ _
    have r0 := (hHeld2.cell (p := ⟨cr, 0, none⟩) hlt3).trans r0
    have r1 := (hHeld2.cell (p := ⟨cr, 1, none⟩) hlt3).trans r1
    have r2 := (hHeld2.cell (p := ⟨cr, 2, none⟩) hlt3).trans r2
    have p0 := (hHeld2.frozen (p := ⟨cr, 0, none⟩) hlt3).trans p0
    have p1 := (hHeld2.frozen (p := ⟨cr, 1, none⟩) hlt3).trans p1
    have p2 := (hHeld2.frozen (p := ⟨cr, 2, none⟩) hlt3).trans p2
    have nx1 : ¬ cl = cr := by omega
    have nx2 : ¬ cr = cl := by omega
    have HBE := Lib.hid (HB0.out.trans (hHeld2.mono HB0.out.size))
    go_wp2_with fail
    exact bodyPost_ret (v := .agg #[.int .i64 l0, .int .i64 l1, .int .i64 l2]) (by simp [results, Try.results31, go_sem, cell_set, r0, r1, r2]) rfl ⟨rfl, three_below (three_below HBE.out cl _ _ _ (Nat.le_trans HB0.out.size hge)) cr _ _ _ (by have := HCR.out; omega)⟩
end Go.Proofs.Ytnfmopmcckgfdaa
