/- Contracts: what is free of a host, the program's and the document's; what Take and Give do with a host. -/
import Derived.Test.YtnfmopmcckgfdaaHostCheck
import Derived.Test.YtnfmopmcckgfdaaTop
namespace Go.Proofs.Ytnfmopmcckgfdaa
open Go.ChangeShapes Go.WideShapes Go.ChangeAt Go.RowKit
set_option linter.unusedVariables false
open Tp
/-- an amount as a value -/
def Amt.v (a : Amt) : Value := .agg #[.int .i64 a.cpu, .int .i64 a.mem, .int .i64 a.gpu]
def Amt.zero : Amt := ⟨0, 0, 0⟩
def Amt.le (a b : Amt) : Bool := fitsB a.cpu a.mem a.gpu b.cpu b.mem b.gpu
def Amt.ok (a : Amt) : Bool := needB a.cpu a.mem a.gpu
/-- what is free of a host -/
def Hst.left (h : Hst) : Amt := ⟨h.has.cpu - h.used.cpu, h.has.mem - h.used.mem, h.has.gpu - h.used.gpu⟩
/-- Sub, as it answers -/
def Amt.sub (a b : Amt) : Amt := ⟨pk (subB a.cpu a.mem a.gpu b.cpu b.mem b.gpu) (a.cpu - b.cpu), pk (subB a.cpu a.mem a.gpu b.cpu b.mem b.gpu) (a.mem - b.mem), pk (subB a.cpu a.mem a.gpu b.cpu b.mem b.gpu) (a.gpu - b.gpu)⟩
def Amt.subE (a b : Amt) : Int := Go.Proofs.Ytnfmopmcckgfdaa.subE a.cpu a.mem a.gpu b.cpu b.mem b.gpu
def Amt.add (a b : Amt) : Amt := ⟨pk (addB a.cpu a.mem a.gpu b.cpu b.mem b.gpu) (a.cpu + b.cpu), pk (addB a.cpu a.mem a.gpu b.cpu b.mem b.gpu) (a.mem + b.mem), pk (addB a.cpu a.mem a.gpu b.cpu b.mem b.gpu) (a.gpu + b.gpu)⟩
def Amt.addE (a b : Amt) : Int := Go.Proofs.Ytnfmopmcckgfdaa.addE a.cpu a.mem a.gpu b.cpu b.mem b.gpu
theorem three_below {B : Nat} {w W : World} (h : Below B w W) (c : Nat) (v0 v1 v2 : Value) (hB : B ≤ c) : Below B w (((W.setCell ⟨c, 0, none⟩ v0).setCell ⟨c, 1, none⟩ v1).setCell ⟨c, 2, none⟩ v2) :=
  ((h.setCell (p := ⟨c, 0, none⟩) hB _).setCell (p := ⟨c, 1, none⟩) hB _).setCell (p := ⟨c, 2, none⟩) hB _
/-- a host that is right -/
theorem hostsE_one {h : Hst} (e : hostsE [h] = 0) : h.has.ok = true ∧ h.used.ok = true ∧ h.used.le h.has = true := by
  have h1 : hostF [] h = 0 := by
    unfold hostsE at e
    rw [if_neg (by simp), hostsF] at e
    split at e
    · rename_i h2; exact absurd e h2
    · rename_i h2; exact Decidable.byContradiction h2
  unfold hostF at h1
  split at h1
  · cases h1
  split at h1
  · cases h1
  split at h1
  · cases h1
  split at h1
  · rename_i h2; exact absurd h1 h2
  unfold amtF at h1
  split at h1
  · cases h1
  rename_i a1
  split at h1
  · cases h1
  rename_i a2
  split at h1
  · cases h1
  rename_i a3
  exact ⟨show needB h.has.cpu h.has.mem h.has.gpu = true from by simpa using a1, show needB h.used.cpu h.used.mem h.used.gpu = true from by simpa using a2, show fitsB h.used.cpu h.used.mem h.used.gpu h.has.cpu h.has.mem h.has.gpu = true from by simpa using a3⟩
theorem left_sub {h : Hst} (h1 : h.has.ok = true) (h2 : h.used.ok = true) (h3 : h.used.le h.has = true) : h.has.sub h.used = h.left ∧ h.has.subE h.used = 0 := by
  have b : subB h.has.cpu h.has.mem h.has.gpu h.used.cpu h.used.mem h.used.gpu = true := by
    unfold subB bothB
    rw [show needB h.has.cpu h.has.mem h.has.gpu = true from h1, show needB h.used.cpu h.used.mem h.used.gpu = true from h2]
    exact h3
  have c : bothB h.has.cpu h.has.mem h.has.gpu h.used.cpu h.used.mem h.used.gpu = true := by
    unfold bothB
    rw [show needB h.has.cpu h.has.mem h.has.gpu = true from h1, show needB h.used.cpu h.used.mem h.used.gpu = true from h2]
    rfl
  refine ⟨?_, ?_⟩
  · unfold Amt.sub Hst.left
    rw [b]
    rfl
  · unfold Amt.subE Go.Proofs.Ytnfmopmcckgfdaa.subE
    rw [if_pos c, if_pos (show fitsB h.used.cpu h.used.mem h.used.gpu h.has.cpu h.has.mem h.has.gpu = true from h3)]
set_option maxRecDepth 20000 in
set_option maxHeartbeats 4000000 in
theorem FreeOf_any (h : Hst) (v : Value) (w : World) (hv : HostV w h v) (h1 : h.has.ok = true) (h2 : h.used.ok = true) : Calls Try.prog 6 #[v] w fun e w' => e = .returned h.left.v ∧ Below w.heap.size w w' := by
  obtain ⟨la, ln, lc, rfl, hq1, hq2, hq3, hq4⟩ := hv
  obtain ⟨nm, hnm⟩ : ∃ s, bts h.name = s := ⟨_, rfl⟩
  rw [hnm]
  obtain ⟨W0, hW0⟩ : ∃ W, W = (w.alloc (.cells #[.string nm, .slice la ln lc, .int .i64 h.has.cpu, .int .i64 h.has.mem, .int .i64 h.has.gpu, .int .i64 h.used.cpu, .int .i64 h.used.mem, .int .i64 h.used.gpu] 30)).alloc (.cells #[.int .i64 0, .int .i64 0, .int .i64 0] 27) := ⟨_, rfl⟩
  have hb9 : Below w.heap.size w W0 := by rw [hW0]; exact ((Below.refl _ _).alloc (Nat.le_refl _) _).alloc (by simp) _
  have HB9 := Lib.hid hb9
  have hsz : W0.heap.size = w.heap.size + 2 := by rw [hW0]; simp
  obtain ⟨cx, hcx⟩ : ∃ c, c = w.heap.size := ⟨_, rfl⟩
  have HCX := Lib.hid hcx
  have d0 : W0.cell? ⟨cx, 0, none⟩ = some (.string nm) := by rw [hW0, hcx]; simp
  have d1 : W0.cell? ⟨cx, 1, none⟩ = some (.slice la ln lc) := by rw [hW0, hcx]; simp
  have d2 : W0.cell? ⟨cx, 2, none⟩ = some (.int .i64 h.has.cpu) := by rw [hW0, hcx]; simp
  have d3 : W0.cell? ⟨cx, 3, none⟩ = some (.int .i64 h.has.mem) := by rw [hW0, hcx]; simp
  have d4 : W0.cell? ⟨cx, 4, none⟩ = some (.int .i64 h.has.gpu) := by rw [hW0, hcx]; simp
  have d5 : W0.cell? ⟨cx, 5, none⟩ = some (.int .i64 h.used.cpu) := by rw [hW0, hcx]; simp
  have d6 : W0.cell? ⟨cx, 6, none⟩ = some (.int .i64 h.used.mem) := by rw [hW0, hcx]; simp
  have d7 : W0.cell? ⟨cx, 7, none⟩ = some (.int .i64 h.used.gpu) := by rw [hW0, hcx]; simp
  have r0 : W0.cell? ⟨cx + 1, 0, none⟩ = some (.int .i64 0) := by rw [hW0, hcx]; simp
  have r1 : W0.cell? ⟨cx + 1, 1, none⟩ = some (.int .i64 0) := by rw [hW0, hcx]; simp
  have r2 : W0.cell? ⟨cx + 1, 2, none⟩ = some (.int .i64 0) := by rw [hW0, hcx]; simp
  have p0 : W0.frozen? ⟨cx + 1, 0, none⟩ = false := by rw [hW0]; exact top_frozen _ _ _ _ _ (by simp; omega)
  have p1 : W0.frozen? ⟨cx + 1, 1, none⟩ = false := by rw [hW0]; exact top_frozen _ _ _ _ _ (by simp; omega)
  have p2 : W0.frozen? ⟨cx + 1, 2, none⟩ = false := by rw [hW0]; exact top_frozen _ _ _ _ _ (by simp; omega)
  have hc0 : cx < W0.heap.size := by omega
  have hc1 : cx + 1 < W0.heap.size := by omega
  have HC := Lib.hid (needPlus_any h.has.cpu h.has.mem h.has.gpu h.used.cpu h.used.mem h.used.gpu (-1) W0 (by unfold bothB; rw [show needB h.has.cpu h.has.mem h.has.gpu = true from h1, show needB h.used.cpu h.used.mem h.used.gpu = true from h2]; rfl) (.inr rfl))
  clear hq1 hq2 hq3 hq4 hnm h1 h2 hb9 hsz
  go_enter Try.func6, Try.ntmps6
  go_upto_region 1 with fail
  rw [← hW0, ← hcx]
  clear hW0 hcx
  go_wp2_with fail
  refine Calls.mono HC.out ?_
  rintro e' W1 ⟨rfl, hl⟩
  have HB1 := Lib.hid (HB9.out.trans (hl.mono HB9.out.size))
  have d2 := (hl.cell (p := ⟨cx, 2, none⟩) hc0).trans d2
  have d3 := (hl.cell (p := ⟨cx, 3, none⟩) hc0).trans d3
  have d4 := (hl.cell (p := ⟨cx, 4, none⟩) hc0).trans d4
  have d5 := (hl.cell (p := ⟨cx, 5, none⟩) hc0).trans d5
  have d6 := (hl.cell (p := ⟨cx, 6, none⟩) hc0).trans d6
  have d7 := (hl.cell (p := ⟨cx, 7, none⟩) hc0).trans d7
  have r0 := (hl.cell (p := ⟨cx + 1, 0, none⟩) hc1).trans r0
  have r1 := (hl.cell (p := ⟨cx + 1, 1, none⟩) hc1).trans r1
  have r2 := (hl.cell (p := ⟨cx + 1, 2, none⟩) hc1).trans r2
  have p0 := (hl.frozen (p := ⟨cx + 1, 0, none⟩) hc1).trans p0
  have p1 := (hl.frozen (p := ⟨cx + 1, 1, none⟩) hc1).trans p1
  have p2 := (hl.frozen (p := ⟨cx + 1, 2, none⟩) hc1).trans p2
  have hc0 : cx < W1.heap.size := Nat.lt_of_lt_of_le hc0 hl.size
  have hc1 : cx + 1 < W1.heap.size := Nat.lt_of_lt_of_le hc1 hl.size
  clear hl
  go_wp2_with fail
  refine bodyPost_ret (v := .agg #[.int .i64 (h.has.cpu + -1 * h.used.cpu), .int .i64 (h.has.mem + -1 * h.used.mem), .int .i64 (h.has.gpu + -1 * h.used.gpu)]) (by simp [results, Try.results6, go_sem, r0, r1, r2]) rfl ⟨?_, three_below HB1.out (cx + 1) _ _ _ (by have := HCX.out; omega)⟩
  unfold Hst.left Amt.v
  rw [show h.has.cpu + -1 * h.used.cpu = h.has.cpu - h.used.cpu from by omega, show h.has.mem + -1 * h.used.mem = h.has.mem - h.used.mem from by omega, show h.has.gpu + -1 * h.used.gpu = h.has.gpu - h.used.gpu from by omega]
/-- what Free tells -/
def freeV (h : Hst) : Amt := if hostsE [h] = 0 then h.left else .zero
set_option maxRecDepth 20000 in
set_option maxHeartbeats 8000000 in
theorem Free_any (h : Hst) (v : Value) (w : World) (hv : HostV w h v) (hz : HSz h) : Calls Try.prog 4 #[v] w fun e w' => e = .returned (.tuple #[(freeV h).v, .int .i64 (hostsE [h])]) ∧ Below w.heap.size w w' := by
  obtain ⟨la, ln, lc, rfl, hq1, hq2, hq3, hq4⟩ := hv
  obtain ⟨nm, hnm⟩ : ∃ s, bts h.name = s := ⟨_, rfl⟩
  rw [hnm]
  obtain ⟨W0, hW0⟩ : ∃ W, W = (w.alloc (.cells #[.string nm, .slice la ln lc, .int .i64 h.has.cpu, .int .i64 h.has.mem, .int .i64 h.has.gpu, .int .i64 h.used.cpu, .int .i64 h.used.mem, .int .i64 h.used.gpu] 30)).alloc (.cells #[.int .i64 0, .int .i64 0, .int .i64 0] 27) := ⟨_, rfl⟩
  have hb9 : Below w.heap.size w W0 := by rw [hW0]; exact ((Below.refl _ _).alloc (Nat.le_refl _) _).alloc (by simp) _
  have HB9 := Lib.hid hb9
  have hsz : W0.heap.size = w.heap.size + 2 := by rw [hW0]; simp
  obtain ⟨cx, hcx⟩ : ∃ c, c = w.heap.size := ⟨_, rfl⟩
  have HCX := Lib.hid hcx
  have d0 : W0.cell? ⟨cx, 0, none⟩ = some (.string nm) := by rw [hW0, hcx]; simp
  have d1 : W0.cell? ⟨cx, 1, none⟩ = some (.slice la ln lc) := by rw [hW0, hcx]; simp
  have d2 : W0.cell? ⟨cx, 2, none⟩ = some (.int .i64 h.has.cpu) := by rw [hW0, hcx]; simp
  have d3 : W0.cell? ⟨cx, 3, none⟩ = some (.int .i64 h.has.mem) := by rw [hW0, hcx]; simp
  have d4 : W0.cell? ⟨cx, 4, none⟩ = some (.int .i64 h.has.gpu) := by rw [hW0, hcx]; simp
  have d5 : W0.cell? ⟨cx, 5, none⟩ = some (.int .i64 h.used.cpu) := by rw [hW0, hcx]; simp
  have d6 : W0.cell? ⟨cx, 6, none⟩ = some (.int .i64 h.used.mem) := by rw [hW0, hcx]; simp
  have d7 : W0.cell? ⟨cx, 7, none⟩ = some (.int .i64 h.used.gpu) := by rw [hW0, hcx]; simp
  have r0 : W0.cell? ⟨cx + 1, 0, none⟩ = some (.int .i64 0) := by rw [hW0, hcx]; simp
  have r1 : W0.cell? ⟨cx + 1, 1, none⟩ = some (.int .i64 0) := by rw [hW0, hcx]; simp
  have r2 : W0.cell? ⟨cx + 1, 2, none⟩ = some (.int .i64 0) := by rw [hW0, hcx]; simp
  have p0 : W0.frozen? ⟨cx + 1, 0, none⟩ = false := by rw [hW0]; exact top_frozen _ _ _ _ _ (by simp; omega)
  have p1 : W0.frozen? ⟨cx + 1, 1, none⟩ = false := by rw [hW0]; exact top_frozen _ _ _ _ _ (by simp; omega)
  have p2 : W0.frozen? ⟨cx + 1, 2, none⟩ = false := by rw [hW0]; exact top_frozen _ _ _ _ _ (by simp; omega)
  have hc0 : cx < W0.heap.size := by omega
  have hc1 : cx + 1 < W0.heap.size := by omega
  obtain ⟨W1, hW1⟩ : ∃ W, W = W0.alloc (.cells #[.string nm, .slice la ln lc, .int .i64 h.has.cpu, .int .i64 h.has.mem, .int .i64 h.has.gpu, .int .i64 h.used.cpu, .int .i64 h.used.mem, .int .i64 h.used.gpu] 30) := ⟨_, rfl⟩
  obtain ⟨cs, hcs9⟩ : ∃ c, c = W0.heap.size := ⟨_, rfl⟩
  have hb1 : Below W0.heap.size W0 W1 := by rw [hW1]; exact (Below.refl _ _).alloc (Nat.le_refl _) _
  have hH : Hosts W1 (some ⟨cs, 0, none⟩) [h] := fun _ => by
    refine ⟨cs, 0, rfl, by rw [hW1, hcs9]; simp, fun i x hx => ?_⟩
    obtain rfl : i = 0 := by have := (List.getElem?_eq_some_iff.1 hx).1; simp at this; omega
    obtain rfl : h = x := by simpa using hx
    refine ⟨la, lc, fun i u hi => ?_, by omega, by omega, hq4.below (hb9.trans (hb1.mono hb9.size)) (Nat.le_refl _), hz⟩
    unfold hcs at hi
    rw [hnm, ← hq1] at hi
    rw [hW1, Nat.zero_mul, Nat.add_zero, Nat.zero_add, top_cell _ _ _ _ _ hcs9, ← hi]
    simp
  have HC := Lib.hid (hCheck_any [h] _ 1 1 W1 rfl (by omega) hH)
  have HBW1 := Lib.hid (hb9.trans (hb1.mono hb9.size))
  obtain ⟨E, hE⟩ : ∃ E, hostsE [h] = E := ⟨_, rfl⟩
  have HE := Lib.hid hE
  rw [hE] at HC ⊢
  clear hq1 hq2 hq3 hq4 hnm hb9 hsz hH hE
  go_enter Try.func4, Try.ntmps4
  go_upto_region 1 with fail
  rw [← hW0, ← hcx]
  clear hW0 hcx
  go_wp2_with fail
  rw [← hW1, ← hcs9]
  have d2 := (hb1.cell (p := ⟨cx, 2, none⟩) hc0).trans d2
  have d3 := (hb1.cell (p := ⟨cx, 3, none⟩) hc0).trans d3
  have d4 := (hb1.cell (p := ⟨cx, 4, none⟩) hc0).trans d4
  have d5 := (hb1.cell (p := ⟨cx, 5, none⟩) hc0).trans d5
  have d6 := (hb1.cell (p := ⟨cx, 6, none⟩) hc0).trans d6
  have d7 := (hb1.cell (p := ⟨cx, 7, none⟩) hc0).trans d7
  have r0 := (hb1.cell (p := ⟨cx + 1, 0, none⟩) hc1).trans r0
  have r1 := (hb1.cell (p := ⟨cx + 1, 1, none⟩) hc1).trans r1
  have r2 := (hb1.cell (p := ⟨cx + 1, 2, none⟩) hc1).trans r2
  have p0 := (hb1.frozen (p := ⟨cx + 1, 0, none⟩) hc1).trans p0
  have p1 := (hb1.frozen (p := ⟨cx + 1, 1, none⟩) hc1).trans p1
  have p2 := (hb1.frozen (p := ⟨cx + 1, 2, none⟩) hc1).trans p2
  have hc0' : cx < W1.heap.size := Nat.lt_of_lt_of_le hc0 hb1.size
  have hc1' : cx + 1 < W1.heap.size := Nat.lt_of_lt_of_le hc1 hb1.size
  clear hW1 hcs9 hb1
  refine Calls.mono HC.out ?_
  rintro e' W2 ⟨rfl, hl⟩
  have HB2 := Lib.hid (HBW1.out.trans (hl.mono HBW1.out.size))
  have d2 := (hl.cell (p := ⟨cx, 2, none⟩) hc0').trans d2
  have d3 := (hl.cell (p := ⟨cx, 3, none⟩) hc0').trans d3
  have d4 := (hl.cell (p := ⟨cx, 4, none⟩) hc0').trans d4
  have d5 := (hl.cell (p := ⟨cx, 5, none⟩) hc0').trans d5
  have d6 := (hl.cell (p := ⟨cx, 6, none⟩) hc0').trans d6
  have d7 := (hl.cell (p := ⟨cx, 7, none⟩) hc0').trans d7
  have r0 := (hl.cell (p := ⟨cx + 1, 0, none⟩) hc1').trans r0
  have r1 := (hl.cell (p := ⟨cx + 1, 1, none⟩) hc1').trans r1
  have r2 := (hl.cell (p := ⟨cx + 1, 2, none⟩) hc1').trans r2
  have p0 := (hl.frozen (p := ⟨cx + 1, 0, none⟩) hc1').trans p0
  have p1 := (hl.frozen (p := ⟨cx + 1, 1, none⟩) hc1').trans p1
  have p2 := (hl.frozen (p := ⟨cx + 1, 2, none⟩) hc1').trans p2
  have hc0 : cx < W2.heap.size := Nat.lt_of_lt_of_le hc0' hl.size
  have hc1 : cx + 1 < W2.heap.size := Nat.lt_of_lt_of_le hc1' hl.size
  clear hl
  by_cases he : E = 0
  · obtain ⟨o1, o2, o3⟩ := hostsE_one (HE.out.trans he)
    obtain ⟨q1, q2⟩ := left_sub o1 o2 o3
    have HF : Hid (freeV h = h.left) := Lib.hid (by unfold freeV; rw [if_pos (HE.out.trans he)])
    have HSB := Lib.hid (nSub_any h.has.cpu h.has.mem h.has.gpu h.used.cpu h.used.mem h.used.gpu W2)
    have HQ1 := Lib.hid q1
    have HQ2 := Lib.hid q2
    subst he
    clear o1 o2 o3 q1 q2
    go_wp2_with fail
    refine Calls.mono HSB.out ?_
    rintro e' W3 ⟨rfl, hl⟩
    have HB3 := Lib.hid (HB2.out.trans (hl.mono HB2.out.size))
    have r0 := (hl.cell (p := ⟨cx + 1, 0, none⟩) hc1).trans r0
    have r1 := (hl.cell (p := ⟨cx + 1, 1, none⟩) hc1).trans r1
    have r2 := (hl.cell (p := ⟨cx + 1, 2, none⟩) hc1).trans r2
    have p0 := (hl.frozen (p := ⟨cx + 1, 0, none⟩) hc1).trans p0
    have p1 := (hl.frozen (p := ⟨cx + 1, 1, none⟩) hc1).trans p1
    have p2 := (hl.frozen (p := ⟨cx + 1, 2, none⟩) hc1).trans p2
    have hc0 : cx < W3.heap.size := Nat.lt_of_lt_of_le hc0 hl.size
    have hc1 : cx + 1 < W3.heap.size := Nat.lt_of_lt_of_le hc1 hl.size
    clear hl
    go_wp2_with fail
    refine bodyPost_ret (v := .tuple #[(h.has.sub h.used).v, .int .i64 (h.has.subE h.used)]) (by simp [results, Try.results4, go_sem, r0, r1, r2, Amt.v, Amt.sub, Amt.subE]) rfl ⟨by rw [HF.out, HQ1.out, HQ2.out], three_below HB3.out (cx + 1) _ _ _ (by have := HCX.out; omega)⟩
  · have HF : Hid (freeV h = .zero) := Lib.hid (by unfold freeV; rw [if_neg (by rw [HE.out]; exact he)])
    have he2 : (E != 0) = true := by simpa using he
    clear he
    go_wp2_with fail
    refine bodyPost_ret (v := .tuple #[Amt.zero.v, .int .i64 E]) (by simp [results, Try.results4, go_sem, r0, r1, r2, Amt.v, Amt.zero]) rfl ⟨by rw [HF.out], three_below HB2.out (cx + 1) _ _ _ (by have := HCX.out; omega)⟩
end Go.Proofs.Ytnfmopmcckgfdaa
