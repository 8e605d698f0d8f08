/- Contracts: what Give and Take do with a host: their closures. -/
import Derived.Test.YtnfmopmcckgfdaaHostFree
namespace Go.Proofs.Ytnfmopmcckgfdaa
open Go.ChangeShapes Go.WideShapes Go.ChangeAt Go.RowKit
set_option linter.unusedVariables false
open Tp
/-- an amount, boxed -/
structure AmtAt (w : World) (c : Nat) (a : Amt) : Prop where
  c0 : w.cell? ⟨c, 0, none⟩ = some (.int .i64 a.cpu)
  c1 : w.cell? ⟨c, 1, none⟩ = some (.int .i64 a.mem)
  c2 : w.cell? ⟨c, 2, none⟩ = some (.int .i64 a.gpu)
  lt : c < w.heap.size
theorem AmtAt.below {w w' : World} {c : Nat} {a : Amt} (h : AmtAt w c a) (hb : Below w.heap.size w w') : AmtAt w' c a :=
  ⟨(hb.cell (p := ⟨c, 0, none⟩) h.lt).trans h.c0, (hb.cell (p := ⟨c, 1, none⟩) h.lt).trans h.c1, (hb.cell (p := ⟨c, 2, none⟩) h.lt).trans h.c2, Nat.lt_of_lt_of_le h.lt hb.size⟩
def giveF (a : Amt) (h : Hst) : Amt × Int := (h.used.sub a, h.used.subE a)
def takeF (a : Amt) (h : Hst) : Amt × Int := if (h.has.sub h.used).subE a ≠ 0 then (.zero, (h.has.sub h.used).subE a) else (h.used.add a, h.used.addE a)
theorem enGive : Enters 26 := fun args w => by kernel_rfl
theorem enTake : Enters 24 := fun args w => by kernel_rfl
set_option maxRecDepth 20000 in
set_option maxHeartbeats 4000000 in
theorem give_any (a : Amt) (ca : Nat) (h : Hst) (v : Value) (w : World) (hv : HostV w h v) (hA : AmtAt w ca a) : Calls Try.prog 26 #[v, .pointer (some ⟨ca, 0, none⟩)] w fun e w' => e = .returned (.tuple #[(giveF a h).1.v, .int .i64 (giveF a h).2]) ∧ Below w.heap.size w w' := by
  obtain ⟨la, ln, lc, rfl, hq1, hq2, hq3, hq4⟩ := hv
  obtain ⟨nm, hnm⟩ : ∃ s, bts h.name = s := ⟨_, rfl⟩
  rw [hnm]
  obtain ⟨W0, hW0⟩ : ∃ W, W = (w.alloc (.cells #[.string nm, .slice la ln lc, .int .i64 h.has.cpu, .int .i64 h.has.mem, .int .i64 h.has.gpu, .int .i64 h.used.cpu, .int .i64 h.used.mem, .int .i64 h.used.gpu] 30)).alloc (.cells #[.int .i64 0, .int .i64 0, .int .i64 0] 27) := ⟨_, rfl⟩
  have hb9 : Below w.heap.size w W0 := by rw [hW0]; exact ((Below.refl _ _).alloc (Nat.le_refl _) _).alloc (by simp) _
  have HB9 := Lib.hid hb9
  have hsz : W0.heap.size = w.heap.size + 2 := by rw [hW0]; simp
  obtain ⟨cx, hcx⟩ : ∃ c, c = w.heap.size := ⟨_, rfl⟩
  have HCX := Lib.hid hcx
  have d0 : W0.cell? ⟨cx, 0, none⟩ = some (.string nm) := by rw [hW0, hcx]; simp
  have d1 : W0.cell? ⟨cx, 1, none⟩ = some (.slice la ln lc) := by rw [hW0, hcx]; simp
  have d2 : W0.cell? ⟨cx, 2, none⟩ = some (.int .i64 h.has.cpu) := by rw [hW0, hcx]; simp
  have d3 : W0.cell? ⟨cx, 3, none⟩ = some (.int .i64 h.has.mem) := by rw [hW0, hcx]; simp
  have d4 : W0.cell? ⟨cx, 4, none⟩ = some (.int .i64 h.has.gpu) := by rw [hW0, hcx]; simp
  have d5 : W0.cell? ⟨cx, 5, none⟩ = some (.int .i64 h.used.cpu) := by rw [hW0, hcx]; simp
  have d6 : W0.cell? ⟨cx, 6, none⟩ = some (.int .i64 h.used.mem) := by rw [hW0, hcx]; simp
  have d7 : W0.cell? ⟨cx, 7, none⟩ = some (.int .i64 h.used.gpu) := by rw [hW0, hcx]; simp
  have r0 : W0.cell? ⟨cx + 1, 0, none⟩ = some (.int .i64 0) := by rw [hW0, hcx]; simp
  have r1 : W0.cell? ⟨cx + 1, 1, none⟩ = some (.int .i64 0) := by rw [hW0, hcx]; simp
  have r2 : W0.cell? ⟨cx + 1, 2, none⟩ = some (.int .i64 0) := by rw [hW0, hcx]; simp
  have p0 : W0.frozen? ⟨cx + 1, 0, none⟩ = false := by rw [hW0]; exact top_frozen _ _ _ _ _ (by simp; omega)
  have p1 : W0.frozen? ⟨cx + 1, 1, none⟩ = false := by rw [hW0]; exact top_frozen _ _ _ _ _ (by simp; omega)
  have p2 : W0.frozen? ⟨cx + 1, 2, none⟩ = false := by rw [hW0]; exact top_frozen _ _ _ _ _ (by simp; omega)
  have hc0 : cx < W0.heap.size := by omega
  have hc1 : cx + 1 < W0.heap.size := by omega
  have HC := Lib.hid (nSub_any h.used.cpu h.used.mem h.used.gpu a.cpu a.mem a.gpu W0)
  obtain ⟨g0, g1, g2, _⟩ := hA.below hb9
  clear hq1 hq2 hq3 hq4 hnm hb9 hsz hA
  go_enter Try.func26, Try.ntmps26
  go_upto_region 1 with fail
  rw [← hW0, ← hcx]
  clear hW0 hcx
  go_wp2_with fail
  refine Calls.mono HC.out ?_
  rintro e' W1 ⟨rfl, hl⟩
  have HB1 := Lib.hid (HB9.out.trans (hl.mono HB9.out.size))
  have r0 := (hl.cell (p := ⟨cx + 1, 0, none⟩) hc1).trans r0
  have r1 := (hl.cell (p := ⟨cx + 1, 1, none⟩) hc1).trans r1
  have r2 := (hl.cell (p := ⟨cx + 1, 2, none⟩) hc1).trans r2
  have p0 := (hl.frozen (p := ⟨cx + 1, 0, none⟩) hc1).trans p0
  have p1 := (hl.frozen (p := ⟨cx + 1, 1, none⟩) hc1).trans p1
  have p2 := (hl.frozen (p := ⟨cx + 1, 2, none⟩) hc1).trans p2
  have hc0 : cx < W1.heap.size := Nat.lt_of_lt_of_le hc0 hl.size
  have hc1 : cx + 1 < W1.heap.size := Nat.lt_of_lt_of_le hc1 hl.size
  clear hl
  go_wp2_with fail
  exact bodyPost_ret (v := .tuple #[(h.used.sub a).v, .int .i64 (h.used.subE a)]) (by simp [results, Try.results26, go_sem, r0, r1, r2, Amt.v, Amt.sub, Amt.subE]) rfl ⟨rfl, three_below HB1.out (cx + 1) _ _ _ (by have := HCX.out; omega)⟩
set_option maxRecDepth 20000 in
set_option maxHeartbeats 8000000 in
theorem take_any (a : Amt) (ca : Nat) (h : Hst) (v : Value) (w : World) (hv : HostV w h v) (hA : AmtAt w ca a) : Calls Try.prog 24 #[v, .pointer (some ⟨ca, 0, none⟩)] w fun e w' => e = .returned (.tuple #[(takeF a h).1.v, .int .i64 (takeF a h).2]) ∧ Below w.heap.size w w' := by
  obtain ⟨la, ln, lc, rfl, hq1, hq2, hq3, hq4⟩ := hv
  obtain ⟨nm, hnm⟩ : ∃ s, bts h.name = s := ⟨_, rfl⟩
  rw [hnm]
  obtain ⟨W0, hW0⟩ : ∃ W, W = (w.alloc (.cells #[.string nm, .slice la ln lc, .int .i64 h.has.cpu, .int .i64 h.has.mem, .int .i64 h.has.gpu, .int .i64 h.used.cpu, .int .i64 h.used.mem, .int .i64 h.used.gpu] 30)).alloc (.cells #[.int .i64 0, .int .i64 0, .int .i64 0] 27) := ⟨_, rfl⟩
  have hb9 : Below w.heap.size w W0 := by rw [hW0]; exact ((Below.refl _ _).alloc (Nat.le_refl _) _).alloc (by simp) _
  have HB9 := Lib.hid hb9
  have hsz : W0.heap.size = w.heap.size + 2 := by rw [hW0]; simp
  obtain ⟨cx, hcx⟩ : ∃ c, c = w.heap.size := ⟨_, rfl⟩
  have HCX := Lib.hid hcx
  have d0 : W0.cell? ⟨cx, 0, none⟩ = some (.string nm) := by rw [hW0, hcx]; simp
  have d1 : W0.cell? ⟨cx, 1, none⟩ = some (.slice la ln lc) := by rw [hW0, hcx]; simp
  have d2 : W0.cell? ⟨cx, 2, none⟩ = some (.int .i64 h.has.cpu) := by rw [hW0, hcx]; simp
  have d3 : W0.cell? ⟨cx, 3, none⟩ = some (.int .i64 h.has.mem) := by rw [hW0, hcx]; simp
  have d4 : W0.cell? ⟨cx, 4, none⟩ = some (.int .i64 h.has.gpu) := by rw [hW0, hcx]; simp
  have d5 : W0.cell? ⟨cx, 5, none⟩ = some (.int .i64 h.used.cpu) := by rw [hW0, hcx]; simp
  have d6 : W0.cell? ⟨cx, 6, none⟩ = some (.int .i64 h.used.mem) := by rw [hW0, hcx]; simp
  have d7 : W0.cell? ⟨cx, 7, none⟩ = some (.int .i64 h.used.gpu) := by rw [hW0, hcx]; simp
  have r0 : W0.cell? ⟨cx + 1, 0, none⟩ = some (.int .i64 0) := by rw [hW0, hcx]; simp
  have r1 : W0.cell? ⟨cx + 1, 1, none⟩ = some (.int .i64 0) := by rw [hW0, hcx]; simp
  have r2 : W0.cell? ⟨cx + 1, 2, none⟩ = some (.int .i64 0) := by rw [hW0, hcx]; simp
  have p0 : W0.frozen? ⟨cx + 1, 0, none⟩ = false := by rw [hW0]; exact top_frozen _ _ _ _ _ (by simp; omega)
  have p1 : W0.frozen? ⟨cx + 1, 1, none⟩ = false := by rw [hW0]; exact top_frozen _ _ _ _ _ (by simp; omega)
  have p2 : W0.frozen? ⟨cx + 1, 2, none⟩ = false := by rw [hW0]; exact top_frozen _ _ _ _ _ (by simp; omega)
  have hc0 : cx < W0.heap.size := by omega
  have hc1 : cx + 1 < W0.heap.size := by omega
  have HC := Lib.hid (nSub_any h.has.cpu h.has.mem h.has.gpu h.used.cpu h.used.mem h.used.gpu W0)
  obtain ⟨f, hf⟩ : ∃ f, h.has.sub h.used = f := ⟨_, rfl⟩
  have HF := Lib.hid hf
  have HA0 := Lib.hid (hA.below hb9)
  have HT : Hid (takeF a h = if f.subE a ≠ 0 then (.zero, f.subE a) else (h.used.add a, h.used.addE a)) := Lib.hid (by unfold takeF; rw [hf])
  obtain ⟨TV, hTV⟩ : ∃ t, takeF a h = t := ⟨_, rfl⟩
  rw [hTV] at HT ⊢
  rw [show pk (subB h.has.cpu h.has.mem h.has.gpu h.used.cpu h.used.mem h.used.gpu) (h.has.cpu - h.used.cpu) = f.cpu from by rw [← hf]; rfl, show pk (subB h.has.cpu h.has.mem h.has.gpu h.used.cpu h.used.mem h.used.gpu) (h.has.mem - h.used.mem) = f.mem from by rw [← hf]; rfl, show pk (subB h.has.cpu h.has.mem h.has.gpu h.used.cpu h.used.mem h.used.gpu) (h.has.gpu - h.used.gpu) = f.gpu from by rw [← hf]; rfl] at HC
  obtain ⟨se, hse⟩ : ∃ e, subE h.has.cpu h.has.mem h.has.gpu h.used.cpu h.used.mem h.used.gpu = e := ⟨_, rfl⟩
  rw [hse] at HC
  clear hq1 hq2 hq3 hq4 hnm hb9 hsz hA hf hTV hse
  go_enter Try.func24, Try.ntmps24
  go_upto_region 1 with fail
  rw [← hW0, ← hcx]
  clear hW0 hcx
  go_wp2_with fail
  refine Calls.mono HC.out ?_
  rintro e' W1 ⟨rfl, hl⟩
  have HB1 := Lib.hid (HB9.out.trans (hl.mono HB9.out.size))
  have HA1 := Lib.hid (HA0.out.below hl)
  have d5 := (hl.cell (p := ⟨cx, 5, none⟩) hc0).trans d5
  have d6 := (hl.cell (p := ⟨cx, 6, none⟩) hc0).trans d6
  have d7 := (hl.cell (p := ⟨cx, 7, none⟩) hc0).trans d7
  have r0 := (hl.cell (p := ⟨cx + 1, 0, none⟩) hc1).trans r0
  have r1 := (hl.cell (p := ⟨cx + 1, 1, none⟩) hc1).trans r1
  have r2 := (hl.cell (p := ⟨cx + 1, 2, none⟩) hc1).trans r2
  have p0 := (hl.frozen (p := ⟨cx + 1, 0, none⟩) hc1).trans p0
  have p1 := (hl.frozen (p := ⟨cx + 1, 1, none⟩) hc1).trans p1
  have p2 := (hl.frozen (p := ⟨cx + 1, 2, none⟩) hc1).trans p2
  have hc0 : cx < W1.heap.size := Nat.lt_of_lt_of_le hc0 hl.size
  have hc1 : cx + 1 < W1.heap.size := Nat.lt_of_lt_of_le hc1 hl.size
  clear hl d2 d3 d4
  obtain ⟨W2, hW2⟩ : ∃ W, W = W1.alloc (.cells #[.int .i64 f.cpu, .int .i64 f.mem, .int .i64 f.gpu] 27) := ⟨_, rfl⟩
  obtain ⟨cf, hcf⟩ : ∃ c, c = W1.heap.size := ⟨_, rfl⟩
  have hl : Below W1.heap.size W1 W2 := by rw [hW2]; exact (Below.refl _ _).alloc (Nat.le_refl _) _
  have HB2 := Lib.hid (HB1.out.trans (hl.mono HB1.out.size))
  have HA2 := Lib.hid (HA1.out.below hl)
  have u0 : W2.cell? ⟨cf, 0, none⟩ = some (.int .i64 f.cpu) := by rw [hW2]; exact (top_cell _ _ _ _ _ hcf).trans rfl
  have u1 : W2.cell? ⟨cf, 1, none⟩ = some (.int .i64 f.mem) := by rw [hW2]; exact (top_cell _ _ _ _ _ hcf).trans rfl
  have u2 : W2.cell? ⟨cf, 2, none⟩ = some (.int .i64 f.gpu) := by rw [hW2]; exact (top_cell _ _ _ _ _ hcf).trans rfl
  have d5 := (hl.cell (p := ⟨cx, 5, none⟩) hc0).trans d5
  have d6 := (hl.cell (p := ⟨cx, 6, none⟩) hc0).trans d6
  have d7 := (hl.cell (p := ⟨cx, 7, none⟩) hc0).trans d7
  have r0 := (hl.cell (p := ⟨cx + 1, 0, none⟩) hc1).trans r0
  have r1 := (hl.cell (p := ⟨cx + 1, 1, none⟩) hc1).trans r1
  have r2 := (hl.cell (p := ⟨cx + 1, 2, none⟩) hc1).trans r2
  have p0 := (hl.frozen (p := ⟨cx + 1, 0, none⟩) hc1).trans p0
  have p1 := (hl.frozen (p := ⟨cx + 1, 1, none⟩) hc1).trans p1
  have p2 := (hl.frozen (p := ⟨cx + 1, 2, none⟩) hc1).trans p2
  have hc0 : cx < W2.heap.size := Nat.lt_of_lt_of_le hc0 hl.size
  have hc1 : cx + 1 < W2.heap.size := Nat.lt_of_lt_of_le hc1 hl.size
  obtain ⟨g0, g1, g2, _⟩ := HA2.out
  have HS := Lib.hid (nSub_any f.cpu f.mem f.gpu a.cpu a.mem a.gpu W2)
  clear hl
  go_upto_region 2 with fail
  rw [← hW2, ← hcf]
  clear hW2 hcf
  go_wp2_with fail
  refine Calls.mono HS.out ?_
  rintro e' W3 ⟨rfl, hl⟩
  have HB3 := Lib.hid (HB2.out.trans (hl.mono HB2.out.size))
  have HA3 := Lib.hid (HA2.out.below hl)
  have d5 := (hl.cell (p := ⟨cx, 5, none⟩) hc0).trans d5
  have d6 := (hl.cell (p := ⟨cx, 6, none⟩) hc0).trans d6
  have d7 := (hl.cell (p := ⟨cx, 7, none⟩) hc0).trans d7
  have r0 := (hl.cell (p := ⟨cx + 1, 0, none⟩) hc1).trans r0
  have r1 := (hl.cell (p := ⟨cx + 1, 1, none⟩) hc1).trans r1
  have r2 := (hl.cell (p := ⟨cx + 1, 2, none⟩) hc1).trans r2
  have p0 := (hl.frozen (p := ⟨cx + 1, 0, none⟩) hc1).trans p0
  have p1 := (hl.frozen (p := ⟨cx + 1, 1, none⟩) hc1).trans p1
  have p2 := (hl.frozen (p := ⟨cx + 1, 2, none⟩) hc1).trans p2
  have hc0 : cx < W3.heap.size := Nat.lt_of_lt_of_le hc0 hl.size
  have hc1 : cx + 1 < W3.heap.size := Nat.lt_of_lt_of_le hc1 hl.size
  clear hl g0 g1 g2 u0 u1 u2
  obtain ⟨s0, hs0⟩ : ∃ x, pk (subB f.cpu f.mem f.gpu a.cpu a.mem a.gpu) (f.cpu - a.cpu) = x := ⟨_, rfl⟩
  obtain ⟨s1, hs1⟩ : ∃ x, pk (subB f.cpu f.mem f.gpu a.cpu a.mem a.gpu) (f.mem - a.mem) = x := ⟨_, rfl⟩
  obtain ⟨s2, hs2⟩ : ∃ x, pk (subB f.cpu f.mem f.gpu a.cpu a.mem a.gpu) (f.gpu - a.gpu) = x := ⟨_, rfl⟩
  obtain ⟨te, hte⟩ : ∃ x, subE f.cpu f.mem f.gpu a.cpu a.mem a.gpu = x := ⟨_, rfl⟩
  rw [hs0, hs1, hs2, hte]
  have hte2 : f.subE a = te := hte
  rw [hte2] at HT
  obtain ⟨W4, hW4⟩ : ∃ W, W = W3.alloc (.cells #[.int .i64 s0, .int .i64 s1, .int .i64 s2] 27) := ⟨_, rfl⟩
  have hl : Below W3.heap.size W3 W4 := by rw [hW4]; exact (Below.refl _ _).alloc (Nat.le_refl _) _
  have HB4 := Lib.hid (HB3.out.trans (hl.mono HB3.out.size))
  have HA4 := Lib.hid (HA3.out.below hl)
  have d5 := (hl.cell (p := ⟨cx, 5, none⟩) hc0).trans d5
  have d6 := (hl.cell (p := ⟨cx, 6, none⟩) hc0).trans d6
  have d7 := (hl.cell (p := ⟨cx, 7, none⟩) hc0).trans d7
  have r0 := (hl.cell (p := ⟨cx + 1, 0, none⟩) hc1).trans r0
  have r1 := (hl.cell (p := ⟨cx + 1, 1, none⟩) hc1).trans r1
  have r2 := (hl.cell (p := ⟨cx + 1, 2, none⟩) hc1).trans r2
  have p0 := (hl.frozen (p := ⟨cx + 1, 0, none⟩) hc1).trans p0
  have p1 := (hl.frozen (p := ⟨cx + 1, 1, none⟩) hc1).trans p1
  have p2 := (hl.frozen (p := ⟨cx + 1, 2, none⟩) hc1).trans p2
  have hc0 : cx < W4.heap.size := Nat.lt_of_lt_of_le hc0 hl.size
  have hc1 : cx + 1 < W4.heap.size := Nat.lt_of_lt_of_le hc1 hl.size
  obtain ⟨g0, g1, g2, _⟩ := HA4.out
  clear hl hs0 hs1 hs2 hte hte2
  go_upto_region 3 with fail
  rw [← hW4]
  clear hW4
  by_cases he : te = 0
  · have HT2 : Hid (TV = (h.used.add a, h.used.addE a)) := Lib.hid (by rw [HT.out, if_neg (by simp [he])])
    have HD := Lib.hid (nAdd_any h.used.cpu h.used.mem h.used.gpu a.cpu a.mem a.gpu W4)
    subst he
    go_wp2_with fail
    refine Calls.mono HD.out ?_
    rintro e' W5 ⟨rfl, hl⟩
    have HB5 := Lib.hid (HB4.out.trans (hl.mono HB4.out.size))
    have r0 := (hl.cell (p := ⟨cx + 1, 0, none⟩) hc1).trans r0
    have r1 := (hl.cell (p := ⟨cx + 1, 1, none⟩) hc1).trans r1
    have r2 := (hl.cell (p := ⟨cx + 1, 2, none⟩) hc1).trans r2
    have p0 := (hl.frozen (p := ⟨cx + 1, 0, none⟩) hc1).trans p0
    have p1 := (hl.frozen (p := ⟨cx + 1, 1, none⟩) hc1).trans p1
    have p2 := (hl.frozen (p := ⟨cx + 1, 2, none⟩) hc1).trans p2
    have hc0 : cx < W5.heap.size := Nat.lt_of_lt_of_le hc0 hl.size
    have hc1 : cx + 1 < W5.heap.size := Nat.lt_of_lt_of_le hc1 hl.size
    clear hl
    go_wp2_with fail
    refine bodyPost_ret (v := .tuple #[(h.used.add a).v, .int .i64 (h.used.addE a)]) (by simp [results, Try.results24, go_sem, r0, r1, r2, Amt.v, Amt.add, Amt.addE]) rfl ⟨by rw [HT2.out], three_below HB5.out (cx + 1) _ _ _ (by have := HCX.out; omega)⟩
  · have HT2 : Hid (TV = (.zero, te)) := Lib.hid (by rw [HT.out, if_pos he])
    have he2 : (te != 0) = true := by simpa using he
    clear he
    go_wp2_with fail
    refine bodyPost_ret (v := .tuple #[Amt.zero.v, .int .i64 te]) (by simp [results, Try.results24, go_sem, r0, r1, r2, Amt.v, Amt.zero]) rfl ⟨by rw [HT2.out], three_below HB4.out (cx + 1) _ _ _ (by have := HCX.out; omega)⟩
end Go.Proofs.Ytnfmopmcckgfdaa
