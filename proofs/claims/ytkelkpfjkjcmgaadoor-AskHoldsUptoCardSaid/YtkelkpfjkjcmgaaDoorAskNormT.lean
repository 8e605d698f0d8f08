/- Contract: Norm, the program's. -/
import Derived.Test.YtkelkpfjkjcmgaaDoorAskNorm
namespace Go.Proofs.YtkelkpfjkjcmgaaDoor
open Go.ChangeShapes Go.WideShapes Go.ChangeAt Go.RowKit
set_option linter.unusedVariables false
open Tp
namespace Ask
mutual
theorem nrm_size : ∀ (q : Bool) (x : Ask), (nrm q x).size ≤ 2 * x.size
  | q, mk k a b n l => by
    rw [nrm]
    split
    · cases l with
      | nil => rw [nrms]; simp [size, sizes]
      | cons y l =>
        rw [nrms]
        have := nrm_size (!q) y
        simp only [List.getD_cons_zero, size, sizes] at *
        omega
    · split
      · have := nrms_size q l
        simp only [size]
        omega
      · split <;> simp only [size, sizes] <;> omega
theorem nrms_size : ∀ (q : Bool) (l : List Ask), sizes (nrms q l) ≤ 2 * sizes l
  | _, [] => by rw [nrms]; simp [sizes]
  | q, x :: l => by
    rw [nrms]
    have h1 := nrm_size q x
    have h2 := nrms_size q l
    simp only [sizes]
    omega
end
/-- no ask -/
def none : Ask := mk 0 [] [] 0 []
/-- what Norm tells: the error, and the ask -/
def normE (x : Ask) : Int := if x.fault ≠ 0 then x.fault else if 60 < (x.nrm false).size then 2 else 0
def normV (x : Ask) : Ask := if x.normE = 0 then x.nrm false else none
end Ask
theorem none_val (w : World) : AskV w Ask.none (.agg #[.int .i64 0, .string ⟨#[]⟩, .string ⟨#[]⟩, .int .i64 0, .slice .none 0 0]) := by
  unfold Ask.none
  rw [AskV]
  exact ⟨_, _, _, rfl, rfl, Nat.le_refl _, by omega, by simp, by simp, fun h => absurd h (by omega)⟩
theorem five_stays {W : World} {c : Nat} {v0 v1 v2 v3 v4 : Value} {x : Ask} {v : Value} {p : Nat → Prop} (hp : ∀ b, p b → b ≠ c) (h : AskVP p W x v) : AskVP p (five W c v0 v1 v2 v3 v4) x v :=
  AskVP.stays (fun _ h => h) (by rw [five_size]; exact Nat.le_refl _) (fun b hb _ => five_heap _ _ _ _ _ _ _ b (hp b hb)) x v h
def NormQ (w : World) (x : Ask) (e : Ending) (w' : World) : Prop := ∃ (k0 : Int) (k1 k2 : ByteArray) (k3 : Int) (ad : Option Addr) (len cap : Nat), e = .returned (.tuple #[.agg #[.int .i64 k0, .string k1, .string k2, .int .i64 k3, .slice ad len cap], .int .i64 x.normE]) ∧ AskV w' x.normV (.agg #[.int .i64 k0, .string k1, .string k2, .int .i64 k3, .slice ad len cap]) ∧ Below w.heap.size w w'
set_option maxRecDepth 20000 in
set_option maxHeartbeats 16000000 in
theorem Norm_any (x : Ask) (v : Value) (w : World) (hs : x.size ≤ 1000000000) (hx : AskV w x v) : Calls Tryd.prog 5 #[v] w (NormQ w x) := by
  obtain ⟨k, a1, a2, nu, ad, n, cap, rfl⟩ := hx.form
  obtain ⟨W0, hW0⟩ : ∃ W, W = (w.alloc (.cells #[.int .i64 k, .string a1, .string a2, .int .i64 nu, .slice ad n cap] 24)).alloc (.cells #[.int .i64 0, .string ⟨#[]⟩, .string ⟨#[]⟩, .int .i64 0, .slice none 0 0] 24) := ⟨_, rfl⟩
  have hb9 : Below w.heap.size w W0 := by rw [hW0]; exact ((Below.refl _ _).alloc (Nat.le_refl _) _).alloc (by simp) _
  have HB9 := Lib.hid hb9
  have hsz : W0.heap.size = w.heap.size + 2 := by rw [hW0]; simp
  have d0 : W0.cell? ⟨w.heap.size, 0, none⟩ = some (.int .i64 k) := by rw [hW0]; simp
  have d1 : W0.cell? ⟨w.heap.size, 1, none⟩ = some (.string a1) := by rw [hW0]; simp
  have d2 : W0.cell? ⟨w.heap.size, 2, none⟩ = some (.string a2) := by rw [hW0]; simp
  have d3 : W0.cell? ⟨w.heap.size, 3, none⟩ = some (.int .i64 nu) := by rw [hW0]; simp
  have d4 : W0.cell? ⟨w.heap.size, 4, none⟩ = some (.slice ad n cap) := by rw [hW0]; simp
  have r0 : W0.cell? ⟨w.heap.size + 1, 0, none⟩ = some (.int .i64 0) := by rw [hW0]; simp
  have r1 : W0.cell? ⟨w.heap.size + 1, 1, none⟩ = some (.string ⟨#[]⟩) := by rw [hW0]; simp
  have r2 : W0.cell? ⟨w.heap.size + 1, 2, none⟩ = some (.string ⟨#[]⟩) := by rw [hW0]; simp
  have r3 : W0.cell? ⟨w.heap.size + 1, 3, none⟩ = some (.int .i64 0) := by rw [hW0]; simp
  have r4 : W0.cell? ⟨w.heap.size + 1, 4, none⟩ = some (.slice none 0 0) := by rw [hW0]; simp
  have p0 : ∀ i, W0.frozen? ⟨w.heap.size + 1, i, none⟩ = false := fun i => by rw [hW0]; exact frozen_top _ _ _ _ _ (by simp)
  obtain ⟨cx, hcx⟩ : ∃ c, c = w.heap.size := ⟨_, rfl⟩
  rw [← hcx] at p0
  rw [← hcx] at d0 d1 d2 d3 d4 r0 r1 r2 r3 r4 hsz
  have hc0 : cx < W0.heap.size := by omega
  have hc1 : cx + 1 < W0.heap.size := by omega
  have HX0 := Lib.hid (AskV.below hb9 _ _ hx)
  have HCK := Lib.hid (Check_any x _ W0 hs HX0.out)
  have HXP := Lib.hid (AskV.toP _ _ hx)
  have HCX := Lib.hid hcx
  have HSZ := Lib.hid hsz
  obtain ⟨E, hE⟩ : ∃ E, x.fault = E := ⟨_, rfl⟩
  have HE := Lib.hid hE
  rw [hE] at HCK
  clear hx hE hs hb9 hsz
  go_enter Tryd.func5, Tryd.ntmps5
  go_upto_region 1 with fail
  rw [← hW0, ← hcx]
  clear hW0 hcx
  go_wp2_with fail
  refine Calls.mono HCK.out ?_
  rintro e' W1 ⟨rfl, hl⟩
  have HL1 := Lib.hid hl
  have HB1 := Lib.hid (HB9.out.trans (hl.mono HB9.out.size))
  have e0 := (hl.cell (p := ⟨cx, 0, none⟩) hc0).trans d0
  have e1 := (hl.cell (p := ⟨cx, 1, none⟩) hc0).trans d1
  have e2 := (hl.cell (p := ⟨cx, 2, none⟩) hc0).trans d2
  have e3 := (hl.cell (p := ⟨cx, 3, none⟩) hc0).trans d3
  have e4 := (hl.cell (p := ⟨cx, 4, none⟩) hc0).trans d4
  have s0 := (hl.cell (p := ⟨cx + 1, 0, none⟩) hc1).trans r0
  have s1 := (hl.cell (p := ⟨cx + 1, 1, none⟩) hc1).trans r1
  have s2 := (hl.cell (p := ⟨cx + 1, 2, none⟩) hc1).trans r2
  have s3 := (hl.cell (p := ⟨cx + 1, 3, none⟩) hc1).trans r3
  have s4 := (hl.cell (p := ⟨cx + 1, 4, none⟩) hc1).trans r4
  have t0 := fun i => (hl.frozen (p := ⟨cx + 1, i, none⟩) hc1).trans (p0 i)
  have hc0 : cx < W1.heap.size := Nat.lt_of_lt_of_le hc0 hl.size
  have hc1 : cx + 1 < W1.heap.size := Nat.lt_of_lt_of_le hc1 hl.size
  clear p0 d0 d1 d2 d3 d4 r0 r1 r2 r3 r4
  have HX1 := Lib.hid (AskV.below hl _ _ HX0.out)
  clear hl
  by_cases he : E = 0
  · have HF := Lib.hid (fault_err (HE.out.trans he))
    have HN := Lib.hid (norm_all x.size x false _ W1 w.heap.size (Nat.le_refl _) HF.out.1 HB1.out.size (AskVP.stays (fun _ h => h) HB1.out.size (fun b h _ => HB1.out.block b h) _ _ HXP.out))
    subst he
    go_wp2_with fail
    refine Calls.mono HN.out ?_
    rintro e' W2 ⟨x0, x1, x2, x3, xd, xl, xc, rfl, hxv, hl⟩
    have HXV := Lib.hid hxv
    have HB2 := Lib.hid (HB1.out.trans (hl.mono HB1.out.size))
    have s0 := (hl.cell (p := ⟨cx + 1, 0, none⟩) hc1).trans s0
    have s1 := (hl.cell (p := ⟨cx + 1, 1, none⟩) hc1).trans s1
    have s2 := (hl.cell (p := ⟨cx + 1, 2, none⟩) hc1).trans s2
    have s3 := (hl.cell (p := ⟨cx + 1, 3, none⟩) hc1).trans s3
    have s4 := (hl.cell (p := ⟨cx + 1, 4, none⟩) hc1).trans s4
    have t0 := fun i => (hl.frozen (p := ⟨cx + 1, i, none⟩) hc1).trans (t0 i)
    have hc1 : cx + 1 < W2.heap.size := Nat.lt_of_lt_of_le hc1 hl.size
    clear hl hxv e0 e1 e2 e3 e4 hc0
    obtain ⟨W3, hW3⟩ : ∃ W, W = W2.alloc (.cells #[.int .i64 x0, .string x1, .string x2, .int .i64 x3, .slice xd xl xc] 24) := ⟨_, rfl⟩
    have hb3 : Below W2.heap.size W2 W3 := by rw [hW3]; exact (Below.refl _ _).alloc (Nat.le_refl _) _
    have hsz3 : W3.heap.size = W2.heap.size + 1 := by rw [hW3]; simp
    obtain ⟨ck, hck⟩ : ∃ c, c = W2.heap.size := ⟨_, rfl⟩
    have f0 : W3.cell? ⟨ck, 0, none⟩ = some (.int .i64 x0) := by rw [hW3]; exact (cell_top _ _ _ _ _ hck).trans rfl
    have f1 : W3.cell? ⟨ck, 1, none⟩ = some (.string x1) := by rw [hW3]; exact (cell_top _ _ _ _ _ hck).trans rfl
    have f2 : W3.cell? ⟨ck, 2, none⟩ = some (.string x2) := by rw [hW3]; exact (cell_top _ _ _ _ _ hck).trans rfl
    have f3 : W3.cell? ⟨ck, 3, none⟩ = some (.int .i64 x3) := by rw [hW3]; exact (cell_top _ _ _ _ _ hck).trans rfl
    have f4 : W3.cell? ⟨ck, 4, none⟩ = some (.slice xd xl xc) := by rw [hW3]; exact (cell_top _ _ _ _ _ hck).trans rfl
    have hck3 : ck < W3.heap.size := by omega
    have HB3 := Lib.hid (HB2.out.trans (hb3.mono HB2.out.size))
    have HX3P := Lib.hid (AskVP.stays (fun _ h => h) hb3.size (fun b _ h => hb3.block b h) _ _ HXV.out)
    have HX3 := Lib.hid (AskVP.toV _ _ HX3P.out)
    have HC := Lib.hid (count_any (x.nrm false) _ W3 (by have := Ask.nrm_size false x; have := HF.out.2; omega) HX3.out)
    obtain ⟨z, hz⟩ : ∃ z, (x.nrm false).size = z := ⟨_, rfl⟩
    have HZ := Lib.hid hz
    rw [hz] at HC
    have s0 := (hb3.cell (p := ⟨cx + 1, 0, none⟩) hc1).trans s0
    have s1 := (hb3.cell (p := ⟨cx + 1, 1, none⟩) hc1).trans s1
    have s2 := (hb3.cell (p := ⟨cx + 1, 2, none⟩) hc1).trans s2
    have s3 := (hb3.cell (p := ⟨cx + 1, 3, none⟩) hc1).trans s3
    have s4 := (hb3.cell (p := ⟨cx + 1, 4, none⟩) hc1).trans s4
    have t0 := fun i => (hb3.frozen (p := ⟨cx + 1, i, none⟩) hc1).trans (t0 i)
    have hc1 : cx + 1 < W3.heap.size := Nat.lt_of_lt_of_le hc1 hb3.size
    clear hz hb3 hsz3
    go_upto_region 5 with fail
    rw [← hW3, ← hck]
    clear hW3 hck
    go_wp2_with fail
    refine Calls.mono HC.out ?_
    rintro e' W4 ⟨rfl, hl⟩
    have HB4 := Lib.hid (HB3.out.trans (hl.mono HB3.out.size))
    have f0 := (hl.cell (p := ⟨ck, 0, none⟩) hck3).trans f0
    have f1 := (hl.cell (p := ⟨ck, 1, none⟩) hck3).trans f1
    have f2 := (hl.cell (p := ⟨ck, 2, none⟩) hck3).trans f2
    have f3 := (hl.cell (p := ⟨ck, 3, none⟩) hck3).trans f3
    have f4 := (hl.cell (p := ⟨ck, 4, none⟩) hck3).trans f4
    have s0 := (hl.cell (p := ⟨cx + 1, 0, none⟩) hc1).trans s0
    have s1 := (hl.cell (p := ⟨cx + 1, 1, none⟩) hc1).trans s1
    have s2 := (hl.cell (p := ⟨cx + 1, 2, none⟩) hc1).trans s2
    have s3 := (hl.cell (p := ⟨cx + 1, 3, none⟩) hc1).trans s3
    have s4 := (hl.cell (p := ⟨cx + 1, 4, none⟩) hc1).trans s4
    have t0 := fun i => (hl.frozen (p := ⟨cx + 1, i, none⟩) hc1).trans (t0 i)
    have hc1 : cx + 1 < W4.heap.size := Nat.lt_of_lt_of_le hc1 hl.size
    have HXS := Lib.hid (AskVP.stays (fun _ h => h) hl.size (fun b _ h => hl.block b h) _ _ HX3P.out)
    have q0 := t0 0
    have q1 := t0 1
    have q2 := t0 2
    have q3 := t0 3
    have q4 := t0 4
    clear hl hck3 t0
    by_cases hz : 60 < z
    · have HV : Hid (x.normV = Ask.none ∧ x.normE = 2) := Lib.hid (by
        have h1 : x.normE = 2 := by unfold Ask.normE; rw [if_neg (by rw [HE.out]; simp), if_pos (by rw [HZ.out]; exact hz)]
        exact ⟨by unfold Ask.normV; rw [if_neg (by rw [h1]; omega)], h1⟩)
      have hz2 : ((60 : Int) < (z : Int)) := by omega
      clear hz
      go_wp2_with fail
      refine bodyPost_ret (v := .tuple #[.agg #[.int .i64 0, .string ⟨#[]⟩, .string ⟨#[]⟩, .int .i64 0, .slice none 0 0], .int .i64 2]) (by simp [results, Tryd.results5, go_sem, s0, s1, s2, s3, s4]) rfl ?_
      refine ⟨_, _, _, _, _, _, _, by rw [HV.out.2], by rw [HV.out.1]; exact none_val _, ?_⟩
      have := HCX.out
      exact five_below HB4.out (cx + 1) _ _ _ _ _ (by omega)
    · have HV : Hid (x.normV = x.nrm false ∧ x.normE = 0) := Lib.hid (by
        have h1 : x.normE = 0 := by unfold Ask.normE; rw [if_neg (by rw [HE.out]; simp), if_neg (by rw [HZ.out]; exact hz)]
        exact ⟨by unfold Ask.normV; rw [if_pos h1], h1⟩)
      have hz2 : ¬ ((60 : Int) < (z : Int)) := by omega
      clear hz
      go_wp2_with fail
      refine bodyPost_ret (v := .tuple #[.agg #[.int .i64 x0, .string x1, .string x2, .int .i64 x3, .slice xd xl xc], .int .i64 0]) (by simp [results, Tryd.results5, go_sem, s0, s1, s2, s3, s4]) rfl ?_
      refine ⟨_, _, _, _, _, _, _, by rw [HV.out.2], ?_, ?_⟩
      · rw [HV.out.1]
        have := HCX.out
        have := HSZ.out
        have h9 := HL1.out.size
        exact AskVP.toV _ _ (five_stays (fun b hb => by rcases hb with hb | hb <;> omega) HXS.out)
      · have := HCX.out
        exact five_below HB4.out (cx + 1) _ _ _ _ _ (by omega)
  · have HV : Hid (x.normV = Ask.none ∧ x.normE = E) := Lib.hid (by
      have h1 : x.normE = E := by unfold Ask.normE; rw [HE.out, if_pos he]
      exact ⟨by unfold Ask.normV; rw [if_neg (by rw [h1]; exact he)], h1⟩)
    have he2 : (E != 0) = true := by simpa using he
    have q0 := t0 0
    have q1 := t0 1
    have q2 := t0 2
    have q3 := t0 3
    have q4 := t0 4
    clear he t0
    go_wp2_with fail
    refine bodyPost_ret (v := .tuple #[.agg #[.int .i64 0, .string ⟨#[]⟩, .string ⟨#[]⟩, .int .i64 0, .slice none 0 0], .int .i64 E]) (by simp [results, Tryd.results5, go_sem, s0, s1, s2, s3, s4]) rfl ?_
    refine ⟨_, _, _, _, _, _, _, by rw [HV.out.2], by rw [HV.out.1]; exact none_val _, ?_⟩
    have := HCX.out
    exact five_below HB1.out (cx + 1) _ _ _ _ _ (by omega)
end Go.Proofs.YtkelkpfjkjcmgaaDoor
