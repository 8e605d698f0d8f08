/- Contracts: jobs in a row, each to the first hand that has least: the program's run, the document's Worked. -/
import Derived.Test.YtfjoakhcgpckgaaWorkG
import Derived.Test.YtfjoakhcgpckgaaWorkMin
import Derived.Test.YtfjoakhcgpckgaaWorkCheck
import Derived.Test.YtfjoakhcgpckgaaDownward
import Derived.StillTailTactics
namespace Go.Proofs.Ytfjoakhcgpckgaa
open Go.ChangeShapes Go.WideShapes Go.ChangeAt Go.RowKit
set_option linter.unusedVariables false
open Wk
theorem infoI64w : (Try.prog.info? 2).map (fun i => (i.zero, i.size, i.bytes)) = some (some (.int .i64 0), 1, 8) := by kernel_rfl
/-- a row of ints -/
def RowN (w : World) (b m : Nat) (f : Nat → Int) : Prop := w.rowIs b 3 m (fun j => .int .i64 (f j))
/-- what the loop keeps -/
structure RunI (gl gn m n : Nat) (s : (Nat → Int) × (Nat → Int)) (w0 w : World) : Prop where
  load : RowF w gl m s.1
  on : RowN w gn n s.2
  bel : Below w0.heap.size w0 w
  lo : w0.heap.size ≤ gl
  hi : w0.heap.size ≤ gn
  ne : gl ≠ gn
theorem RunI.step {gl gn m n : Nat} {s : (Nat → Int) × (Nat → Int)} {w0 w : World} (h : RunI gl gn m n s w0 w) (D : List Int) (o : Nat) :
    RunI gl gn m n (gstep m D s (o : Int)) w0 (((w.setCell ⟨gn, o, none⟩ (.int .i64 (amin s.1 m))).drew).setCell ⟨gl, amin s.1 m, none⟩ (.int .i64 (s.1 (amin s.1 m) + D.getD o 0))) := by
  refine ⟨?_, ?_, (((h.bel.setCell (p := ⟨gn, o, none⟩) h.hi _).drew).setCell (p := ⟨gl, amin s.1 m, none⟩) h.lo _), h.lo, h.hi, h.ne⟩
  · have h1 : (w.setCell ⟨gn, o, none⟩ (.int .i64 (amin s.1 m))).drew.rowIs gl 2 m (fun j => .int .i64 (s.1 j)) := World.rowIs.setOther h.load h.ne _
    refine (h1.set (amin s.1 m) (.int .i64 (s.1 (amin s.1 m) + D.getD o 0))).congr fun j hj => ?_
    simp only [gstep, put, Int.toNat_natCast]
    by_cases e : j = amin s.1 m
    · subst e; simp
    · simp [e]
  · have h1 : (w.setCell ⟨gn, o, none⟩ (.int .i64 (amin s.1 m))).drew.rowIs gn 3 n (fun j => if j = o then .int .i64 (amin s.1 m) else .int .i64 (s.2 j)) := World.rowIs.set h.on o _
    refine (World.rowIs.setOther h1 h.ne.symm _).congr fun j hj => ?_
    simp only [gstep, upd, Int.toNat_natCast]
    split <;> rfl
/-- what comes of it -/
def RunPost (m n : Nat) (D os : List Int) (w : World) (e : Ending) (w' : World) : Prop :=
  ∃ v, e = .returned (.tuple #[v, .int .i64 (mx (gs m D os).1 m)]) ∧ IsVals w' v ((List.range n).map fun j => .int .i64 ((gs m D os).2 j)) ∧ Below w.heap.size w w'
theorem intsRow {w : World} {b n cap : Nat} {f : Nat → Int} (h : RowN w b n f) : IsVals w (.slice (some ⟨b, 0, none⟩) n cap) ((List.range n).map fun j => .int .i64 (f j)) := IsVals.row h
set_option maxRecDepth 20000 in
set_option maxHeartbeats 3200000 in
theorem run_any (m n r : Nat) (D os : List Int) (a1 a2 : Option Addr) (c1 c2 : Nat) (w : World) (hm : 0 < m) (hm2 : m ≤ 20) (hn : n = D.length) (h4 : n ≤ 60) (hD : Vals w a1 (ints64 D)) (hok : ∀ x, x ∈ D → 0 ≤ x ∧ x ≤ 1000000000) (hr : r = os.length) (hr2 : r ≤ 60) (hos : Vals w a2 (ints64 os)) (hob : ∀ o, o ∈ os → 0 ≤ o ∧ o < n) :
    Calls Try.prog 129 #[.int .i64 m, .slice a1 n c1, .slice a2 r c2] w fun e w' => RunPost m n D os w e w' := by
  have HD := Lib.hid hD
  have HN := Lib.hid hn
  have HO := Lib.hid hok
  have HS := Lib.hid hos
  have HR := Lib.hid hr
  have HB := Lib.hid hob
  have hmk := Lib.hid (run_make_row' (P := Try.prog) 36 2 (.int .i64 0) 8 Try.underlying36 infoI64w rfl .i64 .i64 m (by omega) (by omega))
  have hmk1 := Lib.hid (run_make_row' (P := Try.prog) 58 3 (.int .i64 0) 8 Try.underlying58 infoIntD rfl .i64 .i64 n (by omega) (by omega))
  obtain ⟨gl, hgl⟩ : ∃ gl, gl = w.heap.size := ⟨_, rfl⟩
  obtain ⟨W1, hW1⟩ : ∃ W, W = (w.alloc (.cells (madeCells #[.int .i64 0] m) 2)).alloc (.cells (madeCells #[.int .i64 0] n) 3) := ⟨_, rfl⟩
  have HI0 : Hid (RunI gl (gl + 1) m n (gs m D (os.take 0)) w W1) := Lib.hid (by
    rw [hW1]
    refine ⟨?_, ?_, ((Below.refl _ _).alloc (Nat.le_refl _) _).alloc (by simp) _, by omega, by omega, by omega⟩
    · rw [hgl]; exact (rowIs_made_at w (.int .i64 0) m 2 rfl).alloc _
    · rw [hgl]; exact rowIs_made_at _ (.int .i64 0) n 3 (by simp))
  have hmk2 := hmk.out
  have hmk3 := hmk1.out
  have HGL := Lib.hid hgl
  clear hD hn hok hos hr hob
  go_enter Try.func129, Try.ntmps129
  go_upto_region 3 with fail
  rw [← hW1, ← hgl]
  clear hmk2 hmk3 hW1 hgl
  obtain ⟨w0, rfl⟩ : ∃ x, x = w := ⟨_, rfl⟩
  go_wp2_with fail
  go_loopg [20] r (fun gk x wr => ∃ q : Nat, q + gk = r ∧ x = .int .i64 (q : Int) ∧ Hid (RunI gl (gl + 1) m n (gs m D (os.take q)) w0 wr))
  case atStart => exact ⟨0, by omega, rfl, HI0⟩
  case round =>
    clear HI0
    obtain ⟨q, hq, rfl, HI⟩ := hrel
    by_cases hqr : q < r
    · obtain ⟨o, ho⟩ : ∃ o, os[q]? = some o := ⟨_, List.getElem?_eq_getElem (by have := HR.out; omega)⟩
      have hob := HB.out o (List.mem_of_getElem? ho)
      obtain ⟨p, rfl⟩ : ∃ p : Nat, o = (p : Int) := ⟨o.toNat, (Int.toNat_of_nonneg hob.1).symm⟩
      obtain ⟨x, hx⟩ : ∃ x, D[p]? = some x := ⟨_, List.getElem?_eq_getElem (by have := HN.out; omega)⟩
      obtain ⟨b1, o1, rfl, hb1, d0⟩ := i64at HD.out hx
      obtain ⟨b2, o2, rfl, hb2, d2⟩ := i64at (HS.out.below HI.out.bel (Nat.le_refl _)) ho
      have HST := Lib.hid (gs_take (m := m) (D := D) ho)
      have HBD := Lib.hid (fun i => gs_bound (m := m) (D := D) (os := os) HO.out q i)
      obtain ⟨f, hf⟩ : ∃ f, (gs m D (os.take q)).1 = f := ⟨_, rfl⟩
      have hI := HI.out
      have HFM := Lib.hid (amin_min (gs m D (os.take q)).1 m hm)
      obtain ⟨k, hk⟩ : ∃ k, amin (gs m D (os.take q)).1 m = k := ⟨_, rfl⟩
      rw [hk] at HFM
      have hkm : k < m := HFM.out.lt
      obtain ⟨y, hy⟩ : ∃ y, (gs m D (os.take q)).1 k = y := ⟨_, rfl⟩
      have hyb : 0 ≤ y ∧ y ≤ q * 1000000000 := by have := HBD.out k; rwa [hy] at this
      have hxb := HO.out x (List.mem_of_getElem? hx)
      have wy : IntKind.i64.wrap (y + x) = y + x := IntWalk.i64_in _ (by omega)
      have HI2 := Lib.hid (show RunI gl (gl + 1) m n (gs m D (os.take (q + 1))) w0 (((wr.setCell ⟨gl + 1, p, none⟩ (.int .i64 k)).drew).setCell ⟨gl, k, none⟩ (.int .i64 (y + x))) from by
        have h := hI.step D p
        rw [hk, hy, List.getD_eq_getElem?_getD, hx] at h
        rw [HST.out]
        exact h)
      have k0 := (hI.load).at hkm
      rw [hy] at k0
      have k1 := World.rowIs.frozen hI.load k
      have k2 := World.rowIs.frozen hI.on p
      have k3 := World.rowIs.lt hI.load
      have k4 := World.rowIs.lt hI.on
      have hkm2 : (k : Int) < (m : Int) := by omega
      have hk0 : (0 : Int) ≤ (k : Int) := by omega
      have hp0 : (0 : Int) ≤ (p : Int) := by omega
      have hp2 : (p : Int) < (n : Int) := by omega
      have hqr2 : (q : Int) < (r : Int) := by omega
      have hm3 : (0 : Int) < (m : Int) := by omega
      obtain ⟨z, k5⟩ : ∃ z, wr.cell? ⟨gl + 1, p, none⟩ = some (.int .i64 z) := ⟨_, World.rowIs.cell hI.on (by omega)⟩
      have d1 := (hI.bel.cell (p := ⟨b1, o1 + p, none⟩) hb1).trans d0
      have HBW := Lib.hid (hI.bel.setCell (p := ⟨gl + 1, p, none⟩) hI.hi (.int .i64 (k : Int)))
      have e1 := (HBW.out.cell (p := ⟨b1, o1 + p, none⟩) hb1).trans d0
      have e2 : (wr.setCell ⟨gl + 1, p, none⟩ (.int .i64 (k : Int))).cell? ⟨gl, k, none⟩ = some (.int .i64 y) := by
        rw [World.cell?_setCell_other _ _ _ _ (by intro h; have := congrArg Addr.block h; simp only at this; omega)]; exact k0
      have e3 : (wr.setCell ⟨gl + 1, p, none⟩ (.int .i64 (k : Int))).frozen? ⟨gl, k, none⟩ = false := by simpa using k1
      have e4 : gl < (wr.setCell ⟨gl + 1, p, none⟩ (.int .i64 (k : Int))).heap.size := by simpa using k3
      have e5 : b1 < (wr.setCell ⟨gl + 1, p, none⟩ (.int .i64 (k : Int))).heap.size := by have := HBW.out.size; omega
      have HMIN := Lib.hid (min_any gl m m _ wr hI.load hm (by omega))
      have HIDX : Hid (∀ v, Mn (gs m D (os.take q)).1 m v → Calls Try.prog 188 #[.slice (some ⟨gl, 0, none⟩) m m, .int .i64 v] wr fun e w' => e = .returned (.int .i64 (k : Int)) ∧ w' = wr) := Lib.hid (fun v hv => (indexF_any gl m m _ v wr hI.load (by omega) (by obtain ⟨j, hj, e⟩ := hv.is; exact ⟨j, hj, e.symm⟩)).mono fun e w' h => (by
        obtain ⟨⟨k', rfl, h1⟩, h2⟩ := h
        rw [(h1.min hv).uniq HFM.out]
        exact ⟨rfl, h2⟩))
      clear hx ho hf hk hy hI
      go_wp2_with (first
        | (go_at_call 189; refine Calls.mono HMIN.out ?_; rintro e w2 ⟨⟨v, rfl, hv⟩, hw2⟩; obtain rfl := hw2.symm; have HVM := Lib.hid hv; clear hv)
        | (go_at_call 188; refine Calls.mono (HIDX.out v HVM.out) ?_; rintro e w3 ⟨rfl, hw3⟩; obtain rfl := hw3.symm))
      obtain ⟨wc, hwc⟩ : ∃ wc, wc = wr.setCell ⟨gl + 1, p, none⟩ (.int .i64 (k : Int)) := ⟨_, rfl⟩
      rw [← hwc] at e1 e2 e3 e4 e5 HI2 ⊢
      clear hwc
      go_still_tail 10, (by kernel_rfl)
      change wpList _ _ _ _ _ wc.drew
      go_wp2_with fail
      go_roundg (gk - 1)
      case measure => omega
      case rel => exact ⟨q + 1, by omega, by simp, HI2⟩
    · have hqr2 : ¬ (q : Int) < (r : Int) := by omega
      obtain rfl : q = r := by omega
      have hI := HI.out
      rw [List.take_of_length_le (by have := HR.out; omega)] at hI
      have HE := Lib.hid (intsRow (cap := n) hI.on)
      have HBL := Lib.hid hI.bel
      have HBD := Lib.hid (fun i => gs_bound (m := m) (D := D) (os := os) HO.out q i)
      have HMX := Lib.hid (max_any gl m m _ wr hI.load hm (by omega) (fun i _ => by have := (HBD.out i).1; rwa [List.take_of_length_le (by have := HR.out; omega)] at this))
      clear hI
      go_wp2_with (go_at_call 55; refine Calls.mono HMX.out ?_; rintro e w3 ⟨rfl, hw3⟩; obtain rfl := hw3.symm)
      go_ret2
      exact ⟨_, rfl, HE.out, HBL.out⟩
end Go.Proofs.Ytfjoakhcgpckgaa
