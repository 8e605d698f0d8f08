/- What the row's list gives: the world that the library's functions of texts want. -/
import Derived.Test.YtkemlckmfgacdaaGreatDoorEvP9
import Derived.Test.YtkemlckmfgacdaaGreatDoorRows
import Derived.Test.YtkemlckmfgacdaaGreatDoorEvP46
import Derived.Test.YtkemlckmfgacdaaGreatDoorEvP7
import Derived.Test.YtkemlckmfgacdaaGreatDoorEvP13
import Derived.Deep.MidRow
import Derived.ChangeMaps5
import Derived.Stop.LaidErr
import Derived.LaidLaws
import Derived.Test.YtkemlckmfgacdaaGreatDoorEvP11
namespace Go.Proofs.YtkemlckmfgacdaaGreatDoor
open Go.ChangeShapes Go.WideShapes Go.ChangeAt Go.RowKit
set_option linter.unusedVariables false
set_option linter.unusedSimpArgs false
theorem starErr : ("*errors.errorString" : String) = "*" ++ "errors.errorString" := by decide
theorem rowErr (u : TypeId) (h : Tryz.prog.typeName? 3 u = some "*errors.errorString") : u = 156 :=
  typeName_ptr_named (nm := "errors.errorString") (by rw [← starErr]; kernel_rfl) (by kernel_rfl) (by decide) u (by rw [← starErr]; exact h)
theorem env_of {L1 L2 L3 : String × DataW Unit} {R : List (String × DataW Unit)} {W : World} (hSh : W.ShapedOpen Tryz.prog)
    (h : laidMet Tryz.prog (L1 :: L2 :: ("internal/strconv.uint64pow10", Rows.laid_internal_strconv_uint64pow10) :: L3 :: ("strconv.ErrRange", Rows.laid_strconv_ErrRange) :: ("strconv.ErrSyntax", Rows.laid_strconv_ErrSyntax) :: R) W) : Env W := by
  have h1 := h.tail.tail
  have h2 := h1.tail.tail
  have h3 := h2.tail
  obtain ⟨a1, s1, hv1, _, _, _⟩ := laid_sentinel (g := 0) (ti := 63) (tp := 156) (te := 158) (ts := 9) h3 (by kernel_rfl) (by kernel_rfl) Tryz.underlying63 rowErr Tryz.underlying156 Tryz.underlying158 rfl rfl Tryz.underlying9 (by kernel_rfl) (by kernel_rfl)
  obtain ⟨a2, s2, hv2, _, _, _⟩ := laid_sentinel (g := 1) (ti := 63) (tp := 156) (te := 158) (ts := 9) h2 (by kernel_rfl) (by kernel_rfl) Tryz.underlying63 rowErr Tryz.underlying156 Tryz.underlying158 rfl rfl Tryz.underlying9 (by kernel_rfl) (by kernel_rfl)
  obtain ⟨m, hm⟩ := Go.Proofs.cell_of_shapedOpen_int (g := 2) (zero := #[.int .i64 0]) (t := 3) hSh (of_decide_eq_true (by kernel_rfl)) (by kernel_rfl) rfl (by kernel_rfl) (by kernel_rfl) Tryz.underlying3
  refine ⟨⟨m, hm⟩, ⟨_, _, by simpa using World.var?_cell (by kernel_rfl) hv1 0⟩, ⟨_, _, by simpa using World.var?_cell (by kernel_rfl) hv2 0⟩, ?_⟩
  exact Lib.tabIs_of_head (rest := L3 :: ("strconv.ErrRange", Rows.laid_strconv_ErrRange) :: ("strconv.ErrSyntax", Rows.laid_strconv_ErrSyntax) :: R) gPowT (t := 150) (e := 87) (by kernel_rfl) Tryz.underlying150 Tryz.underlying87 (by kernel_rfl) (by kernel_rfl) h1
section
open Go.Joins Go.Deep
variable {H : Type} {enc : TypeId × Value → H} {P : Program} {W : World} {base : Nat}
theorem rowsIntJ {t I : TypeId} {v : Value} (hu : P.underlying t = some (.slice I)) (hI : P.underlying I = some (.int .i64)) (hcI : P.cellsOf I = 1)
    {fuel : Nat} {x : DataW H × List MemPlace} (o : ∃ ad len cap, v = .slice ad len cap) (hf : DataW.trod enc P W 0 (fun _ => true) true fuel t [v] = some x) :
    ∃ (a : Option Addr) (n cap : Nat) (R : List Int), v = .slice a n cap ∧ n = R.length ∧ n ≤ 9223372036854775807 ∧ n ≤ cap ∧ cap ≤ 9223372036854775807 ∧ Vals W a (ints R) := by
  obtain ⟨ad, len, cap, rfl⟩ := o
  rcases open_ints hu hI hcI hf with ⟨e, _⟩ | ⟨ad', len', cap', zs, e, _, hlc, hm, hzl, hx, hat, _⟩
  · simp [Value.cells] at e
    obtain ⟨rfl, rfl, rfl⟩ := e
    exact ⟨none, 0, 0, [], rfl, rfl, by omega, by omega, by omega, fun h => absurd h (by simp [ints])⟩
  · simp [Value.cells] at e
    obtain ⟨rfl, rfl, rfl⟩ := e
    simp only [if_true] at hzl
    refine ⟨some ad', len, _, zs.take len, rfl, by simp; omega, by unfold maxLen at hm; omega, hlc, by unfold maxLen at hm; omega, fun hL => ?_⟩
    have hpos : 0 < len := by simp [ints] at hL; omega
    have hspot : ad'.spot = none := by
      have := World.cell?_spot (hat 0 (by omega))
      simpa [Addr.add] using this
    obtain ⟨b0, off, spot⟩ := ad'
    simp only at hspot
    subst hspot
    refine ⟨b0, off, rfl, ?_, fun i v hg => ?_⟩
    · have := hat 0 (by omega)
      rw [Addr.add_mid] at this
      exact block_lt_of_cell this
    · have hil : i < len := by
        have := (List.getElem?_eq_some_iff.1 hg).1
        simp [ints] at this; omega
      have h0 := hat i (by omega)
      rw [Addr.add_mid] at h0
      rw [ints, List.getElem?_map, List.getElem?_take, if_pos hil] at hg
      rw [h0]
      cases hz : zs[i]? with
      | none => rw [hz] at hg; simp at hg
      | some z =>
        rw [hz] at hg
        simp at hg
        simp [List.getD, hz, hg]
end
end Go.Proofs.YtkemlckmfgacdaaGreatDoor
namespace Go.Proofs.YtkemlckmfgacdaaGreatDoor
open Go.ChangeShapes Go.WideShapes Go.ChangeAt Go.RowKit
set_option linter.unusedVariables false
set_option linter.unusedSimpArgs false
open Tp
section
open Go.Joins Go.Deep
variable {H : Type} {enc : TypeId × Value → H} {P : Program} {W : World} {base : Nat}
theorem byte_wf {x : Int} (h : (Lit.int .u8 x).wf = true) : 0 ≤ x ∧ x < 256 := by
  have h1 : IntKind.u8.min = 0 := rfl
  have h2 : IntKind.u8.max = 255 := rfl
  simp only [Lit.wf, Bool.and_eq_true, decide_eq_true_eq] at h
  omega
theorem rowsByte {t I : TypeId} {v : Value} (hu : P.underlying t = some (.slice I)) (hI : P.underlying I = some (.int .u8)) (hcI : P.cellsOf I = 1)
    {fuel : Nat} {x : DataW H × List MemPlace} (o : ∃ ad len cap, v = .slice ad len cap) (hf : DataW.trod enc P W 0 (fun _ => true) true fuel t [v] = some x) :
    ∃ (a : Option Addr) (n cap : Nat) (s : Bs), v = .slice a n cap ∧ s.length = n ∧ n ≤ cap ∧ cap ≤ 9223372036854775807 ∧ Vals W a (u8s s) := by
  obtain ⟨ad, len, cap, rfl⟩ := o
  rcases open_ints hu hI hcI hf with ⟨e, _⟩ | ⟨ad', len', cap', zs, e, _, hlc, hm, hzl, hx, hat, hwf⟩
  · simp [Value.cells] at e
    obtain ⟨rfl, rfl, rfl⟩ := e
    exact ⟨none, 0, 0, [], rfl, rfl, by omega, by omega, fun h => absurd h (by simp [u8s])⟩
  · simp [Value.cells] at e
    obtain ⟨rfl, rfl, rfl⟩ := e
    simp only [if_true] at hzl
    refine ⟨some ad', len, _, (zs.take len).map (fun z => UInt8.ofNat z.toNat), rfl, by simp; omega, hlc, by unfold maxLen at hm; omega, fun hL => ?_⟩
    have hpos : 0 < len := by simp [u8s] at hL; omega
    have hspot : ad'.spot = none := by
      have := World.cell?_spot (hat 0 (by omega))
      simpa [Addr.add] using this
    obtain ⟨b0, off, spot⟩ := ad'
    simp only at hspot
    subst hspot
    refine ⟨b0, off, rfl, ?_, fun i v hg => ?_⟩
    · have := hat 0 (by omega)
      rw [Addr.add_mid] at this
      exact block_lt_of_cell this
    · have hil : i < len := by
        have := (List.getElem?_eq_some_iff.1 hg).1
        simp [u8s] at this; omega
      have h0 := hat i (by omega)
      rw [Addr.add_mid] at h0
      rw [u8s, List.getElem?_map, List.getElem?_map, List.getElem?_take, if_pos hil] at hg
      rw [h0]
      cases hz : zs[i]? with
      | none => rw [hz] at hg; cases hg
      | some z =>
        rw [hz] at hg
        simp only [Option.map_some, Option.some.injEq] at hg
        rw [← hg]
        have hw := byte_wf (hwf z (List.mem_of_getElem? hz))
        have e1 : zs.getD i 0 = z := by rw [List.getD_eq_getElem?_getD, hz]; rfl
        rw [e1]
        congr 2
        have e2 : (UInt8.ofNat z.toNat).toNat = z.toNat := by
          simp
          omega
        rw [e2]
        omega
end
end Go.Proofs.YtkemlckmfgacdaaGreatDoor
