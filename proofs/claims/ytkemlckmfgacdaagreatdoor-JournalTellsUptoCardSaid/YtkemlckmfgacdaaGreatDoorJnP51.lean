/- Opening arguments: an ask, as deep as it goes. -/
import Derived.Test.YtkemlckmfgacdaaGreatDoorJnP50
import Derived.Test.YtkemlckmfgacdaaGreatDoorJnP6
import Derived.Test.YtkemlckmfgacdaaGreatDoorRows
import Derived.Deep.MidRow
import Derived.ChangeMaps5
import Derived.Test.YtkemlckmfgacdaaGreatDoorJnP9
import Derived.Test.YtkemlckmfgacdaaGreatDoorJnP7
import Derived.Test.YtkemlckmfgacdaaGreatDoorJnP13
import Derived.Stop.LaidErr
import Derived.LaidLaws
import Derived.Test.YtkemlckmfgacdaaGreatDoorJnP11
namespace Go.Proofs.YtkemlckmfgacdaaGreatDoor
set_option maxRecDepth 20000
set_option maxHeartbeats 64000000
open Go.ChangeShapes Go.WideShapes Go.ChangeAt Go.RowKit Go.Joins Go.Deep
set_option linter.unusedVariables false
open Tp
instance : Inhabited Ask := ⟨.mk 0 [] [] 0 []⟩
section
variable {H : Type} {enc : TypeId × Value → H} {P : Program} {W : World} {base : Nat}
theorem bulk_all {l : List (DataW H)} {d : DataW H} {i : Nat} (h : l[i]? = some d) : Rows.uptoBulk d ≤ Rows.uptoBulkAll l := by
 induction l generalizing i with
 | nil => simp at h
 | cons x l ih =>
  rw [Rows.uptoBulkAll]
  cases i with
  | zero => simp at h; subst h; omega
  | succ i => have := ih (i := i) (by simpa using h); omega
theorem asksV_of : ∀ (l : List Ask) (b off : Nat), (∀ (i : Nat) (x : Ask), l[i]? = some x → ∃ v, Cells5 W b (off + i * 5) v ∧ AskV W x v) → AsksV W l b off
 | [], _, _, _ => by rw [AsksV]; trivial
 | x :: l, b, off, h => by
  rw [AsksV]
  refine ⟨by simpa using h 0 x rfl, asksV_of l b (off + 5) (fun i y hy => ?_)⟩
  have := h (i + 1) y (by simpa using hy)
  rwa [show off + (i + 1) * 5 = off + 5 + i * 5 from by omega] at this
theorem sizes_bulk {F : Nat → Ask} {D : Nat → DataW H} : ∀ l : List Nat, (∀ k, k ∈ l → (F k).size ≤ Rows.uptoBulk (D k)) → Ask.sizes (l.map F) ≤ Rows.uptoBulkAll (l.map D)
 | [], _ => by simp [Ask.sizes]
 | k :: l, h => by
  have h1 := h k (by simp)
  have h2 := sizes_bulk l (fun q hq => h q (by simp [hq]))
  simp only [List.map_cons, Ask.sizes, Rows.uptoBulkAll]
  omega
theorem open_ask {E t S K I : TypeId} {fs : Array Field} (hE : P.underlying E = some (.struct fs)) (hS : P.underlying S = some .string) (hK : P.underlying K = some (.int .i64)) (hI : P.underlying I = some (.int .i64)) (hu : P.underlying t = some (.slice E)) (hc : P.cellsOf E = 5) (hcS : P.cellsOf S = 1) (hcK : P.cellsOf K = 1) (hcI : P.cellsOf I = 1) (hct : P.cellsOf t = 1)
  (f0 : (fs[0]?).map (fun f => (f.type, f.offset)) = some (K, 0)) (f1 : (fs[1]?).map (fun f => (f.type, f.offset)) = some (S, 1)) (f2 : (fs[2]?).map (fun f => (f.type, f.offset)) = some (S, 2)) (f3 : (fs[3]?).map (fun f => (f.type, f.offset)) = some (I, 3)) (f4 : (fs[4]?).map (fun f => (f.type, f.offset)) = some (t, 4)) :
  ∀ (N fuel : Nat) (c0 c1 c2 c3 c4 : Value) (x : DataW H × List MemPlace), Rows.uptoBulk x.1 ≤ N → DataW.trod enc P W 0 (fun _ => true) true fuel E [c0, c1, c2, c3, c4] = some x → ∃ a : Ask, AskV W a (.agg #[c0, c1, c2, c3, c4]) ∧ a.size ≤ Rows.uptoBulk x.1 := by
 intro N
 induction N with
 | zero =>
  intro fuel c0 c1 c2 c3 c4 x hb h
  obtain ⟨ps0, _, y0, e0, k0, g0⟩ := field hE h 0 K 0 1 f0 hcK
  rw [e0, Rows.uptoBulk] at hb
  omega
 | succ N ih =>
  intro fuel c0 c1 c2 c3 c4 x hb h
  obtain ⟨ps0, _, y0, e0, k0, g0⟩ := field hE h 0 K 0 1 f0 hcK
  obtain ⟨ps1, _, y1, e1, k1, g1⟩ := field hE h 1 S 1 1 f1 hcS
  obtain ⟨ps2, _, y2, e2, k2, g2⟩ := field hE h 2 S 2 1 f2 hcS
  obtain ⟨ps3, _, y3, e3, k3, g3⟩ := field hE h 3 I 3 1 f3 hcI
  obtain ⟨ps4, _, y4, e4, k4, g4⟩ := field hE h 4 t 4 1 f4 hct
  obtain ⟨n0, hn0, _, _⟩ := DataW.trod_int hK g0
  obtain ⟨s1, hs1, _, hz1⟩ := DataW.trod_string hS g1
  obtain ⟨s2, hs2, _, hz2⟩ := DataW.trod_string hS g2
  obtain ⟨n3, hn3, _, _⟩ := DataW.trod_int hI g3
  have z0 : c0 = .int .i64 n0 := by simpa using hn0
  have z1 : c1 = .string s1 := by simpa using hs1
  have z2 : c2 = .string s2 := by simpa using hs2
  have z3 : c3 = .int .i64 n3 := by simpa using hn3
  subst z0 z1 z2 z3
  have hmx : maxLen = 9223372036854775807 := rfl
  have hb4 := bulk_all k4
  rw [e4, Rows.uptoBulk] at hb ⊢
  have hl1 : (lst s1).length ≤ 9223372036854775807 := by rw [lst_len]; omega
  have hl2 : (lst s2).length ≤ 9223372036854775807 := by rw [lst_len]; omega
  rcases open_slice hu g4 with ⟨e, _⟩ | ⟨ad', len, cap, m, n, D, Pl, e, _, hlc, hm, hmm, hx, hi⟩
  ·have z4 : c4 = .slice none 0 0 := by simpa using e
   subst z4
   refine ⟨.mk n0 (lst s1) (lst s2) n3 [], ?_, by simp only [Ask.size, Ask.sizes]; omega⟩
   rw [AskV]
   exact ⟨none, 0, 0, by rw [bts_lst, bts_lst], rfl, Nat.le_refl _, by omega, hl1, hl2, fun h => absurd h (by omega)⟩
  ·have z4 : c4 = .slice (some ad') len cap := by simpa using e
   subst z4
   simp only [if_true] at hmm
   subst hmm
   have hy4 : y4.1 = _ := congrArg Prod.fst hx
   simp only at hy4
   rw [hy4, Rows.uptoBulk] at hb4
   have hDk : ∀ k, k < len → Rows.uptoBulk (D k) ≤ N := fun k hk => by
    have := bulk_all (l := (List.range len).map D) (i := k) (d := D k) (by rw [List.getElem?_map, List.getElem?_range hk]; rfl)
    omega
   have hch : ∀ k, k < len → ∃ q : Ask, (∃ v : Value, (∃ b0 b1 b2 b3 b4, v = .agg #[b0, b1, b2, b3, b4] ∧ ∀ j u, [b0, b1, b2, b3, b4][j]? = some u → W.cell? ((ad'.add (k * 5)).add j) = some u) ∧ AskV W q v) ∧ q.size ≤ Rows.uptoBulk (D k) := by
    intro k hk
    obtain ⟨cs', hc', ht⟩ := hi k (by omega)
    obtain ⟨_, hl, hat⟩ := World.cells?_some hc'
    rw [hc] at hl hat
    match cs', hl with
    | [b0, b1, b2, b3, b4], _ =>
     obtain ⟨q, hq1, hq2⟩ := ih _ b0 b1 b2 b3 b4 (D k, Pl k) (hDk k hk) ht
     refine ⟨q, ⟨_, ⟨b0, b1, b2, b3, b4, rfl, fun j u hv => ?_⟩, hq1⟩, hq2⟩
     have hj : j < 5 := (List.getElem?_eq_some_iff.1 hv).1
     have := hat j hj
     rw [hv] at this
     exact this
   obtain ⟨F, hF⟩ := choose_lt hch
   refine ⟨.mk n0 (lst s1) (lst s2) n3 ((List.range len).map F), ?_, ?_⟩
   ·rw [AskV]
    refine ⟨some ad', len, m, by rw [bts_lst, bts_lst], by simp, hlc, by omega, hl1, hl2, fun hpos => ?_⟩
    have hspot : ad'.spot = none := by
     obtain ⟨⟨v, ⟨b0, b1, b2, b3, b4, _, hcell⟩, _⟩, _⟩ := hF 0 hpos
     have := World.cell?_spot (hcell 0 _ rfl)
     simpa [Addr.add] using this
    obtain ⟨bl, off, spot⟩ := ad'
    simp only at hspot
    subst hspot
    refine ⟨bl, off, rfl, ?_, asksV_of _ _ _ (fun i a hg => ?_)⟩
    ·obtain ⟨⟨v, ⟨b0, b1, b2, b3, b4, _, hcell⟩, _⟩, _⟩ := hF 0 hpos
     have := hcell 0 _ rfl
     rw [Addr.add_mid, Addr.add_mid] at this
     exact block_lt_of_cell this
    ·have hil : i < len := by
      have := (List.getElem?_eq_some_iff.1 hg).1
      simpa using this
     have e : F i = a := by
      rw [List.getElem?_map, List.getElem?_range hil] at hg
      simpa using hg
     obtain ⟨⟨v, ⟨b0, b1, b2, b3, b4, hv, hcell⟩, hav⟩, _⟩ := hF i hil
     have h0 := hcell 0 _ rfl
     have h1 := hcell 1 _ rfl
     have h2 := hcell 2 _ rfl
     have h3 := hcell 3 _ rfl
     have h4 := hcell 4 _ rfl
     rw [Addr.add_mid, Addr.add_mid] at h0 h1 h2 h3 h4
     exact ⟨v, ⟨b0, b1, b2, b3, b4, hv, h0, h1, h2, h3, h4⟩, e ▸ hav⟩
   ·have := sizes_bulk (List.range len) (F := F) (D := D) (fun k hk => (hF k (List.mem_range.1 hk)).2)
    rw [Ask.size]
    omega
end
end Go.Proofs.YtkemlckmfgacdaaGreatDoor
namespace Go.Proofs.YtkemlckmfgacdaaGreatDoor
set_option maxRecDepth 20000
set_option maxHeartbeats 64000000
open Go.ChangeShapes Go.WideShapes Go.ChangeAt Go.RowKit
set_option linter.unusedVariables false
set_option linter.unusedSimpArgs false
theorem starErr : ("*errors.errorString" : String) = "*" ++ "errors.errorString" := by decide
theorem rowErr (u : TypeId) (h : Tryz.prog.typeName? 3 u = some "*errors.errorString") : u = 156 :=
 typeName_ptr_named (nm := "errors.errorString") (by rw [← starErr]; kernel_rfl) (by kernel_rfl) (by decide) u (by rw [← starErr]; exact h)
theorem env_of {L1 L2 L3 : String × DataW Unit} {R : List (String × DataW Unit)} {W : World} (hSh : W.ShapedOpen Tryz.prog)
  (h : laidMet Tryz.prog (L1 :: L2 :: ("internal/strconv.uint64pow10", Rows.laid_internal_strconv_uint64pow10) :: L3 :: ("strconv.ErrRange", Rows.laid_strconv_ErrRange) :: ("strconv.ErrSyntax", Rows.laid_strconv_ErrSyntax) :: R) W) : Env W := by
 have h1 := h.tail.tail
 have h2 := h1.tail.tail
 have h3 := h2.tail
 obtain ⟨a1, s1, hv1, _, _, _⟩ := laid_sentinel (g := 0) (ti := 63) (tp := 156) (te := 158) (ts := 9) h3 (by kernel_rfl) (by kernel_rfl) Tryz.underlying63 rowErr Tryz.underlying156 Tryz.underlying158 rfl rfl Tryz.underlying9 (by kernel_rfl) (by kernel_rfl)
 obtain ⟨a2, s2, hv2, _, _, _⟩ := laid_sentinel (g := 1) (ti := 63) (tp := 156) (te := 158) (ts := 9) h2 (by kernel_rfl) (by kernel_rfl) Tryz.underlying63 rowErr Tryz.underlying156 Tryz.underlying158 rfl rfl Tryz.underlying9 (by kernel_rfl) (by kernel_rfl)
 obtain ⟨m, hm⟩ := Go.Proofs.cell_of_shapedOpen_int (g := 2) (zero := #[.int .i64 0]) (t := 3) hSh (of_decide_eq_true (by kernel_rfl)) (by kernel_rfl) rfl (by kernel_rfl) (by kernel_rfl) Tryz.underlying3
 refine ⟨⟨m, hm⟩, ⟨_, _, by simpa using World.var?_cell (by kernel_rfl) hv1 0⟩, ⟨_, _, by simpa using World.var?_cell (by kernel_rfl) hv2 0⟩, ?_⟩
 exact Lib.tabIs_of_head (rest := L3 :: ("strconv.ErrRange", Rows.laid_strconv_ErrRange) :: ("strconv.ErrSyntax", Rows.laid_strconv_ErrSyntax) :: R) gPowT (t := 150) (e := 87) (by kernel_rfl) Tryz.underlying150 Tryz.underlying87 (by kernel_rfl) (by kernel_rfl) h1
section
open Go.Joins Go.Deep
variable {H : Type} {enc : TypeId × Value → H} {P : Program} {W : World} {base : Nat}
theorem rowsIntJ {t I : TypeId} {v : Value} (hu : P.underlying t = some (.slice I)) (hI : P.underlying I = some (.int .i64)) (hcI : P.cellsOf I = 1)
  {fuel : Nat} {x : DataW H × List MemPlace} (o : ∃ ad len cap, v = .slice ad len cap) (hf : DataW.trod enc P W 0 (fun _ => true) true fuel t [v] = some x) :
  ∃ (a : Option Addr) (n cap : Nat) (R : List Int), v = .slice a n cap ∧ n = R.length ∧ n ≤ 9223372036854775807 ∧ n ≤ cap ∧ cap ≤ 9223372036854775807 ∧ Vals W a (ints R) := by
 obtain ⟨ad, len, cap, rfl⟩ := o
 rcases open_ints hu hI hcI hf with ⟨e, _⟩ | ⟨ad', len', cap', zs, e, _, hlc, hm, hzl, hx, hat, _⟩
 ·simp [Value.cells] at e
  obtain ⟨rfl, rfl, rfl⟩ := e
  exact ⟨none, 0, 0, [], rfl, rfl, by omega, by omega, by omega, fun h => absurd h (by simp [ints])⟩
 ·simp [Value.cells] at e
  obtain ⟨rfl, rfl, rfl⟩ := e
  simp only [if_true] at hzl
  refine ⟨some ad', len, _, zs.take len, rfl, by simp; omega, by unfold maxLen at hm; omega, hlc, by unfold maxLen at hm; omega, fun hL => ?_⟩
  have hpos : 0 < len := by simp [ints] at hL; omega
  have hspot : ad'.spot = none := by
   have := World.cell?_spot (hat 0 (by omega))
   simpa [Addr.add] using this
  obtain ⟨b0, off, spot⟩ := ad'
  simp only at hspot
  subst hspot
  refine ⟨b0, off, rfl, ?_, fun i v hg => ?_⟩
  ·have := hat 0 (by omega)
   rw [Addr.add_mid] at this
   exact block_lt_of_cell this
  ·have hil : i < len := by
    have := (List.getElem?_eq_some_iff.1 hg).1
    simp [ints] at this; omega
   have h0 := hat i (by omega)
   rw [Addr.add_mid] at h0
   rw [ints, List.getElem?_map, List.getElem?_take, if_pos hil] at hg
   rw [h0]
   cases hz : zs[i]? with
   | none => rw [hz] at hg; simp at hg
   | some z =>
    rw [hz] at hg
    simp at hg
    simp [List.getD, hz, hg]
end
end Go.Proofs.YtkemlckmfgacdaaGreatDoor
namespace Go.Proofs.YtkemlckmfgacdaaGreatDoor
set_option maxRecDepth 20000
set_option maxHeartbeats 64000000
open Go.ChangeShapes Go.WideShapes Go.ChangeAt Go.RowKit
set_option linter.unusedVariables false
set_option linter.unusedSimpArgs false
open Tp
section
open Go.Joins Go.Deep
variable {H : Type} {enc : TypeId × Value → H} {P : Program} {W : World} {base : Nat}
theorem byte_wf {x : Int} (h : (Lit.int .u8 x).wf = true) : 0 ≤ x ∧ x < 256 := by
 have h1 : IntKind.u8.min = 0 := rfl
 have h2 : IntKind.u8.max = 255 := rfl
 simp only [Lit.wf, Bool.and_eq_true, decide_eq_true_eq] at h
 omega
theorem rowsByte {t I : TypeId} {v : Value} (hu : P.underlying t = some (.slice I)) (hI : P.underlying I = some (.int .u8)) (hcI : P.cellsOf I = 1)
  {fuel : Nat} {x : DataW H × List MemPlace} (o : ∃ ad len cap, v = .slice ad len cap) (hf : DataW.trod enc P W 0 (fun _ => true) true fuel t [v] = some x) :
  ∃ (a : Option Addr) (n cap : Nat) (s : Bs), v = .slice a n cap ∧ s.length = n ∧ n ≤ cap ∧ cap ≤ 9223372036854775807 ∧ Vals W a (u8s s) := by
 obtain ⟨ad, len, cap, rfl⟩ := o
 rcases open_ints hu hI hcI hf with ⟨e, _⟩ | ⟨ad', len', cap', zs, e, _, hlc, hm, hzl, hx, hat, hwf⟩
 ·simp [Value.cells] at e
  obtain ⟨rfl, rfl, rfl⟩ := e
  exact ⟨none, 0, 0, [], rfl, rfl, by omega, by omega, fun h => absurd h (by simp [u8s])⟩
 ·simp [Value.cells] at e
  obtain ⟨rfl, rfl, rfl⟩ := e
  simp only [if_true] at hzl
  refine ⟨some ad', len, _, (zs.take len).map (fun z => UInt8.ofNat z.toNat), rfl, by simp; omega, hlc, by unfold maxLen at hm; omega, fun hL => ?_⟩
  have hpos : 0 < len := by simp [u8s] at hL; omega
  have hspot : ad'.spot = none := by
   have := World.cell?_spot (hat 0 (by omega))
   simpa [Addr.add] using this
  obtain ⟨b0, off, spot⟩ := ad'
  simp only at hspot
  subst hspot
  refine ⟨b0, off, rfl, ?_, fun i v hg => ?_⟩
  ·have := hat 0 (by omega)
   rw [Addr.add_mid] at this
   exact block_lt_of_cell this
  ·have hil : i < len := by
    have := (List.getElem?_eq_some_iff.1 hg).1
    simp [u8s] at this; omega
   have h0 := hat i (by omega)
   rw [Addr.add_mid] at h0
   rw [u8s, List.getElem?_map, List.getElem?_map, List.getElem?_take, if_pos hil] at hg
   rw [h0]
   cases hz : zs[i]? with
   | none => rw [hz] at hg; cases hg
   | some z =>
    rw [hz] at hg
    simp only [Option.map_some, Option.some.injEq] at hg
    rw [← hg]
    have hw := byte_wf (hwf z (List.mem_of_getElem? hz))
    have e1 : zs.getD i 0 = z := by rw [List.getD_eq_getElem?_getD, hz]; rfl
    rw [e1]
    congr 2
    have e2 : (UInt8.ofNat z.toNat).toNat = z.toNat := by
     simp
     omega
    rw [e2]
    omega
end
end Go.Proofs.YtkemlckmfgacdaaGreatDoor
