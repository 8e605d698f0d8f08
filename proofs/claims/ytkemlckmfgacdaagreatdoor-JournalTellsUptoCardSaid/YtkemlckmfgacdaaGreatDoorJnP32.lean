/- What readings of an ask tell, in one form. -/
import Derived.Test.YtkemlckmfgacdaaGreatDoorJnP31
import Derived.Test.YtkemlckmfgacdaaGreatDoorJnP1
import Derived.Test.YtkemlckmfgacdaaGreatDoorJnP2
import Derived.StillTailTactics
import Derived.Deep.LoopGhost
import Derived.Deep.CutBlock
import Derived.Deep.DeepCutAuto
namespace Go.Proofs.YtkemlckmfgacdaaGreatDoor
set_option maxRecDepth 20000
set_option maxHeartbeats 64000000
open Go.ChangeShapes Go.WideShapes Go.ChangeAt Go.RowKit
set_option linter.unusedVariables false
set_option linter.unusedSimpArgs false
open Tp
def zA : Ask := .mk 0 [] [] 0 []
theorem zA_vp {p : Nat → Prop} (w : World) : AskVP p w zA zero5 := leaf_vp 0 [] [] 0 (by simp) (by simp)
theorem AskRdQ.form {w w' : World} {O : Option Ask} {e : Ending} (h : AskRdQ w O e w') : Below w.heap.size w w' ∧ ∃ (y0 : Int) (y1 y2 : ByteArray) (y3 : Int) (yd : Option Addr) (yl yc : Nat) (ec : Int), e = .returned (.tuple #[.agg #[.int .i64 y0, .string y1, .string y2, .int .i64 y3, .slice yd yl yc], .int .i64 ec]) ∧ (ec = if O.isSome then 0 else 3) ∧ AskVP (fun b => w.heap.size ≤ b) w' (O.getD zA) (.agg #[.int .i64 y0, .string y1, .string y2, .int .i64 y3, .slice yd yl yc]) := by
 obtain ⟨hb, h⟩ := h
 cases O with
 | none => exact ⟨hb, _, _, _, _, _, _, _, 3, h, rfl, zA_vp w'⟩
 | some x =>
  obtain ⟨x0, x1, x2, x3, xd, xl, xc, h1, h2⟩ := h
  exact ⟨hb, _, _, _, _, _, _, _, 0, h1, rfl, h2⟩
theorem AskRrQ.form {w w' : World} {O : Option Ask} {e : Ending} (h : AskRrQ w O e w') : Below w.heap.size w w' ∧ ∃ (z0 : Int) (z1 z2 : ByteArray) (z3 : Int) (zd : Option Addr) (zl zc : Nat), e = .returned (.tuple #[.agg #[.int .i64 z0, .string z1, .string z2, .int .i64 z3, .slice zd zl zc], .bool O.isSome]) ∧ AskVP (fun b => w.heap.size ≤ b) w' (O.getD zA) (.agg #[.int .i64 z0, .string z1, .string z2, .int .i64 z3, .slice zd zl zc]) := by
 obtain ⟨hb, h⟩ := h
 cases O with
 | none => exact ⟨hb, _, _, _, _, _, _, _, h, zA_vp w'⟩
 | some x =>
  obtain ⟨x0, x1, x2, x3, xd, xl, xc, h1, h2⟩ := h
  exact ⟨hb, _, _, _, _, _, _, _, h1, h2⟩
theorem read_law (s : Bs) (w : World) (he : Env w) : Calls Tryz.prog 34 #[.string (bts s)] w fun e w' => Below w.heap.size w w' ∧ ∃ (y0 : Int) (y1 y2 : ByteArray) (y3 : Int) (yd : Option Addr) (yl yc : Nat) (ec : Int), e = .returned (.tuple #[.agg #[.int .i64 y0, .string y1, .string y2, .int .i64 y3, .slice yd yl yc], .int .i64 ec]) ∧ ((2000 < s.length ∧ ec = 2 ∧ AskVP (fun b => w.heap.size ≤ b) w' zA (.agg #[.int .i64 y0, .string y1, .string y2, .int .i64 y3, .slice yd yl yc])) ∨ (s.length ≤ 2000 ∧ (ec = if (Ar.own (Ar.readR s) s).isSome then 0 else 3) ∧ AskVP (fun b => w.heap.size ≤ b) w' ((Ar.own (Ar.readR s) s).getD zA) (.agg #[.int .i64 y0, .string y1, .string y2, .int .i64 y3, .slice yd yl yc]))) := by
 by_cases h : 2000 < s.length
 ·refine Calls.mono (askRead_long (bts s) w (by rw [bts_size]; exact h)) ?_
  rintro e w' ⟨he, hb⟩
  exact ⟨hb, _, _, _, _, _, _, _, 2, he, .inl ⟨h, rfl, zA_vp w'⟩⟩
 ·refine Calls.mono (askRead_any s w (by omega) he) ?_
  intro e w' hq
  rw [Ar.own_same s] at hq
  obtain ⟨hb, y0, y1, y2, y3, yd, yl, yc, ec, h1, h2, h3⟩ := hq.form
  exact ⟨hb, y0, y1, y2, y3, yd, yl, yc, ec, h1, .inr ⟨by omega, h2, h3⟩⟩
end Go.Proofs.YtkemlckmfgacdaaGreatDoor
namespace Go.Proofs.YtkemlckmfgacdaaGreatDoor
set_option maxRecDepth 20000
set_option maxHeartbeats 64000000
open Go.ChangeShapes Go.WideShapes Go.ChangeAt Go.RowKit
set_option linter.unusedVariables false
open Tp Nt
theorem pcs_snoc (c : UInt8) : ∀ t : Bs, ∃ (D : List Bs) (l : Bs), pcs c t = D ++ [l] ∧ l.length ≤ t.length ∧ D.length ≤ t.length ∧ ∀ x, pcs c (t ++ [x]) = if x = c then D ++ [l] ++ [[]] else D ++ [l ++ [x]]
 | [] => ⟨[], [], rfl, Nat.le_refl _, Nat.le_refl _, fun x => by
  show pcs c [x] = _
  rw [pcs]
  split <;> rfl⟩
 | y :: t => by
  obtain ⟨D, l, h1, h2, h4, h3⟩ := pcs_snoc c t
  by_cases hy : y = c
  ·refine ⟨[] :: D, l, by rw [pcs, if_pos hy, h1]; rfl, by simp; omega, by simp; omega, fun x => ?_⟩
   rw [List.cons_append, pcs, if_pos hy, h3]
   split <;> rfl
  ·cases D with
   | nil =>
    refine ⟨[], y :: l, by rw [pcs, if_neg hy, h1]; rfl, by simp; omega, by simp, fun x => ?_⟩
    rw [List.cons_append, pcs, if_neg hy, h3]
    by_cases hx : x = c
    ·rw [if_pos hx, if_pos hx]; rfl
    ·rw [if_neg hx, if_neg hx]; rfl
   | cons d D =>
    refine ⟨(y :: d) :: D, l, by rw [pcs, if_neg hy, h1]; rfl, by simp; omega, by simp at h4 ⊢; omega, fun x => ?_⟩
    rw [List.cons_append, pcs, if_neg hy, h3]
    by_cases hx : x = c
    ·rw [if_pos hx, if_pos hx]; rfl
    ·rw [if_neg hx, if_neg hx]; rfl
structure PcsW (B : Nat) (c : UInt8) (t : Bs) (x : Value) (w wr : World) : Prop where
 own : wr.ownsRow B 9 1 x (pcs c t).length (txv (pcs c t))
 below : Below B w wr
def PiecesQ (w : World) (c : UInt8) (s : Bs) (e : Ending) (w' : World) : Prop := ∃ v, e = .returned v ∧ w'.ownsRow w.heap.size 9 1 v (pcs c s).length (txv (pcs c s)) ∧ Below w.heap.size w w'
theorem Pieces_any (s : Bs) (c : UInt8) (w : World) (hs : s.length ≤ 1099511627776) : Calls Tryz.prog 44 #[.string (bts s), .int .u8 (c.toNat : Int)] w fun e w' => PiecesQ w c s e w' := by
 obtain ⟨S, hS⟩ : ∃ S, bts s = S := ⟨_, rfl⟩
 obtain ⟨n, hn⟩ : ∃ n, s.length = n := ⟨_, rfl⟩
 have hsz : S.size = n := by rw [← hS, bts_size, hn]
 have HS := hid hS
 have HN := hid hn
 rw [hn] at hs
 rw [hS]
 obtain ⟨B, hB⟩ : ∃ B, w.heap.size = B := ⟨_, rfl⟩
 have HB := hid hB
 have h0 : Hid (PcsW B c (s.take 0) (.slice (some ⟨B, 0, none⟩) 1 1) w (w.alloc (.cells #[.string ⟨#[]⟩] 9))) := hid (by
  refine ⟨?_, by rw [← hB]; exact (Below.refl _ _).alloc lr _⟩
  have := World.ownsRow_lit (base := B) (e := 9) (size := 1) w #[.string ⟨#[]⟩] 1 (Nat.le_of_eq hB.symm) (by decide) rfl
  rw [hB] at this
  exact this)
 clear hS hn
 unfold PiecesQ
 rw [hB]
 go_enter Tryz.func44, Tryz.ntmps44
 go_upto_block 0 with fail
 clear hB
 go_wp2_with fail
 go_loopg [5, 10] n (fun g x y wr => ∃ (j : Nat), j + g = n ∧ y = .int .i64 (j : Int) ∧ Hid (PcsW B c (s.take j) x w wr))
 case atStart => exact ⟨0, by omega, rfl, h0⟩
 case round =>
  obtain ⟨j, hj, rfl, HW⟩ := hrel
  have HJ := hid hj
  by_cases hjn : j < n
  ·obtain ⟨x, hx⟩ : ∃ x, s[j]? = some x := ⟨_, List.getElem?_eq_getElem (by rw [HN.out]; exact hjn)⟩
   have hxs : (lst S)[j]? = some x := by rw [← HS.out, lst_bts]; exact hx
   have hjs : j < S.size := by omega
   have hc1 : S[j]'hjs = x := lst_at hxs hjs
   have HT := hid (take_snoc hx)
   obtain ⟨D, l, e1, e2, e4, e3⟩ := pcs_snoc c (s.take j)
   have hj1 : (0 : Int) ≤ (j : Int) := by omega
   have hj2 : (j : Int) < (n : Int) := by omega
   have HE1 := hid e1
   have HE3 := hid (e3 x)
   have hlj : l.length ≤ j := by rw [List.length_take] at e2; omega
   have hDj : D.length ≤ j := by rw [List.length_take] at e4; omega
   have hown := HW.out.own
   rw [HE1.out] at hown
   obtain ⟨K, hK⟩ : ∃ K, D ++ [l] = K := ⟨_, rfl⟩
   obtain ⟨m, hm⟩ : ∃ m, K.length = m := ⟨_, rfl⟩
   have hmD : m = D.length + 1 := by rw [← hm, ← hK]; simp
   rw [hK, hm] at hown
   obtain ⟨a4, cp4, hv, hcp, hcp2, hO9⟩ := ownForm hown
   obtain ⟨g, rfl⟩ := hO9 (by omega)
   subst hv
   have HKE := hid hK
   have HM := hid hm
   have HOWN := hid hown
   have HBEL := hid HW.out.below
   have hmm : m ≤ n + 1 := by omega
   have HMD := hid hmD
   have hBw : B ≤ wr.heap.size := by have := HBEL.out.size; have := HB.out; omega
   by_cases hxc : x = c
   ·have hcmp : ((x.toNat : Int) == (c.toNat : Int)) = true := by rw [hxc]; simp
    have HNEW : Hid (pcs c (s.take (j + 1)) = K ++ [[]]) := hid (by rw [HT.out, HE3.out, if_pos hxc, HKE.out])
    clear hx hxs e1 e3 hK hm hmD hown hO9 hxc hj
    go_upto_region 6 with fail
    go_wp2_with (at_builtin; go_loud (refine wpList_push wr (by rfl) _ _ 60 (by rfl) B 9 (.string ⟨#[]⟩) 16 Tryz.underlying60 infoStr (by rfl) (.slice (some ⟨g, 0, none⟩) m cp4) m (txv K) (.string ⟨#[]⟩) _ rfl (by rfl) HOWN.out (by rfl) (by rfl) (by unfold maxLen; omega) (by omega) hBw ?_; intro gg cap3 w5 hown5 hgrow hgb hgl; have HW5 : Hid (PcsW B c (s.take (j + 1)) (.slice (some ⟨gg, 0, none⟩) (m + 1) cap3) w w5) := hid (by refine ⟨?_, HBEL.out.grown hgrow hBw (ownBlock_ge HOWN.out lr)⟩; rw [HNEW.out, txv_push, List.length_append, HM.out]; exact hown5); clear hown5 hgrow hgb hgl))
    go_roundg (n - (j + 1))
    case measure => (have := HJ.out; omega)
    case rel => exact ⟨j + 1, by have := HJ.out; omega, by simp, HW5⟩
   ·have hcmp : ((x.toNat : Int) == (c.toNat : Int)) = false := by
     simp only [beq_eq_false_iff_ne]
     intro e
     exact hxc (UInt8.toNat_inj.1 (by omega))
    have HNEW : Hid (pcs c (s.take (j + 1)) = K.set D.length (l ++ [x])) := hid (by rw [HT.out, HE3.out, if_neg hxc, ← HKE.out]; simp)
    obtain ⟨d, hd⟩ : ∃ d, D.length = d := ⟨_, rfl⟩
    rw [hd] at HNEW HMD
    obtain ⟨L, hL⟩ : ∃ L, bts l = L := ⟨_, rfl⟩
    obtain ⟨X, hX⟩ : ∃ L, bts [x] = L := ⟨_, rfl⟩
    have HLX : Hid (L ++ X = bts (l ++ [x])) := hid (by rw [← hL, ← hX, bts_append])
    have hLs : L.size = l.length := by rw [← hL, bts_size]
    have hXs : X.size = 1 := by rw [← hX, bts_size]; rfl
    have hext : S.extract j (j + 1) = X := by
     rw [← hX]
     apply ByteArray.ext
     apply Array.toList_inj.1
     show (S.extract j (j + 1)).data.toList = [x]
     have e : (S.extract j (j + 1)).data.toList = ((lst S).drop j).take 1 := by
      show (S.extract j (j + 1)).data.toList = (S.data.toList.drop j).take 1
      simp [ByteArray.data_extract, Array.toList_extract]
     rw [e, drop_some hxs]
     rfl
    have hcell : wr.cell? ⟨g, d, none⟩ = some (.string L) := by
     rw [HOWN.out.cellAt d (by rw [HMD.out]; omega), ← hL]
     exact txv_at (by rw [← HKE.out, ← hd]; simp)
    have hfrz := HOWN.out.frozenAt d
    have hlt := (HOWN.out.lt g rfl).2
    have hglo := (HOWN.out.lt g rfl).1
    have hst := HOWN.out.stored d (.string (L ++ X))
    have HW5 : Hid (∀ q, PcsW B c (s.take (j + 1)) (.slice (some ⟨g, 0, none⟩) m cp4) w ((wr.setCell ⟨g, d, none⟩ (.string (L ++ X))).drewN q)) := hid (fun q => by
     refine ⟨ownsRow_below ?_ ((Drawn.drewN _ _).below _), (HBEL.out.setCell (p := ⟨g, d, none⟩) hglo _).trans ((Drawn.drewN _ _).below _)⟩
     rw [HNEW.out, List.length_set, HM.out, show txv (K.set d (l ++ [x])) = (txv K).set d (.string (L ++ X)) from by rw [HLX.out]; simp [txv, List.map_set]]
     exact hst.1)
    have hdm : ((m : Int) - 1) = (d : Int) := by have := HMD.out; omega
    have hd1 : (0 : Int) ≤ (d : Int) := by omega
    have hd2 : (d : Int) < (m : Int) := by have := HMD.out; omega
    have hw1 : IntKind.i64.wrap (d : Int) = (d : Int) := IntWalk.i64_in _ (by omega)
    have hw2 : IntKind.i64.wrap ((j : Int) + 1) = (j : Int) + 1 := IntWalk.i64_in _ (by omega)
    clear hx hxs e1 e3 hK hm hmD hown hO9 hxc hj hst hd hL hX
    have hs2 : (j : Int) ≤ (j : Int) + 1 := by omega
    have hs3 : (j : Int) + 1 ≤ (n : Int) := by omega
    have hs4 : ¬ ((j : Int) + 1 < (j : Int)) := by omega
    have hs5 : ¬ ((n : Int) < (j : Int) + 1) := by omega
    have hadd : ¬ 9223372036854775807 < L.size + 1 := by rw [hLs]; omega
    have hadd2 : L.size + 1 ≤ 9223372036854775807 := by omega
    have hadd3 : L.size ≤ 9223372036854775806 := by omega
    clear hLs
    go_upto_region 7 with fail
    go_still_tail 13, (by kernel_rfl)
    go_wp2_with fail
    go_roundg (n - (j + 1))
    case measure => (have := HJ.out; omega)
    case rel => exact ⟨j + 1, by have := HJ.out; omega, by simp, HW5.out 1⟩
  ·obtain rfl : j = n := by omega
   go_wp2_with fail
   go_ret
   have h9 := HW.out
   rw [← HN.out, List.take_length] at h9
   exact ⟨_, rfl, h9.own, h9.below⟩
end Go.Proofs.YtkemlckmfgacdaaGreatDoor
