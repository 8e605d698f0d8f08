/- Contract: job.Read. -/
import Derived.Test.YtkemlckmfgacdaaGreatDoorJobP9
import Derived.Deep.LoopGhost
import Derived.Deep.Light
import Derived.Deep.CutBlock
import Derived.Deep.DeepCutAuto
import Derived.Test.YtkemlckmfgacdaaGreatDoorJobP7
import Derived.Test.YtkemlckmfgacdaaGreatDoorJobP1
import Derived.Test.YtkemlckmfgacdaaGreatDoorJobP8
import Derived.RegionTactic
namespace Go.Proofs.YtkemlckmfgacdaaGreatDoor
open Go.ChangeShapes Go.WideShapes Go.ChangeAt Go.RowKit
set_option linter.unusedVariables false
set_option linter.unusedSimpArgs false
open Tp Jm
/-- what is handed to the end of a walk, kept from go_light -/
structure KR (P : Program) (Q : Exit → Act → World → Prop) (K : Act → World → Prop) : Prop where
  out : ∀ (a : Act) (w : World), Code.wp P Code.ret Q a w → K a w
theorem KR.of {P : Program} {Q : Exit → Act → World → Prop} {K : Act → World → Prop} (h : ∀ (a : Act) (w : World), Code.wp P Code.ret Q a w → K a w) : KR P Q K := ⟨h⟩
theorem KR.fin {P : Program} {Q : Exit → Act → World → Prop} {K : Act → World → Prop} (h : KR P Q K) {a : Act} {w : World} (hq : Q Exit.ret a w) : K a w := h.out a w (wp_ret hq)
theorem But.grown {rb : Nat} {w w1 w5 : World} {row : Option Nat} (h : But rb w w1) (hg : w1.grownBy w5 row) (hr : ∀ k, row = some k → w.heap.size ≤ k) : But rb w w5 :=
  ⟨hg.os.trans h.os, hg.tape.trans h.tape, hg.output.trans h.out, Nat.le_trans h.size hg.size, fun k hk hn => (hg.block k (Nat.lt_of_lt_of_le hk h.size) (fun e => absurd (hr k e.symm) (by omega))).trans (h.block k hk hn)⟩
theorem BoxV.but {rb c : Nat} {vs : List Value} {w w' : World} (h : BoxV c vs w) (hb : But rb w w') (hc : c ≠ rb) : BoxV c vs w' :=
  ⟨Nat.lt_of_lt_of_le h.lt hb.size, fun i v hi => (hb.cell (p := ⟨c, i, none⟩) h.lt hc).trans (h.cell i v hi), fun i => (hb.frozen (p := ⟨c, i, none⟩) h.lt hc).trans (h.fz i)⟩
/-- how it stands behind the ask: the job's box J alone is turned; the numbers lie in a row of the call's own -/
structure JSt (J : Nat) (w11 : World) (bs : Nat) (U : ByteArray) (p a b c y0 : Int) (y1 y2 : ByteArray) (y3 : Int) (yd : Option Addr) (yl yc : Nat) (l : List Int) (v : Value) (W : World) : Prop where
  but : But J w11 W
  box : BoxV J (jcells U p a b c y0 y1 y2 y3 yd yl yc v) W
  own : W.ownsRow bs 3 1 v l.length (ints l)
  lo : w11.heap.size ≤ bs
  hi : bs ≤ W.heap.size
theorem JSt.step {J : Nat} {w11 : World} {bs : Nat} {U : ByteArray} {p a b c y0 : Int} {y1 y2 : ByteArray} {y3 : Int} {yd : Option Addr} {yl yc : Nat} {l : List Int} {v : Value} {W W' : World} (h : JSt J w11 bs U p a b c y0 y1 y2 y3 yd yl yc l v W) (hb : Below W.heap.size W W') : JSt J w11 bs U p a b c y0 y1 y2 y3 yd yl yc l v W' :=
  ⟨h.but.trans (But.ofBelow hb (Nat.le_refl _)), h.box.step hb, ownsRow_below h.own hb, h.lo, Nat.le_trans h.hi hb.size⟩
theorem JSt.push {J : Nat} {w11 : World} {bs : Nat} {U : ByteArray} {p a b c y0 : Int} {y1 y2 : ByteArray} {y3 : Int} {yd : Option Addr} {yl yc : Nat} {l : List Int} {v : Value} {W w5 : World} {n : Int} {g cp : Nat} (h : JSt J w11 bs U p a b c y0 y1 y2 y3 yd yl yc l v W) (hJ : J < w11.heap.size)
    (ho : w5.ownsRow bs 3 1 (.slice (some ⟨g, 0, none⟩) (l.length + 1) cp) (l.length + 1) (ints l ++ [.int .i64 n])) (hg : W.grownBy w5 v.ownBlock) :
    BoxV J (jcells U p a b c y0 y1 y2 y3 yd yl yc v) w5 ∧ JSt J w11 bs U p a b c y0 y1 y2 y3 yd yl yc (l ++ [n]) (.slice (some ⟨g, 0, none⟩) (l.length + 1) cp) (w5.setCell ⟨J, 10, none⟩ (.slice (some ⟨g, 0, none⟩) (l.length + 1) cp)) := by
  have hge : ∀ k, v.ownBlock = some k → w11.heap.size ≤ k := fun k hk => Nat.le_trans h.lo (h.own.lt k hk).1
  have hb5 : BoxV J (jcells U p a b c y0 y1 y2 y3 yd yl yc v) w5 := h.box.grown hg (fun e => absurd (hge J e.symm) (by omega))
  refine ⟨hb5, (h.but.grown hg hge).setCell (a := ⟨J, 10, none⟩) (.inl rfl) _, hb5.set 10 _, ?_, h.lo, by simpa using Nat.le_trans h.hi hg.size⟩
  rw [List.length_append, List.length_singleton, ints_push]
  exact ownsRow_setCell_below ho (a := ⟨J, 10, none⟩) (Nat.lt_of_lt_of_le hJ h.lo) _
theorem puts_own {bs c : Nat} {e : TypeId} {v : Value} {n : Nat} {xs : List Value} (hc : c < bs) : ∀ (vs : List Value) (W : World) (i : Nat), W.ownsRow bs e 1 v n xs → (puts W c i vs).ownsRow bs e 1 v n xs
  | [], W, i, h => h
  | u :: vs, W, i, h => by rw [puts]; exact puts_own hc vs _ _ (ownsRow_setCell_below h (a := ⟨c, i, none⟩) hc u)
set_option maxRecDepth 20000 in
set_option maxHeartbeats 8000000 in
/-- a long text -/
theorem jobRead_long (s : Bs) (w : World) (hs : 3000 < s.length) : Calls Tryz.prog 7 #[.string (bts s)] w (JobRdQ w none 2) := by
  obtain ⟨S, hS⟩ : ∃ S, bts s = S := ⟨_, rfl⟩
  obtain ⟨n, hn⟩ : ∃ n, S.size = n := ⟨_, rfl⟩
  have hns : s.length = n := by rw [← hn, ← hS, bts_size]
  obtain ⟨C, hC⟩ : ∃ C, C = w.heap.size := ⟨_, rfl⟩
  obtain ⟨W0, hW0⟩ : ∃ W, W = w.alloc (.cells #[.string ⟨#[]⟩, .int .i64 0, .int .i64 0, .int .i64 0, .int .i64 0, .int .i64 0, .string ⟨#[]⟩, .string ⟨#[]⟩, .int .i64 0, .slice none 0 0, .slice none 0 0] 29) := ⟨_, rfl⟩
  have HB0 : Hid (Below w.heap.size w W0) := Lib.hid (by rw [hW0]; exact (Below.refl _ _).alloc (Nat.le_refl _) _)
  have HBC0 : Hid (BoxV C zcells W0) := Lib.hid (by rw [hW0]; exact BoxV.top zcells hC)
  have HC : Hid (C = w.heap.size) := Lib.hid hC
  have hn3 : (3000 : Int) < (n : Int) := by omega
  obtain ⟨O, hO⟩ : ∃ O : Option Jb, O = none := ⟨_, rfl⟩
  have HP := Lib.hid hO
  rw [← hO, hS]
  clear hS hs hns hO
  go_enter Tryz.func7, Tryz.ntmps7
  go_upto_region 1 with fail
  rw [← hW0, ← hC]
  clear hW0 hC
  have r0 := HBC0.out.cell 0 _ rfl
  have r1 := HBC0.out.cell 1 _ rfl
  have r2 := HBC0.out.cell 2 _ rfl
  have r3 := HBC0.out.cell 3 _ rfl
  have r4 := HBC0.out.cell 4 _ rfl
  have r5 := HBC0.out.cell 5 _ rfl
  have r6 := HBC0.out.cell 6 _ rfl
  have r7 := HBC0.out.cell 7 _ rfl
  have r8 := HBC0.out.cell 8 _ rfl
  have r9 := HBC0.out.cell 9 _ rfl
  have r10 := HBC0.out.cell 10 _ rfl
  have rf0 := HBC0.out.fz 0
  have rf1 := HBC0.out.fz 1
  have rf2 := HBC0.out.fz 2
  have rf3 := HBC0.out.fz 3
  have rf4 := HBC0.out.fz 4
  have rf5 := HBC0.out.fz 5
  have rf6 := HBC0.out.fz 6
  have rf7 := HBC0.out.fz 7
  have rf8 := HBC0.out.fz 8
  have rf9 := HBC0.out.fz 9
  have rf10 := HBC0.out.fz 10
  have hcl := HBC0.out.lt
  go_wp2_with fail
  refine bodyPost_ret (v := .tuple #[.agg #[.string ⟨#[]⟩, .int .i64 0, .int .i64 0, .int .i64 0, .int .i64 0, .int .i64 0, .string ⟨#[]⟩, .string ⟨#[]⟩, .int .i64 0, .slice none 0 0, .slice none 0 0], .int .i64 2]) (by simp [results, Tryz.results7, go_sem, cell_set, r0, r1, r2, r3, r4, r5, r6, r7, r8, r9, r10, hcl]) rfl ?_
  show JobRdQ w O 2 _ (puts W0 C 0 [.string ⟨#[]⟩, .int .i64 0, .int .i64 0, .int .i64 0, .int .i64 0, .int .i64 0, .string ⟨#[]⟩, .string ⟨#[]⟩, .int .i64 0, .slice none 0 0, .slice none 0 0])
  rw [HP.out]
  exact ⟨puts_below C (Nat.le_of_eq HC.out.symm) _ _ _ HB0.out, rfl⟩
set_option maxRecDepth 20000 in
set_option maxHeartbeats 16000000 in
theorem jobRead_few (s : Bs) (w : World) (hs : s.length ≤ 3000) (he : Env w) (h5 : (Nt.pcs 32 s).length ≠ 5) : Calls Tryz.prog 7 #[.string (bts s)] w (JobRdQ w none 3) := by
  obtain ⟨S, hS⟩ : ∃ S, bts s = S := ⟨_, rfl⟩
  obtain ⟨n, hn⟩ : ∃ n, S.size = n := ⟨_, rfl⟩
  have hns : s.length = n := by rw [← hn, ← hS, bts_size]
  obtain ⟨C, hC⟩ : ∃ C, C = w.heap.size := ⟨_, rfl⟩
  obtain ⟨W0, hW0⟩ : ∃ W, W = w.alloc (.cells #[.string ⟨#[]⟩, .int .i64 0, .int .i64 0, .int .i64 0, .int .i64 0, .int .i64 0, .string ⟨#[]⟩, .string ⟨#[]⟩, .int .i64 0, .slice none 0 0, .slice none 0 0] 29) := ⟨_, rfl⟩
  have HB0 : Hid (Below w.heap.size w W0) := Lib.hid (by rw [hW0]; exact (Below.refl _ _).alloc (Nat.le_refl _) _)
  have HBC0 : Hid (BoxV C zcells W0) := Lib.hid (by rw [hW0]; exact BoxV.top zcells hC)
  have HC : Hid (C = w.heap.size) := Lib.hid hC
  have hn3 : ¬ (3000 : Int) < (n : Int) := by omega
  obtain ⟨G, hG⟩ : ∃ G, G = W0.heap.size := ⟨_, rfl⟩
  obtain ⟨P, hP⟩ : ∃ P, Nt.pcs 32 s = P := ⟨_, rfl⟩
  rw [hP] at h5
  obtain ⟨m, hm⟩ : ∃ m, P.length = m := ⟨_, rfl⟩
  have hm5 : ¬ (m : Int) = 5 := by omega
  have hm51 : ((m : Int) == 5) = false := by simpa using hm5
  have hm52 : ((m : Int) != 5) = true := by simpa using hm5
  have HSP : Hid (Calls Tryz.prog 31 #[.string S, .string ⟨#[32]⟩] W0 fun e w' => e = .returned (.slice (some ⟨G, 0, none⟩) m m) ∧ Below W0.heap.size W0 w') := Lib.hid (by
    have h := Split_any s 32 W0 (by omega) (he.below HB0.out (Nat.le_refl _))
    rw [hS, hP, hm, ← hG] at h
    refine Calls.mono h ?_
    rintro e w' ⟨h1, h2⟩
    exact ⟨h1, by rw [h2]; exact (Below.refl _ _).alloc (Nat.le_refl _) _⟩)
  obtain ⟨O, hO⟩ : ∃ O : Option Jb, O = none := ⟨_, rfl⟩
  have HP := Lib.hid hO
  rw [← hO, hS]
  clear hS hs hns hO hP h5 hm he
  go_enter Tryz.func7, Tryz.ntmps7
  go_upto_region 1 with fail
  rw [← hW0, ← hC]
  clear hW0 hC
  go_wp2_with fail
  refine Calls.mono HSP.out ?_
  rintro e W1 ⟨rfl, hb1⟩
  have HB1 := Lib.hid (HB0.out.trans (hb1.mono HB0.out.size))
  have HBC1 := Lib.hid (HBC0.out.step hb1)
  clear hb1
  have r0 := HBC1.out.cell 0 _ rfl
  have r1 := HBC1.out.cell 1 _ rfl
  have r2 := HBC1.out.cell 2 _ rfl
  have r3 := HBC1.out.cell 3 _ rfl
  have r4 := HBC1.out.cell 4 _ rfl
  have r5 := HBC1.out.cell 5 _ rfl
  have r6 := HBC1.out.cell 6 _ rfl
  have r7 := HBC1.out.cell 7 _ rfl
  have r8 := HBC1.out.cell 8 _ rfl
  have r9 := HBC1.out.cell 9 _ rfl
  have r10 := HBC1.out.cell 10 _ rfl
  have rf0 := HBC1.out.fz 0
  have rf1 := HBC1.out.fz 1
  have rf2 := HBC1.out.fz 2
  have rf3 := HBC1.out.fz 3
  have rf4 := HBC1.out.fz 4
  have rf5 := HBC1.out.fz 5
  have rf6 := HBC1.out.fz 6
  have rf7 := HBC1.out.fz 7
  have rf8 := HBC1.out.fz 8
  have rf9 := HBC1.out.fz 9
  have rf10 := HBC1.out.fz 10
  have hcl := HBC1.out.lt
  go_wp2_with fail
  refine bodyPost_ret (v := .tuple #[.agg #[.string ⟨#[]⟩, .int .i64 0, .int .i64 0, .int .i64 0, .int .i64 0, .int .i64 0, .string ⟨#[]⟩, .string ⟨#[]⟩, .int .i64 0, .slice none 0 0, .slice none 0 0], .int .i64 3]) (by simp [results, Tryz.results7, go_sem, cell_set, r0, r1, r2, r3, r4, r5, r6, r7, r8, r9, r10, hcl]) rfl ?_
  show JobRdQ w O 3 _ (puts W1 C 0 [.string ⟨#[]⟩, .int .i64 0, .int .i64 0, .int .i64 0, .int .i64 0, .int .i64 0, .string ⟨#[]⟩, .string ⟨#[]⟩, .int .i64 0, .slice none 0 0, .slice none 0 0])
  rw [HP.out]
  exact ⟨puts_below C (Nat.le_of_eq HC.out.symm) _ _ _ HB1.out, rfl⟩
theorem askS_size {s : Bs} {x : Ask} (h : askS s = some x) : x.size ≤ 1000000000 := by
  unfold askS at h
  split at h
  · cases h
  unfold Ar.own at h
  split at h
  · cases h
  split at h
  · rename_i y _ hh
    cases h
    have := (Ar.fault_good hh.1).2
    omega
  · cases h
theorem infoIntJ : (Tryz.prog.info? 3).map (fun i => (i.zero, i.size, i.bytes)) = some (some (.int .i64 0), 1, 8) := by kernel_rfl
set_option maxRecDepth 20000 in
set_option maxHeartbeats 16000000 in
theorem jobRead_five (s : Bs) (w : World) (hs : s.length ≤ 3000) (he : Env w) {u p n f x : Bs} (h5 : Nt.pcs 32 s = [u, p, n, f, x]) : Calls Tryz.prog 7 #[.string (bts s)] w (JobRdQ w (rdA s) 3) := by
  obtain ⟨S, hS⟩ : ∃ S, bts s = S := ⟨_, rfl⟩
  obtain ⟨nn, hn⟩ : ∃ n, S.size = n := ⟨_, rfl⟩
  have hns : s.length = nn := by rw [← hn, ← hS, bts_size]
  obtain ⟨C, hC⟩ : ∃ C, C = w.heap.size := ⟨_, rfl⟩
  obtain ⟨W0, hW0⟩ : ∃ W, W = w.alloc (.cells #[.string ⟨#[]⟩, .int .i64 0, .int .i64 0, .int .i64 0, .int .i64 0, .int .i64 0, .string ⟨#[]⟩, .string ⟨#[]⟩, .int .i64 0, .slice none 0 0, .slice none 0 0] 29) := ⟨_, rfl⟩
  have HB0 : Hid (Below w.heap.size w W0) := Lib.hid (by rw [hW0]; exact (Below.refl _ _).alloc (Nat.le_refl _) _)
  have HBC0 : Hid (BoxV C zcells W0) := Lib.hid (by rw [hW0]; exact BoxV.top zcells hC)
  have HC : Hid (C = w.heap.size) := Lib.hid hC
  have hn3 : ¬ (3000 : Int) < (nn : Int) := by omega
  obtain ⟨G, hG⟩ : ∃ G, G = W0.heap.size := ⟨_, rfl⟩
  obtain ⟨U, hU⟩ : ∃ S, bts u = S := ⟨_, rfl⟩
  obtain ⟨Pp, hPp⟩ : ∃ S, bts p = S := ⟨_, rfl⟩
  obtain ⟨Nn, hNn⟩ : ∃ S, bts n = S := ⟨_, rfl⟩
  obtain ⟨Ff, hFf⟩ : ∃ S, bts f = S := ⟨_, rfl⟩
  obtain ⟨Xx, hXx⟩ : ∃ S, bts x = S := ⟨_, rfl⟩
  obtain ⟨W1, hW1⟩ : ∃ W, W = W0.alloc (.cells #[.string U, .string Pp, .string Nn, .string Ff, .string Xx] 9) := ⟨_, rfl⟩
  have hb1 : Below W0.heap.size W0 W1 := by rw [hW1]; exact (Below.refl _ _).alloc (Nat.le_refl _) _
  have HSP : Hid (Calls Tryz.prog 31 #[.string S, .string ⟨#[32]⟩] W0 fun e w' => e = .returned (.slice (some ⟨G, 0, none⟩) 5 5) ∧ w' = W1) := Lib.hid (by
    have h := Split_any s 32 W0 (by omega) (he.below HB0.out (Nat.le_refl _))
    rw [hS, h5, ← hG] at h
    refine Calls.mono h ?_
    rintro e w' ⟨h1, h2⟩
    refine ⟨h1, ?_⟩
    rw [h2, hW1, ← hU, ← hPp, ← hNn, ← hFf, ← hXx]
    rfl)
  have HB1 : Hid (Below w.heap.size w W1) := Lib.hid (HB0.out.trans (hb1.mono HB0.out.size))
  have HBC1 := Lib.hid (HBC0.out.step hb1)
  have HBG1 : Hid (BoxV G [.string U, .string Pp, .string Nn, .string Ff, .string Xx] W1) := Lib.hid (by rw [hW1]; exact BoxV.top [.string U, .string Pp, .string Nn, .string Ff, .string Xx] hG)
  obtain ⟨J, hJ⟩ : ∃ J, J = W1.heap.size := ⟨_, rfl⟩
  obtain ⟨W2, hW2⟩ : ∃ W, W = W1.alloc (.cells #[.string U, .int .i64 0, .int .i64 0, .int .i64 0, .int .i64 0, .int .i64 0, .string ⟨#[]⟩, .string ⟨#[]⟩, .int .i64 0, .slice none 0 0, .slice none 0 0] 29) := ⟨_, rfl⟩
  have hbn : Below W1.heap.size W1 W2 := by rw [hW2]; exact (Below.refl _ _).alloc (Nat.le_refl _) _
  have HJW : Hid (w.heap.size ≤ J ∧ J ≠ C ∧ J ≠ G) := Lib.hid ⟨by rw [hJ]; exact HB1.out.size, by rw [hJ]; exact Nat.ne_of_gt HBC1.out.lt, by rw [hJ]; exact Nat.ne_of_gt HBG1.out.lt⟩
  have HB2 := Lib.hid (HB1.out.trans (hbn.mono HB1.out.size))
  have HBC2 := Lib.hid (HBC1.out.step hbn)
  have HBG2 := Lib.hid (HBG1.out.step hbn)
  have HBJ2 : Hid (BoxV J (jcells U 0 0 0 0 0 ⟨#[]⟩ ⟨#[]⟩ 0 none 0 0 (.slice none 0 0)) W2) := Lib.hid (by rw [hW2]; exact BoxV.top (jcells U 0 0 0 0 0 ⟨#[]⟩ ⟨#[]⟩ 0 none 0 0 (.slice none 0 0)) hJ)
  have HEV : Hid (∀ W, Below w.heap.size w W → Env W) := Lib.hid (fun W h => he.below h (Nat.le_refl _))
  have hlen : ∀ t, t ∈ Nt.pcs 32 s → t.length ≤ 3000 := fun t ht => Nat.le_trans (pcs_len 32 s t ht) hs
  rw [h5] at hlen
  have HAT : Hid (∀ W, Env W → Calls Tryz.prog 32 #[.string Pp] W (AtoiQ W p)) := Lib.hid (fun W h => by rw [← hPp]; exact Atoi_any p W (by have := hlen p (by simp); omega) h)
  have HND : Hid (∀ W, Env W → Calls Tryz.prog 33 #[.string Nn] W fun e w' => Below W.heap.size W w' ∧ ∃ (v : Nt.V3) (code : Int), e = .returned (.tuple #[.agg #[.int .i64 (v.1 : Int), .int .i64 (v.2.1 : Int), .int .i64 (v.2.2 : Int)], .int .i64 code]) ∧ ((nd n = some v ∧ code = 0) ∨ (nd n = none ∧ code ≠ 0))) := Lib.hid (fun W h => by rw [← hNn]; exact need_p n W (by have := hlen n (by simp); omega) h)
  have HAK := Lib.hid (fun W (h : Env W) => ask_p x W h)
  rw [hXx] at HAK
  have HSPF : Hid (∀ W, Env W → Calls Tryz.prog 31 #[.string Ff, .string ⟨#[44]⟩] W fun e w' => e = .returned (.slice (some ⟨W.heap.size, 0, none⟩) (Nt.pcs 44 f).length (Nt.pcs 44 f).length) ∧ w' = W.alloc (.cells (txv (Nt.pcs 44 f)).toArray 9)) := Lib.hid (fun W h => by rw [← hFf]; exact Split_any f 44 W (by have := hlen f (by simp); omega) h)
  have HFL : Hid (f.length ≤ 3000) := Lib.hid (hlen f (by simp))
  have HUL : Hid (u.length ≤ 1099511627776) := Lib.hid (by have := hlen u (by simp); omega)
  have HXL : Hid (x.length ≤ 3000) := Lib.hid (hlen x (by simp))
  have HFF := Lib.hid hFf
  have HUU := Lib.hid hU
  have HSS := Lib.hid hS
  obtain ⟨O, hO⟩ : ∃ O, own (parse numA askS s) s = O := ⟨_, rfl⟩
  have HO : Hid (own (parse5 numA askS u p n f x) s = O) := Lib.hid (by rw [← hO]; unfold parse; rw [h5])
  unfold rdA
  rw [hO, hS]
  clear hS hs hns hO h5 hlen he hb1 hbn hU hPp hNn hFf hXx
  go_enter Tryz.func7, Tryz.ntmps7
  go_upto_region 1 with fail
  rw [← hW0, ← hC]
  clear hW0 hC
  go_wp2_with fail
  refine Calls.mono HSP.out ?_
  rintro e w1 ⟨rfl, rfl⟩
  have g0 := HBG1.out.cell 0 _ rfl
  have g1 := HBG1.out.cell 1 _ rfl
  have g2 := HBG1.out.cell 2 _ rfl
  have g3 := HBG1.out.cell 3 _ rfl
  have g4 := HBG1.out.cell 4 _ rfl
  have hgl := HBG1.out.lt
  clear hW1 hG
  go_upto_region 7 with fail
  rw [← hW2, ← hJ]
  clear hW2 hJ
  clear g0 g1 g2 g3 g4 hgl
  have g0 := HBG2.out.cell 0 _ rfl
  have g1 := HBG2.out.cell 1 _ rfl
  have g2 := HBG2.out.cell 2 _ rfl
  have g3 := HBG2.out.cell 3 _ rfl
  have g4 := HBG2.out.cell 4 _ rfl
  go_wp2_with fail
  refine Calls.mono (HAT.out W2 (HEV.out W2 HB2.out)) ?_
  intro e W3 hq
  obtain ⟨v, ev, rfl, hbn, hev⟩ : ∃ (v : Int) (ev : Value), e = .returned (.tuple #[.int .i64 v, ev]) ∧ Below W2.heap.size W2 W3 ∧ ((numA p = some v ∧ ev = .nilIface) ∨ (numA p = none ∧ ∃ t q, ev = .iface t q)) := by
    obtain ⟨hb, hq⟩ := hq
    cases hp : numA p with
    | some v => rw [hp] at hq; exact ⟨v, _, hq, hb, .inl ⟨rfl, rfl⟩⟩
    | none => rw [hp] at hq; obtain ⟨k, t, q, h⟩ := hq; exact ⟨k, _, h, hb, .inr ⟨rfl, t, q, rfl⟩⟩
  have HEVV := Lib.hid hev
  clear hq hev
  have HB3 := Lib.hid (HB2.out.trans (hbn.mono HB2.out.size))
  have HBC3 := Lib.hid (HBC2.out.step hbn)
  have HBG3 := Lib.hid (HBG2.out.step hbn)
  have HBJ3 : Hid (BoxV J (jcells U 0 0 0 0 0 ⟨#[]⟩ ⟨#[]⟩ 0 none 0 0 (.slice none 0 0)) W3) := Lib.hid (HBJ2.out.step hbn)
  clear hbn
  obtain ⟨W4, hW4⟩ : ∃ W, (W3.setCell ⟨J, 1, none⟩ (.int .i64 v)) = W := ⟨_, rfl⟩
  have HB4 : Hid (Below w.heap.size w W4) := Lib.hid (by rw [← hW4]; exact (HB3.out).setCell (p := ⟨J, 1, none⟩) HJW.out.1 _)
  have HBC4 : Hid (BoxV C zcells W4) := Lib.hid (by rw [← hW4]; exact (HBC3.out).other (a := ⟨J, 1, none⟩) HJW.out.2.1 _)
  have HBG4 : Hid (BoxV G [.string U, .string Pp, .string Nn, .string Ff, .string Xx] W4) := Lib.hid (by rw [← hW4]; exact (HBG3.out).other (a := ⟨J, 1, none⟩) HJW.out.2.2 _)
  have HBJ4 : Hid (BoxV J (jcells U v 0 0 0 0 ⟨#[]⟩ ⟨#[]⟩ 0 none 0 0 (.slice none 0 0)) W4) := Lib.hid (by rw [← hW4]; exact (HBJ3.out).set 1 _)
  have HW4 := Lib.hid hW4
  clear g0 g1 g2 g3 g4
  have g0 := HBG4.out.cell 0 _ rfl
  have g1 := HBG4.out.cell 1 _ rfl
  have g2 := HBG4.out.cell 2 _ rfl
  have g3 := HBG4.out.cell 3 _ rfl
  have g4 := HBG4.out.cell 4 _ rfl
  have j0 := HBJ3.out.cell 0 _ rfl
  have j1 := HBJ3.out.cell 1 _ rfl
  have j2 := HBJ3.out.cell 2 _ rfl
  have j3 := HBJ3.out.cell 3 _ rfl
  have j4 := HBJ3.out.cell 4 _ rfl
  have j5 := HBJ3.out.cell 5 _ rfl
  have j6 := HBJ3.out.cell 6 _ rfl
  have j7 := HBJ3.out.cell 7 _ rfl
  have j8 := HBJ3.out.cell 8 _ rfl
  have j9 := HBJ3.out.cell 9 _ rfl
  have j10 := HBJ3.out.cell 10 _ rfl
  have jf0 := HBJ3.out.fz 0
  have jf1 := HBJ3.out.fz 1
  have jf2 := HBJ3.out.fz 2
  have jf3 := HBJ3.out.fz 3
  have jf4 := HBJ3.out.fz 4
  have jf5 := HBJ3.out.fz 5
  have jf6 := HBJ3.out.fz 6
  have jf7 := HBJ3.out.fz 7
  have jf8 := HBJ3.out.fz 8
  have jf9 := HBJ3.out.fz 9
  have jf10 := HBJ3.out.fz 10
  have hjl := HBJ3.out.lt
  go_wp2_with fail
  refine Calls.mono (HND.out W4 (HEV.out W4 HB4.out)) ?_
  rintro e W5 ⟨hbn, q, code, rfl, hnd⟩
  have HNDD := Lib.hid hnd
  clear j0 j1 j2 j3 j4 j5 j6 j7 j8 j9 j10 jf0 jf1 jf2 jf3 jf4 jf5 jf6 jf7 jf8 jf9 jf10 hjl
  clear hnd hW4
  have HB5 := Lib.hid (HB4.out.trans (hbn.mono HB4.out.size))
  have HBC5 := Lib.hid (HBC4.out.step hbn)
  have HBG5 := Lib.hid (HBG4.out.step hbn)
  have HBJ5 : Hid (BoxV J (jcells U v 0 0 0 0 ⟨#[]⟩ ⟨#[]⟩ 0 none 0 0 (.slice none 0 0)) W5) := Lib.hid (HBJ4.out.step hbn)
  clear hbn
  obtain ⟨W6, hW6⟩ : ∃ W, (((W5.setCell ⟨J, 2, none⟩ (.int .i64 (q.1 : Int))).setCell ⟨J, 3, none⟩ (.int .i64 (q.2.1 : Int))).setCell ⟨J, 4, none⟩ (.int .i64 (q.2.2 : Int))) = W := ⟨_, rfl⟩
  have HB6 : Hid (Below w.heap.size w W6) := Lib.hid (by rw [← hW6]; exact (((HB5.out).setCell (p := ⟨J, 2, none⟩) HJW.out.1 _).setCell (p := ⟨J, 3, none⟩) HJW.out.1 _).setCell (p := ⟨J, 4, none⟩) HJW.out.1 _)
  have HBC6 : Hid (BoxV C zcells W6) := Lib.hid (by rw [← hW6]; exact (((HBC5.out).other (a := ⟨J, 2, none⟩) HJW.out.2.1 _).other (a := ⟨J, 3, none⟩) HJW.out.2.1 _).other (a := ⟨J, 4, none⟩) HJW.out.2.1 _)
  have HBG6 : Hid (BoxV G [.string U, .string Pp, .string Nn, .string Ff, .string Xx] W6) := Lib.hid (by rw [← hW6]; exact (((HBG5.out).other (a := ⟨J, 2, none⟩) HJW.out.2.2 _).other (a := ⟨J, 3, none⟩) HJW.out.2.2 _).other (a := ⟨J, 4, none⟩) HJW.out.2.2 _)
  have HBJ6 : Hid (BoxV J (jcells U v (q.1 : Int) (q.2.1 : Int) (q.2.2 : Int) 0 ⟨#[]⟩ ⟨#[]⟩ 0 none 0 0 (.slice none 0 0)) W6) := Lib.hid (by rw [← hW6]; exact (((HBJ5.out).set 2 _).set 3 _).set 4 _)
  have HW6 := Lib.hid hW6
  clear g0 g1 g2 g3 g4
  have g0 := HBG6.out.cell 0 _ rfl
  have g1 := HBG6.out.cell 1 _ rfl
  have g2 := HBG6.out.cell 2 _ rfl
  have g3 := HBG6.out.cell 3 _ rfl
  have g4 := HBG6.out.cell 4 _ rfl
  have j0 := HBJ5.out.cell 0 _ rfl
  have j1 := HBJ5.out.cell 1 _ rfl
  have j2 := HBJ5.out.cell 2 _ rfl
  have j3 := HBJ5.out.cell 3 _ rfl
  have j4 := HBJ5.out.cell 4 _ rfl
  have j5 := HBJ5.out.cell 5 _ rfl
  have j6 := HBJ5.out.cell 6 _ rfl
  have j7 := HBJ5.out.cell 7 _ rfl
  have j8 := HBJ5.out.cell 8 _ rfl
  have j9 := HBJ5.out.cell 9 _ rfl
  have j10 := HBJ5.out.cell 10 _ rfl
  have jf0 := HBJ5.out.fz 0
  have jf1 := HBJ5.out.fz 1
  have jf2 := HBJ5.out.fz 2
  have jf3 := HBJ5.out.fz 3
  have jf4 := HBJ5.out.fz 4
  have jf5 := HBJ5.out.fz 5
  have jf6 := HBJ5.out.fz 6
  have jf7 := HBJ5.out.fz 7
  have jf8 := HBJ5.out.fz 8
  have jf9 := HBJ5.out.fz 9
  have jf10 := HBJ5.out.fz 10
  have hjl := HBJ5.out.lt
  go_wp2_with fail
  refine Calls.mono (HAK.out W6 (HEV.out W6 HB6.out)) ?_
  rintro e W7 ⟨hbn, y0, y1, y2, y3, yd, yl, yc, ec, rfl, hak⟩
  have HAKK := Lib.hid hak
  have HJ6 : Hid (J < W6.heap.size) := Lib.hid HBJ6.out.lt
  clear j0 j1 j2 j3 j4 j5 j6 j7 j8 j9 j10 jf0 jf1 jf2 jf3 jf4 jf5 jf6 jf7 jf8 jf9 jf10 hjl
  clear hak hW6
  have HB7 := Lib.hid (HB6.out.trans (hbn.mono HB6.out.size))
  have HBC7 := Lib.hid (HBC6.out.step hbn)
  have HBG7 := Lib.hid (HBG6.out.step hbn)
  have HBJ7 : Hid (BoxV J (jcells U v (q.1 : Int) (q.2.1 : Int) (q.2.2 : Int) 0 ⟨#[]⟩ ⟨#[]⟩ 0 none 0 0 (.slice none 0 0)) W7) := Lib.hid (HBJ6.out.step hbn)
  clear hbn
  obtain ⟨W8, hW8⟩ : ∃ W, (((((W7.setCell ⟨J, 5, none⟩ (.int .i64 y0)).setCell ⟨J, 6, none⟩ (.string y1)).setCell ⟨J, 7, none⟩ (.string y2)).setCell ⟨J, 8, none⟩ (.int .i64 y3)).setCell ⟨J, 9, none⟩ (.slice yd yl yc)) = W := ⟨_, rfl⟩
  have HB8 : Hid (Below w.heap.size w W8) := Lib.hid (by rw [← hW8]; exact (((((HB7.out).setCell (p := ⟨J, 5, none⟩) HJW.out.1 _).setCell (p := ⟨J, 6, none⟩) HJW.out.1 _).setCell (p := ⟨J, 7, none⟩) HJW.out.1 _).setCell (p := ⟨J, 8, none⟩) HJW.out.1 _).setCell (p := ⟨J, 9, none⟩) HJW.out.1 _)
  have HBC8 : Hid (BoxV C zcells W8) := Lib.hid (by rw [← hW8]; exact (((((HBC7.out).other (a := ⟨J, 5, none⟩) HJW.out.2.1 _).other (a := ⟨J, 6, none⟩) HJW.out.2.1 _).other (a := ⟨J, 7, none⟩) HJW.out.2.1 _).other (a := ⟨J, 8, none⟩) HJW.out.2.1 _).other (a := ⟨J, 9, none⟩) HJW.out.2.1 _)
  have HBG8 : Hid (BoxV G [.string U, .string Pp, .string Nn, .string Ff, .string Xx] W8) := Lib.hid (by rw [← hW8]; exact (((((HBG7.out).other (a := ⟨J, 5, none⟩) HJW.out.2.2 _).other (a := ⟨J, 6, none⟩) HJW.out.2.2 _).other (a := ⟨J, 7, none⟩) HJW.out.2.2 _).other (a := ⟨J, 8, none⟩) HJW.out.2.2 _).other (a := ⟨J, 9, none⟩) HJW.out.2.2 _)
  have HBJ8 : Hid (BoxV J (jcells U v (q.1 : Int) (q.2.1 : Int) (q.2.2 : Int) y0 y1 y2 y3 yd yl yc (.slice none 0 0)) W8) := Lib.hid (by rw [← hW8]; exact (((((HBJ7.out).set 5 _).set 6 _).set 7 _).set 8 _).set 9 _)
  have HW8 := Lib.hid hW8
  have HBUT : Hid (But J W7 W8) := Lib.hid (by rw [← HW8.out]; exact (((((But.refl J W7).setCell (a := ⟨J, 5, none⟩) (.inl rfl) _).setCell (a := ⟨J, 6, none⟩) (.inl rfl) _).setCell (a := ⟨J, 7, none⟩) (.inl rfl) _).setCell (a := ⟨J, 8, none⟩) (.inl rfl) _).setCell (a := ⟨J, 9, none⟩) (.inl rfl) _)
  have HST : Hid (JSt J W8 W8.heap.size U v (q.1 : Int) (q.2.1 : Int) (q.2.2 : Int) y0 y1 y2 y3 yd yl yc [] (.slice none 0 0) W8) := Lib.hid ⟨But.refl _ _, HBJ8.out, World.ownsRow_nil _ _ _ _, Nat.le_refl _, Nat.le_refl _⟩
  clear g0 g1 g2 g3 g4
  have g0 := HBG8.out.cell 0 _ rfl
  have g1 := HBG8.out.cell 1 _ rfl
  have g2 := HBG8.out.cell 2 _ rfl
  have g3 := HBG8.out.cell 3 _ rfl
  have g4 := HBG8.out.cell 4 _ rfl
  have j0 := HBJ7.out.cell 0 _ rfl
  have j1 := HBJ7.out.cell 1 _ rfl
  have j2 := HBJ7.out.cell 2 _ rfl
  have j3 := HBJ7.out.cell 3 _ rfl
  have j4 := HBJ7.out.cell 4 _ rfl
  have j5 := HBJ7.out.cell 5 _ rfl
  have j6 := HBJ7.out.cell 6 _ rfl
  have j7 := HBJ7.out.cell 7 _ rfl
  have j8 := HBJ7.out.cell 8 _ rfl
  have j9 := HBJ7.out.cell 9 _ rfl
  have j10 := HBJ7.out.cell 10 _ rfl
  have jf0 := HBJ7.out.fz 0
  have jf1 := HBJ7.out.fz 1
  have jf2 := HBJ7.out.fz 2
  have jf3 := HBJ7.out.fz 3
  have jf4 := HBJ7.out.fz 4
  have jf5 := HBJ7.out.fz 5
  have jf6 := HBJ7.out.fz 6
  have jf7 := HBJ7.out.fz 7
  have jf8 := HBJ7.out.fz 8
  have jf9 := HBJ7.out.fz 9
  have jf10 := HBJ7.out.fz 10
  have hjl := HBJ7.out.lt
  go_upto_region 12 with fail
  clear j0 j1 j2 j3 j4 j5 j6 j7 j8 j9 j10 jf0 jf1 jf2 jf3 jf4 jf5 jf6 jf7 jf8 jf9 jf10 hjl
  clear hW8
  rcases HEVV.out with ⟨h1, rfl⟩ | ⟨h1, t, q', rfl⟩
  · rcases HNDD.out with ⟨h2, rfl⟩ | ⟨h2, hcn⟩
    · rcases HAKK.out with ⟨xa, h3, rfl, hva⟩ | ⟨h3, hcn⟩
      · have HP5 : Hid (own (parse5 numA askS u p n f x) s = own (match aftR numA f with | some l => some ⟨u, v, (q.1 : Int), (q.2.1 : Int), (q.2.2 : Int), xa, l⟩ | none => none) s) := Lib.hid (by unfold parse5; rw [h1, h2, h3]; rfl)
        have HVA : Hid (AskVP (fun b => b ≠ J ∧ b ≠ C ∧ b < W8.heap.size) W8 xa (.agg #[.int .i64 y0, .string y1, .string y2, .int .i64 y3, .slice yd yl yc])) := Lib.hid (by
          have h1 := HJ6.out
          have h2 := HBC6.out.lt
          have h3 := HBUT.out.size
          exact AskVP.stays (p := fun b => W6.heap.size ≤ b ∧ b < W7.heap.size) (fun b h => ⟨by omega, by omega, by omega⟩) HBUT.out.size (fun b h hb => HBUT.out.block b h.2 (by omega)) _ _ (AskVP.both hva (Nat.le_refl _) (fun b _ _ => rfl)))
        have HXS : Hid (xa.size ≤ 1000000000) := Lib.hid (askS_size h3)
        clear h1 h2 h3 hva
        obtain ⟨fb, hfb⟩ : ∃ b, (Ff.toList == [45]) = b := ⟨_, rfl⟩
        have hfb2 : (Ff.toList != [45]) = !fb := by rw [bne, hfb]
        have HFB : Hid (decide (f = [45]) = fb) := Lib.hid (by
          rw [← hfb, ← HFF.out, bts_toList]
          by_cases h : f = [45]
          · rw [h]; rfl
          · rw [decide_eq_false h]; simpa using h)
        go_upto_if 67 with fail
        clear hfb hfb2
        go_cut [] (fun W => ∃ l vv bs, Hid (aftR numA f = some l) ∧ Hid (l.length ≤ 3001) ∧ Hid (JSt J W8 bs U v (q.1 : Int) (q.2.1 : Int) (q.2.2 : Int) y0 y1 y2 y3 yd yl yc l vv W))
        case first =>
          cases fb with
          | true =>
            have HF45 : Hid (aftR numA f = some []) := Lib.hid (by unfold aftR; rw [if_pos (of_decide_eq_true HFB.out)])
            go_wp2_with fail
            go_meet
            exact ⟨[], _, _, HF45, Lib.hid (by simp), HST⟩
          | false =>
            have HF45 : Hid (aftR numA f = nums numA (Nt.pcs 44 f)) := Lib.hid (by unfold aftR; rw [if_neg (of_decide_eq_false HFB.out)])
            go_wp2_with fail
            refine Calls.mono (HSPF.out W8 (HEV.out W8 HB8.out)) ?_
            rintro e W9 ⟨rfl, hW9⟩
            have hbn : Below W8.heap.size W8 W9 := by rw [hW9]; exact (Below.refl _ _).alloc (Nat.le_refl _) _
            obtain ⟨P, hP⟩ : ∃ P, Nt.pcs 44 f = P := ⟨_, rfl⟩
            have hpl : ∀ t, t ∈ P → t.length ≤ 3000 := fun t ht => Nat.le_trans (pcs_len 44 f t (by rw [hP]; exact ht)) HFL.out
            have hcnt := pcs_cnt 44 f
            rw [hP] at hW9 HF45 hcnt ⊢
            obtain ⟨m, hm⟩ : ∃ m, P.length = m := ⟨_, rfl⟩
            obtain ⟨Q, hQ⟩ : ∃ Q, Q = W8.heap.size := ⟨_, rfl⟩
            have HBQ9 : Hid (BoxV Q (txv P) W9) := Lib.hid (by rw [hW9]; exact BoxV.top (txv P) hQ)
            obtain ⟨bs, hbs⟩ : ∃ bs, bs = W9.heap.size := ⟨_, rfl⟩
            have HST9 : Hid (JSt J W8 bs U v (q.1 : Int) (q.2.1 : Int) (q.2.2 : Int) y0 y1 y2 y3 yd yl yc [] (.slice none 0 0) W9) := Lib.hid ⟨But.ofBelow hbn (Nat.le_refl _), HBJ8.out.step hbn, World.ownsRow_nil _ _ _ _, by rw [hbs]; exact hbn.size, Nat.le_of_eq hbs⟩
            have HQB : Hid (Q < bs) := Lib.hid (by rw [hbs]; exact HBQ9.out.lt)
            have HQW : Hid (W8.heap.size ≤ Q ∧ J ≠ Q) := Lib.hid ⟨by rw [hQ]; exact Nat.le_refl _, by rw [hQ]; exact Nat.ne_of_lt HBJ8.out.lt⟩
            have HPL := Lib.hid hpl
            have HM := Lib.hid hm
            have hm3 : m ≤ 3001 := by have := HFL.out; omega
            have HAI : Hid (∀ t W, t ∈ P → Env W → Calls Tryz.prog 32 #[.string (bts t)] W (AtoiQ W t)) := Lib.hid (fun t W ht h => Atoi_any t W (by have := hpl t ht; omega) h)
            have HN0 : Hid (nums numA (P.take 0) = some []) := Lib.hid rfl
            rw [hm, ← hQ]
            clear hW9 hbn hP hpl hcnt hm hQ hbs
            go_wp2_with fail
            go_loopg [73] m (fun g y wr => ∃ (k : Nat) (l : List Int) (vv : Value), k + g = m ∧ y = .int .i64 (k : Int) ∧ Hid (nums numA (P.take k) = some l) ∧ Hid (JSt J W8 bs U v (q.1 : Int) (q.2.1 : Int) (q.2.2 : Int) y0 y1 y2 y3 yd yl yc l vv wr) ∧ Hid (BoxV Q (txv P) wr))
            case atStart => exact ⟨0, [], _, by omega, rfl, HN0, HST9, HBQ9⟩
            case round =>
              obtain ⟨k, l, vv, hk, rfl, HNK, HSR, HBQ⟩ := hrel
              have HK := Lib.hid hk
              have HLL : Hid (l.length = k) := Lib.hid (by
                have h1 := nums_len HNK.out
                rw [List.length_take] at h1
                have h2 := HM.out
                omega)
              have HBR : Hid (Below w.heap.size w wr) := Lib.hid (HB8.out.trans (HSR.out.but.below HJW.out.1 HB8.out.size))
              by_cases hkm : k < m
              · obtain ⟨t, ht⟩ : ∃ t, P[k]? = some t := ⟨_, List.getElem?_eq_getElem (by rw [HM.out]; exact hkm)⟩
                have htm := List.mem_of_getElem? ht
                have HCT := Lib.hid (HAI.out t wr htm (HEV.out wr HBR.out))
                obtain ⟨T, hT⟩ : ∃ T, bts t = T := ⟨_, rfl⟩
                rw [hT] at HCT
                have hcell : wr.cell? ⟨Q, k, none⟩ = some (.string T) := HBQ.out.cell k _ (by rw [txv_at ht, hT])
                have HTK := Lib.hid ht
                have hk1 : (0 : Int) ≤ (k : Int) := by omega
                have hk2 : (k : Int) < (m : Int) := by omega
                have hmm : (m : Int) ≤ 3001 := by omega
                clear ht htm hT hk
                go_wp2_with fail
                refine Calls.mono HCT.out ?_
                intro e w1 hq
                obtain ⟨hb1, hq⟩ := hq
                have HSR1 := Lib.hid (HSR.out.step hb1)
                have HBQ1 := Lib.hid (HBQ.out.step hb1)
                have HB1' : Hid (Below w.heap.size w w1) := Lib.hid (HBR.out.trans (hb1.mono HBR.out.size))
                clear hb1 hcell
                cases hnt : numA t with
                | none =>
                  rw [hnt] at hq
                  obtain ⟨i0, t0, p0, rfl⟩ := hq
                  have HP : Hid (O = none) := Lib.hid (by rw [← HO.out, HP5.out, HF45.out, nums_stop HNK.out HTK.out hnt]; rfl)
                  have HBC9 : Hid (BoxV C zcells w1) := Lib.hid (HBC8.out.but HSR1.out.but HJW.out.2.1.symm)
                  clear hnt
                  go_upto_region 20 with fail
                  have HKX := KR.of (P := Tryz.prog) (by assumption)
                  go_light
                  have r0 := HBC9.out.cell 0 _ rfl
                  have r1 := HBC9.out.cell 1 _ rfl
                  have r2 := HBC9.out.cell 2 _ rfl
                  have r3 := HBC9.out.cell 3 _ rfl
                  have r4 := HBC9.out.cell 4 _ rfl
                  have r5 := HBC9.out.cell 5 _ rfl
                  have r6 := HBC9.out.cell 6 _ rfl
                  have r7 := HBC9.out.cell 7 _ rfl
                  have r8 := HBC9.out.cell 8 _ rfl
                  have r9 := HBC9.out.cell 9 _ rfl
                  have r10 := HBC9.out.cell 10 _ rfl
                  have rf0 := HBC9.out.fz 0
                  have rf1 := HBC9.out.fz 1
                  have rf2 := HBC9.out.fz 2
                  have rf3 := HBC9.out.fz 3
                  have rf4 := HBC9.out.fz 4
                  have rf5 := HBC9.out.fz 5
                  have rf6 := HBC9.out.fz 6
                  have rf7 := HBC9.out.fz 7
                  have rf8 := HBC9.out.fz 8
                  have rf9 := HBC9.out.fz 9
                  have rf10 := HBC9.out.fz 10
                  have hcl := HBC9.out.lt
                  go_wp2_with fail
                  refine HKX.fin ?_
                  refine bodyPost_ret (v := .tuple #[.agg #[.string ⟨#[]⟩, .int .i64 0, .int .i64 0, .int .i64 0, .int .i64 0, .int .i64 0, .string ⟨#[]⟩, .string ⟨#[]⟩, .int .i64 0, .slice none 0 0, .slice none 0 0], .int .i64 3]) (by simp [results, Tryz.results7, go_sem, cell_set, r0, r1, r2, r3, r4, r5, r6, r7, r8, r9, r10, hcl]) rfl ?_
                  show JobRdQ w O 3 _ (puts w1 C 0 [.string ⟨#[]⟩, .int .i64 0, .int .i64 0, .int .i64 0, .int .i64 0, .int .i64 0, .string ⟨#[]⟩, .string ⟨#[]⟩, .int .i64 0, .slice none 0 0, .slice none 0 0])
                  rw [HP.out]
                  exact ⟨puts_below C (Nat.le_of_eq HC.out.symm) _ _ _ HB1'.out, rfl⟩
                | some num =>
                  rw [hnt] at hq
                  obtain rfl := hq
                  have HNN : Hid (nums numA (P.take (k + 1)) = some (l ++ [num])) := Lib.hid (by rw [take_snoc HTK.out, nums_snoc, HNK.out]; simp only; rw [hnt])
                  have HPU := Lib.hid (fun w5 g cp ho hg => HSR1.out.push (w5 := w5) (n := num) (g := g) (cp := cp) HBJ8.out.lt ho hg)
                  obtain ⟨a4, cp4, hv, hcp, hcp2, hO9⟩ := ownForm HSR1.out.own
                  subst hv
                  have hBw : bs ≤ w1.heap.size := HSR1.out.hi
                  have hk3 : k ≤ 3001 := by omega
                  have HL2 := Lib.hid HLL.out
                  clear hnt hO9
                  have j10 := HSR1.out.box.cell 10 _ rfl
                  rw [HLL.out] at j10 hcp HPU
                  have HOW : Hid (w1.ownsRow bs 3 1 (.slice a4 k cp4) k (ints l)) := Lib.hid (by have := HSR1.out.own; rw [HLL.out] at this; exact this)
                  have hjl := HSR1.out.box.lt
                  go_wp2_with (at_builtin; go_loud (refine wpList_push w1 (by rfl) _ _ 27 (by rfl) bs 3 (.int .i64 0) 8 Tryz.underlying27 infoIntJ (by rfl) (.slice a4 k cp4) k (ints l) (.int .i64 num) _ rfl (by rfl) HOW.out (by rfl) (by rfl) (by unfold maxLen; omega) (by omega) hBw ?_; intro gg cap3 w5 hown5 hgrow hgb hgl; have HPP := Lib.hid (HPU.out w5 gg cap3 hown5 hgrow); have HBQ5 : Hid (BoxV Q (txv P) w5) := Lib.hid (HBQ1.out.grown hgrow (fun e => absurd ((HOW.out.lt Q e.symm).1) (by have := HQB.out; omega))); clear hown5 hgrow hgb hgl; have s10 := HPP.out.1.cell 10 _ rfl; have sf10 := HPP.out.1.fz 10; have sl := HPP.out.1.lt))
                  go_roundg (m - (k + 1))
                  case measure => (have := HK.out; omega)
                  case rel => exact ⟨k + 1, l ++ [num], _, by have := HK.out; omega, by simp, HNN, Lib.hid HPP.out.2, Lib.hid (HBQ5.out.other (a := ⟨J, 10, none⟩) HQW.out.2 _)⟩
              · have hk2 : ¬ (k : Int) < (m : Int) := by omega
                have HAF : Hid (aftR numA f = some l) := Lib.hid (by rw [HF45.out, ← HNK.out, List.take_of_length_le (by have := HM.out; have := HK.out; omega)])
                have HL3 : Hid (l.length ≤ 3001) := Lib.hid (by have := HLL.out; have := HK.out; omega)
                clear hk hkm
                go_wp2_with fail
                go_meet
                exact ⟨l, vv, bs, HAF, HL3, HSR⟩
        case rest =>
          obtain ⟨l, vv, bs, HAFT, HLN, HSR⟩ := hcut
          obtain ⟨a4, cp4, hv4, hcp, hcp2, hO9⟩ := ownForm HSR.out.own
          subst hv4
          have HVALS : ∀ W, W.ownsRow bs 3 1 (.slice a4 l.length cp4) l.length (ints l) → Vals W a4 (ints l) := fun W h => by
            obtain ⟨a, cap, e, hV⟩ := IsVals.own h
            have h2 := Value.slice.inj e
            rw [h2.1]
            exact hV
          have HBWC : Hid (Below w.heap.size w wc) := Lib.hid (HB8.out.trans (HSR.out.but.below HJW.out.1 HB8.out.size))
          obtain ⟨j, hj⟩ : ∃ j : Jb, j = ⟨u, v, (q.1 : Int), (q.2.1 : Int), (q.2.2 : Int), xa, l⟩ := ⟨_, rfl⟩
          have HJE := Lib.hid hj
          have HOJ : Hid (O = if j.fault = 0 ∧ j.text = s then some j else none) := Lib.hid (by rw [← HO.out, HP5.out, HAFT.out, hj]; rfl)
          have HPX : Hid (∀ W, W8.heap.size ≤ W.heap.size → (∀ b, b ≠ J ∧ b ≠ C ∧ b < W8.heap.size → W.heap[b]? = W8.heap[b]?) → W.ownsRow bs 3 1 (.slice a4 l.length cp4) l.length (ints l) → JobP W j y0 y1 y2 y3 yd yl yc a4 cp4) := Lib.hid (fun W h1 h2 h3 => by
            rw [hj]
            exact ⟨AskVP.toV _ _ (AskVP.stays (fun b h => h) h1 (fun b h _ => h2 b h) _ _ HVA.out), HVALS W h3, HUL.out, hcp, hcp2⟩)
          have HTX : Hid (Calls Tryz.prog 6 #[jobVal U v (q.1 : Int) (q.2.1 : Int) (q.2.2 : Int) y0 y1 y2 y3 yd yl yc a4 l.length cp4] wc fun e w' => e = .returned (.tuple #[.string (jobTxt j), .int .i64 j.fault]) ∧ Below wc.heap.size wc w') := Lib.hid (jobText_any j _ wc (by rw [hj]; exact HXS.out) (HEV.out wc HBWC.out) ⟨y0, y1, y2, y3, yd, yl, yc, a4, cp4, by rw [hj]; simp only; rw [HUU.out], HPX.out wc HSR.out.but.size (fun b h => HSR.out.but.block b h.2.2 h.1) HSR.out.own⟩)
          unfold jobVal at HTX
          obtain ⟨F, hF⟩ : ∃ F, j.fault = F := ⟨_, rfl⟩
          obtain ⟨T, hT⟩ : ∃ T, jobTxt j = T := ⟨_, rfl⟩
          have HF := Lib.hid hF
          have HT := Lib.hid hT
          rw [hF, hT] at HTX
          have HBJC := Lib.hid HSR.out.box
          have HCJ : Hid (C < W8.heap.size) := Lib.hid HBC8.out.lt
          clear hj hF hT hO9 HVALS
          have e0 := HBJC.out.cell 0 _ rfl
          have e1 := HBJC.out.cell 1 _ rfl
          have e2 := HBJC.out.cell 2 _ rfl
          have e3 := HBJC.out.cell 3 _ rfl
          have e4 := HBJC.out.cell 4 _ rfl
          have e5 := HBJC.out.cell 5 _ rfl
          have e6 := HBJC.out.cell 6 _ rfl
          have e7 := HBJC.out.cell 7 _ rfl
          have e8 := HBJC.out.cell 8 _ rfl
          have e9 := HBJC.out.cell 9 _ rfl
          have e10 := HBJC.out.cell 10 _ rfl
          go_wp2_with fail
          refine Calls.mono HTX.out ?_
          rintro e W10 ⟨rfl, hbn⟩
          have HSR2 := Lib.hid (HSR.out.step hbn)
          have HB10 := Lib.hid (HBWC.out.trans (hbn.mono HBWC.out.size))
          have HBC10 : Hid (BoxV C zcells W10) := Lib.hid (HBC8.out.but HSR2.out.but HJW.out.2.1.symm)
          have HBJ10 := Lib.hid HSR2.out.box
          clear hbn e0 e1 e2 e3 e4 e5 e6 e7 e8 e9 e10
          by_cases h0 : F = 0
          · subst h0
            obtain ⟨tb, htb⟩ : ∃ b, (T.toList == S.toList) = b := ⟨_, rfl⟩
            have htb2 : (T.toList != S.toList) = !tb := by rw [bne, htb]
            have HTB : Hid (decide (j.text = s) = tb) := Lib.hid (by
              rw [← htb, ← HT.out, ← HSS.out]; unfold jobTxt; rw [if_pos HF.out, bts_toList, bts_toList]
              by_cases h : j.text = s
              · rw [h]; simp
              · simp [h])
            cases tb with
            | false =>
              have HP : Hid (O = none) := Lib.hid (by rw [HOJ.out]; exact if_neg (fun h => of_decide_eq_false HTB.out h.2))
              go_upto_region 25 with fail
              have HKX := KR.of (P := Tryz.prog) (by assumption)
              go_light
              have r0 := HBC10.out.cell 0 _ rfl
              have r1 := HBC10.out.cell 1 _ rfl
              have r2 := HBC10.out.cell 2 _ rfl
              have r3 := HBC10.out.cell 3 _ rfl
              have r4 := HBC10.out.cell 4 _ rfl
              have r5 := HBC10.out.cell 5 _ rfl
              have r6 := HBC10.out.cell 6 _ rfl
              have r7 := HBC10.out.cell 7 _ rfl
              have r8 := HBC10.out.cell 8 _ rfl
              have r9 := HBC10.out.cell 9 _ rfl
              have r10 := HBC10.out.cell 10 _ rfl
              have rf0 := HBC10.out.fz 0
              have rf1 := HBC10.out.fz 1
              have rf2 := HBC10.out.fz 2
              have rf3 := HBC10.out.fz 3
              have rf4 := HBC10.out.fz 4
              have rf5 := HBC10.out.fz 5
              have rf6 := HBC10.out.fz 6
              have rf7 := HBC10.out.fz 7
              have rf8 := HBC10.out.fz 8
              have rf9 := HBC10.out.fz 9
              have rf10 := HBC10.out.fz 10
              have hcl := HBC10.out.lt
              go_wp2_with fail
              refine HKX.fin ?_
              refine bodyPost_ret (v := .tuple #[.agg #[.string ⟨#[]⟩, .int .i64 0, .int .i64 0, .int .i64 0, .int .i64 0, .int .i64 0, .string ⟨#[]⟩, .string ⟨#[]⟩, .int .i64 0, .slice none 0 0, .slice none 0 0], .int .i64 3]) (by simp [results, Tryz.results7, go_sem, cell_set, r0, r1, r2, r3, r4, r5, r6, r7, r8, r9, r10, hcl]) rfl ?_
              show JobRdQ w O 3 _ (puts W10 C 0 [.string ⟨#[]⟩, .int .i64 0, .int .i64 0, .int .i64 0, .int .i64 0, .int .i64 0, .string ⟨#[]⟩, .string ⟨#[]⟩, .int .i64 0, .slice none 0 0, .slice none 0 0])
              rw [HP.out]
              exact ⟨puts_below C (Nat.le_of_eq HC.out.symm) _ _ _ HB10.out, rfl⟩
            | true =>
              have HP : Hid (O = some j) := Lib.hid (by rw [HOJ.out]; exact if_pos ⟨HF.out, of_decide_eq_true HTB.out⟩)
              go_upto_region 26 with fail
              have HKX := KR.of (P := Tryz.prog) (by assumption)
              go_light
              have r0 := HBC10.out.cell 0 _ rfl
              have r1 := HBC10.out.cell 1 _ rfl
              have r2 := HBC10.out.cell 2 _ rfl
              have r3 := HBC10.out.cell 3 _ rfl
              have r4 := HBC10.out.cell 4 _ rfl
              have r5 := HBC10.out.cell 5 _ rfl
              have r6 := HBC10.out.cell 6 _ rfl
              have r7 := HBC10.out.cell 7 _ rfl
              have r8 := HBC10.out.cell 8 _ rfl
              have r9 := HBC10.out.cell 9 _ rfl
              have r10 := HBC10.out.cell 10 _ rfl
              have rf0 := HBC10.out.fz 0
              have rf1 := HBC10.out.fz 1
              have rf2 := HBC10.out.fz 2
              have rf3 := HBC10.out.fz 3
              have rf4 := HBC10.out.fz 4
              have rf5 := HBC10.out.fz 5
              have rf6 := HBC10.out.fz 6
              have rf7 := HBC10.out.fz 7
              have rf8 := HBC10.out.fz 8
              have rf9 := HBC10.out.fz 9
              have rf10 := HBC10.out.fz 10
              have hcl := HBC10.out.lt
              have e0 := HBJ10.out.cell 0 _ rfl
              have e1 := HBJ10.out.cell 1 _ rfl
              have e2 := HBJ10.out.cell 2 _ rfl
              have e3 := HBJ10.out.cell 3 _ rfl
              have e4 := HBJ10.out.cell 4 _ rfl
              have e5 := HBJ10.out.cell 5 _ rfl
              have e6 := HBJ10.out.cell 6 _ rfl
              have e7 := HBJ10.out.cell 7 _ rfl
              have e8 := HBJ10.out.cell 8 _ rfl
              have e9 := HBJ10.out.cell 9 _ rfl
              have e10 := HBJ10.out.cell 10 _ rfl
              go_wp2_with fail
              refine HKX.fin ?_
              refine bodyPost_ret (v := .tuple #[.agg #[.string U, .int .i64 v, .int .i64 (q.1 : Int), .int .i64 (q.2.1 : Int), .int .i64 (q.2.2 : Int), .int .i64 y0, .string y1, .string y2, .int .i64 y3, .slice yd yl yc, .slice a4 l.length cp4], .int .i64 0]) (by simp [results, Tryz.results7, go_sem, cell_set, r0, r1, r2, r3, r4, r5, r6, r7, r8, r9, r10, hcl]) rfl ?_
              show JobRdQ w O 3 _ (puts W10 C 0 [.string U, .int .i64 v, .int .i64 (q.1 : Int), .int .i64 (q.2.1 : Int), .int .i64 (q.2.2 : Int), .int .i64 y0, .string y1, .string y2, .int .i64 y3, .slice yd yl yc, .slice a4 l.length cp4])
              rw [HP.out]
              refine ⟨puts_below C (Nat.le_of_eq HC.out.symm) _ _ _ HB10.out, _, rfl, y0, y1, y2, y3, yd, yl, yc, a4, cp4, ?_, HPX.out _ (by rw [puts_size]; exact HSR2.out.but.size) (fun b h => ?_) (puts_own (Nat.lt_of_lt_of_le HCJ.out HSR2.out.lo) _ _ _ HSR2.out.own)⟩
              · rw [HJE.out]; simp only; rw [HUU.out]; rfl
              · rw [puts_heap C h.2.1]
                exact HSR2.out.but.block b h.2.2 h.1
          · have hz : (F == 0) = false := by simpa using h0
            have hz2 : (F != 0) = true := by simpa using h0
            have HP : Hid (O = none) := Lib.hid (by rw [HOJ.out]; exact if_neg (fun h => h0 (HF.out.symm.trans h.1)))
            clear h0
            go_upto_region 25 with fail
            have HKX := KR.of (P := Tryz.prog) (by assumption)
            go_light
            have r0 := HBC10.out.cell 0 _ rfl
            have r1 := HBC10.out.cell 1 _ rfl
            have r2 := HBC10.out.cell 2 _ rfl
            have r3 := HBC10.out.cell 3 _ rfl
            have r4 := HBC10.out.cell 4 _ rfl
            have r5 := HBC10.out.cell 5 _ rfl
            have r6 := HBC10.out.cell 6 _ rfl
            have r7 := HBC10.out.cell 7 _ rfl
            have r8 := HBC10.out.cell 8 _ rfl
            have r9 := HBC10.out.cell 9 _ rfl
            have r10 := HBC10.out.cell 10 _ rfl
            have rf0 := HBC10.out.fz 0
            have rf1 := HBC10.out.fz 1
            have rf2 := HBC10.out.fz 2
            have rf3 := HBC10.out.fz 3
            have rf4 := HBC10.out.fz 4
            have rf5 := HBC10.out.fz 5
            have rf6 := HBC10.out.fz 6
            have rf7 := HBC10.out.fz 7
            have rf8 := HBC10.out.fz 8
            have rf9 := HBC10.out.fz 9
            have rf10 := HBC10.out.fz 10
            have hcl := HBC10.out.lt
            go_wp2_with fail
            refine HKX.fin ?_
            refine bodyPost_ret (v := .tuple #[.agg #[.string ⟨#[]⟩, .int .i64 0, .int .i64 0, .int .i64 0, .int .i64 0, .int .i64 0, .string ⟨#[]⟩, .string ⟨#[]⟩, .int .i64 0, .slice none 0 0, .slice none 0 0], .int .i64 3]) (by simp [results, Tryz.results7, go_sem, cell_set, r0, r1, r2, r3, r4, r5, r6, r7, r8, r9, r10, hcl]) rfl ?_
            show JobRdQ w O 3 _ (puts W10 C 0 [.string ⟨#[]⟩, .int .i64 0, .int .i64 0, .int .i64 0, .int .i64 0, .int .i64 0, .string ⟨#[]⟩, .string ⟨#[]⟩, .int .i64 0, .slice none 0 0, .slice none 0 0])
            rw [HP.out]
            exact ⟨puts_below C (Nat.le_of_eq HC.out.symm) _ _ _ HB10.out, rfl⟩
      · have hpn : own (parse5 numA askS u p n f x) s = none := by unfold parse5; rw [h1, h2, h3]; rfl
        have hc1 : (ec == 0) = false := by simpa using hcn
        have hc2 : (ec != 0) = true := by simpa using hcn
        clear h1 h2 h3 hcn
        have HP : Hid (O = none) := Lib.hid (by rw [← HO.out, hpn])
        clear hpn
        go_upto_region 13 with fail
        have HKX := KR.of (P := Tryz.prog) (by assumption)
        go_light
        have r0 := HBC8.out.cell 0 _ rfl
        have r1 := HBC8.out.cell 1 _ rfl
        have r2 := HBC8.out.cell 2 _ rfl
        have r3 := HBC8.out.cell 3 _ rfl
        have r4 := HBC8.out.cell 4 _ rfl
        have r5 := HBC8.out.cell 5 _ rfl
        have r6 := HBC8.out.cell 6 _ rfl
        have r7 := HBC8.out.cell 7 _ rfl
        have r8 := HBC8.out.cell 8 _ rfl
        have r9 := HBC8.out.cell 9 _ rfl
        have r10 := HBC8.out.cell 10 _ rfl
        have rf0 := HBC8.out.fz 0
        have rf1 := HBC8.out.fz 1
        have rf2 := HBC8.out.fz 2
        have rf3 := HBC8.out.fz 3
        have rf4 := HBC8.out.fz 4
        have rf5 := HBC8.out.fz 5
        have rf6 := HBC8.out.fz 6
        have rf7 := HBC8.out.fz 7
        have rf8 := HBC8.out.fz 8
        have rf9 := HBC8.out.fz 9
        have rf10 := HBC8.out.fz 10
        have hcl := HBC8.out.lt
        go_wp2_with fail
        refine HKX.fin ?_
        refine bodyPost_ret (v := .tuple #[.agg #[.string ⟨#[]⟩, .int .i64 0, .int .i64 0, .int .i64 0, .int .i64 0, .int .i64 0, .string ⟨#[]⟩, .string ⟨#[]⟩, .int .i64 0, .slice none 0 0, .slice none 0 0], .int .i64 3]) (by simp [results, Tryz.results7, go_sem, cell_set, r0, r1, r2, r3, r4, r5, r6, r7, r8, r9, r10, hcl]) rfl ?_
        show JobRdQ w O 3 _ (puts W8 C 0 [.string ⟨#[]⟩, .int .i64 0, .int .i64 0, .int .i64 0, .int .i64 0, .int .i64 0, .string ⟨#[]⟩, .string ⟨#[]⟩, .int .i64 0, .slice none 0 0, .slice none 0 0])
        rw [HP.out]
        exact ⟨puts_below C (Nat.le_of_eq HC.out.symm) _ _ _ HB8.out, rfl⟩
    · have hpn : own (parse5 numA askS u p n f x) s = none := by unfold parse5; rw [h1, h2]; rfl
      have hc1 : (code == 0) = false := by simpa using hcn
      have hc2 : (code != 0) = true := by simpa using hcn
      clear h1 h2 hcn
      have HP : Hid (O = none) := Lib.hid (by rw [← HO.out, hpn])
      clear hpn
      go_upto_region 13 with fail
      have HKX := KR.of (P := Tryz.prog) (by assumption)
      go_light
      have r0 := HBC8.out.cell 0 _ rfl
      have r1 := HBC8.out.cell 1 _ rfl
      have r2 := HBC8.out.cell 2 _ rfl
      have r3 := HBC8.out.cell 3 _ rfl
      have r4 := HBC8.out.cell 4 _ rfl
      have r5 := HBC8.out.cell 5 _ rfl
      have r6 := HBC8.out.cell 6 _ rfl
      have r7 := HBC8.out.cell 7 _ rfl
      have r8 := HBC8.out.cell 8 _ rfl
      have r9 := HBC8.out.cell 9 _ rfl
      have r10 := HBC8.out.cell 10 _ rfl
      have rf0 := HBC8.out.fz 0
      have rf1 := HBC8.out.fz 1
      have rf2 := HBC8.out.fz 2
      have rf3 := HBC8.out.fz 3
      have rf4 := HBC8.out.fz 4
      have rf5 := HBC8.out.fz 5
      have rf6 := HBC8.out.fz 6
      have rf7 := HBC8.out.fz 7
      have rf8 := HBC8.out.fz 8
      have rf9 := HBC8.out.fz 9
      have rf10 := HBC8.out.fz 10
      have hcl := HBC8.out.lt
      go_wp2_with fail
      refine HKX.fin ?_
      refine bodyPost_ret (v := .tuple #[.agg #[.string ⟨#[]⟩, .int .i64 0, .int .i64 0, .int .i64 0, .int .i64 0, .int .i64 0, .string ⟨#[]⟩, .string ⟨#[]⟩, .int .i64 0, .slice none 0 0, .slice none 0 0], .int .i64 3]) (by simp [results, Tryz.results7, go_sem, cell_set, r0, r1, r2, r3, r4, r5, r6, r7, r8, r9, r10, hcl]) rfl ?_
      show JobRdQ w O 3 _ (puts W8 C 0 [.string ⟨#[]⟩, .int .i64 0, .int .i64 0, .int .i64 0, .int .i64 0, .int .i64 0, .string ⟨#[]⟩, .string ⟨#[]⟩, .int .i64 0, .slice none 0 0, .slice none 0 0])
      rw [HP.out]
      exact ⟨puts_below C (Nat.le_of_eq HC.out.symm) _ _ _ HB8.out, rfl⟩
  · have hpn : own (parse5 numA askS u p n f x) s = none := by unfold parse5; rw [h1]; rfl
    clear h1
    have HP : Hid (O = none) := Lib.hid (by rw [← HO.out, hpn])
    clear hpn
    go_upto_region 13 with fail
    have HKX := KR.of (P := Tryz.prog) (by assumption)
    go_light
    have r0 := HBC8.out.cell 0 _ rfl
    have r1 := HBC8.out.cell 1 _ rfl
    have r2 := HBC8.out.cell 2 _ rfl
    have r3 := HBC8.out.cell 3 _ rfl
    have r4 := HBC8.out.cell 4 _ rfl
    have r5 := HBC8.out.cell 5 _ rfl
    have r6 := HBC8.out.cell 6 _ rfl
    have r7 := HBC8.out.cell 7 _ rfl
    have r8 := HBC8.out.cell 8 _ rfl
    have r9 := HBC8.out.cell 9 _ rfl
    have r10 := HBC8.out.cell 10 _ rfl
    have rf0 := HBC8.out.fz 0
    have rf1 := HBC8.out.fz 1
    have rf2 := HBC8.out.fz 2
    have rf3 := HBC8.out.fz 3
    have rf4 := HBC8.out.fz 4
    have rf5 := HBC8.out.fz 5
    have rf6 := HBC8.out.fz 6
    have rf7 := HBC8.out.fz 7
    have rf8 := HBC8.out.fz 8
    have rf9 := HBC8.out.fz 9
    have rf10 := HBC8.out.fz 10
    have hcl := HBC8.out.lt
    go_wp2_with fail
    refine HKX.fin ?_
    refine bodyPost_ret (v := .tuple #[.agg #[.string ⟨#[]⟩, .int .i64 0, .int .i64 0, .int .i64 0, .int .i64 0, .int .i64 0, .string ⟨#[]⟩, .string ⟨#[]⟩, .int .i64 0, .slice none 0 0, .slice none 0 0], .int .i64 3]) (by simp [results, Tryz.results7, go_sem, cell_set, r0, r1, r2, r3, r4, r5, r6, r7, r8, r9, r10, hcl]) rfl ?_
    show JobRdQ w O 3 _ (puts W8 C 0 [.string ⟨#[]⟩, .int .i64 0, .int .i64 0, .int .i64 0, .int .i64 0, .int .i64 0, .string ⟨#[]⟩, .string ⟨#[]⟩, .int .i64 0, .slice none 0 0, .slice none 0 0])
    rw [HP.out]
    exact ⟨puts_below C (Nat.le_of_eq HC.out.symm) _ _ _ HB8.out, rfl⟩
end Go.Proofs.YtkemlckmfgacdaaGreatDoor
/- Contracts of what the document's reader of a job calls, in one form. -/
namespace Go.Proofs.YtkemlckmfgacdaaGreatDoor
open Go.ChangeShapes Go.WideShapes Go.ChangeAt Go.RowKit
set_option linter.unusedVariables false
open Tp Jm
def IntOfB (w : World) (s : Bs) (e : Ending) (w' : World) : Prop := Below w.heap.size w w' ∧ match Nt.intOf s with
  | some v => e = .returned (.tuple #[.int .i64 v, .bool true])
  | none => ∃ n, e = .returned (.tuple #[.int .i64 n, .bool false])
theorem intOf_b (s : Bs) (w : World) (hs : s.length ≤ 1099511627776) : Calls Tryz.prog 45 #[.string (bts s)] w (IntOfB w s) := by
  refine Calls.mono (IntOf_any s w hs) ?_
  rintro e w' ⟨n, rfl, hn, hb⟩
  refine ⟨hb, ?_⟩
  cases h : Nt.intOf s with
  | none => exact ⟨n, rfl⟩
  | some v =>
    obtain rfl := hn v h
    rfl
theorem BoxV.own {B g cp n : Nat} {e : TypeId} {xs : List Value} {w : World} (h : w.ownsRow B e 1 (.slice (some ⟨g, 0, none⟩) n cp) n xs) (hl : xs.length = n) : BoxV g xs w :=
  ⟨(h.lt g rfl).2, fun i v hi => by rw [h.cellAt i (by rw [Nat.mul_one, ← hl]; exact (List.getElem?_eq_some_iff.1 hi).1)]; exact hi, fun i => h.frozenAt i⟩
theorem pieces_b (s : Bs) (c : UInt8) (k : Int) (hk : (c.toNat : Int) = k) (w : World) (hs : s.length ≤ 1099511627776) : Calls Tryz.prog 44 #[.string (bts s), .int .u8 k] w fun e w' => ∃ G cp, e = .returned (.slice (some ⟨G, 0, none⟩) (Nt.pcs c s).length cp) ∧ w.heap.size ≤ G ∧ BoxV G (txv (Nt.pcs c s)) w' ∧ (Nt.pcs c s).length ≤ cp ∧ Below w.heap.size w w' := by
  subst hk
  refine Calls.mono (Pieces_any s c w hs) ?_
  rintro e w' ⟨v, rfl, ho, hb⟩
  obtain ⟨a4, cp4, hv, hcp, hcp2, hO9⟩ := ownForm ho
  have hl : 0 < (Nt.pcs c s).length := List.length_pos_iff.2 (Nt.pcs_ne c s)
  obtain ⟨g, rfl⟩ := hO9 hl
  subst hv
  exact ⟨g, cp4, rfl, (ho.lt g rfl).1, BoxV.own ho (txv_length _), hcp, hb⟩
end Go.Proofs.YtkemlckmfgacdaaGreatDoor
/- Contract: the document's JobFault. -/
namespace Go.Proofs.YtkemlckmfgacdaaGreatDoor
open Go.ChangeShapes Go.WideShapes Go.ChangeAt Go.RowKit
set_option linter.unusedVariables false
set_option linter.unusedSimpArgs false
open Tp Jm
set_option maxRecDepth 20000 in
set_option maxHeartbeats 16000000 in
theorem jobFault_any (j : Jb) (v : Value) (w : World) (hs : j.ask.size ≤ 1000000000) (hv : JobV w j v) : Calls Tryz.prog 8 #[v] w fun e w' => e = .returned (.int .i64 j.fault) ∧ Below w.heap.size w w' := by
  obtain ⟨x0, x1, x2, x3, xd, xl, xc, aa, ac, rfl, hp⟩ := hv
  unfold jobVal
  obtain ⟨u, P, a, b, c, x, l⟩ := j
  simp only at hp hs ⊢
  obtain ⟨U, hU⟩ : ∃ U, bts u = U := ⟨_, rfl⟩
  obtain ⟨n, hn⟩ : ∃ n, l.length = n := ⟨_, rfl⟩
  rw [hU, hn]
  obtain ⟨B, hB⟩ : ∃ B, B = w.heap.size := ⟨_, rfl⟩
  obtain ⟨W0, hW0⟩ : ∃ W, W = w.alloc (.cells #[.string U, .int .i64 P, .int .i64 a, .int .i64 b, .int .i64 c, .int .i64 x0, .string x1, .string x2, .int .i64 x3, .slice xd xl xc, .slice aa n ac] 29) := ⟨_, rfl⟩
  have hb0 : Below w.heap.size w W0 := by rw [hW0]; exact (Below.refl _ _).alloc (Nat.le_refl _) _
  have b0 : W0.cell? ⟨B, 0, none⟩ = some (.string U) := by rw [hW0]; exact (cell_top _ _ _ _ _ hB).trans rfl
  have b1 : W0.cell? ⟨B, 1, none⟩ = some (.int .i64 P) := by rw [hW0]; exact (cell_top _ _ _ _ _ hB).trans rfl
  have b2 : W0.cell? ⟨B, 2, none⟩ = some (.int .i64 a) := by rw [hW0]; exact (cell_top _ _ _ _ _ hB).trans rfl
  have b3 : W0.cell? ⟨B, 3, none⟩ = some (.int .i64 b) := by rw [hW0]; exact (cell_top _ _ _ _ _ hB).trans rfl
  have b4 : W0.cell? ⟨B, 4, none⟩ = some (.int .i64 c) := by rw [hW0]; exact (cell_top _ _ _ _ _ hB).trans rfl
  have b5 : W0.cell? ⟨B, 5, none⟩ = some (.int .i64 x0) := by rw [hW0]; exact (cell_top _ _ _ _ _ hB).trans rfl
  have b6 : W0.cell? ⟨B, 6, none⟩ = some (.string x1) := by rw [hW0]; exact (cell_top _ _ _ _ _ hB).trans rfl
  have b7 : W0.cell? ⟨B, 7, none⟩ = some (.string x2) := by rw [hW0]; exact (cell_top _ _ _ _ _ hB).trans rfl
  have b8 : W0.cell? ⟨B, 8, none⟩ = some (.int .i64 x3) := by rw [hW0]; exact (cell_top _ _ _ _ _ hB).trans rfl
  have b9 : W0.cell? ⟨B, 9, none⟩ = some (.slice xd xl xc) := by rw [hW0]; exact (cell_top _ _ _ _ _ hB).trans rfl
  have b10 : W0.cell? ⟨B, 10, none⟩ = some (.slice aa n ac) := by rw [hW0]; exact (cell_top _ _ _ _ _ hB).trans rfl
  have hBl : B < W0.heap.size := by rw [hW0, hB]; simp
  have HB0 := Lib.hid hb0
  have HV : Hid (∀ W, Below w.heap.size w W → Vals W aa (ints l)) := Lib.hid (fun W h => hp.aft.below h (Nat.le_refl _))
  have HX : Hid (∀ W, Below w.heap.size w W → AskV W x (.agg #[.int .i64 x0, .string x1, .string x2, .int .i64 x3, .slice xd xl xc])) := Lib.hid (fun W h => AskV.below h _ _ hp.ask)
  have HLB : Hid (∀ W, Calls Tryz.prog 35 #[.string U] W fun e w' => e = .returned (.bool (lab u)) ∧ Below W.heap.size W w') := Lib.hid (fun W => by rw [← hU]; exact gLabel_any (bts u) W (by rw [bts_size]; exact Nat.le_trans hp.user (by omega)))
  have HND := Lib.hid (fun W => needFault_any a b c W)
  have HAK := Lib.hid (fun W (h : Below w.heap.size w W) => AskFault_any x _ W hs (HX.out W h))
  have hac := hp.len
  simp only at hac
  rw [hn] at hac
  have hcap := hp.cap
  have HNL := Lib.hid hn
  obtain ⟨F, hF⟩ : ∃ F, (Jb.mk u P a b c x l).fault = F := ⟨_, rfl⟩
  have HF := Lib.hid hF
  rw [hF]
  obtain ⟨lb, hlb⟩ : ∃ b, lab u = b := ⟨_, rfl⟩
  rw [hlb] at HLB
  have HL := Lib.hid hlb
  obtain ⟨ne, hne⟩ : ∃ e, needE a b c = e := ⟨_, rfl⟩
  rw [hne] at HND
  have HNE := Lib.hid hne
  obtain ⟨ae, hae⟩ : ∃ e, x.fault = e := ⟨_, rfl⟩
  rw [hae] at HAK
  have HAE := Lib.hid hae
  clear hb0 hp hs hU hn hF hlb hne hae
  go_enter Tryz.func8, Tryz.ntmps8
  go_upto_region 1 with fail
  rw [← hW0, ← hB]
  clear hW0 hB
  go_wp2_with fail
  refine Calls.mono (HLB.out W0) ?_
  rintro e W1 ⟨rfl, hbn⟩
  have HB1 := Lib.hid (HB0.out.trans (hbn.mono HB0.out.size))
  replace b0 := (hbn.cell (p := ⟨B, 0, none⟩) hBl).trans b0
  replace b1 := (hbn.cell (p := ⟨B, 1, none⟩) hBl).trans b1
  replace b2 := (hbn.cell (p := ⟨B, 2, none⟩) hBl).trans b2
  replace b3 := (hbn.cell (p := ⟨B, 3, none⟩) hBl).trans b3
  replace b4 := (hbn.cell (p := ⟨B, 4, none⟩) hBl).trans b4
  replace b5 := (hbn.cell (p := ⟨B, 5, none⟩) hBl).trans b5
  replace b6 := (hbn.cell (p := ⟨B, 6, none⟩) hBl).trans b6
  replace b7 := (hbn.cell (p := ⟨B, 7, none⟩) hBl).trans b7
  replace b8 := (hbn.cell (p := ⟨B, 8, none⟩) hBl).trans b8
  replace b9 := (hbn.cell (p := ⟨B, 9, none⟩) hBl).trans b9
  replace b10 := (hbn.cell (p := ⟨B, 10, none⟩) hBl).trans b10
  replace hBl := Nat.lt_of_lt_of_le hBl hbn.size
  clear hbn
  cases lb with
  | false =>
    obtain rfl : F = 3 := by rw [← HF.out]; unfold Jb.fault; rw [if_pos HL.out]
    go_wp2_with fail
    go_ret
    exact ⟨rfl, HB1.out⟩
  | true =>
    by_cases hp : P < -1000 ∨ 1000 < P
    · obtain rfl : F = 4 := by rw [← HF.out]; unfold Jb.fault; rw [if_neg (by rw [HL.out]; simp), if_pos hp]
      rcases hp with hp | hp
      · go_wp2_with fail
        go_ret
        exact ⟨rfl, HB1.out⟩
      · have hp2 : ¬ P < -1000 := by omega
        go_wp2_with fail
        go_ret
        exact ⟨rfl, HB1.out⟩
    have hp1 : ¬ P < -1000 := by omega
    have hp2 : ¬ 1000 < P := by omega
    have HP := Lib.hid hp
    clear hp
    go_wp2_with fail
    refine Calls.mono (HND.out W1) ?_
    rintro e W2 ⟨rfl, hbn⟩
    have HB2 := Lib.hid (HB1.out.trans (hbn.mono HB1.out.size))
    replace b0 := (hbn.cell (p := ⟨B, 0, none⟩) hBl).trans b0
    replace b1 := (hbn.cell (p := ⟨B, 1, none⟩) hBl).trans b1
    replace b2 := (hbn.cell (p := ⟨B, 2, none⟩) hBl).trans b2
    replace b3 := (hbn.cell (p := ⟨B, 3, none⟩) hBl).trans b3
    replace b4 := (hbn.cell (p := ⟨B, 4, none⟩) hBl).trans b4
    replace b5 := (hbn.cell (p := ⟨B, 5, none⟩) hBl).trans b5
    replace b6 := (hbn.cell (p := ⟨B, 6, none⟩) hBl).trans b6
    replace b7 := (hbn.cell (p := ⟨B, 7, none⟩) hBl).trans b7
    replace b8 := (hbn.cell (p := ⟨B, 8, none⟩) hBl).trans b8
    replace b9 := (hbn.cell (p := ⟨B, 9, none⟩) hBl).trans b9
    replace b10 := (hbn.cell (p := ⟨B, 10, none⟩) hBl).trans b10
    replace hBl := Nat.lt_of_lt_of_le hBl hbn.size
    clear hbn
    by_cases hne : ne = 0
    · have hz : (ne == 0) = true := by simpa using hne
      have hz2 : (ne != 0) = false := by simpa using hne
      have HE0 := Lib.hid hne
      clear hne
      go_wp2_with fail
      refine Calls.mono (HAK.out W2 HB2.out) ?_
      rintro e W3 ⟨rfl, hbn⟩
      have HB3 := Lib.hid (HB2.out.trans (hbn.mono HB2.out.size))
      replace b0 := (hbn.cell (p := ⟨B, 0, none⟩) hBl).trans b0
      replace b1 := (hbn.cell (p := ⟨B, 1, none⟩) hBl).trans b1
      replace b2 := (hbn.cell (p := ⟨B, 2, none⟩) hBl).trans b2
      replace b3 := (hbn.cell (p := ⟨B, 3, none⟩) hBl).trans b3
      replace b4 := (hbn.cell (p := ⟨B, 4, none⟩) hBl).trans b4
      replace b5 := (hbn.cell (p := ⟨B, 5, none⟩) hBl).trans b5
      replace b6 := (hbn.cell (p := ⟨B, 6, none⟩) hBl).trans b6
      replace b7 := (hbn.cell (p := ⟨B, 7, none⟩) hBl).trans b7
      replace b8 := (hbn.cell (p := ⟨B, 8, none⟩) hBl).trans b8
      replace b9 := (hbn.cell (p := ⟨B, 9, none⟩) hBl).trans b9
      replace b10 := (hbn.cell (p := ⟨B, 10, none⟩) hBl).trans b10
      replace hBl := Nat.lt_of_lt_of_le hBl hbn.size
      clear hbn
      by_cases hae : ae = 0
      · have hy : (ae == 0) = true := by simpa using hae
        have hy2 : (ae != 0) = false := by simpa using hae
        have HA0 := Lib.hid hae
        clear hae
        have HFF : Hid (F = if 8 < n then 2 else aftE 0 l) := Lib.hid (by
          rw [← HF.out]; unfold Jb.fault
          rw [if_neg (by rw [HL.out]; simp), if_neg HP.out, if_neg (by show ¬ needE a b c ≠ 0; rw [HNE.out, HE0.out]; simp), if_neg (by show ¬ x.fault ≠ 0; rw [HAE.out, HA0.out]; simp)]
          show (if 8 < l.length then 2 else aftE 0 l) = _
          rw [HNL.out])
        by_cases h8 : 8 < n
        · obtain rfl : F = 2 := by rw [HFF.out, if_pos h8]
          have h8' : (8 : Int) < (n : Int) := by omega
          go_wp2_with fail
          go_ret
          exact ⟨rfl, HB3.out⟩
        · have h8' : ¬ (8 : Int) < (n : Int) := by omega
          obtain rfl : F = aftE 0 l := by rw [HFF.out, if_neg h8]
          have hn8 : n ≤ 8 := by omega
          clear h8
          have HVV := Lib.hid (HV.out W3 HB3.out)
          go_wp2_with fail
          go_loopg [38] n (fun g y wr => ∃ (k : Nat) (last : Int), k + g = n ∧ y = .int .i64 (k : Int) ∧ Hid (W3 = wr) ∧ Hid (aftE last (l.drop k) = aftE 0 l) ∧ Hid ((k = 0 ∧ last = 0) ∨ ∃ q, k = q + 1 ∧ l[q]? = some last))
          case atStart => exact ⟨0, 0, by omega, rfl, Lib.hid rfl, Lib.hid rfl, Lib.hid (.inl ⟨rfl, rfl⟩)⟩
          case round =>
            obtain ⟨k, last, hk, rfl, HW, HI, HQ⟩ := hrel
            obtain rfl := HW.out
            by_cases hkn : k < n
            · obtain ⟨m, hm⟩ : ∃ m, l[k]? = some m := ⟨_, List.getElem?_eq_getElem (by rw [HNL.out]; exact hkn)⟩
              obtain ⟨bb, off, rfl, hbl, hcells⟩ := aft_cell HVV.out hm
              have hcell := hcells k m hm
              have HC := Lib.hid hcells
              have HD : Hid (l.drop k = m :: l.drop (k + 1)) := Lib.hid (drop_some hm)
              have hk1 : (0 : Int) ≤ (k : Int) := by omega
              have hk2 : (k : Int) < (n : Int) := by omega
              have HK := Lib.hid hk
              have HM := Lib.hid hm
              have HI2 : Hid (aftE 0 l = if m < 1 ∨ 60 < m then 4 else if m ≤ last then 6 else aftE m (l.drop (k + 1))) := Lib.hid (by rw [← HI.out, HD.out, aftE_cons])
              clear hm hk hcells
              by_cases h1 : m < 1
              · have HE : Hid (aftE 0 l = 4) := Lib.hid (by rw [HI2.out, if_pos (.inl h1)])
                go_wp2_with fail
                go_ret
                exact ⟨by rw [HE.out]; try rfl, HB3.out⟩
              by_cases h2 : 60 < m
              · have HE : Hid (aftE 0 l = 4) := Lib.hid (by rw [HI2.out, if_pos (.inr h2)])
                go_wp2_with fail
                go_ret
                exact ⟨by rw [HE.out]; try rfl, HB3.out⟩
              rcases HQ.out with ⟨rfl, rfl⟩ | ⟨q, rfl, hq⟩
              · have HE : Hid (aftE m (l.drop (0 + 1)) = aftE 0 l) := Lib.hid (by rw [HI2.out, if_neg (by omega), if_neg (by omega)])
                rw [Nat.add_zero] at hcell
                go_wp2_with fail
                go_roundg (n - (0 + 1))
                case measure => (have := HK.out; omega)
                case rel => exact ⟨0 + 1, m, by have := HK.out; omega, by simp, Lib.hid rfl, HE, Lib.hid (.inr ⟨0, rfl, HM.out⟩)⟩
              · have hcq := HC.out q last hq
                have hw : IntKind.i64.wrap (((q + 1 : Nat) : Int) - 1) = (q : Int) := by rw [show ((q + 1 : Nat) : Int) - 1 = (q : Int) by omega]; exact IntWalk.i64_in _ (by omega)
                have hw' : IntKind.i64.wrap ((q : Int) + 1 - 1) = (q : Int) := by rw [show (q : Int) + 1 - 1 = (q : Int) by omega]; exact IntWalk.i64_in _ (by omega)
                have hq0 : (0 : Int) < ((q + 1 : Nat) : Int) := by omega
                have hq1 : (0 : Int) ≤ (q : Int) := by omega
                have hq2 : (q : Int) < (n : Int) := by omega
                by_cases h3 : m ≤ last
                · have HE : Hid (aftE 0 l = 6) := Lib.hid (by rw [HI2.out, if_neg (by omega), if_pos h3])
                  go_wp2_with fail
                  go_ret
                  exact ⟨by rw [HE.out]; try rfl, HB3.out⟩
                · have HE : Hid (aftE m (l.drop (q + 1 + 1)) = aftE 0 l) := Lib.hid (by rw [HI2.out, if_neg (by omega), if_neg h3])
                  go_wp2_with fail
                  go_roundg (n - (q + 1 + 1))
                  case measure => (have := HK.out; omega)
                  case rel => exact ⟨q + 1 + 1, m, by have := HK.out; omega, by simp, Lib.hid rfl, HE, Lib.hid (.inr ⟨q + 1, rfl, HM.out⟩)⟩
            · have HE : Hid (aftE 0 l = 0) := Lib.hid (by rw [← HI.out, List.drop_eq_nil_of_le (by have := HNL.out; omega)]; rfl)
              have hk2 : ¬ (k : Int) < (n : Int) := by omega
              clear hk hkn
              go_wp2_with fail
              go_ret
              exact ⟨by rw [HE.out]; try rfl, HB3.out⟩
      · obtain rfl : F = ae := by rw [← HF.out]; unfold Jb.fault; rw [if_neg (by rw [HL.out]; simp), if_neg HP.out, if_neg (by show ¬ needE a b c ≠ 0; rw [HNE.out, HE0.out]; simp), if_pos (by show x.fault ≠ 0; rw [HAE.out]; exact hae)]; exact HAE.out
        have hy : (F == 0) = false := by simpa using hae
        have hy2 : (F != 0) = true := by simpa using hae
        clear hae
        go_wp2_with fail
        go_ret
        exact ⟨rfl, HB3.out⟩
    · obtain rfl : F = ne := by rw [← HF.out]; unfold Jb.fault; rw [if_neg (by rw [HL.out]; simp), if_neg HP.out, if_pos (by show needE a b c ≠ 0; rw [HNE.out]; exact hne)]; exact HNE.out
      have hz : (F == 0) = false := by simpa using hne
      have hz2 : (F != 0) = true := by simpa using hne
      clear hne
      go_wp2_with fail
      go_ret
      exact ⟨rfl, HB2.out⟩
end Go.Proofs.YtkemlckmfgacdaaGreatDoor
/- Contract: the document's JobRead. -/
namespace Go.Proofs.YtkemlckmfgacdaaGreatDoor
open Go.ChangeShapes Go.WideShapes Go.ChangeAt Go.RowKit
set_option linter.unusedVariables false
set_option linter.unusedSimpArgs false
open Tp Jm
theorem askL_size {s : Bs} {x : Ask} (h : askL s = some x) : x.size ≤ 1000000000 := by
  unfold askL Ar.own at h
  split at h
  · cases h
  split at h
  · rename_i y _ hh
    cases h
    have := (Ar.fault_good hh.1).2
    omega
  · cases h
set_option maxRecDepth 20000 in
set_option maxHeartbeats 16000000 in
theorem jobReadR_five (s : Bs) (w : World) (hs : s.length ≤ 2000) {u p n f x : Bs} (h5 : Nt.pcs 32 s = [u, p, n, f, x]) : Calls Tryz.prog 11 #[.string (bts s)] w (JobRdQ w (rdR s) 3) := by
  obtain ⟨S, hS⟩ : ∃ S, bts s = S := ⟨_, rfl⟩
  obtain ⟨nn, hn⟩ : ∃ n, S.size = n := ⟨_, rfl⟩
  have hns : s.length = nn := by rw [← hn, ← hS, bts_size]
  obtain ⟨C, hC⟩ : ∃ C, C = w.heap.size := ⟨_, rfl⟩
  obtain ⟨W0, hW0⟩ : ∃ W, W = w.alloc (.cells #[.string ⟨#[]⟩, .int .i64 0, .int .i64 0, .int .i64 0, .int .i64 0, .int .i64 0, .string ⟨#[]⟩, .string ⟨#[]⟩, .int .i64 0, .slice none 0 0, .slice none 0 0] 29) := ⟨_, rfl⟩
  have HB0 : Hid (Below w.heap.size w W0) := Lib.hid (by rw [hW0]; exact (Below.refl _ _).alloc (Nat.le_refl _) _)
  have HBC0 : Hid (BoxV C zcells W0) := Lib.hid (by rw [hW0]; exact BoxV.top zcells hC)
  have HC : Hid (C = w.heap.size) := Lib.hid hC
  have hn3 : ¬ (3000 : Int) < (nn : Int) := by omega
  obtain ⟨U, hU⟩ : ∃ S, bts u = S := ⟨_, rfl⟩
  obtain ⟨Pp, hPp⟩ : ∃ S, bts p = S := ⟨_, rfl⟩
  obtain ⟨Nn, hNn⟩ : ∃ S, bts n = S := ⟨_, rfl⟩
  obtain ⟨Ff, hFf⟩ : ∃ S, bts f = S := ⟨_, rfl⟩
  obtain ⟨Xx, hXx⟩ : ∃ S, bts x = S := ⟨_, rfl⟩
  have HSP : Hid (Calls Tryz.prog 44 #[.string S, .int .u8 32] W0 fun e w' => ∃ G cp, e = .returned (.slice (some ⟨G, 0, none⟩) 5 cp) ∧ W0.heap.size ≤ G ∧ BoxV G [.string U, .string Pp, .string Nn, .string Ff, .string Xx] w' ∧ 5 ≤ cp ∧ Below W0.heap.size W0 w') := Lib.hid (by
    have h := pieces_b s 32 32 (by decide) W0 (by omega)
    rw [hS, h5] at h
    refine Calls.mono h ?_
    rintro e w' ⟨G, cp, h1, h2, h3, h4, h6⟩
    refine ⟨G, cp, h1, h2, ?_, h4, h6⟩
    rw [← hU, ← hPp, ← hNn, ← hFf, ← hXx]
    exact h3)
  have hlen : ∀ t, t ∈ Nt.pcs 32 s → t.length ≤ 2000 := fun t ht => Nat.le_trans (pcs_len 32 s t ht) hs
  rw [h5] at hlen
  have HAT : Hid (∀ W, Calls Tryz.prog 45 #[.string Pp] W (IntOfB W p)) := Lib.hid (fun W => by rw [← hPp]; exact intOf_b p W (by have := hlen p (by simp); omega))
  have HND : Hid (∀ W, Calls Tryz.prog 46 #[.string Nn] W fun e w' => Below W.heap.size W w' ∧ ∃ (v : Nt.V3) (code : Int), e = .returned (.tuple #[.agg #[.int .i64 (v.1 : Int), .int .i64 (v.2.1 : Int), .int .i64 (v.2.2 : Int)], .int .i64 code]) ∧ ((nd n = some v ∧ code = 0) ∨ (nd n = none ∧ code ≠ 0))) := Lib.hid (fun W => by rw [← hNn]; exact need_r n W (by have := hlen n (by simp); omega))
  have HAK := Lib.hid (fun W => ask_r x W (hlen x (by simp)))
  rw [hXx] at HAK
  have HSPF : Hid (∀ W, Calls Tryz.prog 44 #[.string Ff, .int .u8 44] W fun e w' => ∃ G cp, e = .returned (.slice (some ⟨G, 0, none⟩) (Nt.pcs 44 f).length cp) ∧ W.heap.size ≤ G ∧ BoxV G (txv (Nt.pcs 44 f)) w' ∧ (Nt.pcs 44 f).length ≤ cp ∧ Below W.heap.size W w') := Lib.hid (fun W => by rw [← hFf]; exact pieces_b f 44 44 (by decide) W (by have := hlen f (by simp); omega))
  have HFL : Hid (f.length ≤ 3000) := Lib.hid (by have := hlen f (by simp); omega)
  have HUL : Hid (u.length ≤ 1099511627776) := Lib.hid (by have := hlen u (by simp); omega)
  have HFF := Lib.hid hFf
  have HUU := Lib.hid hU
  have HSS := Lib.hid hS
  obtain ⟨O, hO⟩ : ∃ O, own (parse Nt.intOf askL s) s = O := ⟨_, rfl⟩
  have HO : Hid (own (parse5 Nt.intOf askL u p n f x) s = O) := Lib.hid (by rw [← hO]; unfold parse; rw [h5])
  unfold rdR
  rw [hO, hS]
  clear hS hs hns hO h5 hlen hU hPp hNn hFf hXx
  go_enter Tryz.func11, Tryz.ntmps11
  go_upto_region 1 with fail
  rw [← hW0, ← hC]
  clear hW0 hC
  go_wp2_with fail
  refine Calls.mono HSP.out ?_
  rintro e W1 ⟨G, gcp, rfl, hG, hBG, hgc, hbn⟩
  have HBG1 := Lib.hid hBG
  have HB1 := Lib.hid (HB0.out.trans (hbn.mono HB0.out.size))
  have HBC1 := Lib.hid (HBC0.out.step hbn)
  have HGC : Hid (W0.heap.size ≤ G) := Lib.hid hG
  clear hBG hbn hG
  have g0 := HBG1.out.cell 0 _ rfl
  have g1 := HBG1.out.cell 1 _ rfl
  have g2 := HBG1.out.cell 2 _ rfl
  have g3 := HBG1.out.cell 3 _ rfl
  have g4 := HBG1.out.cell 4 _ rfl
  have hgl := HBG1.out.lt
  go_wp2_with fail
  refine Calls.mono (HAT.out W1) ?_
  intro e W2 hq
  obtain ⟨v, pb, rfl, hbn, hev⟩ : ∃ (v : Int) (pb : Bool), e = .returned (.tuple #[.int .i64 v, .bool pb]) ∧ Below W1.heap.size W1 W2 ∧ ((Nt.intOf p = some v ∧ pb = true) ∨ (Nt.intOf p = none ∧ pb = false)) := by
    obtain ⟨hb, hq⟩ := hq
    cases hp : Nt.intOf p with
    | some v => rw [hp] at hq; exact ⟨v, _, hq, hb, .inl ⟨rfl, rfl⟩⟩
    | none => rw [hp] at hq; obtain ⟨k, h⟩ := hq; exact ⟨k, _, h, hb, .inr ⟨rfl, rfl⟩⟩
  have HEVV := Lib.hid hev
  clear hq hev
  have HB2 := Lib.hid (HB1.out.trans (hbn.mono HB1.out.size))
  have HBC2 := Lib.hid (HBC1.out.step hbn)
  have HBG2 := Lib.hid (HBG1.out.step hbn)
  clear hbn
  clear g0 g1 g2 g3 g4 hgl
  have g0 := HBG2.out.cell 0 _ rfl
  have g1 := HBG2.out.cell 1 _ rfl
  have g2 := HBG2.out.cell 2 _ rfl
  have g3 := HBG2.out.cell 3 _ rfl
  have g4 := HBG2.out.cell 4 _ rfl
  have hgl := HBG2.out.lt
  go_wp2_with fail
  refine Calls.mono (HND.out W2) ?_
  rintro e W3 ⟨hbn, q, code, rfl, hnd⟩
  have HNDD := Lib.hid hnd
  clear hnd
  have HB3 := Lib.hid (HB2.out.trans (hbn.mono HB2.out.size))
  have HBC3 := Lib.hid (HBC2.out.step hbn)
  have HBG3 := Lib.hid (HBG2.out.step hbn)
  clear hbn
  clear g0 g1 g2 g3 g4 hgl
  obtain ⟨W4, hW4⟩ : ∃ W, W3.alloc (.cells #[.int .i64 (q.1 : Int), .int .i64 (q.2.1 : Int), .int .i64 (q.2.2 : Int)] 23) = W := ⟨_, rfl⟩
  obtain ⟨N, hN⟩ : ∃ N, N = W3.heap.size := ⟨_, rfl⟩
  have hbn : Below W3.heap.size W3 W4 := by rw [← hW4]; exact (Below.refl _ _).alloc (Nat.le_refl _) _
  have HBN4 : Hid (BoxV N [.int .i64 (q.1 : Int), .int .i64 (q.2.1 : Int), .int .i64 (q.2.2 : Int)] W4) := Lib.hid (by rw [← hW4]; exact BoxV.top _ hN)
  have HB4 := Lib.hid (HB3.out.trans (hbn.mono HB3.out.size))
  have HBC4 := Lib.hid (HBC3.out.step hbn)
  have HBG4 := Lib.hid (HBG3.out.step hbn)
  clear hbn
  have g0 := HBG3.out.cell 0 _ rfl
  have g1 := HBG3.out.cell 1 _ rfl
  have g2 := HBG3.out.cell 2 _ rfl
  have g3 := HBG3.out.cell 3 _ rfl
  have g4 := HBG3.out.cell 4 _ rfl
  have hgl := HBG3.out.lt
  go_upto_region 8 with fail
  rw [← hN]
  clear hW4 hN
  clear g0 g1 g2 g3 g4 hgl
  have g0 := HBG4.out.cell 0 _ rfl
  have g1 := HBG4.out.cell 1 _ rfl
  have g2 := HBG4.out.cell 2 _ rfl
  have g3 := HBG4.out.cell 3 _ rfl
  have g4 := HBG4.out.cell 4 _ rfl
  have hgl := HBG4.out.lt
  go_wp2_with fail
  refine Calls.mono (HAK.out W4) ?_
  rintro e W5 ⟨hbn, y0, y1, y2, y3, yd, yl, yc, ok, rfl, hak⟩
  have HAKK := Lib.hid hak
  clear hak
  have HB5 := Lib.hid (HB4.out.trans (hbn.mono HB4.out.size))
  have HBC5 := Lib.hid (HBC4.out.step hbn)
  have HBG5 := Lib.hid (HBG4.out.step hbn)
  have HBN5 := Lib.hid (HBN4.out.step hbn)
  clear hbn
  clear g0 g1 g2 g3 g4 hgl
  obtain ⟨W6, hW6⟩ : ∃ W, W5.alloc (.cells #[.int .i64 y0, .string y1, .string y2, .int .i64 y3, .slice yd yl yc] 26) = W := ⟨_, rfl⟩
  obtain ⟨Y, hY⟩ : ∃ N, N = W5.heap.size := ⟨_, rfl⟩
  have hbn : Below W5.heap.size W5 W6 := by rw [← hW6]; exact (Below.refl _ _).alloc (Nat.le_refl _) _
  have HBY6 : Hid (BoxV Y [.int .i64 y0, .string y1, .string y2, .int .i64 y3, .slice yd yl yc] W6) := Lib.hid (by rw [← hW6]; exact BoxV.top _ hY)
  have HBN6 := Lib.hid (HBN5.out.step hbn)
  have H56 := Lib.hid hbn
  have HB6 := Lib.hid (HB5.out.trans (hbn.mono HB5.out.size))
  have HBC6 := Lib.hid (HBC5.out.step hbn)
  have HBG6 := Lib.hid (HBG5.out.step hbn)
  clear hbn
  have g0 := HBG5.out.cell 0 _ rfl
  have g1 := HBG5.out.cell 1 _ rfl
  have g2 := HBG5.out.cell 2 _ rfl
  have g3 := HBG5.out.cell 3 _ rfl
  have g4 := HBG5.out.cell 4 _ rfl
  have hgl := HBG5.out.lt
  go_upto_region 9 with fail
  rw [← hY]
  clear hW6 hY
  clear g0 g1 g2 g3 g4 hgl
  obtain ⟨Wd, hWd⟩ : ∃ W, W6.drew = W := ⟨_, rfl⟩
  have hbn : Below W6.heap.size W6 Wd := by rw [← hWd]; exact (Below.refl _ _).drew
  have HBGd := Lib.hid (HBG6.out.step hbn)
  have HBNd := Lib.hid (HBN6.out.step hbn)
  have HBYd := Lib.hid (HBY6.out.step hbn)
  clear hbn
  have g0 := HBGd.out.cell 0 _ rfl
  have g1 := HBGd.out.cell 1 _ rfl
  have g2 := HBGd.out.cell 2 _ rfl
  have g3 := HBGd.out.cell 3 _ rfl
  have g4 := HBGd.out.cell 4 _ rfl
  have hgl := HBGd.out.lt
  have n0 := HBNd.out.cell 0 _ rfl
  have n1 := HBNd.out.cell 1 _ rfl
  have n2 := HBNd.out.cell 2 _ rfl
  have hnl := HBNd.out.lt
  have yy0 := HBYd.out.cell 0 _ rfl
  have yy1 := HBYd.out.cell 1 _ rfl
  have yy2 := HBYd.out.cell 2 _ rfl
  have yy3 := HBYd.out.cell 3 _ rfl
  have yy4 := HBYd.out.cell 4 _ rfl
  have hyl := HBYd.out.lt
  go_region
  obtain ⟨W8, hW8⟩ : ∃ W, W = Wd.alloc (.cells #[.string U, .int .i64 v, .int .i64 (q.1 : Int), .int .i64 (q.2.1 : Int), .int .i64 (q.2.2 : Int), .int .i64 y0, .string y1, .string y2, .int .i64 y3, .slice yd yl yc, .slice none 0 0] 29) := ⟨_, rfl⟩
  obtain ⟨J, hJ⟩ : ∃ J, J = Wd.heap.size := ⟨_, rfl⟩
  rw [← hW8, ← hJ]
  have hJ6 : J = W6.heap.size := by rw [hJ, ← hWd]; rfl
  have hbn : Below W6.heap.size W6 W8 := by rw [hW8, ← hWd]; exact ((Below.refl _ _).drew).alloc (Nat.le_refl _) _
  have HJW : Hid (w.heap.size ≤ J ∧ J ≠ C ∧ J ≠ G) := Lib.hid ⟨by rw [hJ6]; exact HB6.out.size, by rw [hJ6]; exact Nat.ne_of_gt HBC6.out.lt, by rw [hJ6]; exact Nat.ne_of_gt HBG6.out.lt⟩
  have HJ6 := Lib.hid hJ6
  have H68 := Lib.hid hbn
  have HBJ8 : Hid (BoxV J (jcells U v (q.1 : Int) (q.2.1 : Int) (q.2.2 : Int) y0 y1 y2 y3 yd yl yc (.slice none 0 0)) W8) := Lib.hid (by rw [hW8]; exact BoxV.top (jcells U v (q.1 : Int) (q.2.1 : Int) (q.2.2 : Int) y0 y1 y2 y3 yd yl yc (.slice none 0 0)) hJ)
  have HB8 := Lib.hid (HB6.out.trans (hbn.mono HB6.out.size))
  have HBC8 := Lib.hid (HBC6.out.step hbn)
  have HBG8 := Lib.hid (HBG6.out.step hbn)
  have HST : Hid (JSt J W8 W8.heap.size U v (q.1 : Int) (q.2.1 : Int) (q.2.2 : Int) y0 y1 y2 y3 yd yl yc [] (.slice none 0 0) W8) := Lib.hid ⟨But.refl _ _, HBJ8.out, World.ownsRow_nil _ _ _ _, Nat.le_refl _, Nat.le_refl _⟩
  clear hbn hJ hJ6 hW8 hWd
  clear g0 g1 g2 g3 g4 hgl
  clear n0 n1 n2 hnl
  clear yy0 yy1 yy2 yy3 yy4 hyl
  have g0 := HBG8.out.cell 0 _ rfl
  have g1 := HBG8.out.cell 1 _ rfl
  have g2 := HBG8.out.cell 2 _ rfl
  have g3 := HBG8.out.cell 3 _ rfl
  have g4 := HBG8.out.cell 4 _ rfl
  go_upto_region 10 with fail
  rcases HEVV.out with ⟨h1, rfl⟩ | ⟨h1, rfl⟩
  · rcases HNDD.out with ⟨h2, rfl⟩ | ⟨h2, hcn⟩
    · rcases HAKK.out with ⟨xa, h3, rfl, hva⟩ | ⟨h3, rfl⟩
      · have HP5 : Hid (own (parse5 Nt.intOf askL u p n f x) s = own (match aftR Nt.intOf f with | some l => some ⟨u, v, (q.1 : Int), (q.2.1 : Int), (q.2.2 : Int), xa, l⟩ | none => none) s) := Lib.hid (by unfold parse5; rw [h1, h2, h3]; rfl)
        have HVA : Hid (AskVP (fun b => b ≠ J ∧ b ≠ C ∧ b < W8.heap.size) W8 xa (.agg #[.int .i64 y0, .string y1, .string y2, .int .i64 y3, .slice yd yl yc])) := Lib.hid (by
          have h1 := HJ6.out
          have h2 := HBC4.out.lt
          have h3 := H68.out.size
          have h4 := H56.out.size
          have h5 := HB4.out.size
          exact AskVP.stays (p := fun b => W4.heap.size ≤ b ∧ b < W5.heap.size) (fun b h => ⟨by omega, by omega, by omega⟩) (by omega) (fun b h hb => (H68.out.block b (by omega)).trans (H56.out.block b hb)) _ _ (AskVP.both hva (Nat.le_refl _) (fun b _ _ => rfl)))
        have HXS : Hid (xa.size ≤ 1000000000) := Lib.hid (askL_size h3)
        clear h1 h2 h3 hva
        obtain ⟨fb, hfb⟩ : ∃ b, (Ff.toList == [45]) = b := ⟨_, rfl⟩
        have hfb2 : (Ff.toList != [45]) = !fb := by rw [bne, hfb]
        have HFB : Hid (decide (f = [45]) = fb) := Lib.hid (by
          rw [← hfb, ← HFF.out, bts_toList]
          by_cases h : f = [45]
          · rw [h]; rfl
          · rw [decide_eq_false h]; simpa using h)
        go_upto_if 68 with fail
        clear hfb hfb2
        go_cut [] (fun W => ∃ l vv bs, Hid (aftR Nt.intOf f = some l) ∧ Hid (l.length ≤ 3001) ∧ Hid (JSt J W8 bs U v (q.1 : Int) (q.2.1 : Int) (q.2.2 : Int) y0 y1 y2 y3 yd yl yc l vv W))
        case first =>
          cases fb with
          | true =>
            have HF45 : Hid (aftR Nt.intOf f = some []) := Lib.hid (by unfold aftR; rw [if_pos (of_decide_eq_true HFB.out)])
            go_wp2_with fail
            go_meet
            exact ⟨[], _, _, HF45, Lib.hid (by simp), HST⟩
          | false =>
            have HF45 : Hid (aftR Nt.intOf f = nums Nt.intOf (Nt.pcs 44 f)) := Lib.hid (by unfold aftR; rw [if_neg (of_decide_eq_false HFB.out)])
            go_wp2_with fail
            refine Calls.mono (HSPF.out W8) ?_
            rintro e W9 ⟨Q, qcp, rfl, hQ, hBQ, hqc, hbn⟩
            obtain ⟨P, hP⟩ : ∃ P, Nt.pcs 44 f = P := ⟨_, rfl⟩
            have hpl : ∀ t, t ∈ P → t.length ≤ 3000 := fun t ht => Nat.le_trans (pcs_len 44 f t (by rw [hP]; exact ht)) HFL.out
            have hcnt := pcs_cnt 44 f
            rw [hP] at hBQ HF45 hcnt hqc ⊢
            obtain ⟨m, hm⟩ : ∃ m, P.length = m := ⟨_, rfl⟩
            have HBQ9 := Lib.hid hBQ
            obtain ⟨bs, hbs⟩ : ∃ bs, bs = W9.heap.size := ⟨_, rfl⟩
            have HST9 : Hid (JSt J W8 bs U v (q.1 : Int) (q.2.1 : Int) (q.2.2 : Int) y0 y1 y2 y3 yd yl yc [] (.slice none 0 0) W9) := Lib.hid ⟨But.ofBelow hbn (Nat.le_refl _), HBJ8.out.step hbn, World.ownsRow_nil _ _ _ _, by rw [hbs]; exact hbn.size, Nat.le_of_eq hbs⟩
            have HQB : Hid (Q < bs) := Lib.hid (by rw [hbs]; exact HBQ9.out.lt)
            have HQW : Hid (W8.heap.size ≤ Q ∧ J ≠ Q) := Lib.hid ⟨hQ, Nat.ne_of_lt (Nat.lt_of_lt_of_le HBJ8.out.lt hQ)⟩
            have HPL := Lib.hid hpl
            have HM := Lib.hid hm
            have hm3 : m ≤ 3001 := by have := HFL.out; omega
            have HAI : Hid (∀ t W, t ∈ P → Calls Tryz.prog 45 #[.string (bts t)] W (IntOfB W t)) := Lib.hid (fun t W ht => intOf_b t W (by have := hpl t ht; omega))
            have HN0 : Hid (nums Nt.intOf (P.take 0) = some []) := Lib.hid rfl
            rw [hm] at hqc ⊢
            clear hBQ hbn hP hpl hcnt hm hQ hbs
            go_wp2_with fail
            go_loopg [74] m (fun g y wr => ∃ (k : Nat) (l : List Int) (vv : Value), k + g = m ∧ y = .int .i64 (k : Int) ∧ Hid (nums Nt.intOf (P.take k) = some l) ∧ Hid (JSt J W8 bs U v (q.1 : Int) (q.2.1 : Int) (q.2.2 : Int) y0 y1 y2 y3 yd yl yc l vv wr) ∧ Hid (BoxV Q (txv P) wr))
            case atStart => exact ⟨0, [], _, by omega, rfl, HN0, HST9, HBQ9⟩
            case round =>
              obtain ⟨k, l, vv, hk, rfl, HNK, HSR, HBQ⟩ := hrel
              have HK := Lib.hid hk
              have HLL : Hid (l.length = k) := Lib.hid (by
                have h1 := nums_len HNK.out
                rw [List.length_take] at h1
                have h2 := HM.out
                omega)
              have HBR : Hid (Below w.heap.size w wr) := Lib.hid (HB8.out.trans (HSR.out.but.below HJW.out.1 HB8.out.size))
              by_cases hkm : k < m
              · obtain ⟨t, ht⟩ : ∃ t, P[k]? = some t := ⟨_, List.getElem?_eq_getElem (by rw [HM.out]; exact hkm)⟩
                have htm := List.mem_of_getElem? ht
                have HCT := Lib.hid (HAI.out t wr htm)
                obtain ⟨T, hT⟩ : ∃ T, bts t = T := ⟨_, rfl⟩
                rw [hT] at HCT
                have hcell : wr.cell? ⟨Q, k, none⟩ = some (.string T) := HBQ.out.cell k _ (by rw [txv_at ht, hT])
                have HTK := Lib.hid ht
                have hk1 : (0 : Int) ≤ (k : Int) := by omega
                have hk2 : (k : Int) < (m : Int) := by omega
                have hmm : (m : Int) ≤ 3001 := by omega
                clear ht htm hT hk
                go_wp2_with fail
                refine Calls.mono HCT.out ?_
                intro e w1 hq
                obtain ⟨hb1, hq⟩ := hq
                have HSR1 := Lib.hid (HSR.out.step hb1)
                have HBQ1 := Lib.hid (HBQ.out.step hb1)
                have HB1' : Hid (Below w.heap.size w w1) := Lib.hid (HBR.out.trans (hb1.mono HBR.out.size))
                clear hb1 hcell
                cases hnt : Nt.intOf t with
                | none =>
                  rw [hnt] at hq
                  obtain ⟨i0, rfl⟩ := hq
                  have HP : Hid (O = none) := Lib.hid (by rw [← HO.out, HP5.out, HF45.out, nums_stop HNK.out HTK.out hnt]; rfl)
                  have HBC9 : Hid (BoxV C zcells w1) := Lib.hid (HBC8.out.but HSR1.out.but HJW.out.2.1.symm)
                  clear hnt
                  go_upto_region 18 with fail
                  have HKX := KR.of (P := Tryz.prog) (by assumption)
                  go_light
                  have r0 := HBC9.out.cell 0 _ rfl
                  have r1 := HBC9.out.cell 1 _ rfl
                  have r2 := HBC9.out.cell 2 _ rfl
                  have r3 := HBC9.out.cell 3 _ rfl
                  have r4 := HBC9.out.cell 4 _ rfl
                  have r5 := HBC9.out.cell 5 _ rfl
                  have r6 := HBC9.out.cell 6 _ rfl
                  have r7 := HBC9.out.cell 7 _ rfl
                  have r8 := HBC9.out.cell 8 _ rfl
                  have r9 := HBC9.out.cell 9 _ rfl
                  have r10 := HBC9.out.cell 10 _ rfl
                  have rf0 := HBC9.out.fz 0
                  have rf1 := HBC9.out.fz 1
                  have rf2 := HBC9.out.fz 2
                  have rf3 := HBC9.out.fz 3
                  have rf4 := HBC9.out.fz 4
                  have rf5 := HBC9.out.fz 5
                  have rf6 := HBC9.out.fz 6
                  have rf7 := HBC9.out.fz 7
                  have rf8 := HBC9.out.fz 8
                  have rf9 := HBC9.out.fz 9
                  have rf10 := HBC9.out.fz 10
                  have hcl := HBC9.out.lt
                  go_wp2_with fail
                  refine HKX.fin ?_
                  refine bodyPost_ret (v := .tuple #[.agg #[.string ⟨#[]⟩, .int .i64 0, .int .i64 0, .int .i64 0, .int .i64 0, .int .i64 0, .string ⟨#[]⟩, .string ⟨#[]⟩, .int .i64 0, .slice none 0 0, .slice none 0 0], .int .i64 3]) (by simp [results, Tryz.results11, go_sem, cell_set, r0, r1, r2, r3, r4, r5, r6, r7, r8, r9, r10, hcl]) rfl ?_
                  show JobRdQ w O 3 _ (puts w1 C 0 [.string ⟨#[]⟩, .int .i64 0, .int .i64 0, .int .i64 0, .int .i64 0, .int .i64 0, .string ⟨#[]⟩, .string ⟨#[]⟩, .int .i64 0, .slice none 0 0, .slice none 0 0])
                  rw [HP.out]
                  exact ⟨puts_below C (Nat.le_of_eq HC.out.symm) _ _ _ HB1'.out, rfl⟩
                | some num =>
                  rw [hnt] at hq
                  obtain rfl := hq
                  have HNN : Hid (nums Nt.intOf (P.take (k + 1)) = some (l ++ [num])) := Lib.hid (by rw [take_snoc HTK.out, nums_snoc, HNK.out]; simp only; rw [hnt])
                  have HPU := Lib.hid (fun w5 g cp ho hg => HSR1.out.push (w5 := w5) (n := num) (g := g) (cp := cp) HBJ8.out.lt ho hg)
                  obtain ⟨a4, cp4, hv, hcp, hcp2, hO9⟩ := ownForm HSR1.out.own
                  subst hv
                  have hBw : bs ≤ w1.heap.size := HSR1.out.hi
                  have hk3 : k ≤ 3001 := by omega
                  have HL2 := Lib.hid HLL.out
                  clear hnt hO9
                  have j10 := HSR1.out.box.cell 10 _ rfl
                  rw [HLL.out] at j10 hcp HPU
                  have HOW : Hid (w1.ownsRow bs 3 1 (.slice a4 k cp4) k (ints l)) := Lib.hid (by have := HSR1.out.own; rw [HLL.out] at this; exact this)
                  have hjl := HSR1.out.box.lt
                  go_wp2_with (at_builtin; go_loud (refine wpList_push w1 (by rfl) _ _ 27 (by rfl) bs 3 (.int .i64 0) 8 Tryz.underlying27 infoIntJ (by rfl) (.slice a4 k cp4) k (ints l) (.int .i64 num) _ rfl (by rfl) HOW.out (by rfl) (by rfl) (by unfold maxLen; omega) (by omega) hBw ?_; intro gg cap3 w5 hown5 hgrow hgb hgl; have HPP := Lib.hid (HPU.out w5 gg cap3 hown5 hgrow); have HBQ5 : Hid (BoxV Q (txv P) w5) := Lib.hid (HBQ1.out.grown hgrow (fun e => absurd ((HOW.out.lt Q e.symm).1) (by have := HQB.out; omega))); clear hown5 hgrow hgb hgl; have s10 := HPP.out.1.cell 10 _ rfl; have sf10 := HPP.out.1.fz 10; have sl := HPP.out.1.lt))
                  go_roundg (m - (k + 1))
                  case measure => (have := HK.out; omega)
                  case rel => exact ⟨k + 1, l ++ [num], _, by have := HK.out; omega, by simp, HNN, Lib.hid HPP.out.2, Lib.hid (HBQ5.out.other (a := ⟨J, 10, none⟩) HQW.out.2 _)⟩
              · have hk2 : ¬ (k : Int) < (m : Int) := by omega
                have HAF : Hid (aftR Nt.intOf f = some l) := Lib.hid (by rw [HF45.out, ← HNK.out, List.take_of_length_le (by have := HM.out; have := HK.out; omega)])
                have HL3 : Hid (l.length ≤ 3001) := Lib.hid (by have := HLL.out; have := HK.out; omega)
                clear hk hkm
                go_wp2_with fail
                go_meet
                exact ⟨l, vv, bs, HAF, HL3, HSR⟩
        case rest =>
          obtain ⟨l, vv, bs, HAFT, HLN, HSR⟩ := hcut
          obtain ⟨a4, cp4, hv4, hcp, hcp2, hO9⟩ := ownForm HSR.out.own
          subst hv4
          have HVALS : ∀ W, W.ownsRow bs 3 1 (.slice a4 l.length cp4) l.length (ints l) → Vals W a4 (ints l) := fun W h => by
            obtain ⟨a, cap, e, hV⟩ := IsVals.own h
            have h2 := Value.slice.inj e
            rw [h2.1]
            exact hV
          have HBWC : Hid (Below w.heap.size w wc) := Lib.hid (HB8.out.trans (HSR.out.but.below HJW.out.1 HB8.out.size))
          obtain ⟨j, hj⟩ : ∃ j : Jb, j = ⟨u, v, (q.1 : Int), (q.2.1 : Int), (q.2.2 : Int), xa, l⟩ := ⟨_, rfl⟩
          have HJE := Lib.hid hj
          have HOJ : Hid (O = if j.fault = 0 ∧ j.text = s then some j else none) := Lib.hid (by rw [← HO.out, HP5.out, HAFT.out, hj]; rfl)
          have HPX : Hid (∀ W, W8.heap.size ≤ W.heap.size → (∀ b, b ≠ J ∧ b ≠ C ∧ b < W8.heap.size → W.heap[b]? = W8.heap[b]?) → W.ownsRow bs 3 1 (.slice a4 l.length cp4) l.length (ints l) → JobP W j y0 y1 y2 y3 yd yl yc a4 cp4) := Lib.hid (fun W h1 h2 h3 => by
            rw [hj]
            exact ⟨AskVP.toV _ _ (AskVP.stays (fun b h => h) h1 (fun b h _ => h2 b h) _ _ HVA.out), HVALS W h3, HUL.out, hcp, hcp2⟩)
          have HJV : Hid (∀ W, W8.heap.size ≤ W.heap.size → (∀ b, b ≠ J ∧ b ≠ C ∧ b < W8.heap.size → W.heap[b]? = W8.heap[b]?) → W.ownsRow bs 3 1 (.slice a4 l.length cp4) l.length (ints l) → JobV W j (jobVal U v (q.1 : Int) (q.2.1 : Int) (q.2.2 : Int) y0 y1 y2 y3 yd yl yc a4 l.length cp4)) := Lib.hid (fun W h1 h2 h3 => ⟨y0, y1, y2, y3, yd, yl, yc, a4, cp4, by rw [hj]; simp only; rw [HUU.out], HPX.out W h1 h2 h3⟩)
          have HXJ : Hid (j.ask.size ≤ 1000000000) := Lib.hid (by rw [hj]; exact HXS.out)
          have HTX : Hid (Calls Tryz.prog 8 #[jobVal U v (q.1 : Int) (q.2.1 : Int) (q.2.2 : Int) y0 y1 y2 y3 yd yl yc a4 l.length cp4] wc fun e w' => e = .returned (.int .i64 j.fault) ∧ Below wc.heap.size wc w') := Lib.hid (jobFault_any j _ wc HXJ.out (HJV.out wc HSR.out.but.size (fun b h => HSR.out.but.block b h.2.2 h.1) HSR.out.own))
          have HTY : Hid (j.fault = 0 → ∀ W, W8.heap.size ≤ W.heap.size → (∀ b, b ≠ J ∧ b ≠ C ∧ b < W8.heap.size → W.heap[b]? = W8.heap[b]?) → W.ownsRow bs 3 1 (.slice a4 l.length cp4) l.length (ints l) → Calls Tryz.prog 10 #[jobVal U v (q.1 : Int) (q.2.1 : Int) (q.2.2 : Int) y0 y1 y2 y3 yd yl yc a4 l.length cp4] W fun e w' => e = .returned (.string (bts j.text)) ∧ Below W.heap.size W w') := Lib.hid (fun h0 W h1 h2 h3 => jobTextR_any j _ W h0 (HJV.out W h1 h2 h3))
          unfold jobVal at HTX HTY
          obtain ⟨F, hF⟩ : ∃ F, j.fault = F := ⟨_, rfl⟩
          obtain ⟨T, hT⟩ : ∃ T, bts j.text = T := ⟨_, rfl⟩
          have HF := Lib.hid hF
          have HT := Lib.hid hT
          rw [hF] at HTX
          rw [hF, hT] at HTY
          have HBJC := Lib.hid HSR.out.box
          have HCJ : Hid (C < W8.heap.size) := Lib.hid HBC8.out.lt
          clear hj hF hT hO9 HVALS
          have e0 := HBJC.out.cell 0 _ rfl
          have e1 := HBJC.out.cell 1 _ rfl
          have e2 := HBJC.out.cell 2 _ rfl
          have e3 := HBJC.out.cell 3 _ rfl
          have e4 := HBJC.out.cell 4 _ rfl
          have e5 := HBJC.out.cell 5 _ rfl
          have e6 := HBJC.out.cell 6 _ rfl
          have e7 := HBJC.out.cell 7 _ rfl
          have e8 := HBJC.out.cell 8 _ rfl
          have e9 := HBJC.out.cell 9 _ rfl
          have e10 := HBJC.out.cell 10 _ rfl
          go_wp2_with fail
          refine Calls.mono HTX.out ?_
          rintro e W10 ⟨rfl, hbn⟩
          have HSR2 := Lib.hid (HSR.out.step hbn)
          have HB10 := Lib.hid (HBWC.out.trans (hbn.mono HBWC.out.size))
          have HBC10 : Hid (BoxV C zcells W10) := Lib.hid (HBC8.out.but HSR2.out.but HJW.out.2.1.symm)
          have HBJ10 := Lib.hid HSR2.out.box
          clear hbn e0 e1 e2 e3 e4 e5 e6 e7 e8 e9 e10
          by_cases h0 : F = 0
          · subst h0
            have HTY2 := Lib.hid (HTY.out rfl W10 HSR2.out.but.size (fun b h => HSR2.out.but.block b h.2.2 h.1) HSR2.out.own)
            have HBJX := HBJ10
            have e0 := HBJ10.out.cell 0 _ rfl
            have e1 := HBJ10.out.cell 1 _ rfl
            have e2 := HBJ10.out.cell 2 _ rfl
            have e3 := HBJ10.out.cell 3 _ rfl
            have e4 := HBJ10.out.cell 4 _ rfl
            have e5 := HBJ10.out.cell 5 _ rfl
            have e6 := HBJ10.out.cell 6 _ rfl
            have e7 := HBJ10.out.cell 7 _ rfl
            have e8 := HBJ10.out.cell 8 _ rfl
            have e9 := HBJ10.out.cell 9 _ rfl
            have e10 := HBJ10.out.cell 10 _ rfl
            go_wp2_with fail
            refine Calls.mono HTY2.out ?_
            rintro e W11 ⟨rfl, hbn⟩
            replace HSR2 := Lib.hid (HSR2.out.step hbn)
            replace HB10 := Lib.hid (HB10.out.trans (hbn.mono HB10.out.size))
            replace HBC10 : Hid (BoxV C zcells W11) := Lib.hid (HBC8.out.but HSR2.out.but HJW.out.2.1.symm)
            replace HBJ10 := Lib.hid HSR2.out.box
            clear hbn HBJX e0 e1 e2 e3 e4 e5 e6 e7 e8 e9 e10
            obtain ⟨tb, htb⟩ : ∃ b, (T.toList == S.toList) = b := ⟨_, rfl⟩
            have htb2 : (T.toList != S.toList) = !tb := by rw [bne, htb]
            have HTB : Hid (decide (j.text = s) = tb) := Lib.hid (by
              rw [← htb, ← HT.out, ← HSS.out]; rw [bts_toList, bts_toList]
              by_cases h : j.text = s
              · rw [h]; simp
              · simp [h])
            cases tb with
            | false =>
              have HP : Hid (O = none) := Lib.hid (by rw [HOJ.out]; exact if_neg (fun h => of_decide_eq_false HTB.out h.2))
              go_upto_region 22 with fail
              have HKX := KR.of (P := Tryz.prog) (by assumption)
              go_light
              have r0 := HBC10.out.cell 0 _ rfl
              have r1 := HBC10.out.cell 1 _ rfl
              have r2 := HBC10.out.cell 2 _ rfl
              have r3 := HBC10.out.cell 3 _ rfl
              have r4 := HBC10.out.cell 4 _ rfl
              have r5 := HBC10.out.cell 5 _ rfl
              have r6 := HBC10.out.cell 6 _ rfl
              have r7 := HBC10.out.cell 7 _ rfl
              have r8 := HBC10.out.cell 8 _ rfl
              have r9 := HBC10.out.cell 9 _ rfl
              have r10 := HBC10.out.cell 10 _ rfl
              have rf0 := HBC10.out.fz 0
              have rf1 := HBC10.out.fz 1
              have rf2 := HBC10.out.fz 2
              have rf3 := HBC10.out.fz 3
              have rf4 := HBC10.out.fz 4
              have rf5 := HBC10.out.fz 5
              have rf6 := HBC10.out.fz 6
              have rf7 := HBC10.out.fz 7
              have rf8 := HBC10.out.fz 8
              have rf9 := HBC10.out.fz 9
              have rf10 := HBC10.out.fz 10
              have hcl := HBC10.out.lt
              go_wp2_with fail
              refine HKX.fin ?_
              refine bodyPost_ret (v := .tuple #[.agg #[.string ⟨#[]⟩, .int .i64 0, .int .i64 0, .int .i64 0, .int .i64 0, .int .i64 0, .string ⟨#[]⟩, .string ⟨#[]⟩, .int .i64 0, .slice none 0 0, .slice none 0 0], .int .i64 3]) (by simp [results, Tryz.results11, go_sem, cell_set, r0, r1, r2, r3, r4, r5, r6, r7, r8, r9, r10, hcl]) rfl ?_
              show JobRdQ w O 3 _ (puts W11 C 0 [.string ⟨#[]⟩, .int .i64 0, .int .i64 0, .int .i64 0, .int .i64 0, .int .i64 0, .string ⟨#[]⟩, .string ⟨#[]⟩, .int .i64 0, .slice none 0 0, .slice none 0 0])
              rw [HP.out]
              exact ⟨puts_below C (Nat.le_of_eq HC.out.symm) _ _ _ HB10.out, rfl⟩
            | true =>
              have HP : Hid (O = some j) := Lib.hid (by rw [HOJ.out]; exact if_pos ⟨HF.out, of_decide_eq_true HTB.out⟩)
              go_upto_region 23 with fail
              have HKX := KR.of (P := Tryz.prog) (by assumption)
              go_light
              have r0 := HBC10.out.cell 0 _ rfl
              have r1 := HBC10.out.cell 1 _ rfl
              have r2 := HBC10.out.cell 2 _ rfl
              have r3 := HBC10.out.cell 3 _ rfl
              have r4 := HBC10.out.cell 4 _ rfl
              have r5 := HBC10.out.cell 5 _ rfl
              have r6 := HBC10.out.cell 6 _ rfl
              have r7 := HBC10.out.cell 7 _ rfl
              have r8 := HBC10.out.cell 8 _ rfl
              have r9 := HBC10.out.cell 9 _ rfl
              have r10 := HBC10.out.cell 10 _ rfl
              have rf0 := HBC10.out.fz 0
              have rf1 := HBC10.out.fz 1
              have rf2 := HBC10.out.fz 2
              have rf3 := HBC10.out.fz 3
              have rf4 := HBC10.out.fz 4
              have rf5 := HBC10.out.fz 5
              have rf6 := HBC10.out.fz 6
              have rf7 := HBC10.out.fz 7
              have rf8 := HBC10.out.fz 8
              have rf9 := HBC10.out.fz 9
              have rf10 := HBC10.out.fz 10
              have hcl := HBC10.out.lt
              have e0 := HBJ10.out.cell 0 _ rfl
              have e1 := HBJ10.out.cell 1 _ rfl
              have e2 := HBJ10.out.cell 2 _ rfl
              have e3 := HBJ10.out.cell 3 _ rfl
              have e4 := HBJ10.out.cell 4 _ rfl
              have e5 := HBJ10.out.cell 5 _ rfl
              have e6 := HBJ10.out.cell 6 _ rfl
              have e7 := HBJ10.out.cell 7 _ rfl
              have e8 := HBJ10.out.cell 8 _ rfl
              have e9 := HBJ10.out.cell 9 _ rfl
              have e10 := HBJ10.out.cell 10 _ rfl
              go_wp2_with fail
              refine HKX.fin ?_
              refine bodyPost_ret (v := .tuple #[.agg #[.string U, .int .i64 v, .int .i64 (q.1 : Int), .int .i64 (q.2.1 : Int), .int .i64 (q.2.2 : Int), .int .i64 y0, .string y1, .string y2, .int .i64 y3, .slice yd yl yc, .slice a4 l.length cp4], .int .i64 0]) (by simp [results, Tryz.results11, go_sem, cell_set, r0, r1, r2, r3, r4, r5, r6, r7, r8, r9, r10, hcl]) rfl ?_
              show JobRdQ w O 3 _ (puts W11 C 0 [.string U, .int .i64 v, .int .i64 (q.1 : Int), .int .i64 (q.2.1 : Int), .int .i64 (q.2.2 : Int), .int .i64 y0, .string y1, .string y2, .int .i64 y3, .slice yd yl yc, .slice a4 l.length cp4])
              rw [HP.out]
              refine ⟨puts_below C (Nat.le_of_eq HC.out.symm) _ _ _ HB10.out, _, rfl, y0, y1, y2, y3, yd, yl, yc, a4, cp4, ?_, HPX.out _ (by rw [puts_size]; exact HSR2.out.but.size) (fun b h => ?_) (puts_own (Nat.lt_of_lt_of_le HCJ.out HSR2.out.lo) _ _ _ HSR2.out.own)⟩
              · rw [HJE.out]; simp only; rw [HUU.out]; rfl
              · rw [puts_heap C h.2.1]
                exact HSR2.out.but.block b h.2.2 h.1
          · have hz : (F == 0) = false := by simpa using h0
            have hz2 : (F != 0) = true := by simpa using h0
            have HP : Hid (O = none) := Lib.hid (by rw [HOJ.out]; exact if_neg (fun h => h0 (HF.out.symm.trans h.1)))
            clear h0
            go_upto_region 22 with fail
            have HKX := KR.of (P := Tryz.prog) (by assumption)
            go_light
            have r0 := HBC10.out.cell 0 _ rfl
            have r1 := HBC10.out.cell 1 _ rfl
            have r2 := HBC10.out.cell 2 _ rfl
            have r3 := HBC10.out.cell 3 _ rfl
            have r4 := HBC10.out.cell 4 _ rfl
            have r5 := HBC10.out.cell 5 _ rfl
            have r6 := HBC10.out.cell 6 _ rfl
            have r7 := HBC10.out.cell 7 _ rfl
            have r8 := HBC10.out.cell 8 _ rfl
            have r9 := HBC10.out.cell 9 _ rfl
            have r10 := HBC10.out.cell 10 _ rfl
            have rf0 := HBC10.out.fz 0
            have rf1 := HBC10.out.fz 1
            have rf2 := HBC10.out.fz 2
            have rf3 := HBC10.out.fz 3
            have rf4 := HBC10.out.fz 4
            have rf5 := HBC10.out.fz 5
            have rf6 := HBC10.out.fz 6
            have rf7 := HBC10.out.fz 7
            have rf8 := HBC10.out.fz 8
            have rf9 := HBC10.out.fz 9
            have rf10 := HBC10.out.fz 10
            have hcl := HBC10.out.lt
            go_wp2_with fail
            refine HKX.fin ?_
            refine bodyPost_ret (v := .tuple #[.agg #[.string ⟨#[]⟩, .int .i64 0, .int .i64 0, .int .i64 0, .int .i64 0, .int .i64 0, .string ⟨#[]⟩, .string ⟨#[]⟩, .int .i64 0, .slice none 0 0, .slice none 0 0], .int .i64 3]) (by simp [results, Tryz.results11, go_sem, cell_set, r0, r1, r2, r3, r4, r5, r6, r7, r8, r9, r10, hcl]) rfl ?_
            show JobRdQ w O 3 _ (puts W10 C 0 [.string ⟨#[]⟩, .int .i64 0, .int .i64 0, .int .i64 0, .int .i64 0, .int .i64 0, .string ⟨#[]⟩, .string ⟨#[]⟩, .int .i64 0, .slice none 0 0, .slice none 0 0])
            rw [HP.out]
            exact ⟨puts_below C (Nat.le_of_eq HC.out.symm) _ _ _ HB10.out, rfl⟩
      · have hpn : own (parse5 Nt.intOf askL u p n f x) s = none := by unfold parse5; rw [h1, h2, h3]; rfl
        clear h1 h2 h3
        have HP : Hid (O = none) := Lib.hid (by rw [← HO.out, hpn])
        clear hpn
        go_upto_region 11 with fail
        have HKX := KR.of (P := Tryz.prog) (by assumption)
        go_light
        have r0 := HBC8.out.cell 0 _ rfl
        have r1 := HBC8.out.cell 1 _ rfl
        have r2 := HBC8.out.cell 2 _ rfl
        have r3 := HBC8.out.cell 3 _ rfl
        have r4 := HBC8.out.cell 4 _ rfl
        have r5 := HBC8.out.cell 5 _ rfl
        have r6 := HBC8.out.cell 6 _ rfl
        have r7 := HBC8.out.cell 7 _ rfl
        have r8 := HBC8.out.cell 8 _ rfl
        have r9 := HBC8.out.cell 9 _ rfl
        have r10 := HBC8.out.cell 10 _ rfl
        have rf0 := HBC8.out.fz 0
        have rf1 := HBC8.out.fz 1
        have rf2 := HBC8.out.fz 2
        have rf3 := HBC8.out.fz 3
        have rf4 := HBC8.out.fz 4
        have rf5 := HBC8.out.fz 5
        have rf6 := HBC8.out.fz 6
        have rf7 := HBC8.out.fz 7
        have rf8 := HBC8.out.fz 8
        have rf9 := HBC8.out.fz 9
        have rf10 := HBC8.out.fz 10
        have hcl := HBC8.out.lt
        go_wp2_with fail
        refine HKX.fin ?_
        refine bodyPost_ret (v := .tuple #[.agg #[.string ⟨#[]⟩, .int .i64 0, .int .i64 0, .int .i64 0, .int .i64 0, .int .i64 0, .string ⟨#[]⟩, .string ⟨#[]⟩, .int .i64 0, .slice none 0 0, .slice none 0 0], .int .i64 3]) (by simp [results, Tryz.results11, go_sem, cell_set, r0, r1, r2, r3, r4, r5, r6, r7, r8, r9, r10, hcl]) rfl ?_
        show JobRdQ w O 3 _ (puts W8 C 0 [.string ⟨#[]⟩, .int .i64 0, .int .i64 0, .int .i64 0, .int .i64 0, .int .i64 0, .string ⟨#[]⟩, .string ⟨#[]⟩, .int .i64 0, .slice none 0 0, .slice none 0 0])
        rw [HP.out]
        exact ⟨puts_below C (Nat.le_of_eq HC.out.symm) _ _ _ HB8.out, rfl⟩
    · have hpn : own (parse5 Nt.intOf askL u p n f x) s = none := by unfold parse5; rw [h1, h2]; rfl
      have hc1 : (code == 0) = false := by simpa using hcn
      have hc2 : (code != 0) = true := by simpa using hcn
      clear h1 h2 hcn
      have HP : Hid (O = none) := Lib.hid (by rw [← HO.out, hpn])
      clear hpn
      go_upto_region 11 with fail
      have HKX := KR.of (P := Tryz.prog) (by assumption)
      go_light
      have r0 := HBC8.out.cell 0 _ rfl
      have r1 := HBC8.out.cell 1 _ rfl
      have r2 := HBC8.out.cell 2 _ rfl
      have r3 := HBC8.out.cell 3 _ rfl
      have r4 := HBC8.out.cell 4 _ rfl
      have r5 := HBC8.out.cell 5 _ rfl
      have r6 := HBC8.out.cell 6 _ rfl
      have r7 := HBC8.out.cell 7 _ rfl
      have r8 := HBC8.out.cell 8 _ rfl
      have r9 := HBC8.out.cell 9 _ rfl
      have r10 := HBC8.out.cell 10 _ rfl
      have rf0 := HBC8.out.fz 0
      have rf1 := HBC8.out.fz 1
      have rf2 := HBC8.out.fz 2
      have rf3 := HBC8.out.fz 3
      have rf4 := HBC8.out.fz 4
      have rf5 := HBC8.out.fz 5
      have rf6 := HBC8.out.fz 6
      have rf7 := HBC8.out.fz 7
      have rf8 := HBC8.out.fz 8
      have rf9 := HBC8.out.fz 9
      have rf10 := HBC8.out.fz 10
      have hcl := HBC8.out.lt
      go_wp2_with fail
      refine HKX.fin ?_
      refine bodyPost_ret (v := .tuple #[.agg #[.string ⟨#[]⟩, .int .i64 0, .int .i64 0, .int .i64 0, .int .i64 0, .int .i64 0, .string ⟨#[]⟩, .string ⟨#[]⟩, .int .i64 0, .slice none 0 0, .slice none 0 0], .int .i64 3]) (by simp [results, Tryz.results11, go_sem, cell_set, r0, r1, r2, r3, r4, r5, r6, r7, r8, r9, r10, hcl]) rfl ?_
      show JobRdQ w O 3 _ (puts W8 C 0 [.string ⟨#[]⟩, .int .i64 0, .int .i64 0, .int .i64 0, .int .i64 0, .int .i64 0, .string ⟨#[]⟩, .string ⟨#[]⟩, .int .i64 0, .slice none 0 0, .slice none 0 0])
      rw [HP.out]
      exact ⟨puts_below C (Nat.le_of_eq HC.out.symm) _ _ _ HB8.out, rfl⟩
  · have hpn : own (parse5 Nt.intOf askL u p n f x) s = none := by unfold parse5; rw [h1]; rfl
    clear h1
    have HP : Hid (O = none) := Lib.hid (by rw [← HO.out, hpn])
    clear hpn
    go_upto_region 11 with fail
    have HKX := KR.of (P := Tryz.prog) (by assumption)
    go_light
    have r0 := HBC8.out.cell 0 _ rfl
    have r1 := HBC8.out.cell 1 _ rfl
    have r2 := HBC8.out.cell 2 _ rfl
    have r3 := HBC8.out.cell 3 _ rfl
    have r4 := HBC8.out.cell 4 _ rfl
    have r5 := HBC8.out.cell 5 _ rfl
    have r6 := HBC8.out.cell 6 _ rfl
    have r7 := HBC8.out.cell 7 _ rfl
    have r8 := HBC8.out.cell 8 _ rfl
    have r9 := HBC8.out.cell 9 _ rfl
    have r10 := HBC8.out.cell 10 _ rfl
    have rf0 := HBC8.out.fz 0
    have rf1 := HBC8.out.fz 1
    have rf2 := HBC8.out.fz 2
    have rf3 := HBC8.out.fz 3
    have rf4 := HBC8.out.fz 4
    have rf5 := HBC8.out.fz 5
    have rf6 := HBC8.out.fz 6
    have rf7 := HBC8.out.fz 7
    have rf8 := HBC8.out.fz 8
    have rf9 := HBC8.out.fz 9
    have rf10 := HBC8.out.fz 10
    have hcl := HBC8.out.lt
    go_wp2_with fail
    refine HKX.fin ?_
    refine bodyPost_ret (v := .tuple #[.agg #[.string ⟨#[]⟩, .int .i64 0, .int .i64 0, .int .i64 0, .int .i64 0, .int .i64 0, .string ⟨#[]⟩, .string ⟨#[]⟩, .int .i64 0, .slice none 0 0, .slice none 0 0], .int .i64 3]) (by simp [results, Tryz.results11, go_sem, cell_set, r0, r1, r2, r3, r4, r5, r6, r7, r8, r9, r10, hcl]) rfl ?_
    show JobRdQ w O 3 _ (puts W8 C 0 [.string ⟨#[]⟩, .int .i64 0, .int .i64 0, .int .i64 0, .int .i64 0, .int .i64 0, .string ⟨#[]⟩, .string ⟨#[]⟩, .int .i64 0, .slice none 0 0, .slice none 0 0])
    rw [HP.out]
    exact ⟨puts_below C (Nat.le_of_eq HC.out.symm) _ _ _ HB8.out, rfl⟩
set_option maxRecDepth 20000 in
set_option maxHeartbeats 8000000 in
/-- a long text -/
theorem jobReadR_long (s : Bs) (w : World) (hs : 3000 < s.length) : Calls Tryz.prog 11 #[.string (bts s)] w (JobRdQ w none 2) := by
  obtain ⟨S, hS⟩ : ∃ S, bts s = S := ⟨_, rfl⟩
  obtain ⟨n, hn⟩ : ∃ n, S.size = n := ⟨_, rfl⟩
  have hns : s.length = n := by rw [← hn, ← hS, bts_size]
  obtain ⟨C, hC⟩ : ∃ C, C = w.heap.size := ⟨_, rfl⟩
  obtain ⟨W0, hW0⟩ : ∃ W, W = w.alloc (.cells #[.string ⟨#[]⟩, .int .i64 0, .int .i64 0, .int .i64 0, .int .i64 0, .int .i64 0, .string ⟨#[]⟩, .string ⟨#[]⟩, .int .i64 0, .slice none 0 0, .slice none 0 0] 29) := ⟨_, rfl⟩
  have HB0 : Hid (Below w.heap.size w W0) := Lib.hid (by rw [hW0]; exact (Below.refl _ _).alloc (Nat.le_refl _) _)
  have HBC0 : Hid (BoxV C zcells W0) := Lib.hid (by rw [hW0]; exact BoxV.top zcells hC)
  have HC : Hid (C = w.heap.size) := Lib.hid hC
  have hn3 : (3000 : Int) < (n : Int) := by omega
  obtain ⟨O, hO⟩ : ∃ O : Option Jb, O = none := ⟨_, rfl⟩
  have HP := Lib.hid hO
  rw [← hO, hS]
  clear hS hs hns hO
  go_enter Tryz.func11, Tryz.ntmps11
  go_upto_region 1 with fail
  rw [← hW0, ← hC]
  clear hW0 hC
  have r0 := HBC0.out.cell 0 _ rfl
  have r1 := HBC0.out.cell 1 _ rfl
  have r2 := HBC0.out.cell 2 _ rfl
  have r3 := HBC0.out.cell 3 _ rfl
  have r4 := HBC0.out.cell 4 _ rfl
  have r5 := HBC0.out.cell 5 _ rfl
  have r6 := HBC0.out.cell 6 _ rfl
  have r7 := HBC0.out.cell 7 _ rfl
  have r8 := HBC0.out.cell 8 _ rfl
  have r9 := HBC0.out.cell 9 _ rfl
  have r10 := HBC0.out.cell 10 _ rfl
  have rf0 := HBC0.out.fz 0
  have rf1 := HBC0.out.fz 1
  have rf2 := HBC0.out.fz 2
  have rf3 := HBC0.out.fz 3
  have rf4 := HBC0.out.fz 4
  have rf5 := HBC0.out.fz 5
  have rf6 := HBC0.out.fz 6
  have rf7 := HBC0.out.fz 7
  have rf8 := HBC0.out.fz 8
  have rf9 := HBC0.out.fz 9
  have rf10 := HBC0.out.fz 10
  have hcl := HBC0.out.lt
  go_wp2_with fail
  refine bodyPost_ret (v := .tuple #[.agg #[.string ⟨#[]⟩, .int .i64 0, .int .i64 0, .int .i64 0, .int .i64 0, .int .i64 0, .string ⟨#[]⟩, .string ⟨#[]⟩, .int .i64 0, .slice none 0 0, .slice none 0 0], .int .i64 2]) (by simp [results, Tryz.results11, go_sem, cell_set, r0, r1, r2, r3, r4, r5, r6, r7, r8, r9, r10, hcl]) rfl ?_
  show JobRdQ w O 2 _ (puts W0 C 0 [.string ⟨#[]⟩, .int .i64 0, .int .i64 0, .int .i64 0, .int .i64 0, .int .i64 0, .string ⟨#[]⟩, .string ⟨#[]⟩, .int .i64 0, .slice none 0 0, .slice none 0 0])
  rw [HP.out]
  exact ⟨puts_below C (Nat.le_of_eq HC.out.symm) _ _ _ HB0.out, rfl⟩
set_option maxRecDepth 20000 in
set_option maxHeartbeats 16000000 in
theorem jobReadR_few (s : Bs) (w : World) (hs : s.length ≤ 3000) (h5 : (Nt.pcs 32 s).length ≠ 5) : Calls Tryz.prog 11 #[.string (bts s)] w (JobRdQ w none 3) := by
  obtain ⟨S, hS⟩ : ∃ S, bts s = S := ⟨_, rfl⟩
  obtain ⟨n, hn⟩ : ∃ n, S.size = n := ⟨_, rfl⟩
  have hns : s.length = n := by rw [← hn, ← hS, bts_size]
  obtain ⟨C, hC⟩ : ∃ C, C = w.heap.size := ⟨_, rfl⟩
  obtain ⟨W0, hW0⟩ : ∃ W, W = w.alloc (.cells #[.string ⟨#[]⟩, .int .i64 0, .int .i64 0, .int .i64 0, .int .i64 0, .int .i64 0, .string ⟨#[]⟩, .string ⟨#[]⟩, .int .i64 0, .slice none 0 0, .slice none 0 0] 29) := ⟨_, rfl⟩
  have HB0 : Hid (Below w.heap.size w W0) := Lib.hid (by rw [hW0]; exact (Below.refl _ _).alloc (Nat.le_refl _) _)
  have HBC0 : Hid (BoxV C zcells W0) := Lib.hid (by rw [hW0]; exact BoxV.top zcells hC)
  have HC : Hid (C = w.heap.size) := Lib.hid hC
  have hn3 : ¬ (3000 : Int) < (n : Int) := by omega
  obtain ⟨P, hP⟩ : ∃ P, Nt.pcs 32 s = P := ⟨_, rfl⟩
  rw [hP] at h5
  obtain ⟨m, hm⟩ : ∃ m, P.length = m := ⟨_, rfl⟩
  have hm5 : ¬ (m : Int) = 5 := by omega
  have hm51 : ((m : Int) == 5) = false := by simpa using hm5
  have hm52 : ((m : Int) != 5) = true := by simpa using hm5
  have HSP : Hid (Calls Tryz.prog 44 #[.string S, .int .u8 32] W0 fun e w' => ∃ G cp, e = .returned (.slice (some ⟨G, 0, none⟩) m cp) ∧ Below W0.heap.size W0 w') := Lib.hid (by
    have h := pieces_b s 32 32 (by decide) W0 (by omega)
    rw [hS, hP, hm] at h
    refine Calls.mono h ?_
    rintro e w' ⟨G, cp, h1, h2, h3, h4, h5⟩
    exact ⟨G, cp, h1, h5⟩)
  obtain ⟨O, hO⟩ : ∃ O : Option Jb, O = none := ⟨_, rfl⟩
  have HP := Lib.hid hO
  rw [← hO, hS]
  clear hS hs hns hO hP h5 hm
  go_enter Tryz.func11, Tryz.ntmps11
  go_upto_region 1 with fail
  rw [← hW0, ← hC]
  clear hW0 hC
  go_wp2_with fail
  refine Calls.mono HSP.out ?_
  rintro e W1 ⟨G, cp, rfl, hb1⟩
  have HB1 := Lib.hid (HB0.out.trans (hb1.mono HB0.out.size))
  have HBC1 := Lib.hid (HBC0.out.step hb1)
  clear hb1
  have r0 := HBC1.out.cell 0 _ rfl
  have r1 := HBC1.out.cell 1 _ rfl
  have r2 := HBC1.out.cell 2 _ rfl
  have r3 := HBC1.out.cell 3 _ rfl
  have r4 := HBC1.out.cell 4 _ rfl
  have r5 := HBC1.out.cell 5 _ rfl
  have r6 := HBC1.out.cell 6 _ rfl
  have r7 := HBC1.out.cell 7 _ rfl
  have r8 := HBC1.out.cell 8 _ rfl
  have r9 := HBC1.out.cell 9 _ rfl
  have r10 := HBC1.out.cell 10 _ rfl
  have rf0 := HBC1.out.fz 0
  have rf1 := HBC1.out.fz 1
  have rf2 := HBC1.out.fz 2
  have rf3 := HBC1.out.fz 3
  have rf4 := HBC1.out.fz 4
  have rf5 := HBC1.out.fz 5
  have rf6 := HBC1.out.fz 6
  have rf7 := HBC1.out.fz 7
  have rf8 := HBC1.out.fz 8
  have rf9 := HBC1.out.fz 9
  have rf10 := HBC1.out.fz 10
  have hcl := HBC1.out.lt
  go_wp2_with fail
  refine bodyPost_ret (v := .tuple #[.agg #[.string ⟨#[]⟩, .int .i64 0, .int .i64 0, .int .i64 0, .int .i64 0, .int .i64 0, .string ⟨#[]⟩, .string ⟨#[]⟩, .int .i64 0, .slice none 0 0, .slice none 0 0], .int .i64 3]) (by simp [results, Tryz.results11, go_sem, cell_set, r0, r1, r2, r3, r4, r5, r6, r7, r8, r9, r10, hcl]) rfl ?_
  show JobRdQ w O 3 _ (puts W1 C 0 [.string ⟨#[]⟩, .int .i64 0, .int .i64 0, .int .i64 0, .int .i64 0, .int .i64 0, .string ⟨#[]⟩, .string ⟨#[]⟩, .int .i64 0, .slice none 0 0, .slice none 0 0])
  rw [HP.out]
  exact ⟨puts_below C (Nat.le_of_eq HC.out.symm) _ _ _ HB1.out, rfl⟩
end Go.Proofs.YtkemlckmfgacdaaGreatDoor
