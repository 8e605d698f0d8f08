/- Contract: job.Read. -/
import Derived.Test.YtkemlckmfgacdaaGreatDoorJnP33
import Derived.Deep.LoopGhost
import Derived.Deep.Light
import Derived.Deep.CutBlock
import Derived.Deep.DeepCutAuto
namespace Go.Proofs.YtkemlckmfgacdaaGreatDoor
set_option maxRecDepth 20000
set_option maxHeartbeats 64000000
open Go.ChangeShapes Go.WideShapes Go.ChangeAt Go.RowKit
set_option linter.unusedVariables false
set_option linter.unusedSimpArgs false
open Tp Jm
structure KR (P : Program) (Q : Exit → Act → World → Prop) (K : Act → World → Prop) : Prop where
 out : ∀ (a : Act) (w : World), Code.wp P Code.ret Q a w → K a w
theorem KR.of {P : Program} {Q : Exit → Act → World → Prop} {K : Act → World → Prop} (h : ∀ (a : Act) (w : World), Code.wp P Code.ret Q a w → K a w) : KR P Q K := ⟨h⟩
theorem KR.fin {P : Program} {Q : Exit → Act → World → Prop} {K : Act → World → Prop} (h : KR P Q K) {a : Act} {w : World} (hq : Q Exit.ret a w) : K a w := h.out a w (wp_ret hq)
theorem But.grown {rb : Nat} {w w1 w5 : World} {row : Option Nat} (h : But rb w w1) (hg : w1.grownBy w5 row) (hr : ∀ k, row = some k → w.heap.size ≤ k) : But rb w w5 :=
 ⟨hg.os.trans h.os, hg.tape.trans h.tape, hg.output.trans h.out, Nat.le_trans h.size hg.size, fun k hk hn => (hg.block k (Nat.lt_of_lt_of_le hk h.size) (fun e => absurd (hr k e.symm) (by omega))).trans (h.block k hk hn)⟩
theorem BoxV.but {rb c : Nat} {vs : List Value} {w w' : World} (h : BoxV c vs w) (hb : But rb w w') (hc : c ≠ rb) : BoxV c vs w' :=
 ⟨Nat.lt_of_lt_of_le h.lt hb.size, fun i v hi => (hb.cell (p := ⟨c, i, none⟩) h.lt hc).trans (h.cell i v hi), fun i => (hb.frozen (p := ⟨c, i, none⟩) h.lt hc).trans (h.fz i)⟩
structure JSt (J : Nat) (w11 : World) (bs : Nat) (U : ByteArray) (p a b c y0 : Int) (y1 y2 : ByteArray) (y3 : Int) (yd : Option Addr) (yl yc : Nat) (l : List Int) (v : Value) (W : World) : Prop where
 but : But J w11 W
 box : BoxV J (jcells U p a b c y0 y1 y2 y3 yd yl yc v) W
 own : W.ownsRow bs 3 1 v l.length (ints l)
 lo : w11.heap.size ≤ bs
 hi : bs ≤ W.heap.size
theorem JSt.step {J : Nat} {w11 : World} {bs : Nat} {U : ByteArray} {p a b c y0 : Int} {y1 y2 : ByteArray} {y3 : Int} {yd : Option Addr} {yl yc : Nat} {l : List Int} {v : Value} {W W' : World} (h : JSt J w11 bs U p a b c y0 y1 y2 y3 yd yl yc l v W) (hb : Below W.heap.size W W') : JSt J w11 bs U p a b c y0 y1 y2 y3 yd yl yc l v W' :=
 ⟨h.but.trans (But.ofBelow hb lr), h.box.step hb, ownsRow_below h.own hb, h.lo, Nat.le_trans h.hi hb.size⟩
theorem JSt.push {J : Nat} {w11 : World} {bs : Nat} {U : ByteArray} {p a b c y0 : Int} {y1 y2 : ByteArray} {y3 : Int} {yd : Option Addr} {yl yc : Nat} {l : List Int} {v : Value} {W w5 : World} {n : Int} {g cp : Nat} (h : JSt J w11 bs U p a b c y0 y1 y2 y3 yd yl yc l v W) (hJ : J < w11.heap.size)
  (ho : w5.ownsRow bs 3 1 (.slice (some ⟨g, 0, none⟩) (l.length + 1) cp) (l.length + 1) (ints l ++ [.int .i64 n])) (hg : W.grownBy w5 v.ownBlock) :
  BoxV J (jcells U p a b c y0 y1 y2 y3 yd yl yc v) w5 ∧ JSt J w11 bs U p a b c y0 y1 y2 y3 yd yl yc (l ++ [n]) (.slice (some ⟨g, 0, none⟩) (l.length + 1) cp) (w5.setCell ⟨J, 10, none⟩ (.slice (some ⟨g, 0, none⟩) (l.length + 1) cp)) := by
 have hge : ∀ k, v.ownBlock = some k → w11.heap.size ≤ k := fun k hk => Nat.le_trans h.lo (h.own.lt k hk).1
 have hb5 : BoxV J (jcells U p a b c y0 y1 y2 y3 yd yl yc v) w5 := h.box.grown hg (fun e => absurd (hge J e.symm) (by omega))
 refine ⟨hb5, (h.but.grown hg hge).setCell (a := ⟨J, 10, none⟩) (.inl rfl) _, hb5.set 10 _, ?_, h.lo, by simpa using Nat.le_trans h.hi hg.size⟩
 rw [List.length_append, List.length_singleton, ints_push]
 exact ownsRow_setCell_below ho (a := ⟨J, 10, none⟩) (Nat.lt_of_lt_of_le hJ h.lo) _
theorem puts_own {bs c : Nat} {e : TypeId} {v : Value} {n : Nat} {xs : List Value} (hc : c < bs) : ∀ (vs : List Value) (W : World) (i : Nat), W.ownsRow bs e 1 v n xs → (puts W c i vs).ownsRow bs e 1 v n xs
 | [], W, i, h => h
 | u :: vs, W, i, h => by rw [puts]; exact puts_own hc vs _ _ (ownsRow_setCell_below h (a := ⟨c, i, none⟩) hc u)
theorem jobRead_long (s : Bs) (w : World) (hs : 3000 < s.length) : Calls Tryz.prog 7 #[.string (bts s)] w (JobRdQ w none 2) := by
 obtain ⟨S, hS⟩ : ∃ S, bts s = S := ⟨_, rfl⟩
 obtain ⟨n, hn⟩ : ∃ n, S.size = n := ⟨_, rfl⟩
 have hns : s.length = n := by rw [← hn, ← hS, bts_size]
 obtain ⟨C, hC⟩ : ∃ C, C = w.heap.size := ⟨_, rfl⟩
 obtain ⟨W0, hW0⟩ : ∃ W, W = w.alloc (.cells #[.string ⟨#[]⟩, .int .i64 0, .int .i64 0, .int .i64 0, .int .i64 0, .int .i64 0, .string ⟨#[]⟩, .string ⟨#[]⟩, .int .i64 0, .slice none 0 0, .slice none 0 0] 29) := ⟨_, rfl⟩
 have HB0 : Hid (Below w.heap.size w W0) := hid (be0 hW0)
 have HBC0 : Hid (BoxV C zcells W0) := hid (by rw [hW0]; exact BoxV.top zcells hC)
 have HC : Hid (C = w.heap.size) := hid hC
 have hn3 : (3000 : Int) < (n : Int) := by omega
 obtain ⟨O, hO⟩ : ∃ O : Option Jb, O = none := ⟨_, rfl⟩
 have HP := hid hO
 rw [← hO, hS]
 clear hS hs hns hO
 go_enter Tryz.func7, Tryz.ntmps7
 go_upto_region 1 with fail
 rw [← hW0, ← hC]
 clear hW0 hC
 obtain ⟨r0, r1, r2, r3, r4, r5, r6, r7, r8, r9, r10⟩ := HBC0.out.c11
 obtain ⟨rf0, rf1, rf2, rf3, rf4, rf5, rf6, rf7, rf8, rf9, rf10⟩ := HBC0.out.f11
 have hcl := HBC0.out.lt
 go_wp2_with fail
 refine bodyPost_ret (v := .tuple #[.agg #[.string ⟨#[]⟩, .int .i64 0, .int .i64 0, .int .i64 0, .int .i64 0, .int .i64 0, .string ⟨#[]⟩, .string ⟨#[]⟩, .int .i64 0, .slice none 0 0, .slice none 0 0], .int .i64 2]) (by simp [results, Tryz.results7, go_sem, cell_set, r0, r1, r2, r3, r4, r5, r6, r7, r8, r9, r10, hcl]) rfl ?_
 show JobRdQ w O 2 _ (puts W0 C 0 [.string ⟨#[]⟩, .int .i64 0, .int .i64 0, .int .i64 0, .int .i64 0, .int .i64 0, .string ⟨#[]⟩, .string ⟨#[]⟩, .int .i64 0, .slice none 0 0, .slice none 0 0])
 rw [HP.out]
 exact ⟨puts_below C (Nat.le_of_eq HC.out.symm) _ _ _ HB0.out, rfl⟩
theorem jobRead_few (s : Bs) (w : World) (hs : s.length ≤ 3000) (he : Env w) (h5 : (Nt.pcs 32 s).length ≠ 5) : Calls Tryz.prog 7 #[.string (bts s)] w (JobRdQ w none 3) := by
 obtain ⟨S, hS⟩ : ∃ S, bts s = S := ⟨_, rfl⟩
 obtain ⟨n, hn⟩ : ∃ n, S.size = n := ⟨_, rfl⟩
 have hns : s.length = n := by rw [← hn, ← hS, bts_size]
 obtain ⟨C, hC⟩ : ∃ C, C = w.heap.size := ⟨_, rfl⟩
 obtain ⟨W0, hW0⟩ : ∃ W, W = w.alloc (.cells #[.string ⟨#[]⟩, .int .i64 0, .int .i64 0, .int .i64 0, .int .i64 0, .int .i64 0, .string ⟨#[]⟩, .string ⟨#[]⟩, .int .i64 0, .slice none 0 0, .slice none 0 0] 29) := ⟨_, rfl⟩
 have HB0 : Hid (Below w.heap.size w W0) := hid (be0 hW0)
 have HBC0 : Hid (BoxV C zcells W0) := hid (by rw [hW0]; exact BoxV.top zcells hC)
 have HC : Hid (C = w.heap.size) := hid hC
 have hn3 : ¬ (3000 : Int) < (n : Int) := by omega
 obtain ⟨G, hG⟩ : ∃ G, G = W0.heap.size := ⟨_, rfl⟩
 obtain ⟨P, hP⟩ : ∃ P, Nt.pcs 32 s = P := ⟨_, rfl⟩
 rw [hP] at h5
 obtain ⟨m, hm⟩ : ∃ m, P.length = m := ⟨_, rfl⟩
 have hm5 : ¬ (m : Int) = 5 := by omega
 have hm51 : ((m : Int) == 5) = false := by simpa using hm5
 have hm52 : ((m : Int) != 5) = true := by simpa using hm5
 have HSP : Hid (Calls Tryz.prog 31 #[.string S, .string ⟨#[32]⟩] W0 fun e w' => e = .returned (.slice (some ⟨G, 0, none⟩) m m) ∧ Below W0.heap.size W0 w') := hid (by
  have h := Split_any s 32 W0 (by omega) (he.below HB0.out lr)
  rw [hS, hP, hm, ← hG] at h
  refine Calls.mono h ?_
  rintro e w' ⟨h1, h2⟩
  exact ⟨h1, by rw [h2]; exact (Below.refl _ _).alloc lr _⟩)
 obtain ⟨O, hO⟩ : ∃ O : Option Jb, O = none := ⟨_, rfl⟩
 have HP := hid hO
 rw [← hO, hS]
 clear hS hs hns hO hP h5 hm he
 go_enter Tryz.func7, Tryz.ntmps7
 go_upto_region 1 with fail
 rw [← hW0, ← hC]
 clear hW0 hC
 go_wp2_with fail
 refine Calls.mono HSP.out ?_
 rintro e W1 ⟨rfl, hb1⟩
 have HB1 := hid (HB0.out.trans (hb1.mono HB0.out.size))
 have HBC1 := hid (HBC0.out.step hb1)
 clear hb1
 obtain ⟨r0, r1, r2, r3, r4, r5, r6, r7, r8, r9, r10⟩ := HBC1.out.c11
 obtain ⟨rf0, rf1, rf2, rf3, rf4, rf5, rf6, rf7, rf8, rf9, rf10⟩ := HBC1.out.f11
 have hcl := HBC1.out.lt
 go_wp2_with fail
 refine bodyPost_ret (v := .tuple #[.agg #[.string ⟨#[]⟩, .int .i64 0, .int .i64 0, .int .i64 0, .int .i64 0, .int .i64 0, .string ⟨#[]⟩, .string ⟨#[]⟩, .int .i64 0, .slice none 0 0, .slice none 0 0], .int .i64 3]) (by simp [results, Tryz.results7, go_sem, cell_set, r0, r1, r2, r3, r4, r5, r6, r7, r8, r9, r10, hcl]) rfl ?_
 show JobRdQ w O 3 _ (puts W1 C 0 [.string ⟨#[]⟩, .int .i64 0, .int .i64 0, .int .i64 0, .int .i64 0, .int .i64 0, .string ⟨#[]⟩, .string ⟨#[]⟩, .int .i64 0, .slice none 0 0, .slice none 0 0])
 rw [HP.out]
 exact ⟨puts_below C (Nat.le_of_eq HC.out.symm) _ _ _ HB1.out, rfl⟩
theorem askS_size {s : Bs} {x : Ask} (h : askS s = some x) : x.size ≤ 1000000000 := by
 unfold askS at h
 split at h
 ·cases h
 unfold Ar.own at h
 split at h
 ·cases h
 split at h
 ·rename_i y _ hh
  cases h
  have := (Ar.fault_good hh.1).2
  omega
 ·cases h
theorem infoIntJ : (Tryz.prog.info? 3).map (fun i => (i.zero, i.size, i.bytes)) = some (some (.int .i64 0), 1, 8) := by kernel_rfl
theorem jobRead_five (s : Bs) (w : World) (hs : s.length ≤ 3000) (he : Env w) {u p n f x : Bs} (h5 : Nt.pcs 32 s = [u, p, n, f, x]) : Calls Tryz.prog 7 #[.string (bts s)] w (JobRdQ w (rdA s) 3) := by
 obtain ⟨S, hS⟩ : ∃ S, bts s = S := ⟨_, rfl⟩
 obtain ⟨nn, hn⟩ : ∃ n, S.size = n := ⟨_, rfl⟩
 have hns : s.length = nn := by rw [← hn, ← hS, bts_size]
 obtain ⟨C, hC⟩ : ∃ C, C = w.heap.size := ⟨_, rfl⟩
 obtain ⟨W0, hW0⟩ : ∃ W, W = w.alloc (.cells #[.string ⟨#[]⟩, .int .i64 0, .int .i64 0, .int .i64 0, .int .i64 0, .int .i64 0, .string ⟨#[]⟩, .string ⟨#[]⟩, .int .i64 0, .slice none 0 0, .slice none 0 0] 29) := ⟨_, rfl⟩
 have HB0 : Hid (Below w.heap.size w W0) := hid (be0 hW0)
 have HBC0 : Hid (BoxV C zcells W0) := hid (by rw [hW0]; exact BoxV.top zcells hC)
 have HC : Hid (C = w.heap.size) := hid hC
 have hn3 : ¬ (3000 : Int) < (nn : Int) := by omega
 obtain ⟨G, hG⟩ : ∃ G, G = W0.heap.size := ⟨_, rfl⟩
 obtain ⟨U, hU⟩ : ∃ S, bts u = S := ⟨_, rfl⟩
 obtain ⟨Pp, hPp⟩ : ∃ S, bts p = S := ⟨_, rfl⟩
 obtain ⟨Nn, hNn⟩ : ∃ S, bts n = S := ⟨_, rfl⟩
 obtain ⟨Ff, hFf⟩ : ∃ S, bts f = S := ⟨_, rfl⟩
 obtain ⟨Xx, hXx⟩ : ∃ S, bts x = S := ⟨_, rfl⟩
 obtain ⟨W1, hW1⟩ : ∃ W, W = W0.alloc (.cells #[.string U, .string Pp, .string Nn, .string Ff, .string Xx] 9) := ⟨_, rfl⟩
 have hb1 : Below W0.heap.size W0 W1 := be0 hW1
 have HSP : Hid (Calls Tryz.prog 31 #[.string S, .string ⟨#[32]⟩] W0 fun e w' => e = .returned (.slice (some ⟨G, 0, none⟩) 5 5) ∧ w' = W1) := hid (by
  have h := Split_any s 32 W0 (by omega) (he.below HB0.out lr)
  rw [hS, h5, ← hG] at h
  refine Calls.mono h ?_
  rintro e w' ⟨h1, h2⟩
  refine ⟨h1, ?_⟩
  rw [h2, hW1, ← hU, ← hPp, ← hNn, ← hFf, ← hXx]
  rfl)
 have HB1 : Hid (Below w.heap.size w W1) := hid (HB0.out.trans (hb1.mono HB0.out.size))
 have HBC1 := hid (HBC0.out.step hb1)
 have HBG1 : Hid (BoxV G [.string U, .string Pp, .string Nn, .string Ff, .string Xx] W1) := hid (by rw [hW1]; exact BoxV.top [.string U, .string Pp, .string Nn, .string Ff, .string Xx] hG)
 obtain ⟨J, hJ⟩ : ∃ J, J = W1.heap.size := ⟨_, rfl⟩
 obtain ⟨W2, hW2⟩ : ∃ W, W = W1.alloc (.cells #[.string U, .int .i64 0, .int .i64 0, .int .i64 0, .int .i64 0, .int .i64 0, .string ⟨#[]⟩, .string ⟨#[]⟩, .int .i64 0, .slice none 0 0, .slice none 0 0] 29) := ⟨_, rfl⟩
 have hbn : Below W1.heap.size W1 W2 := be0 hW2
 have HJW : Hid (w.heap.size ≤ J ∧ J ≠ C ∧ J ≠ G) := hid ⟨by rw [hJ]; exact HB1.out.size, by rw [hJ]; exact Nat.ne_of_gt HBC1.out.lt, by rw [hJ]; exact Nat.ne_of_gt HBG1.out.lt⟩
 have HB2 := hid (HB1.out.trans (hbn.mono HB1.out.size))
 have HBC2 := hid (HBC1.out.step hbn)
 have HBG2 := hid (HBG1.out.step hbn)
 have HBJ2 : Hid (BoxV J (jcells U 0 0 0 0 0 ⟨#[]⟩ ⟨#[]⟩ 0 none 0 0 (.slice none 0 0)) W2) := hid (by rw [hW2]; exact BoxV.top (jcells U 0 0 0 0 0 ⟨#[]⟩ ⟨#[]⟩ 0 none 0 0 (.slice none 0 0)) hJ)
 have HEV : Hid (∀ W, Below w.heap.size w W → Env W) := hid (fun W h => he.below h lr)
 have hlen : ∀ t, t ∈ Nt.pcs 32 s → t.length ≤ 3000 := fun t ht => Nat.le_trans (pcs_len 32 s t ht) hs
 rw [h5] at hlen
 have HAT : Hid (∀ W, Env W → Calls Tryz.prog 32 #[.string Pp] W (AtoiQ W p)) := hid (fun W h => by rw [← hPp]; exact Atoi_any p W (by have := hlen p (by simp); omega) h)
 have HND : Hid (∀ W, Env W → Calls Tryz.prog 33 #[.string Nn] W fun e w' => Below W.heap.size W w' ∧ ∃ (v : Nt.V3) (code : Int), e = .returned (.tuple #[.agg #[.int .i64 (v.1 : Int), .int .i64 (v.2.1 : Int), .int .i64 (v.2.2 : Int)], .int .i64 code]) ∧ ((nd n = some v ∧ code = 0) ∨ (nd n = none ∧ code ≠ 0))) := hid (fun W h => by rw [← hNn]; exact need_p n W (by have := hlen n (by simp); omega) h)
 have HAK := hid (fun W (h : Env W) => ask_p x W h)
 rw [hXx] at HAK
 have HSPF : Hid (∀ W, Env W → Calls Tryz.prog 31 #[.string Ff, .string ⟨#[44]⟩] W fun e w' => e = .returned (.slice (some ⟨W.heap.size, 0, none⟩) (Nt.pcs 44 f).length (Nt.pcs 44 f).length) ∧ w' = W.alloc (.cells (txv (Nt.pcs 44 f)).toArray 9)) := hid (fun W h => by rw [← hFf]; exact Split_any f 44 W (by have := hlen f (by simp); omega) h)
 have HFL : Hid (f.length ≤ 3000) := hid (hlen f (by simp))
 have HUL : Hid (u.length ≤ 1099511627776) := hid (by have := hlen u (by simp); omega)
 have HXL : Hid (x.length ≤ 3000) := hid (hlen x (by simp))
 have HFF := hid hFf
 have HUU := hid hU
 have HSS := hid hS
 obtain ⟨O, hO⟩ : ∃ O, own (parse numA askS s) s = O := ⟨_, rfl⟩
 have HO : Hid (own (parse5 numA askS u p n f x) s = O) := hid (by rw [← hO]; unfold parse; rw [h5])
 unfold rdA
 rw [hO, hS]
 clear hS hs hns hO h5 hlen he hb1 hbn hU hPp hNn hFf hXx
 go_enter Tryz.func7, Tryz.ntmps7
 go_upto_region 1 with fail
 rw [← hW0, ← hC]
 clear hW0 hC
 go_wp2_with fail
 refine Calls.mono HSP.out ?_
 rintro e w1 ⟨rfl, rfl⟩
 obtain ⟨g0, g1, g2, g3, g4⟩ := HBG1.out.c5
 have hgl := HBG1.out.lt
 clear hW1 hG
 go_upto_region 7 with fail
 rw [← hW2, ← hJ]
 clear hW2 hJ
 clear g0 g1 g2 g3 g4 hgl
 obtain ⟨g0, g1, g2, g3, g4⟩ := HBG2.out.c5
 go_wp2_with fail
 refine Calls.mono (HAT.out W2 (HEV.out W2 HB2.out)) ?_
 intro e W3 hq
 obtain ⟨v, ev, rfl, hbn, hev⟩ : ∃ (v : Int) (ev : Value), e = .returned (.tuple #[.int .i64 v, ev]) ∧ Below W2.heap.size W2 W3 ∧ ((numA p = some v ∧ ev = .nilIface) ∨ (numA p = none ∧ ∃ t q, ev = .iface t q)) := by
  obtain ⟨hb, hq⟩ := hq
  cases hp : numA p with
  | some v => rw [hp] at hq; exact ⟨v, _, hq, hb, .inl ⟨rfl, rfl⟩⟩
  | none => rw [hp] at hq; obtain ⟨k, t, q, h⟩ := hq; exact ⟨k, _, h, hb, .inr ⟨rfl, t, q, rfl⟩⟩
 have HEVV := hid hev
 clear hq hev
 have HB3 := hid (HB2.out.trans (hbn.mono HB2.out.size))
 have HBC3 := hid (HBC2.out.step hbn)
 have HBG3 := hid (HBG2.out.step hbn)
 have HBJ3 : Hid (BoxV J (jcells U 0 0 0 0 0 ⟨#[]⟩ ⟨#[]⟩ 0 none 0 0 (.slice none 0 0)) W3) := hid (HBJ2.out.step hbn)
 clear hbn
 obtain ⟨W4, hW4⟩ : ∃ W, (W3.setCell ⟨J, 1, none⟩ (.int .i64 v)) = W := ⟨_, rfl⟩
 have HB4 : Hid (Below w.heap.size w W4) := hid (by rw [← hW4]; exact (HB3.out).setCell (p := ⟨J, 1, none⟩) HJW.out.1 _)
 have HBC4 : Hid (BoxV C zcells W4) := hid (by rw [← hW4]; exact (HBC3.out).other (a := ⟨J, 1, none⟩) HJW.out.2.1 _)
 have HBG4 : Hid (BoxV G [.string U, .string Pp, .string Nn, .string Ff, .string Xx] W4) := hid (by rw [← hW4]; exact (HBG3.out).other (a := ⟨J, 1, none⟩) HJW.out.2.2 _)
 have HBJ4 : Hid (BoxV J (jcells U v 0 0 0 0 ⟨#[]⟩ ⟨#[]⟩ 0 none 0 0 (.slice none 0 0)) W4) := hid (by rw [← hW4]; exact (HBJ3.out).set 1 _)
 have HW4 := hid hW4
 clear g0 g1 g2 g3 g4
 obtain ⟨g0, g1, g2, g3, g4⟩ := HBG4.out.c5
 obtain ⟨j0, j1, j2, j3, j4, j5, j6, j7, j8, j9, j10⟩ := HBJ3.out.c11
 obtain ⟨jf0, jf1, jf2, jf3, jf4, jf5, jf6, jf7, jf8, jf9, jf10⟩ := HBJ3.out.f11
 have hjl := HBJ3.out.lt
 go_wp2_with fail
 refine Calls.mono (HND.out W4 (HEV.out W4 HB4.out)) ?_
 rintro e W5 ⟨hbn, q, code, rfl, hnd⟩
 have HNDD := hid hnd
 clear j0 j1 j2 j3 j4 j5 j6 j7 j8 j9 j10 jf0 jf1 jf2 jf3 jf4 jf5 jf6 jf7 jf8 jf9 jf10 hjl
 clear hnd hW4
 have HB5 := hid (HB4.out.trans (hbn.mono HB4.out.size))
 have HBC5 := hid (HBC4.out.step hbn)
 have HBG5 := hid (HBG4.out.step hbn)
 have HBJ5 : Hid (BoxV J (jcells U v 0 0 0 0 ⟨#[]⟩ ⟨#[]⟩ 0 none 0 0 (.slice none 0 0)) W5) := hid (HBJ4.out.step hbn)
 clear hbn
 obtain ⟨W6, hW6⟩ : ∃ W, (((W5.setCell ⟨J, 2, none⟩ (.int .i64 (q.1 : Int))).setCell ⟨J, 3, none⟩ (.int .i64 (q.2.1 : Int))).setCell ⟨J, 4, none⟩ (.int .i64 (q.2.2 : Int))) = W := ⟨_, rfl⟩
 have HB6 : Hid (Below w.heap.size w W6) := hid (by rw [← hW6]; exact (((HB5.out).setCell (p := ⟨J, 2, none⟩) HJW.out.1 _).setCell (p := ⟨J, 3, none⟩) HJW.out.1 _).setCell (p := ⟨J, 4, none⟩) HJW.out.1 _)
 have HBC6 : Hid (BoxV C zcells W6) := hid (by rw [← hW6]; exact (((HBC5.out).other (a := ⟨J, 2, none⟩) HJW.out.2.1 _).other (a := ⟨J, 3, none⟩) HJW.out.2.1 _).other (a := ⟨J, 4, none⟩) HJW.out.2.1 _)
 have HBG6 : Hid (BoxV G [.string U, .string Pp, .string Nn, .string Ff, .string Xx] W6) := hid (by rw [← hW6]; exact (((HBG5.out).other (a := ⟨J, 2, none⟩) HJW.out.2.2 _).other (a := ⟨J, 3, none⟩) HJW.out.2.2 _).other (a := ⟨J, 4, none⟩) HJW.out.2.2 _)
 have HBJ6 : Hid (BoxV J (jcells U v (q.1 : Int) (q.2.1 : Int) (q.2.2 : Int) 0 ⟨#[]⟩ ⟨#[]⟩ 0 none 0 0 (.slice none 0 0)) W6) := hid (by rw [← hW6]; exact (((HBJ5.out).set 2 _).set 3 _).set 4 _)
 have HW6 := hid hW6
 clear g0 g1 g2 g3 g4
 obtain ⟨g0, g1, g2, g3, g4⟩ := HBG6.out.c5
 obtain ⟨j0, j1, j2, j3, j4, j5, j6, j7, j8, j9, j10⟩ := HBJ5.out.c11
 obtain ⟨jf0, jf1, jf2, jf3, jf4, jf5, jf6, jf7, jf8, jf9, jf10⟩ := HBJ5.out.f11
 have hjl := HBJ5.out.lt
 go_wp2_with fail
 refine Calls.mono (HAK.out W6 (HEV.out W6 HB6.out)) ?_
 rintro e W7 ⟨hbn, y0, y1, y2, y3, yd, yl, yc, ec, rfl, hak⟩
 have HAKK := hid hak
 have HJ6 : Hid (J < W6.heap.size) := hid HBJ6.out.lt
 clear j0 j1 j2 j3 j4 j5 j6 j7 j8 j9 j10 jf0 jf1 jf2 jf3 jf4 jf5 jf6 jf7 jf8 jf9 jf10 hjl
 clear hak hW6
 have HB7 := hid (HB6.out.trans (hbn.mono HB6.out.size))
 have HBC7 := hid (HBC6.out.step hbn)
 have HBG7 := hid (HBG6.out.step hbn)
 have HBJ7 : Hid (BoxV J (jcells U v (q.1 : Int) (q.2.1 : Int) (q.2.2 : Int) 0 ⟨#[]⟩ ⟨#[]⟩ 0 none 0 0 (.slice none 0 0)) W7) := hid (HBJ6.out.step hbn)
 clear hbn
 obtain ⟨W8, hW8⟩ : ∃ W, (((((W7.setCell ⟨J, 5, none⟩ (.int .i64 y0)).setCell ⟨J, 6, none⟩ (.string y1)).setCell ⟨J, 7, none⟩ (.string y2)).setCell ⟨J, 8, none⟩ (.int .i64 y3)).setCell ⟨J, 9, none⟩ (.slice yd yl yc)) = W := ⟨_, rfl⟩
 have HB8 : Hid (Below w.heap.size w W8) := hid (by rw [← hW8]; exact (((((HB7.out).setCell (p := ⟨J, 5, none⟩) HJW.out.1 _).setCell (p := ⟨J, 6, none⟩) HJW.out.1 _).setCell (p := ⟨J, 7, none⟩) HJW.out.1 _).setCell (p := ⟨J, 8, none⟩) HJW.out.1 _).setCell (p := ⟨J, 9, none⟩) HJW.out.1 _)
 have HBC8 : Hid (BoxV C zcells W8) := hid (by rw [← hW8]; exact (((((HBC7.out).other (a := ⟨J, 5, none⟩) HJW.out.2.1 _).other (a := ⟨J, 6, none⟩) HJW.out.2.1 _).other (a := ⟨J, 7, none⟩) HJW.out.2.1 _).other (a := ⟨J, 8, none⟩) HJW.out.2.1 _).other (a := ⟨J, 9, none⟩) HJW.out.2.1 _)
 have HBG8 : Hid (BoxV G [.string U, .string Pp, .string Nn, .string Ff, .string Xx] W8) := hid (by rw [← hW8]; exact (((((HBG7.out).other (a := ⟨J, 5, none⟩) HJW.out.2.2 _).other (a := ⟨J, 6, none⟩) HJW.out.2.2 _).other (a := ⟨J, 7, none⟩) HJW.out.2.2 _).other (a := ⟨J, 8, none⟩) HJW.out.2.2 _).other (a := ⟨J, 9, none⟩) HJW.out.2.2 _)
 have HBJ8 : Hid (BoxV J (jcells U v (q.1 : Int) (q.2.1 : Int) (q.2.2 : Int) y0 y1 y2 y3 yd yl yc (.slice none 0 0)) W8) := hid (by rw [← hW8]; exact (((((HBJ7.out).set 5 _).set 6 _).set 7 _).set 8 _).set 9 _)
 have HW8 := hid hW8
 have HBUT : Hid (But J W7 W8) := hid (by rw [← HW8.out]; exact (((((But.refl J W7).setCell (a := ⟨J, 5, none⟩) (.inl rfl) _).setCell (a := ⟨J, 6, none⟩) (.inl rfl) _).setCell (a := ⟨J, 7, none⟩) (.inl rfl) _).setCell (a := ⟨J, 8, none⟩) (.inl rfl) _).setCell (a := ⟨J, 9, none⟩) (.inl rfl) _)
 have HST : Hid (JSt J W8 W8.heap.size U v (q.1 : Int) (q.2.1 : Int) (q.2.2 : Int) y0 y1 y2 y3 yd yl yc [] (.slice none 0 0) W8) := hid ⟨But.refl _ _, HBJ8.out, World.ownsRow_nil _ _ _ _, Nat.le_refl _, Nat.le_refl _⟩
 clear g0 g1 g2 g3 g4
 obtain ⟨g0, g1, g2, g3, g4⟩ := HBG8.out.c5
 obtain ⟨j0, j1, j2, j3, j4, j5, j6, j7, j8, j9, j10⟩ := HBJ7.out.c11
 obtain ⟨jf0, jf1, jf2, jf3, jf4, jf5, jf6, jf7, jf8, jf9, jf10⟩ := HBJ7.out.f11
 have hjl := HBJ7.out.lt
 go_upto_region 12 with fail
 clear j0 j1 j2 j3 j4 j5 j6 j7 j8 j9 j10 jf0 jf1 jf2 jf3 jf4 jf5 jf6 jf7 jf8 jf9 jf10 hjl
 clear hW8
 rcases HEVV.out with ⟨h1, rfl⟩ | ⟨h1, t, q', rfl⟩
 ·rcases HNDD.out with ⟨h2, rfl⟩ | ⟨h2, hcn⟩
  ·rcases HAKK.out with ⟨xa, h3, rfl, hva⟩ | ⟨h3, hcn⟩
   ·have HP5 : Hid (own (parse5 numA askS u p n f x) s = own (match aftR numA f with | some l => some ⟨u, v, (q.1 : Int), (q.2.1 : Int), (q.2.2 : Int), xa, l⟩ | none => none) s) := hid (by unfold parse5; rw [h1, h2, h3]; rfl)
    have HVA : Hid (AskVP (fun b => b ≠ J ∧ b ≠ C ∧ b < W8.heap.size ∧ w.heap.size ≤ b) W8 xa (.agg #[.int .i64 y0, .string y1, .string y2, .int .i64 y3, .slice yd yl yc])) := hid (by
     have h1 := HJ6.out
     have h2 := HBC6.out.lt
     have h3 := HBUT.out.size
     have h4 := HB6.out.size
     exact AskVP.stays (p := fun b => W6.heap.size ≤ b ∧ b < W7.heap.size) (fun b h => ⟨by omega, by omega, by omega, by omega⟩) HBUT.out.size (fun b h hb => HBUT.out.block b h.2 (by omega)) _ _ (AskVP.both hva lr (fun b _ _ => rfl)))
    have HXS : Hid (xa.size ≤ 1000000000) := hid (askS_size h3)
    clear h1 h2 h3 hva
    obtain ⟨fb, hfb⟩ : ∃ b, (Ff.toList == [45]) = b := ⟨_, rfl⟩
    have hfb2 : (Ff.toList != [45]) = !fb := by rw [bne, hfb]
    have HFB : Hid (decide (f = [45]) = fb) := hid (by
     rw [← hfb, ← HFF.out, bts_toList]
     by_cases h : f = [45]
     ·rw [h]; rfl
     ·rw [decide_eq_false h]; simpa using h)
    go_upto_if 67 with fail
    clear hfb hfb2
    go_cut [] (fun W => ∃ l vv bs, Hid (aftR numA f = some l) ∧ Hid (l.length ≤ 3001) ∧ Hid (JSt J W8 bs U v (q.1 : Int) (q.2.1 : Int) (q.2.2 : Int) y0 y1 y2 y3 yd yl yc l vv W))
    case first =>
     cases fb with
     | true =>
      have HF45 : Hid (aftR numA f = some []) := hid (by unfold aftR; rw [if_pos (of_decide_eq_true HFB.out)])
      go_wp2_with fail
      go_meet
      exact ⟨[], _, _, HF45, hid (by simp), HST⟩
     | false =>
      have HF45 : Hid (aftR numA f = nums numA (Nt.pcs 44 f)) := hid (by unfold aftR; rw [if_neg (of_decide_eq_false HFB.out)])
      go_wp2_with fail
      refine Calls.mono (HSPF.out W8 (HEV.out W8 HB8.out)) ?_
      rintro e W9 ⟨rfl, hW9⟩
      have hbn : Below W8.heap.size W8 W9 := be0 hW9
      obtain ⟨P, hP⟩ : ∃ P, Nt.pcs 44 f = P := ⟨_, rfl⟩
      have hpl : ∀ t, t ∈ P → t.length ≤ 3000 := fun t ht => Nat.le_trans (pcs_len 44 f t (by rw [hP]; exact ht)) HFL.out
      have hcnt := pcs_cnt 44 f
      rw [hP] at hW9 HF45 hcnt ⊢
      obtain ⟨m, hm⟩ : ∃ m, P.length = m := ⟨_, rfl⟩
      obtain ⟨Q, hQ⟩ : ∃ Q, Q = W8.heap.size := ⟨_, rfl⟩
      have HBQ9 : Hid (BoxV Q (txv P) W9) := hid (by rw [hW9]; exact BoxV.top (txv P) hQ)
      obtain ⟨bs, hbs⟩ : ∃ bs, bs = W9.heap.size := ⟨_, rfl⟩
      have HST9 : Hid (JSt J W8 bs U v (q.1 : Int) (q.2.1 : Int) (q.2.2 : Int) y0 y1 y2 y3 yd yl yc [] (.slice none 0 0) W9) := hid ⟨But.ofBelow hbn lr, HBJ8.out.step hbn, World.ownsRow_nil _ _ _ _, by rw [hbs]; exact hbn.size, Nat.le_of_eq hbs⟩
      have HQB : Hid (Q < bs) := hid (by rw [hbs]; exact HBQ9.out.lt)
      have HQW : Hid (W8.heap.size ≤ Q ∧ J ≠ Q) := hid ⟨by rw [hQ]; exact Nat.le_refl _, by rw [hQ]; exact Nat.ne_of_lt HBJ8.out.lt⟩
      have HPL := hid hpl
      have HM := hid hm
      have hm3 : m ≤ 3001 := by have := HFL.out; omega
      have HAI : Hid (∀ t W, t ∈ P → Env W → Calls Tryz.prog 32 #[.string (bts t)] W (AtoiQ W t)) := hid (fun t W ht h => Atoi_any t W (by have := hpl t ht; omega) h)
      have HN0 : Hid (nums numA (P.take 0) = some []) := hid rfl
      rw [hm, ← hQ]
      clear hW9 hbn hP hpl hcnt hm hQ hbs
      go_wp2_with fail
      go_loopg [73] m (fun g y wr => ∃ (k : Nat) (l : List Int) (vv : Value), k + g = m ∧ y = .int .i64 (k : Int) ∧ Hid (nums numA (P.take k) = some l) ∧ Hid (JSt J W8 bs U v (q.1 : Int) (q.2.1 : Int) (q.2.2 : Int) y0 y1 y2 y3 yd yl yc l vv wr) ∧ Hid (BoxV Q (txv P) wr))
      case atStart => exact ⟨0, [], _, by omega, rfl, HN0, HST9, HBQ9⟩
      case round =>
       obtain ⟨k, l, vv, hk, rfl, HNK, HSR, HBQ⟩ := hrel
       have HK := hid hk
       have HLL : Hid (l.length = k) := hid (by
        have h1 := nums_len HNK.out
        rw [List.length_take] at h1
        have h2 := HM.out
        omega)
       have HBR : Hid (Below w.heap.size w wr) := hid (HB8.out.trans (HSR.out.but.below HJW.out.1 HB8.out.size))
       by_cases hkm : k < m
       ·obtain ⟨t, ht⟩ : ∃ t, P[k]? = some t := ⟨_, List.getElem?_eq_getElem (by rw [HM.out]; exact hkm)⟩
        have htm := List.mem_of_getElem? ht
        have HCT := hid (HAI.out t wr htm (HEV.out wr HBR.out))
        obtain ⟨T, hT⟩ : ∃ T, bts t = T := ⟨_, rfl⟩
        rw [hT] at HCT
        have hcell : wr.cell? ⟨Q, k, none⟩ = some (.string T) := HBQ.out.cell k _ (by rw [txv_at ht, hT])
        have HTK := hid ht
        have hk1 : (0 : Int) ≤ (k : Int) := by omega
        have hk2 : (k : Int) < (m : Int) := by omega
        have hmm : (m : Int) ≤ 3001 := by omega
        clear ht htm hT hk
        go_wp2_with fail
        refine Calls.mono HCT.out ?_
        intro e w1 hq
        obtain ⟨hb1, hq⟩ := hq
        have HSR1 := hid (HSR.out.step hb1)
        have HBQ1 := hid (HBQ.out.step hb1)
        have HB1' : Hid (Below w.heap.size w w1) := hid (HBR.out.trans (hb1.mono HBR.out.size))
        clear hb1 hcell
        cases hnt : numA t with
        | none =>
         rw [hnt] at hq
         obtain ⟨i0, t0, p0, rfl⟩ := hq
         have HP : Hid (O = none) := hid (by rw [← HO.out, HP5.out, HF45.out, nums_stop HNK.out HTK.out hnt]; rfl)
         have HBC9 : Hid (BoxV C zcells w1) := hid (HBC8.out.but HSR1.out.but HJW.out.2.1.symm)
         clear hnt
         go_upto_region 20 with fail
         have HKX := KR.of (P := Tryz.prog) (by assumption)
         go_light
         obtain ⟨r0, r1, r2, r3, r4, r5, r6, r7, r8, r9, r10⟩ := HBC9.out.c11
         obtain ⟨rf0, rf1, rf2, rf3, rf4, rf5, rf6, rf7, rf8, rf9, rf10⟩ := HBC9.out.f11
         have hcl := HBC9.out.lt
         go_wp2_with fail
         refine HKX.fin ?_
         refine bodyPost_ret (v := .tuple #[.agg #[.string ⟨#[]⟩, .int .i64 0, .int .i64 0, .int .i64 0, .int .i64 0, .int .i64 0, .string ⟨#[]⟩, .string ⟨#[]⟩, .int .i64 0, .slice none 0 0, .slice none 0 0], .int .i64 3]) (by simp [results, Tryz.results7, go_sem, cell_set, r0, r1, r2, r3, r4, r5, r6, r7, r8, r9, r10, hcl]) rfl ?_
         show JobRdQ w O 3 _ (puts w1 C 0 [.string ⟨#[]⟩, .int .i64 0, .int .i64 0, .int .i64 0, .int .i64 0, .int .i64 0, .string ⟨#[]⟩, .string ⟨#[]⟩, .int .i64 0, .slice none 0 0, .slice none 0 0])
         rw [HP.out]
         exact ⟨puts_below C (Nat.le_of_eq HC.out.symm) _ _ _ HB1'.out, rfl⟩
        | some num =>
         rw [hnt] at hq
         obtain rfl := hq
         have HNN : Hid (nums numA (P.take (k + 1)) = some (l ++ [num])) := hid (by rw [take_snoc HTK.out, nums_snoc, HNK.out]; simp only; rw [hnt])
         have HPU := hid (fun w5 g cp ho hg => HSR1.out.push (w5 := w5) (n := num) (g := g) (cp := cp) HBJ8.out.lt ho hg)
         obtain ⟨a4, cp4, hv, hcp, hcp2, hO9⟩ := ownForm HSR1.out.own
         subst hv
         have hBw : bs ≤ w1.heap.size := HSR1.out.hi
         have hk3 : k ≤ 3001 := by omega
         have HL2 := hid HLL.out
         clear hnt hO9
         have j10 := HSR1.out.box.cell 10 _ rfl
         rw [HLL.out] at j10 hcp HPU
         have HOW : Hid (w1.ownsRow bs 3 1 (.slice a4 k cp4) k (ints l)) := hid (by have := HSR1.out.own; rw [HLL.out] at this; exact this)
         have hjl := HSR1.out.box.lt
         go_wp2_with (at_builtin; go_loud (refine wpList_push w1 (by rfl) _ _ 27 (by rfl) bs 3 (.int .i64 0) 8 Tryz.underlying27 infoIntJ (by rfl) (.slice a4 k cp4) k (ints l) (.int .i64 num) _ rfl (by rfl) HOW.out (by rfl) (by rfl) (by unfold maxLen; omega) (by omega) hBw ?_; intro gg cap3 w5 hown5 hgrow hgb hgl; have HPP := hid (HPU.out w5 gg cap3 hown5 hgrow); have HBQ5 : Hid (BoxV Q (txv P) w5) := hid (HBQ1.out.grown hgrow (fun e => absurd ((HOW.out.lt Q e.symm).1) (by have := HQB.out; omega))); clear hown5 hgrow hgb hgl; have s10 := HPP.out.1.cell 10 _ rfl; have sf10 := HPP.out.1.fz 10; have sl := HPP.out.1.lt))
         go_roundg (m - (k + 1))
         case measure => (have := HK.out; omega)
         case rel => exact ⟨k + 1, l ++ [num], _, by have := HK.out; omega, by simp, HNN, hid HPP.out.2, hid (HBQ5.out.other (a := ⟨J, 10, none⟩) HQW.out.2 _)⟩
       ·have hk2 : ¬ (k : Int) < (m : Int) := by omega
        have HAF : Hid (aftR numA f = some l) := hid (by rw [HF45.out, ← HNK.out, List.take_of_length_le (by have := HM.out; have := HK.out; omega)])
        have HL3 : Hid (l.length ≤ 3001) := hid (by have := HLL.out; have := HK.out; omega)
        clear hk hkm
        go_wp2_with fail
        go_meet
        exact ⟨l, vv, bs, HAF, HL3, HSR⟩
    case rest =>
     obtain ⟨l, vv, bs, HAFT, HLN, HSR⟩ := hcut
     obtain ⟨a4, cp4, hv4, hcp, hcp2, hO9⟩ := ownForm HSR.out.own
     subst hv4
     have HVALS : ∀ W, W.ownsRow bs 3 1 (.slice a4 l.length cp4) l.length (ints l) → Vals W a4 (ints l) := fun W h => by
      obtain ⟨a, cap, e, hV⟩ := IsVals.own h
      have h2 := Value.slice.inj e
      rw [h2.1]
      exact hV
     have HBWC : Hid (Below w.heap.size w wc) := hid (HB8.out.trans (HSR.out.but.below HJW.out.1 HB8.out.size))
     obtain ⟨j, hj⟩ : ∃ j : Jb, j = ⟨u, v, (q.1 : Int), (q.2.1 : Int), (q.2.2 : Int), xa, l⟩ := ⟨_, rfl⟩
     have HJE := hid hj
     have HOJ : Hid (O = if j.fault = 0 ∧ j.text = s then some j else none) := hid (by rw [← HO.out, HP5.out, HAFT.out, hj]; rfl)
     have HPX : Hid (∀ W, W8.heap.size ≤ W.heap.size → (∀ b, b ≠ J ∧ b ≠ C ∧ b < W8.heap.size → W.heap[b]? = W8.heap[b]?) → W.ownsRow bs 3 1 (.slice a4 l.length cp4) l.length (ints l) → JobP W j y0 y1 y2 y3 yd yl yc a4 cp4) := hid (fun W h1 h2 h3 => by
      rw [hj]
      exact ⟨AskVP.toV _ _ (AskVP.stays (fun b h => h) h1 (fun b h _ => h2 b ⟨h.1, h.2.1, h.2.2.1⟩) _ _ HVA.out), HVALS W h3, HUL.out, hcp, hcp2⟩)
     have HPN : Hid (∀ W, W8.heap.size ≤ W.heap.size → (∀ b, b ≠ J ∧ b ≠ C ∧ b < W8.heap.size → W.heap[b]? = W8.heap[b]?) → AskVP (fun b => w.heap.size ≤ b) W j.ask (.agg #[.int .i64 y0, .string y1, .string y2, .int .i64 y3, .slice yd yl yc])) := hid (fun W h1 h2 => by
      rw [hj]
      exact AskVP.stays (fun b h => h.2.2.2) h1 (fun b h _ => h2 b ⟨h.1, h.2.1, h.2.2.1⟩) _ _ HVA.out)
     have HWW8 : Hid (w.heap.size ≤ W8.heap.size) := hid HB8.out.size
     have HTX : Hid (Calls Tryz.prog 6 #[jobVal U v (q.1 : Int) (q.2.1 : Int) (q.2.2 : Int) y0 y1 y2 y3 yd yl yc a4 l.length cp4] wc fun e w' => e = .returned (.tuple #[.string (jobTxt j), .int .i64 j.fault]) ∧ Below wc.heap.size wc w') := hid (jobText_any j _ wc (by rw [hj]; exact HXS.out) (HEV.out wc HBWC.out) ⟨y0, y1, y2, y3, yd, yl, yc, a4, cp4, by rw [hj]; simp only; rw [HUU.out], HPX.out wc HSR.out.but.size (fun b h => HSR.out.but.block b h.2.2 h.1) HSR.out.own⟩)
     unfold jobVal at HTX
     obtain ⟨F, hF⟩ : ∃ F, j.fault = F := ⟨_, rfl⟩
     obtain ⟨T, hT⟩ : ∃ T, jobTxt j = T := ⟨_, rfl⟩
     have HF := hid hF
     have HT := hid hT
     rw [hF, hT] at HTX
     have HBJC := hid HSR.out.box
     have HCJ : Hid (C < W8.heap.size) := hid HBC8.out.lt
     clear hj hF hT hO9 HVALS
     obtain ⟨e0, e1, e2, e3, e4, e5, e6, e7, e8, e9, e10⟩ := HBJC.out.c11
     go_wp2_with fail
     refine Calls.mono HTX.out ?_
     rintro e W10 ⟨rfl, hbn⟩
     have HSR2 := hid (HSR.out.step hbn)
     have HB10 := hid (HBWC.out.trans (hbn.mono HBWC.out.size))
     have HBC10 : Hid (BoxV C zcells W10) := hid (HBC8.out.but HSR2.out.but HJW.out.2.1.symm)
     have HBJ10 := hid HSR2.out.box
     clear hbn e0 e1 e2 e3 e4 e5 e6 e7 e8 e9 e10
     by_cases h0 : F = 0
     ·subst h0
      obtain ⟨tb, htb⟩ : ∃ b, (T.toList == S.toList) = b := ⟨_, rfl⟩
      have htb2 : (T.toList != S.toList) = !tb := by rw [bne, htb]
      have HTB : Hid (decide (j.text = s) = tb) := hid (by
       rw [← htb, ← HT.out, ← HSS.out]; unfold jobTxt; rw [if_pos HF.out, bts_toList, bts_toList]
       by_cases h : j.text = s
       ·rw [h]; simp
       ·simp [h])
      cases tb with
      | false =>
       have HP : Hid (O = none) := hid (by rw [HOJ.out]; exact if_neg (fun h => of_decide_eq_false HTB.out h.2))
       go_upto_region 25 with fail
       have HKX := KR.of (P := Tryz.prog) (by assumption)
       go_light
       obtain ⟨r0, r1, r2, r3, r4, r5, r6, r7, r8, r9, r10⟩ := HBC10.out.c11
       obtain ⟨rf0, rf1, rf2, rf3, rf4, rf5, rf6, rf7, rf8, rf9, rf10⟩ := HBC10.out.f11
       have hcl := HBC10.out.lt
       go_wp2_with fail
       refine HKX.fin ?_
       refine bodyPost_ret (v := .tuple #[.agg #[.string ⟨#[]⟩, .int .i64 0, .int .i64 0, .int .i64 0, .int .i64 0, .int .i64 0, .string ⟨#[]⟩, .string ⟨#[]⟩, .int .i64 0, .slice none 0 0, .slice none 0 0], .int .i64 3]) (by simp [results, Tryz.results7, go_sem, cell_set, r0, r1, r2, r3, r4, r5, r6, r7, r8, r9, r10, hcl]) rfl ?_
       show JobRdQ w O 3 _ (puts W10 C 0 [.string ⟨#[]⟩, .int .i64 0, .int .i64 0, .int .i64 0, .int .i64 0, .int .i64 0, .string ⟨#[]⟩, .string ⟨#[]⟩, .int .i64 0, .slice none 0 0, .slice none 0 0])
       rw [HP.out]
       exact ⟨puts_below C (Nat.le_of_eq HC.out.symm) _ _ _ HB10.out, rfl⟩
      | true =>
       have HP : Hid (O = some j) := hid (by rw [HOJ.out]; exact if_pos ⟨HF.out, of_decide_eq_true HTB.out⟩)
       go_upto_region 26 with fail
       have HKX := KR.of (P := Tryz.prog) (by assumption)
       go_light
       obtain ⟨r0, r1, r2, r3, r4, r5, r6, r7, r8, r9, r10⟩ := HBC10.out.c11
       obtain ⟨rf0, rf1, rf2, rf3, rf4, rf5, rf6, rf7, rf8, rf9, rf10⟩ := HBC10.out.f11
       have hcl := HBC10.out.lt
       obtain ⟨e0, e1, e2, e3, e4, e5, e6, e7, e8, e9, e10⟩ := HBJ10.out.c11
       go_wp2_with fail
       refine HKX.fin ?_
       refine bodyPost_ret (v := .tuple #[.agg #[.string U, .int .i64 v, .int .i64 (q.1 : Int), .int .i64 (q.2.1 : Int), .int .i64 (q.2.2 : Int), .int .i64 y0, .string y1, .string y2, .int .i64 y3, .slice yd yl yc, .slice a4 l.length cp4], .int .i64 0]) (by simp [results, Tryz.results7, go_sem, cell_set, r0, r1, r2, r3, r4, r5, r6, r7, r8, r9, r10, hcl]) rfl ?_
       show JobRdQ w O 3 _ (puts W10 C 0 [.string U, .int .i64 v, .int .i64 (q.1 : Int), .int .i64 (q.2.1 : Int), .int .i64 (q.2.2 : Int), .int .i64 y0, .string y1, .string y2, .int .i64 y3, .slice yd yl yc, .slice a4 l.length cp4])
       rw [HP.out]
       refine ⟨puts_below C (Nat.le_of_eq HC.out.symm) _ _ _ HB10.out, _, rfl, y0, y1, y2, y3, yd, yl, yc, a4, cp4, ?_, HPX.out _ (by rw [puts_size]; exact HSR2.out.but.size) (fun b h => ?_) (puts_own (Nat.lt_of_lt_of_le HCJ.out HSR2.out.lo) _ _ _ HSR2.out.own), HPN.out _ (by rw [puts_size]; exact HSR2.out.but.size) (fun b h => ?_), fun A hA => Nat.le_trans HWW8.out (Nat.le_trans HSR2.out.lo (HSR2.out.own.lt A.block (by rw [hA]; rfl)).1)⟩
       ·rw [HJE.out]; simp only; rw [HUU.out]; rfl
       ·rw [puts_heap C h.2.1]
        exact HSR2.out.but.block b h.2.2 h.1
       ·rw [puts_heap C h.2.1]
        exact HSR2.out.but.block b h.2.2 h.1
     ·have hz : (F == 0) = false := by simpa using h0
      have hz2 : (F != 0) = true := by simpa using h0
      have HP : Hid (O = none) := hid (by rw [HOJ.out]; exact if_neg (fun h => h0 (HF.out.symm.trans h.1)))
      clear h0
      go_upto_region 25 with fail
      have HKX := KR.of (P := Tryz.prog) (by assumption)
      go_light
      obtain ⟨r0, r1, r2, r3, r4, r5, r6, r7, r8, r9, r10⟩ := HBC10.out.c11
      obtain ⟨rf0, rf1, rf2, rf3, rf4, rf5, rf6, rf7, rf8, rf9, rf10⟩ := HBC10.out.f11
      have hcl := HBC10.out.lt
      go_wp2_with fail
      refine HKX.fin ?_
      refine bodyPost_ret (v := .tuple #[.agg #[.string ⟨#[]⟩, .int .i64 0, .int .i64 0, .int .i64 0, .int .i64 0, .int .i64 0, .string ⟨#[]⟩, .string ⟨#[]⟩, .int .i64 0, .slice none 0 0, .slice none 0 0], .int .i64 3]) (by simp [results, Tryz.results7, go_sem, cell_set, r0, r1, r2, r3, r4, r5, r6, r7, r8, r9, r10, hcl]) rfl ?_
      show JobRdQ w O 3 _ (puts W10 C 0 [.string ⟨#[]⟩, .int .i64 0, .int .i64 0, .int .i64 0, .int .i64 0, .int .i64 0, .string ⟨#[]⟩, .string ⟨#[]⟩, .int .i64 0, .slice none 0 0, .slice none 0 0])
      rw [HP.out]
      exact ⟨puts_below C (Nat.le_of_eq HC.out.symm) _ _ _ HB10.out, rfl⟩
   ·have hpn : own (parse5 numA askS u p n f x) s = none := by unfold parse5; rw [h1, h2, h3]; rfl
    have hc1 : (ec == 0) = false := by simpa using hcn
    have hc2 : (ec != 0) = true := by simpa using hcn
    clear h1 h2 h3 hcn
    have HP : Hid (O = none) := hid (by rw [← HO.out, hpn])
    clear hpn
    go_upto_region 13 with fail
    have HKX := KR.of (P := Tryz.prog) (by assumption)
    go_light
    obtain ⟨r0, r1, r2, r3, r4, r5, r6, r7, r8, r9, r10⟩ := HBC8.out.c11
    obtain ⟨rf0, rf1, rf2, rf3, rf4, rf5, rf6, rf7, rf8, rf9, rf10⟩ := HBC8.out.f11
    have hcl := HBC8.out.lt
    go_wp2_with fail
    refine HKX.fin ?_
    refine bodyPost_ret (v := .tuple #[.agg #[.string ⟨#[]⟩, .int .i64 0, .int .i64 0, .int .i64 0, .int .i64 0, .int .i64 0, .string ⟨#[]⟩, .string ⟨#[]⟩, .int .i64 0, .slice none 0 0, .slice none 0 0], .int .i64 3]) (by simp [results, Tryz.results7, go_sem, cell_set, r0, r1, r2, r3, r4, r5, r6, r7, r8, r9, r10, hcl]) rfl ?_
    show JobRdQ w O 3 _ (puts W8 C 0 [.string ⟨#[]⟩, .int .i64 0, .int .i64 0, .int .i64 0, .int .i64 0, .int .i64 0, .string ⟨#[]⟩, .string ⟨#[]⟩, .int .i64 0, .slice none 0 0, .slice none 0 0])
    rw [HP.out]
    exact ⟨puts_below C (Nat.le_of_eq HC.out.symm) _ _ _ HB8.out, rfl⟩
  ·have hpn : own (parse5 numA askS u p n f x) s = none := by unfold parse5; rw [h1, h2]; rfl
   have hc1 : (code == 0) = false := by simpa using hcn
   have hc2 : (code != 0) = true := by simpa using hcn
   clear h1 h2 hcn
   have HP : Hid (O = none) := hid (by rw [← HO.out, hpn])
   clear hpn
   go_upto_region 13 with fail
   have HKX := KR.of (P := Tryz.prog) (by assumption)
   go_light
   obtain ⟨r0, r1, r2, r3, r4, r5, r6, r7, r8, r9, r10⟩ := HBC8.out.c11
   obtain ⟨rf0, rf1, rf2, rf3, rf4, rf5, rf6, rf7, rf8, rf9, rf10⟩ := HBC8.out.f11
   have hcl := HBC8.out.lt
   go_wp2_with fail
   refine HKX.fin ?_
   refine bodyPost_ret (v := .tuple #[.agg #[.string ⟨#[]⟩, .int .i64 0, .int .i64 0, .int .i64 0, .int .i64 0, .int .i64 0, .string ⟨#[]⟩, .string ⟨#[]⟩, .int .i64 0, .slice none 0 0, .slice none 0 0], .int .i64 3]) (by simp [results, Tryz.results7, go_sem, cell_set, r0, r1, r2, r3, r4, r5, r6, r7, r8, r9, r10, hcl]) rfl ?_
   show JobRdQ w O 3 _ (puts W8 C 0 [.string ⟨#[]⟩, .int .i64 0, .int .i64 0, .int .i64 0, .int .i64 0, .int .i64 0, .string ⟨#[]⟩, .string ⟨#[]⟩, .int .i64 0, .slice none 0 0, .slice none 0 0])
   rw [HP.out]
   exact ⟨puts_below C (Nat.le_of_eq HC.out.symm) _ _ _ HB8.out, rfl⟩
 ·have hpn : own (parse5 numA askS u p n f x) s = none := by unfold parse5; rw [h1]; rfl
  clear h1
  have HP : Hid (O = none) := hid (by rw [← HO.out, hpn])
  clear hpn
  go_upto_region 13 with fail
  have HKX := KR.of (P := Tryz.prog) (by assumption)
  go_light
  obtain ⟨r0, r1, r2, r3, r4, r5, r6, r7, r8, r9, r10⟩ := HBC8.out.c11
  obtain ⟨rf0, rf1, rf2, rf3, rf4, rf5, rf6, rf7, rf8, rf9, rf10⟩ := HBC8.out.f11
  have hcl := HBC8.out.lt
  go_wp2_with fail
  refine HKX.fin ?_
  refine bodyPost_ret (v := .tuple #[.agg #[.string ⟨#[]⟩, .int .i64 0, .int .i64 0, .int .i64 0, .int .i64 0, .int .i64 0, .string ⟨#[]⟩, .string ⟨#[]⟩, .int .i64 0, .slice none 0 0, .slice none 0 0], .int .i64 3]) (by simp [results, Tryz.results7, go_sem, cell_set, r0, r1, r2, r3, r4, r5, r6, r7, r8, r9, r10, hcl]) rfl ?_
  show JobRdQ w O 3 _ (puts W8 C 0 [.string ⟨#[]⟩, .int .i64 0, .int .i64 0, .int .i64 0, .int .i64 0, .int .i64 0, .string ⟨#[]⟩, .string ⟨#[]⟩, .int .i64 0, .slice none 0 0, .slice none 0 0])
  rw [HP.out]
  exact ⟨puts_below C (Nat.le_of_eq HC.out.symm) _ _ _ HB8.out, rfl⟩
end Go.Proofs.YtkemlckmfgacdaaGreatDoor
