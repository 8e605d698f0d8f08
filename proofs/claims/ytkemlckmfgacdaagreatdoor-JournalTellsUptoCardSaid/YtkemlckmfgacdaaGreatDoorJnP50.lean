/- Contracts: slices.EqualFunc over rows of like events; sameEvents. -/
import Derived.Test.YtkemlckmfgacdaaGreatDoorJnP40
import Derived.Test.YtkemlckmfgacdaaGreatDoorJnP48
import Derived.Deep.LoopGhost
import Derived.Test.YtkemlckmfgacdaaGreatDoorJnP49
import Derived.Test.YtkemlckmfgacdaaGreatDoorJnP0
import Derived.Deep.Slices
import Derived.Lib.SmallJoins
import Derived.SizedLaws
namespace Go.Proofs.YtkemlckmfgacdaaGreatDoor
set_option maxRecDepth 20000
set_option maxHeartbeats 64000000
open Go.ChangeShapes Go.WideShapes Go.ChangeAt Go.RowKit
set_option linter.unusedVariables false
set_option linter.unusedSimpArgs false
open Tp Jm Ev
def EvRow (w : World) (a : Option Addr) (L : List Evt) : Prop := ∃ vs : List Value, vs.length = L.length ∧ (∀ (i : Nat) (y : Evt) (u : Value), L[i]? = some y → vs[i]? = some u → EvV w y u) ∧ (∀ u, u ∈ vs → (cel u).length = 15) ∧ Vals w a (vs.flatMap cel)
theorem EvRow.below {w w' : World} {a : Option Addr} {L : List Evt} (h : EvRow w a L) (hb : Below w.heap.size w w') : EvRow w' a L := by
 obtain ⟨vs, h1, h2, h3, h4⟩ := h
 exact ⟨vs, h1, fun i y u hy hu => (h2 i y u hy hu).below hb, h3, h4.below hb lr⟩
theorem EvsQ.row {H : Nat} {w : World} {v : Value} {L : List Evt} {vs : List Value} (h : EvsQ H w v L vs) : ∃ a c, v = .slice a L.length c ∧ L.length ≤ c ∧ EvRow w a L := by
 obtain ⟨a, c, rfl, hc, _, _⟩ := ownForm h.own
 obtain ⟨a', c', e, hv⟩ := IsRow.own (by decide) h.own
 injection e with e1 e2 e3
 subst e1
 exact ⟨a, c, rfl, hc, vs, h.len, fun i y u hy hu => (h.ev i y u hy hu).toV, h.cel15, hv⟩
theorem EvRow.at {w : World} {a : Option Addr} {L : List Evt} (h : EvRow w a L) {i : Nat} {y : Evt} (hy : L[i]? = some y) : ∃ (bl off : Nat) (u : Value), a = some ⟨bl, off, none⟩ ∧ bl < w.heap.size ∧ EvV w y u ∧ ∀ k c, (cel u)[k]? = some c → w.cell? ⟨bl, off + i * 15 + k, none⟩ = some c := by
 obtain ⟨vs, h1, h2, h3, h4⟩ := h
 have hil : i < vs.length := by rw [h1]; exact (List.getElem?_eq_some_iff.1 hy).1
 obtain ⟨u, hu⟩ : ∃ u, vs[i]? = some u := ⟨_, List.getElem?_eq_getElem hil⟩
 have hv := h2 i y u hy hu
 have hm := h3 u (List.mem_of_getElem? hu)
 have hflat : ∀ k c, (cel u)[k]? = some c → (vs.flatMap cel)[i * 15 + k]? = some c := fun k c hc => flat_at vs h3 i u k c hu hc
 have hpos : 0 < (vs.flatMap cel).length := by
  have := (List.getElem?_eq_some_iff.1 (hflat 0 _ (List.getElem?_eq_getElem (by omega)))).1
  omega
 obtain ⟨bl, off, e, hb, hc⟩ := h4 hpos
 exact ⟨bl, off, u, e, hb, hv, fun k c hk => by rw [Nat.add_assoc]; exact hc _ _ (hflat k c hk)⟩
theorem eqFunc_same (L : List Evt) (a1 a2 : Option Addr) (n c1 c2 : Nat) (w : World) (hn : L.length = n) (hn9 : n ≤ 1000000000) (h1 : EvRow w a1 L) (h2 : EvRow w a2 L) : Calls Tryz.prog 55 #[.slice a1 n c1, .slice a2 n c2, .func (Fn.func 20) #[] #[]] w fun e w' => e = .returned (.bool true) ∧ Below w.heap.size w w' := by
 obtain ⟨H, hH⟩ : ∃ H, w.heap.size = H := ⟨_, rfl⟩
 have HH := hid hH
 have HA : Hid (∀ W, Below H w W → EvRow W a1 L) := hid (fun W h => h1.below (by rw [hH]; exact h))
 have HC : Hid (∀ W, Below H w W → EvRow W a2 L) := hid (fun W h => h2.below (by rw [hH]; exact h))
 have HN := hid hn
 have HN9 := hid hn9
 have hnn : ((n : Int) != (n : Int)) = false := by simp
 clear hH h1 h2 hn hn9
 go_enter Tryz.func55, Tryz.ntmps55
 go_wp2_with fail
 go_loopg [17] n (fun g x wr => ∃ i : Nat, i + g = n ∧ x = .int .i64 (i : Int) ∧ Hid (Below H w wr))
 case atStart => exact ⟨0, by omega, rfl, hid (Below.refl _ _)⟩
 case round =>
  obtain ⟨i, hk, rfl, HB⟩ := hrel
  have HK := hid hk
  by_cases hin : i < n
  ·obtain ⟨y, hy⟩ : ∃ y, L[i]? = some y := ⟨_, List.getElem?_eq_getElem (by rw [HN.out]; exact hin)⟩
   obtain ⟨bl, off, u, rfl, hbl, hv1, hc1⟩ := (HA.out wr HB.out).at hy
   obtain ⟨bm, ofm, u2, rfl, hbm, hv2, hc2⟩ := (HC.out wr HB.out).at hy
   obtain ⟨xk, xu, xp, xa, xb, xc, x0, x1, x2, x3, xd, xl, xe9, xe, xn, xm, xN, xI, xO, rfl⟩ := hv1.form
   obtain ⟨yk, yu, yp, ya, yb, yc, y0, y1, y2, y3, yd, yl, ye9, yee, yn, ym, yN, yI, yO, rfl⟩ := hv2.form
   have HV1 := hid hv1
   have HV2 := hid hv2
   have a0 := hc1 0 _ rfl
   have a1 := hc1 1 _ rfl
   have a2 := hc1 2 _ rfl
   have a3 := hc1 3 _ rfl
   have a4 := hc1 4 _ rfl
   have a5 := hc1 5 _ rfl
   have a6 := hc1 6 _ rfl
   have a7 := hc1 7 _ rfl
   have a8 := hc1 8 _ rfl
   have a9 := hc1 9 _ rfl
   have a10 := hc1 10 _ rfl
   have a11 := hc1 11 _ rfl
   have a12 := hc1 12 _ rfl
   have a13 := hc1 13 _ rfl
   have a14 := hc1 14 _ rfl
   have e0 := hc2 0 _ rfl
   have e1 := hc2 1 _ rfl
   have e2 := hc2 2 _ rfl
   have e3 := hc2 3 _ rfl
   have e4 := hc2 4 _ rfl
   have e5 := hc2 5 _ rfl
   have e6 := hc2 6 _ rfl
   have e7 := hc2 7 _ rfl
   have e8 := hc2 8 _ rfl
   have e9 := hc2 9 _ rfl
   have e10 := hc2 10 _ rfl
   have e11 := hc2 11 _ rfl
   have e12 := hc2 12 _ rfl
   have e13 := hc2 13 _ rfl
   have e14 := hc2 14 _ rfl
   rw [Nat.add_zero] at a0 e0
   have hi1 : (0 : Int) ≤ (i : Int) := by omega
   have hi2 : (i : Int) < (n : Int) := by omega
   have hw : IntKind.i64.wrap ((i : Int) + 1) = ((i + 1 : Nat) : Int) := IntWalk.i64_in _ (by have := HN9.out; omega)
   obtain ⟨W1, hW1⟩ : ∃ W, wr.alloc (.cells #[.int .i64 xk, .string xu, .int .i64 xp, .int .i64 xa, .int .i64 xb, .int .i64 xc, .int .i64 x0, .string x1, .string x2, .int .i64 x3, .slice xd xl xe9, .slice xe xn xm, .int .i64 xN, .int .i64 xI, .bool xO] 40) = W := ⟨_, rfl⟩
   obtain ⟨d, hd⟩ : ∃ d, d = wr.heap.size := ⟨_, rfl⟩
   have hb1 : Below wr.heap.size wr W1 := be0 hW1.symm
   have HX1 : Hid (BoxV d [.int .i64 xk, .string xu, .int .i64 xp, .int .i64 xa, .int .i64 xb, .int .i64 xc, .int .i64 x0, .string x1, .string x2, .int .i64 x3, .slice xd xl xe9, .slice xe xn xm, .int .i64 xN, .int .i64 xI, .bool xO] W1) := hid (by rw [← hW1]; exact BoxV.top _ hd)
   obtain ⟨W2, hW2⟩ : ∃ W, W1.alloc (.cells #[.int .i64 yk, .string yu, .int .i64 yp, .int .i64 ya, .int .i64 yb, .int .i64 yc, .int .i64 y0, .string y1, .string y2, .int .i64 y3, .slice yd yl ye9, .slice yee yn ym, .int .i64 yN, .int .i64 yI, .bool yO] 40) = W := ⟨_, rfl⟩
   obtain ⟨g, hg⟩ : ∃ d, d = W1.heap.size := ⟨_, rfl⟩
   have hb2 : Below W1.heap.size W1 W2 := be0 hW2.symm
   have HY2 : Hid (BoxV g [.int .i64 yk, .string yu, .int .i64 yp, .int .i64 ya, .int .i64 yb, .int .i64 yc, .int .i64 y0, .string y1, .string y2, .int .i64 y3, .slice yd yl ye9, .slice yee yn ym, .int .i64 yN, .int .i64 yI, .bool yO] W2) := hid (by rw [← hW2]; exact BoxV.top _ hg)
   have HX2 := hid (HX1.out.step hb2)
   have hb12 : Below wr.heap.size wr W2 := hb1.trans (hb2.mono hb1.size)
   have HSM := hid (sameEv_same y _ _ W2 (HV1.out.below hb12) (HV2.out.below hb12))
   have HBW : Hid (Below H w W2) := hid (HB.out.trans (hb12.mono (by rw [← HH.out]; exact HB.out.size)))
   have E0 := (hb1.cell (p := ⟨bm, _, none⟩) hbm).trans e0
   have E1 := (hb1.cell (p := ⟨bm, _, none⟩) hbm).trans e1
   have E2 := (hb1.cell (p := ⟨bm, _, none⟩) hbm).trans e2
   have E3 := (hb1.cell (p := ⟨bm, _, none⟩) hbm).trans e3
   have E4 := (hb1.cell (p := ⟨bm, _, none⟩) hbm).trans e4
   have E5 := (hb1.cell (p := ⟨bm, _, none⟩) hbm).trans e5
   have E6 := (hb1.cell (p := ⟨bm, _, none⟩) hbm).trans e6
   have E7 := (hb1.cell (p := ⟨bm, _, none⟩) hbm).trans e7
   have E8 := (hb1.cell (p := ⟨bm, _, none⟩) hbm).trans e8
   have E9 := (hb1.cell (p := ⟨bm, _, none⟩) hbm).trans e9
   have E10 := (hb1.cell (p := ⟨bm, _, none⟩) hbm).trans e10
   have E11 := (hb1.cell (p := ⟨bm, _, none⟩) hbm).trans e11
   have E12 := (hb1.cell (p := ⟨bm, _, none⟩) hbm).trans e12
   have E13 := (hb1.cell (p := ⟨bm, _, none⟩) hbm).trans e13
   have E14 := (hb1.cell (p := ⟨bm, _, none⟩) hbm).trans e14
   have hbm1 : bm < W1.heap.size := Nat.lt_of_lt_of_le hbm hb1.size
   clear hy hv1 hv2 hc1 hc2 hk hb1 hb2 hb12 e0 e1 e2 e3 e4 e5 e6 e7 e8 e9 e10 e11 e12 e13 e14
   go_upto_region 6 with fail
   rw [← hd]
   go_upto_region 7 with fail
   rw [← hg]
   clear hW1 hW2 hd hg a0 E0 a1 E1 a2 E2 a3 E3 a4 E4 a5 E5 a6 E6 a7 E7 a8 E8 a9 E9 a10 E10 a11 E11 a12 E12 a13 E13 a14 E14
   obtain ⟨p0, p1, p2, p3, p4, p5, p6, p7, p8, p9, p10, p11, p12, p13, p14⟩ := HX2.out.c15
   obtain ⟨r0, r1, r2, r3, r4, r5, r6, r7, r8, r9, r10, r11, r12, r13, r14⟩ := HY2.out.c15
   have hdl := HX2.out.lt
   have hgl := HY2.out.lt
   go_wp2_with fail
   refine Calls.mono HSM.out ?_
   rintro e W3 ⟨rfl, hbn⟩
   have HB3 : Hid (Below H w W3) := hid (HBW.out.trans (hbn.mono (by rw [← HH.out]; exact HBW.out.size)))
   clear hbn hdl hgl p0 r0 p1 r1 p2 r2 p3 r3 p4 r4 p5 r5 p6 r6 p7 r7 p8 r8 p9 r9 p10 r10 p11 r11 p12 r12 p13 r13 p14 r14
   go_wp2_with fail
   go_roundg (n - (i + 1))
   case measure => (have := HK.out; omega)
   case rel => exact ⟨i + 1, by have := HK.out; omega, by simp, HB3⟩
  ·have hi2 : ¬ (i : Int) < (n : Int) := by omega
   clear hk hin
   go_wp2_with fail
   go_ret
   exact ⟨rfl, by rw [HH.out]; exact HB.out⟩
theorem sameEvents_same (L : List Evt) (a1 a2 : Option Addr) (n c1 c2 : Nat) (w : World) (hn : L.length = n) (hn9 : n ≤ 1000000000) (h1 : EvRow w a1 L) (h2 : EvRow w a2 L) : Calls Tryz.prog 24 #[.slice a1 n c1, .slice a2 n c2] w fun e w' => e = .returned (.bool true) ∧ Below w.heap.size w w' := by
 have HE := hid (eqFunc_same L a1 a2 n c1 c2 w hn hn9 h1 h2)
 clear hn hn9 h1 h2
 go_enter Tryz.func24, Tryz.ntmps24
 go_wp2_with fail
 refine Calls.mono HE.out ?_
 rintro e w1 ⟨rfl, hb⟩
 have HB := hid hb
 clear hb
 go_wp2_with fail
 go_ret
 exact ⟨rfl, HB.out⟩
end Go.Proofs.YtkemlckmfgacdaaGreatDoor
namespace Go.Proofs.YtkemlckmfgacdaaGreatDoor
set_option maxRecDepth 20000
set_option maxHeartbeats 64000000
open Go.ChangeShapes Go.WideShapes Go.ChangeAt Go.RowKit
set_option linter.unusedVariables false
set_option linter.unusedSimpArgs false
open Tp Jm Ev
theorem iter_len (b : Bs) : ∀ (f : Nat) (L : List Evt) (i : Nat), 10 * L.length ≤ i → i ≤ b.length → 10 * (iter b f (L, i)).1.length ≤ (iter b f (L, i)).2 ∧ (iter b f (L, i)).2 ≤ b.length
 | 0, L, i, h1, h2 => ⟨h1, h2⟩
 | f + 1, L, i, h1, h2 => by
  rw [iter]
  cases h : nextF b i with
  | none => exact ⟨h1, h2⟩
  | some p =>
   obtain ⟨x, m⟩ := p
   simp only
   have hm : 10 ≤ m ∧ i + m ≤ b.length := by
    unfold nextF at h
    split at h
    ·cases h
    split at h
    ·cases h
    rename_i h3 h4
    split at h
    ·cases h
    split at h
    ·injection h with h
     injection h with _ h
     rw [List.length_drop] at h4
     omega
    ·cases h
   exact iter_len b f (L ++ [x]) (i + m) (by rw [List.length_append, List.length_singleton]; omega) hm.2
theorem jnLaw_any (x : Evt) (v : Value) (b : Bs) (a : Option Addr) (n cap : Nat) (w : World) (hs : x.job.ask.size ≤ 1000000000) (he : Env w) (hv : EvV w x v) (hn : b.length = n) (hcap : n ≤ cap) (hmax : cap ≤ 9223372036854775807) (hb : BytA w a b) : Calls Tryz.prog 5 #[v, .slice a n cap] w fun e w' => e = .returned (.bool true) ∧ Below w.heap.size w w' := by
 by_cases h6 : 600 < n
 ·obtain ⟨xk, xu, xp, xa, xb, xc, x0, x1, x2, x3, xd, xl, xe9, xe, xn, xm, xN, xI, xO, rfl⟩ := hv.form
  have h6' : (600 : Int) < (n : Int) := by omega
  clear hv hs he hb hn hcap hmax h6
  go_enter Tryz.func5, Tryz.ntmps5
  go_wp2_with fail
  go_ret
  exact ⟨rfl, (Below.refl _ _).alloc lr _⟩
 have h6' : ¬ (600 : Int) < (n : Int) := by omega
 have HV : Hid (∀ W, Below w.heap.size w W → EvV W x v) := hid (fun W h => hv.below h)
 obtain ⟨xk, xu, xp, xa, xb, xc, x0, x1, x2, x3, xd, xl, xe9, xe, xn, xm, xN, xI, xO, rfl⟩ := hv.form
 obtain ⟨B, hB⟩ : ∃ B, B = w.heap.size := ⟨_, rfl⟩
 obtain ⟨W0, hW0⟩ : ∃ W, W = w.alloc (.cells #[.int .i64 xk, .string xu, .int .i64 xp, .int .i64 xa, .int .i64 xb, .int .i64 xc, .int .i64 x0, .string x1, .string x2, .int .i64 x3, .slice xd xl xe9, .slice xe xn xm, .int .i64 xN, .int .i64 xI, .bool xO] 40) := ⟨_, rfl⟩
 have hb0 : Below w.heap.size w W0 := be0 hW0
 have HX0 : Hid (BoxV B [.int .i64 xk, .string xu, .int .i64 xp, .int .i64 xa, .int .i64 xb, .int .i64 xc, .int .i64 x0, .string x1, .string x2, .int .i64 x3, .slice xd xl xe9, .slice xe xn xm, .int .i64 xN, .int .i64 xI, .bool xO] W0) := hid (by rw [hW0]; exact BoxV.top _ hB)
 have HB0 := hid hb0
 have HEV : Hid (∀ W, Below w.heap.size w W → Env W) := hid (fun W h => he.below h lr)
 obtain ⟨f, hf⟩ : ∃ f, x.fault = f := ⟨_, rfl⟩
 obtain ⟨T, hT⟩ : ∃ T, x.frm = T := ⟨_, rfl⟩
 obtain ⟨R, hR⟩ : ∃ R, iter b (n + 1) ([], 0) = R := ⟨_, rfl⟩
 obtain ⟨k, hk⟩ : ∃ k, R.1.length = k := ⟨_, rfl⟩
 have hk9 : Hid (k ≤ 1000000000) := hid (by
  have h := iter_len b (n + 1) [] 0 (by simp) (by omega)
  rw [hR] at h
  omega)
 have HFR := hid (fun W (h : Below w.heap.size w W) => frame_any x _ W hs (HEV.out W h) (HV.out W h))
 have HRF := hid (fun W (h : Below w.heap.size w W) => evFault_any x _ W hs (HV.out W h))
 have HFD : Hid (f = 0 → ∀ W, Below w.heap.size w W → Calls Tryz.prog 25 #[.agg #[.int .i64 xk, .string xu, .int .i64 xp, .int .i64 xa, .int .i64 xb, .int .i64 xc, .int .i64 x0, .string x1, .string x2, .int .i64 x3, .slice xd xl xe9, .slice xe xn xm, .int .i64 xN, .int .i64 xI, .bool xO]] W (BytQ W T)) := hid (fun h0 W h => by
  have e : x.frm = framed x.bytes := by unfold Evt.frm; rw [if_pos (hf.trans h0)]
  rw [← hT, e]
  exact framed_any x _ W (hf.trans h0) (HV.out W h))
 have HTE : Hid (f ≠ 0 → T = []) := hid (fun h => by rw [← hT]; unfold Evt.frm; rw [if_neg (by rw [hf]; exact h)])
 have HCU := hid (fun W (h : Below w.heap.size w W) => cut_any b a n cap W hn (by omega) hcap hmax (HEV.out W h) (hb.below h))
 have HFS := hid (fun W (h : Below w.heap.size w W) => frames_any b a n cap W hn (by omega) hcap hmax (hb.below h))
 rw [hR] at HCU HFS
 rw [hf, hT] at HFR
 rw [hf] at HRF
 have HKK := hid hk
 have hr2 : ((R.2 : Int) != (R.2 : Int)) = false := by simp
 clear hb0 hf hT hR hk he hv hs hb hn hcap hmax h6
 go_enter Tryz.func5, Tryz.ntmps5
 go_upto_region 1 with fail
 rw [← hW0, ← hB]
 clear hW0 hB
 obtain ⟨b0, b1, b2, b3, b4, b5, b6, b7, b8, b9, b10, b11, b12, b13, b14⟩ := HX0.out.c15
 have hBl := HX0.out.lt
 go_wp2_with fail
 refine Calls.mono (HFR.out W0 HB0.out) ?_
 rintro e W1 ⟨v5, rfl, hown, hbn⟩
 obtain ⟨a5, c5, rfl, -, -, hby, -⟩ := hown.form
 have HB1 : Hid (Below w.heap.size w W1) := hid (HB0.out.trans (hbn.mono HB0.out.size))
 have HX1 := hid (HX0.out.step hbn)
 have HY1 := hid hby
 obtain ⟨tn, htn⟩ : ∃ t, T.length = t := ⟨_, rfl⟩
 rw [htn]
 have HTN := hid htn
 clear hbn hown hby htn
 clear hBl b0 b1 b2 b3 b4 b5 b6 b7 b8 b9 b10 b11 b12 b13 b14
 obtain ⟨b0, b1, b2, b3, b4, b5, b6, b7, b8, b9, b10, b11, b12, b13, b14⟩ := HX1.out.c15
 have hBl := HX1.out.lt
 go_wp2_with fail
 refine Calls.mono (HCU.out W1 HB1.out) ?_
 rintro e W2 ⟨v7, us, rfl, hq, hbn⟩
 obtain ⟨a7, c7, rfl, hc7, hrow⟩ := hq.row
 have HB2 : Hid (Below w.heap.size w W2) := hid (HB1.out.trans (hbn.mono HB1.out.size))
 have HX2 := hid (HX1.out.step hbn)
 have HY2 := hid (HY1.out.below hbn)
 have HR2 := hid hrow
 rw [HKK.out]
 clear hbn hq hc7 hrow
 clear hBl b0 b1 b2 b3 b4 b5 b6 b7 b8 b9 b10 b11 b12 b13 b14
 obtain ⟨b0, b1, b2, b3, b4, b5, b6, b7, b8, b9, b10, b11, b12, b13, b14⟩ := HX2.out.c15
 have hBl := HX2.out.lt
 go_wp2_with fail
 refine Calls.mono (HFS.out W2 HB2.out) ?_
 rintro e W3 ⟨v9, us9, rfl, hq, hbn⟩
 obtain ⟨a9, c9, rfl, hc9, hrow⟩ := hq.row
 have HB3 : Hid (Below w.heap.size w W3) := hid (HB2.out.trans (hbn.mono HB2.out.size))
 have HX3 := hid (HX2.out.step hbn)
 have HY3 := hid (HY2.out.below hbn)
 have HSE := hid (sameEvents_same R.1 a7 a9 k c7 c9 W3 HKK.out hk9.out (HR2.out.below hbn) hrow)
 rw [HKK.out]
 clear hbn hq hc9 hrow
 clear hBl b0 b1 b2 b3 b4 b5 b6 b7 b8 b9 b10 b11 b12 b13 b14
 obtain ⟨b0, b1, b2, b3, b4, b5, b6, b7, b8, b9, b10, b11, b12, b13, b14⟩ := HX3.out.c15
 have hBl := HX3.out.lt
 go_wp2_with fail
 refine Calls.mono HSE.out ?_
 rintro e W4 ⟨rfl, hbn⟩
 have HB4 : Hid (Below w.heap.size w W4) := hid (HB3.out.trans (hbn.mono HB3.out.size))
 have HX4 := hid (HX3.out.step hbn)
 have HY4 := hid (HY3.out.below hbn)
 clear hbn
 clear hBl b0 b1 b2 b3 b4 b5 b6 b7 b8 b9 b10 b11 b12 b13 b14
 obtain ⟨b0, b1, b2, b3, b4, b5, b6, b7, b8, b9, b10, b11, b12, b13, b14⟩ := HX4.out.c15
 have hBl := HX4.out.lt
 go_wp2_with fail
 refine Calls.mono (HRF.out W4 HB4.out) ?_
 rintro e W5 ⟨rfl, hbn⟩
 have HB5 : Hid (Below w.heap.size w W5) := hid (HB4.out.trans (hbn.mono HB4.out.size))
 have HX5 := hid (HX4.out.step hbn)
 have HY5 := hid (HY4.out.below hbn)
 clear hbn
 clear hBl b0 b1 b2 b3 b4 b5 b6 b7 b8 b9 b10 b11 b12 b13 b14
 obtain ⟨b0, b1, b2, b3, b4, b5, b6, b7, b8, b9, b10, b11, b12, b13, b14⟩ := HX5.out.c15
 have hBl := HX5.out.lt
 by_cases h0 : f = 0
 ·subst h0
  have HFD2 := hid (HFD.out (by trivial) W5 HB5.out)
  go_wp2_with fail
  refine Calls.mono HFD2.out ?_
  rintro e W6 ⟨v6, rfl, hown, hbn⟩
  obtain ⟨a6, c6, rfl, -, -, hby, -⟩ := hown.form
  have HEQ := hid (eqB_any (HY5.out.below hbn) hby HTN.out rfl c5 c6)
  have HB6 : Hid (Below w.heap.size w W6) := hid (HB5.out.trans (hbn.mono HB5.out.size))
  clear hbn hown hby
  clear hBl b0 b1 b2 b3 b4 b5 b6 b7 b8 b9 b10 b11 b12 b13 b14
  go_wp2_with fail
  refine Calls.mono HEQ.out ?_
  rintro e w7 ⟨rfl, hw7⟩
  subst hw7
  go_wp2_with fail
  go_ret
  exact ⟨by simp, HB6.out⟩
 ·have hz : (f == 0) = false := by simpa using h0
  have hz2 : (f != 0) = true := by simpa using h0
  obtain rfl : tn = 0 := by rw [← HTN.out, HTE.out h0]; rfl
  clear h0
  go_wp2_with fail
  go_ret
  exact ⟨rfl, HB5.out⟩
end Go.Proofs.YtkemlckmfgacdaaGreatDoor
namespace Go.Proofs.YtkemlckmfgacdaaGreatDoor
set_option maxRecDepth 20000
set_option maxHeartbeats 64000000
open Go.ChangeShapes Go.WideShapes Go.ChangeAt Go.RowKit Go.Joins Go.Deep
set_option linter.unusedVariables false
section
variable {H : Type} {enc : TypeId × Value → H} {P : Program} {w : World} {base : Nat} {spare : Nat → Bool} {held : Bool}

theorem field {t : TypeId} {fs : Array Field} {fuel : Nat} {cs : List Value} {x : DataW H × List MemPlace} (ht : P.underlying t = some (.struct fs)) (h : DataW.trod enc P w base spare held fuel t cs = some x)
  (i T off k : Nat) (hT : (fs[i]?).map (fun f => (f.type, f.offset)) = some (T, off)) (hk : P.cellsOf T = k) :
  ∃ (parts : List (DataW H)) (m : Nat) (y : DataW H × List MemPlace), x.1 = .agg parts ∧ parts[i]? = some y.1 ∧ DataW.trod enc P w base spare held m T ((cs.drop off).take k) = some y := by
 obtain ⟨xs, n, _, hx, _, hl, hf⟩ := DataW.trod_struct ht h
 cases hfi : fs[i]? with
 | none => simp [hfi] at hT
 | some f =>
  simp only [hfi, Option.map_some, Option.some.injEq, Prod.mk.injEq] at hT
  have h1 := hf i f hfi
  rw [hT.1, hT.2, hk] at h1
  have hi : i < xs.length := by rw [hl]; exact (Array.getElem?_eq_some_iff.1 hfi).1
  have h2 : xs[i]? = some xs[i] := List.getElem?_eq_getElem hi
  exact ⟨xs.map (·.1), n, xs[i], by rw [hx], by simp [hi], h1.trans h2⟩

theorem cell_int {t : TypeId} {k : IntKind} {fuel : Nat} {v : Value} {x : DataW H × List MemPlace} (ht : P.underlying t = some (.int k)) (h : DataW.trod enc P w base spare held fuel t [v] = some x) : ∃ n, v = .int k n ∧ (Lit.int k n).wf = true := by
 obtain ⟨n, e, _, hw⟩ := DataW.trod_int ht h
 simp only [List.cons.injEq, and_true] at e
 exact ⟨n, e, hw⟩

def Light (P : Program) (t : TypeId) (d : DataW H) : Prop := ∀ n ∈ d.weights P t, n ≤ reachBytes
end
end Go.Proofs.YtkemlckmfgacdaaGreatDoor
