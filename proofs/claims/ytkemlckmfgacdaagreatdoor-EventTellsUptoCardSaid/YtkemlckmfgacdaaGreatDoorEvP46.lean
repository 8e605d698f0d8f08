/- What readers of an event tell, its parts named; the document's reader at every text. -/
import Derived.Test.YtkemlckmfgacdaaGreatDoorEvP42
import Derived.Test.YtkemlckmfgacdaaGreatDoorEvP43
import Derived.Test.YtkemlckmfgacdaaGreatDoorEvP44
import Derived.Test.YtkemlckmfgacdaaGreatDoorEvP45
import Derived.Test.YtkemlckmfgacdaaGreatDoorEvP0
import Derived.Deep.Slices
import Derived.Lib.SmallJoins
import Derived.SizedLaws
import Derived.Test.YtkemlckmfgacdaaGreatDoorEvP6
import Derived.Test.YtkemlckmfgacdaaGreatDoorRows
import Derived.Deep.MidRow
import Derived.ChangeMaps5
namespace Go.Proofs.YtkemlckmfgacdaaGreatDoor
open Go.ChangeShapes Go.WideShapes Go.ChangeAt Go.RowKit
set_option linter.unusedVariables false
set_option linter.unusedSimpArgs false
open Tp Jm Ev
def zE : Evt := ⟨0, zJb, 0, 0, false⟩
theorem zE_v (w : World) : EvV w zE (evVal 0 ⟨#[]⟩ 0 0 0 0 0 ⟨#[]⟩ ⟨#[]⟩ 0 none 0 0 none 0 0 0 0 false) := ⟨_, _, _, _, _, _, _, _, _, rfl, JobP.zero w⟩
theorem EvV.form {w : World} {x : Evt} {v : Value} (h : EvV w x v) : ∃ (yk : Int) (yu : ByteArray) (yp ya yb yc y0 : Int) (y1 y2 : ByteArray) (y3 : Int) (yd : Option Addr) (yl ye9 : Nat) (ye : Option Addr) (yn ym : Nat) (yN yI : Int) (yO : Bool), v = .agg #[.int .i64 yk, .string yu, .int .i64 yp, .int .i64 ya, .int .i64 yb, .int .i64 yc, .int .i64 y0, .string y1, .string y2, .int .i64 y3, .slice yd yl ye9, .slice ye yn ym, .int .i64 yN, .int .i64 yI, .bool yO] := by
  obtain ⟨x0, x1, x2, x3, xd, xl, xc, aa, ac, e, _⟩ := h
  exact ⟨_, _, _, _, _, _, _, _, _, _, _, _, _, _, _, _, _, _, _, e⟩
theorem DecQ.form {w w' : World} {O : Option Evt} {cd : Int} {e : Ending} (h : DecQ w O cd e w') : Below w.heap.size w w' ∧ ∃ (yk : Int) (yu : ByteArray) (yp ya yb yc y0 : Int) (y1 y2 : ByteArray) (y3 : Int) (yd : Option Addr) (yl ye9 : Nat) (ye : Option Addr) (yn ym : Nat) (yN yI : Int) (yO : Bool) (ec : Int), e = .returned (.tuple #[.agg #[.int .i64 yk, .string yu, .int .i64 yp, .int .i64 ya, .int .i64 yb, .int .i64 yc, .int .i64 y0, .string y1, .string y2, .int .i64 y3, .slice yd yl ye9, .slice ye yn ym, .int .i64 yN, .int .i64 yI, .bool yO], .int .i64 ec]) ∧ (ec = if O.isSome then 0 else cd) ∧ EvV w' (O.getD zE) (.agg #[.int .i64 yk, .string yu, .int .i64 yp, .int .i64 ya, .int .i64 yb, .int .i64 yc, .int .i64 y0, .string y1, .string y2, .int .i64 y3, .slice yd yl ye9, .slice ye yn ym, .int .i64 yN, .int .i64 yI, .bool yO]) := by
  obtain ⟨hb, h⟩ := h
  cases O with
  | none => exact ⟨hb, _, _, _, _, _, _, _, _, _, _, _, _, _, _, _, _, _, _, _, cd, h, rfl, zE_v w'⟩
  | some j =>
    obtain ⟨v, h1, h2⟩ := h
    obtain ⟨yk, yu, yp, ya, yb, yc, y0, y1, y2, y3, yd, yl, ye9, ye, yn, ym, yN, yI, yO, rfl⟩ := h2.form
    exact ⟨hb, _, _, _, _, _, _, _, _, _, _, _, _, _, _, _, _, _, _, _, 0, h1, rfl, h2⟩
theorem eventOf_any (s : Bs) (a : Option Addr) (n cap : Nat) (w : World) (hn : s.length = n) (hl : n ≤ 2001 ∨ 3001 < n) (hcap : n ≤ cap) (hmax : cap ≤ 9223372036854775807) (hs : BytA w a s) : Calls Tryz.prog 19 #[.slice a n cap] w (DecQ w (if 3001 < s.length then none else rd s) (if 3001 < s.length then 2 else 3)) := by
  by_cases hl3 : 3001 < s.length
  · rw [if_pos hl3, if_pos hl3]; exact eventOf_long s a n cap w hn (by omega)
  rw [if_neg hl3, if_neg hl3]
  cases s with
  | nil =>
    obtain rfl : n = 0 := hn.symm
    exact eventOf_none a cap w
  | cons k r =>
    obtain rfl : n = r.length + 1 := hn.symm
    have hl2 : r.length ≤ 2000 := by simp at hl3; omega
    by_cases h1 : k.toNat = 1
    · cases hO1 : rdA r with
      | none => exact eventOf_1n k r a _ cap w rfl hl2 hcap hmax hs h1 hO1
      | some j => exact eventOf_1y k r a _ cap w rfl hl2 hcap hmax hs h1 j hO1
    by_cases h2 : k.toNat = 2
    · by_cases hr : r.length = 4
      · exact eventOf_2y k r a _ cap w rfl hl2 hcap hmax hs h2 hr
      · exact eventOf_2n k r a _ cap w rfl hl2 hcap hmax hs h2 hr
    by_cases h3 : k.toNat = 3
    · by_cases hr : r.length = 0
      · exact eventOf_3y k r a _ cap w rfl hl2 hcap hmax hs h3 hr
      · exact eventOf_3n k r a _ cap w rfl hl2 hcap hmax hs h3 hr
    by_cases h4 : k.toNat = 4
    · by_cases hr : r.length = 3
      · obtain ⟨x, y, z, rfl⟩ := three hr
        by_cases hz : z.toNat ≤ 1
        · exact eventOf_4y k _ a _ cap w rfl hl2 hcap hmax hs h4 hr (fun x' y' z' e => by injection e with _ e; injection e with _ e; injection e with e _; rw [← e]; exact hz)
        · exact eventOf_4b k _ a _ cap w rfl hl2 hcap hmax hs h4 hr (fun x' y' z' e => by injection e with _ e; injection e with _ e; injection e with e _; rw [← e]; omega)
      · exact eventOf_4n k r a _ cap w rfl hl2 hcap hmax hs h4 hr
    by_cases h5 : k.toNat = 5
    · by_cases hr : r.length = 2
      · exact eventOf_5y k r a _ cap w rfl hl2 hcap hmax hs h5 hr
      · exact eventOf_5n k r a _ cap w rfl hl2 hcap hmax hs h5 hr
    exact eventOf_0 k r a _ cap w rfl hl2 hcap hmax hs ⟨h1, h2, h3, h4, h5⟩
end Go.Proofs.YtkemlckmfgacdaaGreatDoor
namespace Go.Proofs.YtkemlckmfgacdaaGreatDoor
open Go.ChangeShapes Go.WideShapes Go.ChangeAt Go.RowKit
set_option linter.unusedVariables false
set_option linter.unusedSimpArgs false
open Tp Jm Ev
set_option maxRecDepth 20000 in
set_option maxHeartbeats 16000000 in
theorem evLaw_any (x : Evt) (v : Value) (s : Bs) (a : Option Addr) (n cap : Nat) (w : World) (hs : x.job.ask.size ≤ 1000000000) (he : Env w) (hv : EvV w x v) (hn : s.length = n) (hcap : n ≤ cap) (hmax : cap ≤ 9223372036854775807) (hb : BytA w a s) : Calls Tryz.prog 4 #[v, .slice a n cap] w fun e w' => e = .returned (.bool true) ∧ Below w.heap.size w w' := by
  have HV : Hid (∀ W, Below w.heap.size w W → EvV W x v) := Lib.hid (fun W h => hv.below h)
  obtain ⟨xk, xu, xp, xa, xb, xc, x0, x1, x2, x3, xd, xl, xe9, xe, xn, xm, xN, xI, xO, rfl⟩ := hv.form
  obtain ⟨B, hB⟩ : ∃ B, B = w.heap.size := ⟨_, rfl⟩
  obtain ⟨W0, hW0⟩ : ∃ W, W = w.alloc (.cells #[.int .i64 xk, .string xu, .int .i64 xp, .int .i64 xa, .int .i64 xb, .int .i64 xc, .int .i64 x0, .string x1, .string x2, .int .i64 x3, .slice xd xl xe9, .slice xe xn xm, .int .i64 xN, .int .i64 xI, .bool xO] 40) := ⟨_, rfl⟩
  have hb0 : Below w.heap.size w W0 := by rw [hW0]; exact (Below.refl _ _).alloc (Nat.le_refl _) _
  have HX0 : Hid (BoxV B [.int .i64 xk, .string xu, .int .i64 xp, .int .i64 xa, .int .i64 xb, .int .i64 xc, .int .i64 x0, .string x1, .string x2, .int .i64 x3, .slice xd xl xe9, .slice xe xn xm, .int .i64 xN, .int .i64 xI, .bool xO] W0) := Lib.hid (by rw [hW0]; exact BoxV.top _ hB)
  have HB0 := Lib.hid hb0
  have HEV : Hid (∀ W, Below w.heap.size w W → Env W) := Lib.hid (fun W h => he.below h (Nat.le_refl _))
  obtain ⟨f, hf⟩ : ∃ f, x.fault = f := ⟨_, rfl⟩
  obtain ⟨T, hT⟩ : ∃ T, x.enc = T := ⟨_, rfl⟩
  have HEN := Lib.hid (fun W (h : Below w.heap.size w W) => encode_any x _ W hs (HEV.out W h) (HV.out W h))
  have HRF := Lib.hid (fun W (h : Below w.heap.size w W) => evFault_any x _ W hs (HV.out W h))
  have HCK := Lib.hid (fun W (h : Below w.heap.size w W) => evCheck_any x _ W hs (HV.out W h))
  have HBT : Hid (f = 0 → ∀ W, Below w.heap.size w W → Calls Tryz.prog 18 #[.agg #[.int .i64 xk, .string xu, .int .i64 xp, .int .i64 xa, .int .i64 xb, .int .i64 xc, .int .i64 x0, .string x1, .string x2, .int .i64 x3, .slice xd xl xe9, .slice xe xn xm, .int .i64 xN, .int .i64 xI, .bool xO]] W (BytQ W T)) := Lib.hid (fun h0 W h => by
    have e : x.enc = x.bytes := by unfold Evt.enc; rw [if_pos (hf.trans h0)]
    rw [← hT, e]
    exact bytes_any x _ W (hf.trans h0) (HV.out W h))
  have HTE : Hid (f ≠ 0 → T = []) := Lib.hid (fun h => by rw [← hT]; unfold Evt.enc; rw [if_neg (by rw [hf]; exact h)])
  have HDE := Lib.hid (fun W (h : Below w.heap.size w W) => decode_any s a n cap W hn hcap hmax (HEV.out W h) (hb.below h))
  have HOF := Lib.hid (fun (hl : n ≤ 2001 ∨ 3001 < n) W (h : Below w.heap.size w W) => eventOf_any s a n cap W hn hl hcap hmax (hb.below h))
  obtain ⟨O, hO⟩ : ∃ O, (if 3001 < s.length then none else rd s) = O := ⟨_, rfl⟩
  obtain ⟨cd, hcd⟩ : ∃ c : Int, (if 3001 < s.length then 2 else 3) = c := ⟨_, rfl⟩
  rw [hO, hcd] at HDE HOF
  rw [hf, hT] at HEN
  rw [hf] at HRF HCK
  clear hb0 hf hT hO hcd he hv hs hb hn hcap hmax
  go_enter Tryz.func4, Tryz.ntmps4
  go_upto_region 1 with fail
  rw [← hW0, ← hB]
  clear hW0 hB
  obtain ⟨b0, b1, b2, b3, b4, b5, b6, b7, b8, b9, b10, b11, b12, b13, b14⟩ := HX0.out.c15
  have hBl := HX0.out.lt
  go_wp2_with fail
  refine Calls.mono (HEN.out W0 HB0.out) ?_
  rintro e W1 ⟨v5, rfl, hown, hbn⟩
  obtain ⟨a5, c5, rfl, -, -, hby, -⟩ := hown.form
  have HB1 : Hid (Below w.heap.size w W1) := Lib.hid (HB0.out.trans (hbn.mono HB0.out.size))
  have HX1 := Lib.hid (HX0.out.step hbn)
  have HY5 := Lib.hid hby
  obtain ⟨tn, htn⟩ : ∃ t, T.length = t := ⟨_, rfl⟩
  rw [htn]
  have HTN := Lib.hid htn
  clear hbn hown hby htn
  clear hBl b0 b1 b2 b3 b4 b5 b6 b7 b8 b9 b10 b11 b12 b13 b14
  obtain ⟨b0, b1, b2, b3, b4, b5, b6, b7, b8, b9, b10, b11, b12, b13, b14⟩ := HX1.out.c15
  have hBl := HX1.out.lt
  go_wp2_with fail
  refine Calls.mono (HDE.out W1 HB1.out) ?_
  intro e W2 hq
  obtain ⟨hbn, yk, yu, yp, ya, yb, yc, y0, y1, y2, y3, yd, yl, ye9, ye, yn, ym, yN, yI, yO, ec, rfl, hec, hjv⟩ := hq.form
  have HB2 : Hid (Below w.heap.size w W2) := Lib.hid (HB1.out.trans (hbn.mono HB1.out.size))
  have HX2 := Lib.hid (HX1.out.step hbn)
  have HYY2 := Lib.hid (HY5.out.below hbn)
  have HJY := Lib.hid hjv
  have HEC := Lib.hid hec
  clear hbn hjv hec hq
  clear hBl b0 b1 b2 b3 b4 b5 b6 b7 b8 b9 b10 b11 b12 b13 b14
  go_upto_region 3 with fail
  obtain ⟨W3, hW3⟩ : ∃ W, W = W2.alloc (.cells #[.int .i64 yk, .string yu, .int .i64 yp, .int .i64 ya, .int .i64 yb, .int .i64 yc, .int .i64 y0, .string y1, .string y2, .int .i64 y3, .slice yd yl ye9, .slice ye yn ym, .int .i64 yN, .int .i64 yI, .bool yO] 40) := ⟨_, rfl⟩
  obtain ⟨d, hd⟩ : ∃ d, d = W2.heap.size := ⟨_, rfl⟩
  rw [← hW3, ← hd]
  have hbn : Below W2.heap.size W2 W3 := by rw [hW3]; exact (Below.refl _ _).alloc (Nat.le_refl _) _
  have HY3 : Hid (BoxV d [.int .i64 yk, .string yu, .int .i64 yp, .int .i64 ya, .int .i64 yb, .int .i64 yc, .int .i64 y0, .string y1, .string y2, .int .i64 y3, .slice yd yl ye9, .slice ye yn ym, .int .i64 yN, .int .i64 yI, .bool yO] W3) := Lib.hid (by rw [hW3]; exact BoxV.top _ hd)
  have HB3 : Hid (Below w.heap.size w W3) := Lib.hid (HB2.out.trans (hbn.mono HB2.out.size))
  have HX3 := Lib.hid (HX2.out.step hbn)
  have HYY3 := Lib.hid (HYY2.out.below hbn)
  have H23 := Lib.hid hbn
  clear hbn hW3 hd
  obtain ⟨b0, b1, b2, b3, b4, b5, b6, b7, b8, b9, b10, b11, b12, b13, b14⟩ := HX3.out.c15
  have hBl := HX3.out.lt
  go_wp2_with fail
  refine Calls.mono (HRF.out W3 HB3.out) ?_
  rintro e W4 ⟨rfl, hbn⟩
  have HB4 : Hid (Below w.heap.size w W4) := Lib.hid (HB3.out.trans (hbn.mono HB3.out.size))
  have HX4 := Lib.hid (HX3.out.step hbn)
  have HYY4 := Lib.hid (HYY3.out.below hbn)
  have HY4 := Lib.hid (HY3.out.step hbn)
  have H24 := Lib.hid (H23.out.trans (hbn.mono H23.out.size))
  clear hbn
  clear hBl b0 b1 b2 b3 b4 b5 b6 b7 b8 b9 b10 b11 b12 b13 b14
  obtain ⟨b0, b1, b2, b3, b4, b5, b6, b7, b8, b9, b10, b11, b12, b13, b14⟩ := HX4.out.c15
  have hBl := HX4.out.lt
  go_upto_region 4 with fail
  go_cut [52] (fun v W => v = .bool false ∧ Hid (Below W4.heap.size W4 W))
  case first =>
    by_cases h0 : f = 0
    · subst h0
      have HBT2 := Lib.hid (HBT.out (by trivial))
      go_wp2_with fail
      refine Calls.mono (HCK.out W4 HB4.out) ?_
      rintro e W5 ⟨rfl, hbn⟩
      have HB5 : Hid (Below w.heap.size w W5) := Lib.hid (HB4.out.trans (hbn.mono HB4.out.size))
      have HX5 := Lib.hid (HX4.out.step hbn)
      have HYY5 := Lib.hid (HYY4.out.below hbn)
      have H45 := Lib.hid hbn
      clear hbn
      clear hBl b0 b1 b2 b3 b4 b5 b6 b7 b8 b9 b10 b11 b12 b13 b14
      obtain ⟨b0, b1, b2, b3, b4, b5, b6, b7, b8, b9, b10, b11, b12, b13, b14⟩ := HX5.out.c15
      have hBl := HX5.out.lt
      go_wp2_with fail
      refine Calls.mono (HBT2.out W5 HB5.out) ?_
      rintro e W6 ⟨v6, rfl, hown, hbn⟩
      obtain ⟨a6, c6, rfl, -, -, hby, -⟩ := hown.form
      have HEQ := Lib.hid (eqB_any (HYY5.out.below hbn) hby HTN.out rfl c5 c6)
      have H46 := Lib.hid (H45.out.trans (hbn.mono H45.out.size))
      clear hbn hown hby
      clear hBl b0 b1 b2 b3 b4 b5 b6 b7 b8 b9 b10 b11 b12 b13 b14
      go_wp2_with fail
      refine Calls.mono HEQ.out ?_
      rintro e w7 ⟨rfl, hw7⟩
      subst hw7
      go_wp2_with fail
      go_meet
      exact ⟨by simp, H46⟩
    · have hz : (f == 0) = false := by simpa using h0
      have hz2 : (f != 0) = true := by simpa using h0
      obtain rfl : tn = 0 := by rw [← HTN.out, HTE.out h0]; rfl
      clear h0
      go_wp2_with fail
      refine Calls.mono (HCK.out W4 HB4.out) ?_
      rintro e W5 ⟨rfl, hbn⟩
      have H45 := Lib.hid hbn
      clear hbn
      go_wp2_with fail
      go_meet
      exact ⟨rfl, H45⟩
  case rest =>
    obtain ⟨rfl, HBc⟩ := hcut
    have hbn := HBc.out
    have HB5 : Hid (Below w.heap.size w wc) := Lib.hid (HB4.out.trans (hbn.mono HB4.out.size))
    have HY5 := Lib.hid (HY4.out.step hbn)
    have H25 := Lib.hid (H24.out.trans (hbn.mono H24.out.size))
    clear hbn
    clear hBl b0 b1 b2 b3 b4 b5 b6 b7 b8 b9 b10 b11 b12 b13 b14
    by_cases hmid : 400 < n ∧ n ≤ 3001
    · have h1 : (400 : Int) < (n : Int) := by omega
      have h2 : (n : Int) ≤ 3001 := by omega
      clear hmid
      go_wp2_with fail
      go_ret
      exact ⟨rfl, HB5.out⟩
    · have HCASE : Hid ((¬ (400 : Int) < (n : Int)) ∨ ((400 : Int) < (n : Int) ∧ ¬ (n : Int) ≤ 3001)) := Lib.hid (by omega)
      have HOF2 := Lib.hid (HOF.out (by omega))
      clear hmid
      go_upto_region 6 with fail
      go_cut [60] (fun v W => v = .bool false ∧ Hid (wc = W))
      case first =>
        rcases HCASE.out with h1 | ⟨h1, h2⟩
        · go_wp2_with fail
          go_meet
          exact ⟨rfl, Lib.hid rfl⟩
        · go_wp2_with fail
          go_meet
          exact ⟨rfl, Lib.hid rfl⟩
      case rest =>
        obtain ⟨rfl, HWC⟩ := hcut
        obtain rfl := HWC.out
        go_wp2_with fail
        refine Calls.mono (HOF2.out _ HB5.out) ?_
        intro e W6 hq
        obtain ⟨hbn, zk, zu, zp, za, zb, zc, z0, z1, z2, z3, zd, zl, ze9, ze, zn, zm, zN, zI, zO, ez, rfl, hez, hjz⟩ := hq.form
        have HB6 := Lib.hid (HB5.out.trans (hbn.mono HB5.out.size))
        have HJZ := Lib.hid hjz
        obtain rfl : ez = ec := by rw [hez, HEC.out]
        have H26 := Lib.hid (H25.out.trans (hbn.mono H25.out.size))
        have HY6 := Lib.hid (HY5.out.step hbn)
        clear hbn hq hez hjz
        go_upto_region 9 with fail
        obtain ⟨W7, hW7⟩ : ∃ W, W = W6.alloc (.cells #[.int .i64 zk, .string zu, .int .i64 zp, .int .i64 za, .int .i64 zb, .int .i64 zc, .int .i64 z0, .string z1, .string z2, .int .i64 z3, .slice zd zl ze9, .slice ze zn zm, .int .i64 zN, .int .i64 zI, .bool zO] 40) := ⟨_, rfl⟩
        obtain ⟨g, hg⟩ : ∃ d, d = W6.heap.size := ⟨_, rfl⟩
        rw [← hW7, ← hg]
        have hbn : Below W6.heap.size W6 W7 := by rw [hW7]; exact (Below.refl _ _).alloc (Nat.le_refl _) _
        have HZ7 : Hid (BoxV g [.int .i64 zk, .string zu, .int .i64 zp, .int .i64 za, .int .i64 zb, .int .i64 zc, .int .i64 z0, .string z1, .string z2, .int .i64 z3, .slice zd zl ze9, .slice ze zn zm, .int .i64 zN, .int .i64 zI, .bool zO] W7) := Lib.hid (by rw [hW7]; exact BoxV.top _ hg)
        have HY7 := Lib.hid (HY6.out.step hbn)
        have HB7 := Lib.hid (HB6.out.trans (hbn.mono HB6.out.size))
        have H27 := Lib.hid (H26.out.trans (hbn.mono H26.out.size))
        have HSM := Lib.hid (sameEv_same (O.getD zE) _ _ W7 (HJY.out.below H27.out) (HJZ.out.below hbn))
        obtain ⟨a0, a1, a2, a3, a4, a5, a6, a7, a8, a9, a10, a11, a12, a13, a14⟩ := HY7.out.c15
        have hdl := HY7.out.lt
        obtain ⟨e0, e1, e2, e3, e4, e5, e6, e7, e8, e9, e10, e11, e12, e13, e14⟩ := HZ7.out.c15
        have hgl := HZ7.out.lt
        clear hbn hW7 hg
        go_wp2_with fail
        refine Calls.mono HSM.out ?_
        rintro e W8 ⟨rfl, hbn⟩
        have HB8 := Lib.hid (HB7.out.trans (hbn.mono HB7.out.size))
        clear hbn
        go_wp2_with fail
        go_ret
        exact ⟨rfl, HB8.out⟩
end Go.Proofs.YtkemlckmfgacdaaGreatDoor
namespace Go.Proofs.YtkemlckmfgacdaaGreatDoor
open Go.ChangeShapes Go.WideShapes Go.ChangeAt Go.RowKit Go.Joins Go.Deep
set_option linter.unusedVariables false
section
variable {H : Type} {enc : TypeId × Value → H} {P : Program} {w : World} {base : Nat} {spare : Nat → Bool} {held : Bool}

theorem field {t : TypeId} {fs : Array Field} {fuel : Nat} {cs : List Value} {x : DataW H × List MemPlace} (ht : P.underlying t = some (.struct fs)) (h : DataW.trod enc P w base spare held fuel t cs = some x)
    (i T off k : Nat) (hT : (fs[i]?).map (fun f => (f.type, f.offset)) = some (T, off)) (hk : P.cellsOf T = k) :
    ∃ (parts : List (DataW H)) (m : Nat) (y : DataW H × List MemPlace), x.1 = .agg parts ∧ parts[i]? = some y.1 ∧ DataW.trod enc P w base spare held m T ((cs.drop off).take k) = some y := by
  obtain ⟨xs, n, _, hx, _, hl, hf⟩ := DataW.trod_struct ht h
  cases hfi : fs[i]? with
  | none => simp [hfi] at hT
  | some f =>
    simp only [hfi, Option.map_some, Option.some.injEq, Prod.mk.injEq] at hT
    have h1 := hf i f hfi
    rw [hT.1, hT.2, hk] at h1
    have hi : i < xs.length := by rw [hl]; exact (Array.getElem?_eq_some_iff.1 hfi).1
    have h2 : xs[i]? = some xs[i] := List.getElem?_eq_getElem hi
    exact ⟨xs.map (·.1), n, xs[i], by rw [hx], by simp [hi], h1.trans h2⟩

theorem cell_int {t : TypeId} {k : IntKind} {fuel : Nat} {v : Value} {x : DataW H × List MemPlace} (ht : P.underlying t = some (.int k)) (h : DataW.trod enc P w base spare held fuel t [v] = some x) : ∃ n, v = .int k n ∧ (Lit.int k n).wf = true := by
  obtain ⟨n, e, _, hw⟩ := DataW.trod_int ht h
  simp only [List.cons.injEq, and_true] at e
  exact ⟨n, e, hw⟩

def Light (P : Program) (t : TypeId) (d : DataW H) : Prop := ∀ n ∈ d.weights P t, n ≤ reachBytes
end
end Go.Proofs.YtkemlckmfgacdaaGreatDoor
namespace Go.Proofs.YtkemlckmfgacdaaGreatDoor
open Go.ChangeShapes Go.WideShapes Go.ChangeAt Go.RowKit Go.Joins Go.Deep
set_option linter.unusedVariables false
open Tp
instance : Inhabited Ask := ⟨.mk 0 [] [] 0 []⟩
section
variable {H : Type} {enc : TypeId × Value → H} {P : Program} {W : World} {base : Nat}
theorem bulk_all {l : List (DataW H)} {d : DataW H} {i : Nat} (h : l[i]? = some d) : Rows.uptoBulk d ≤ Rows.uptoBulkAll l := by
  induction l generalizing i with
  | nil => simp at h
  | cons x l ih =>
    rw [Rows.uptoBulkAll]
    cases i with
    | zero => simp at h; subst h; omega
    | succ i => have := ih (i := i) (by simpa using h); omega
theorem asksV_of : ∀ (l : List Ask) (b off : Nat), (∀ (i : Nat) (x : Ask), l[i]? = some x → ∃ v, Cells5 W b (off + i * 5) v ∧ AskV W x v) → AsksV W l b off
  | [], _, _, _ => by rw [AsksV]; trivial
  | x :: l, b, off, h => by
    rw [AsksV]
    refine ⟨by simpa using h 0 x rfl, asksV_of l b (off + 5) (fun i y hy => ?_)⟩
    have := h (i + 1) y (by simpa using hy)
    rwa [show off + (i + 1) * 5 = off + 5 + i * 5 from by omega] at this
theorem sizes_bulk {F : Nat → Ask} {D : Nat → DataW H} : ∀ l : List Nat, (∀ k, k ∈ l → (F k).size ≤ Rows.uptoBulk (D k)) → Ask.sizes (l.map F) ≤ Rows.uptoBulkAll (l.map D)
  | [], _ => by simp [Ask.sizes]
  | k :: l, h => by
    have h1 := h k (by simp)
    have h2 := sizes_bulk l (fun q hq => h q (by simp [hq]))
    simp only [List.map_cons, Ask.sizes, Rows.uptoBulkAll]
    omega
theorem open_ask {E t S K I : TypeId} {fs : Array Field} (hE : P.underlying E = some (.struct fs)) (hS : P.underlying S = some .string) (hK : P.underlying K = some (.int .i64)) (hI : P.underlying I = some (.int .i64)) (hu : P.underlying t = some (.slice E)) (hc : P.cellsOf E = 5) (hcS : P.cellsOf S = 1) (hcK : P.cellsOf K = 1) (hcI : P.cellsOf I = 1) (hct : P.cellsOf t = 1)
    (f0 : (fs[0]?).map (fun f => (f.type, f.offset)) = some (K, 0)) (f1 : (fs[1]?).map (fun f => (f.type, f.offset)) = some (S, 1)) (f2 : (fs[2]?).map (fun f => (f.type, f.offset)) = some (S, 2)) (f3 : (fs[3]?).map (fun f => (f.type, f.offset)) = some (I, 3)) (f4 : (fs[4]?).map (fun f => (f.type, f.offset)) = some (t, 4)) :
    ∀ (N fuel : Nat) (c0 c1 c2 c3 c4 : Value) (x : DataW H × List MemPlace), Rows.uptoBulk x.1 ≤ N → DataW.trod enc P W 0 (fun _ => true) true fuel E [c0, c1, c2, c3, c4] = some x → ∃ a : Ask, AskV W a (.agg #[c0, c1, c2, c3, c4]) ∧ a.size ≤ Rows.uptoBulk x.1 := by
  intro N
  induction N with
  | zero =>
    intro fuel c0 c1 c2 c3 c4 x hb h
    obtain ⟨ps0, _, y0, e0, k0, g0⟩ := field hE h 0 K 0 1 f0 hcK
    rw [e0, Rows.uptoBulk] at hb
    omega
  | succ N ih =>
    intro fuel c0 c1 c2 c3 c4 x hb h
    obtain ⟨ps0, _, y0, e0, k0, g0⟩ := field hE h 0 K 0 1 f0 hcK
    obtain ⟨ps1, _, y1, e1, k1, g1⟩ := field hE h 1 S 1 1 f1 hcS
    obtain ⟨ps2, _, y2, e2, k2, g2⟩ := field hE h 2 S 2 1 f2 hcS
    obtain ⟨ps3, _, y3, e3, k3, g3⟩ := field hE h 3 I 3 1 f3 hcI
    obtain ⟨ps4, _, y4, e4, k4, g4⟩ := field hE h 4 t 4 1 f4 hct
    obtain ⟨n0, hn0, _, _⟩ := DataW.trod_int hK g0
    obtain ⟨s1, hs1, _, hz1⟩ := DataW.trod_string hS g1
    obtain ⟨s2, hs2, _, hz2⟩ := DataW.trod_string hS g2
    obtain ⟨n3, hn3, _, _⟩ := DataW.trod_int hI g3
    have z0 : c0 = .int .i64 n0 := by simpa using hn0
    have z1 : c1 = .string s1 := by simpa using hs1
    have z2 : c2 = .string s2 := by simpa using hs2
    have z3 : c3 = .int .i64 n3 := by simpa using hn3
    subst z0 z1 z2 z3
    have hmx : maxLen = 9223372036854775807 := rfl
    have hb4 := bulk_all k4
    rw [e4, Rows.uptoBulk] at hb ⊢
    have hl1 : (lst s1).length ≤ 9223372036854775807 := by rw [lst_len]; omega
    have hl2 : (lst s2).length ≤ 9223372036854775807 := by rw [lst_len]; omega
    rcases open_slice hu g4 with ⟨e, _⟩ | ⟨ad', len, cap, m, n, D, Pl, e, _, hlc, hm, hmm, hx, hi⟩
    · have z4 : c4 = .slice none 0 0 := by simpa using e
      subst z4
      refine ⟨.mk n0 (lst s1) (lst s2) n3 [], ?_, by simp only [Ask.size, Ask.sizes]; omega⟩
      rw [AskV]
      exact ⟨none, 0, 0, by rw [bts_lst, bts_lst], rfl, Nat.le_refl _, by omega, hl1, hl2, fun h => absurd h (by omega)⟩
    · have z4 : c4 = .slice (some ad') len cap := by simpa using e
      subst z4
      simp only [if_true] at hmm
      subst hmm
      have hy4 : y4.1 = _ := congrArg Prod.fst hx
      simp only at hy4
      rw [hy4, Rows.uptoBulk] at hb4
      have hDk : ∀ k, k < len → Rows.uptoBulk (D k) ≤ N := fun k hk => by
        have := bulk_all (l := (List.range len).map D) (i := k) (d := D k) (by rw [List.getElem?_map, List.getElem?_range hk]; rfl)
        omega
      have hch : ∀ k, k < len → ∃ q : Ask, (∃ v : Value, (∃ b0 b1 b2 b3 b4, v = .agg #[b0, b1, b2, b3, b4] ∧ ∀ j u, [b0, b1, b2, b3, b4][j]? = some u → W.cell? ((ad'.add (k * 5)).add j) = some u) ∧ AskV W q v) ∧ q.size ≤ Rows.uptoBulk (D k) := by
        intro k hk
        obtain ⟨cs', hc', ht⟩ := hi k (by omega)
        obtain ⟨_, hl, hat⟩ := World.cells?_some hc'
        rw [hc] at hl hat
        match cs', hl with
        | [b0, b1, b2, b3, b4], _ =>
          obtain ⟨q, hq1, hq2⟩ := ih _ b0 b1 b2 b3 b4 (D k, Pl k) (hDk k hk) ht
          refine ⟨q, ⟨_, ⟨b0, b1, b2, b3, b4, rfl, fun j u hv => ?_⟩, hq1⟩, hq2⟩
          have hj : j < 5 := (List.getElem?_eq_some_iff.1 hv).1
          have := hat j hj
          rw [hv] at this
          exact this
      obtain ⟨F, hF⟩ := choose_lt hch
      refine ⟨.mk n0 (lst s1) (lst s2) n3 ((List.range len).map F), ?_, ?_⟩
      · rw [AskV]
        refine ⟨some ad', len, m, by rw [bts_lst, bts_lst], by simp, hlc, by omega, hl1, hl2, fun hpos => ?_⟩
        have hspot : ad'.spot = none := by
          obtain ⟨⟨v, ⟨b0, b1, b2, b3, b4, _, hcell⟩, _⟩, _⟩ := hF 0 hpos
          have := World.cell?_spot (hcell 0 _ rfl)
          simpa [Addr.add] using this
        obtain ⟨bl, off, spot⟩ := ad'
        simp only at hspot
        subst hspot
        refine ⟨bl, off, rfl, ?_, asksV_of _ _ _ (fun i a hg => ?_)⟩
        · obtain ⟨⟨v, ⟨b0, b1, b2, b3, b4, _, hcell⟩, _⟩, _⟩ := hF 0 hpos
          have := hcell 0 _ rfl
          rw [Addr.add_mid, Addr.add_mid] at this
          exact block_lt_of_cell this
        · have hil : i < len := by
            have := (List.getElem?_eq_some_iff.1 hg).1
            simpa using this
          have e : F i = a := by
            rw [List.getElem?_map, List.getElem?_range hil] at hg
            simpa using hg
          obtain ⟨⟨v, ⟨b0, b1, b2, b3, b4, hv, hcell⟩, hav⟩, _⟩ := hF i hil
          have h0 := hcell 0 _ rfl
          have h1 := hcell 1 _ rfl
          have h2 := hcell 2 _ rfl
          have h3 := hcell 3 _ rfl
          have h4 := hcell 4 _ rfl
          rw [Addr.add_mid, Addr.add_mid] at h0 h1 h2 h3 h4
          exact ⟨v, ⟨b0, b1, b2, b3, b4, hv, h0, h1, h2, h3, h4⟩, e ▸ hav⟩
      · have := sizes_bulk (List.range len) (F := F) (D := D) (fun k hk => (hF k (List.mem_range.1 hk)).2)
        rw [Ask.size]
        omega
end
end Go.Proofs.YtkemlckmfgacdaaGreatDoor
