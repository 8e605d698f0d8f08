/- Contract: event.plain. -/
import Derived.Test.YtkemlckmfgacdaaGreatDoorJnP11
import Derived.Test.YtkemlckmfgacdaaGreatDoorJnP7
import Derived.Deep.LoopGhost
namespace Go.Proofs.YtkemlckmfgacdaaGreatDoor
set_option maxRecDepth 20000
set_option maxHeartbeats 64000000
open Go.ChangeShapes Go.WideShapes Go.ChangeAt Go.RowKit
set_option linter.unusedVariables false
set_option linter.unusedSimpArgs false
open Tp Jm Ev
theorem plain_any (j : Jb) (v : Value) (w : World) (hv : JobV w j v) : Calls Tryz.prog 51 #[v] w fun e w' => e = .returned (.bool (bare j)) ∧ Below w.heap.size w w' := by
 obtain ⟨x0, x1, x2, x3, xd, xl, xc, aa, ac, rfl, hp⟩ := hv
 unfold jobVal
 obtain ⟨u, P, a, b, c, x, l⟩ := j
 obtain ⟨q0, q1, q2, q3, qs⟩ := x
 obtain ⟨yd, yl, yc, ye, hy⟩ : ∃ yd yl yc, (Value.agg #[.int .i64 x0, .string x1, .string x2, .int .i64 x3, .slice xd xl xc]) = .agg #[.int .i64 q0, .string (bts q1), .string (bts q2), .int .i64 q3, .slice yd yl yc] ∧ yl = qs.length := by
  have h := hp.ask
  rw [AskV] at h
  obtain ⟨ad, len, cap, e, h, _⟩ := h
  exact ⟨ad, len, cap, e, h⟩
 simp only [Value.agg.injEq, Array.mk.injEq, List.cons.injEq, Value.int.injEq, Value.string.injEq, Value.slice.injEq, and_true, true_and] at ye
 obtain ⟨rfl, rfl, rfl, rfl, rfl, rfl, rfl⟩ := ye
 subst hy
 clear hp
 simp only
 obtain ⟨U, hU⟩ : ∃ U, bts u = U := ⟨_, rfl⟩
 obtain ⟨K, hK⟩ : ∃ U, bts q1 = U := ⟨_, rfl⟩
 obtain ⟨Z, hZ⟩ : ∃ U, bts q2 = U := ⟨_, rfl⟩
 obtain ⟨n, hn⟩ : ∃ n, l.length = n := ⟨_, rfl⟩
 obtain ⟨m, hm⟩ : ∃ n, qs.length = n := ⟨_, rfl⟩
 obtain ⟨R, hR⟩ : ∃ R, bare (Jb.mk u P a b c (.mk x0 q1 q2 x3 qs) l) = R := ⟨_, rfl⟩
 rw [hR, hU, hK, hZ, hn, hm]
 have HR := hid hR
 obtain ⟨B, hB⟩ : ∃ B, B = w.heap.size := ⟨_, rfl⟩
 obtain ⟨W0, hW0⟩ : ∃ W, W = w.alloc (.cells #[.string U, .int .i64 P, .int .i64 a, .int .i64 b, .int .i64 c, .int .i64 x0, .string K, .string Z, .int .i64 x3, .slice xd m xc, .slice aa n ac] 29) := ⟨_, rfl⟩
 have hbW0 : Below w.heap.size w W0 := be0 hW0
 have HX : Hid (BoxV B [.string U, .int .i64 P, .int .i64 a, .int .i64 b, .int .i64 c, .int .i64 x0, .string K, .string Z, .int .i64 x3, .slice xd m xc, .slice aa n ac] W0) := hid (by rw [hW0]; exact BoxV.top _ hB)
 have HB0 := hid hbW0
 have HE : Hid (R = (u.isEmpty && decide (P = 0) && (decide (a = 0) && decide (b = 0) && decide (c = 0)) && l.isEmpty && decide (x0 = 0) && q1.isEmpty && q2.isEmpty && decide (x3 = 0) && qs.isEmpty)) := hid hR.symm
 obtain ⟨c0, hc0⟩ : ∃ z, (U.toList == []) = z := ⟨_, rfl⟩
 obtain ⟨c5, hc5⟩ : ∃ z, (K.toList == []) = z := ⟨_, rfl⟩
 obtain ⟨c6, hc6⟩ : ∃ z, (Z.toList == []) = z := ⟨_, rfl⟩
 have H0 : Hid (u.isEmpty = c0) := hid (by rw [← hc0, ← hU, bts_toList]; cases u <;> rfl)
 have H5 : Hid (q1.isEmpty = c5) := hid (by rw [← hc5, ← hK, bts_toList]; cases q1 <;> rfl)
 have H6 : Hid (q2.isEmpty = c6) := hid (by rw [← hc6, ← hZ, bts_toList]; cases q2 <;> rfl)
 have H3 : Hid (l.isEmpty = decide (n = 0)) := hid (by rw [← hn]; cases l <;> rfl)
 have H8 : Hid (qs.isEmpty = decide (m = 0)) := hid (by rw [← hm]; cases qs <;> rfl)
 clear hbW0 hU hK hZ hn hm hR
 go_enter Tryz.func51, Tryz.ntmps51
 go_upto_region 1 with fail
 rw [← hW0, ← hB]
 clear hW0 hB
 obtain ⟨b0, b1, b2, b3, b4, b5, b6, b7, b8, b9, b10⟩ := HX.out.c11
 have hBl := HX.out.lt
 cases c0 with
 | false =>
  obtain rfl : R = false := by rw [HE.out, H0.out, H3.out, H5.out, H6.out, H8.out]; simp [*]
  go_wp2_with fail
  go_ret
  exact ⟨rfl, HB0.out⟩
 | true =>
  by_cases h1 : P = 0
  ·subst h1
   by_cases h2 : a = 0
   ·subst h2
    by_cases h2b : b = 0
    ·subst h2b
     by_cases h2c : c = 0
     ·subst h2c
      by_cases h3 : n = 0
      ·subst h3
       by_cases h4 : x0 = 0
       ·subst h4
        cases c5 with
        | false =>
         obtain rfl : R = false := by rw [HE.out, H0.out, H3.out, H5.out, H6.out, H8.out]; simp [*]
         go_wp2_with fail
         go_ret
         exact ⟨rfl, HB0.out⟩
        | true =>
         cases c6 with
         | false =>
          obtain rfl : R = false := by rw [HE.out, H0.out, H3.out, H5.out, H6.out, H8.out]; simp [*]
          go_wp2_with fail
          go_ret
          exact ⟨rfl, HB0.out⟩
         | true =>
          by_cases h7 : x3 = 0
          ·subst h7
           by_cases h8 : m = 0
           ·subst h8
            obtain rfl : R = true := by rw [HE.out, H0.out, H3.out, H5.out, H6.out, H8.out]; simp [*]
            go_wp2_with fail
            go_ret
            exact ⟨rfl, HB0.out⟩
           ·have g8 : ((m : Int) == 0) = false := by simp; omega
            obtain rfl : R = false := by rw [HE.out, H0.out, H3.out, H5.out, H6.out, H8.out]; simp [*]
            go_wp2_with fail
            go_ret
            exact ⟨rfl, HB0.out⟩
          ·have g7 : (x3 == 0) = false := by simpa using h7
           obtain rfl : R = false := by rw [HE.out, H0.out, H3.out, H5.out, H6.out, H8.out]; simp [*]
           go_wp2_with fail
           go_ret
           exact ⟨rfl, HB0.out⟩
       ·have g4 : (x0 == 0) = false := by simpa using h4
        obtain rfl : R = false := by rw [HE.out, H0.out, H3.out, H5.out, H6.out, H8.out]; simp [*]
        go_wp2_with fail
        go_ret
        exact ⟨rfl, HB0.out⟩
      ·have g3 : ((n : Int) == 0) = false := by simp; omega
       obtain rfl : R = false := by rw [HE.out, H0.out, H3.out, H5.out, H6.out, H8.out]; simp [*]
       go_wp2_with fail
       go_ret
       exact ⟨rfl, HB0.out⟩
     ·have g2 : (c == 0) = false := by simpa using h2c
      obtain rfl : R = false := by rw [HE.out, H0.out, H3.out, H5.out, H6.out, H8.out]; simp [*]
      go_wp2_with fail
      go_ret
      exact ⟨rfl, HB0.out⟩
    ·have g2 : (b == 0) = false := by simpa using h2b
     obtain rfl : R = false := by rw [HE.out, H0.out, H3.out, H5.out, H6.out, H8.out]; simp [*]
     go_wp2_with fail
     go_ret
     exact ⟨rfl, HB0.out⟩
   ·have g2 : (a == 0) = false := by simpa using h2
    obtain rfl : R = false := by rw [HE.out, H0.out, H3.out, H5.out, H6.out, H8.out]; simp [*]
    go_wp2_with fail
    go_ret
    exact ⟨rfl, HB0.out⟩
  ·have g1 : (P == 0) = false := by simpa using h1
   obtain rfl : R = false := by rw [HE.out, H0.out, H3.out, H5.out, H6.out, H8.out]; simp [*]
   go_wp2_with fail
   go_ret
   exact ⟨rfl, HB0.out⟩
end Go.Proofs.YtkemlckmfgacdaaGreatDoor
namespace Go.Proofs.YtkemlckmfgacdaaGreatDoor
set_option maxRecDepth 20000
set_option maxHeartbeats 64000000
open Go.ChangeShapes Go.WideShapes Go.ChangeAt Go.RowKit
set_option linter.unusedVariables false
set_option linter.unusedSimpArgs false
open Tp Jm
theorem jobCheck_any (j : Jb) (v : Value) (w : World) (hs : j.ask.size ≤ 1000000000) (hv : JobV w j v) : Calls Tryz.prog 9 #[v] w fun e w' => e = .returned (.int .i64 j.fault) ∧ Below w.heap.size w w' := by
 obtain ⟨x0, x1, x2, x3, xd, xl, xc, aa, ac, rfl, hp⟩ := hv
 unfold jobVal
 obtain ⟨u, P, a, b, c, x, l⟩ := j
 simp only at hp hs ⊢
 obtain ⟨U, hU⟩ : ∃ U, bts u = U := ⟨_, rfl⟩
 obtain ⟨n, hn⟩ : ∃ n, l.length = n := ⟨_, rfl⟩
 rw [hU, hn]
 obtain ⟨B, hB⟩ : ∃ B, B = w.heap.size := ⟨_, rfl⟩
 obtain ⟨W0, hW0⟩ : ∃ W, W = w.alloc (.cells #[.string U, .int .i64 P, .int .i64 a, .int .i64 b, .int .i64 c, .int .i64 x0, .string x1, .string x2, .int .i64 x3, .slice xd xl xc, .slice aa n ac] 29) := ⟨_, rfl⟩
 have hb0 : Below w.heap.size w W0 := be0 hW0
 have b0 : W0.cell? ⟨B, 0, none⟩ = some (.string U) := by rw [hW0]; exact (cell_top _ _ _ _ _ hB).trans rfl
 have b1 : W0.cell? ⟨B, 1, none⟩ = some (.int .i64 P) := by rw [hW0]; exact (cell_top _ _ _ _ _ hB).trans rfl
 have b2 : W0.cell? ⟨B, 2, none⟩ = some (.int .i64 a) := by rw [hW0]; exact (cell_top _ _ _ _ _ hB).trans rfl
 have b3 : W0.cell? ⟨B, 3, none⟩ = some (.int .i64 b) := by rw [hW0]; exact (cell_top _ _ _ _ _ hB).trans rfl
 have b4 : W0.cell? ⟨B, 4, none⟩ = some (.int .i64 c) := by rw [hW0]; exact (cell_top _ _ _ _ _ hB).trans rfl
 have b5 : W0.cell? ⟨B, 5, none⟩ = some (.int .i64 x0) := by rw [hW0]; exact (cell_top _ _ _ _ _ hB).trans rfl
 have b6 : W0.cell? ⟨B, 6, none⟩ = some (.string x1) := by rw [hW0]; exact (cell_top _ _ _ _ _ hB).trans rfl
 have b7 : W0.cell? ⟨B, 7, none⟩ = some (.string x2) := by rw [hW0]; exact (cell_top _ _ _ _ _ hB).trans rfl
 have b8 : W0.cell? ⟨B, 8, none⟩ = some (.int .i64 x3) := by rw [hW0]; exact (cell_top _ _ _ _ _ hB).trans rfl
 have b9 : W0.cell? ⟨B, 9, none⟩ = some (.slice xd xl xc) := by rw [hW0]; exact (cell_top _ _ _ _ _ hB).trans rfl
 have b10 : W0.cell? ⟨B, 10, none⟩ = some (.slice aa n ac) := by rw [hW0]; exact (cell_top _ _ _ _ _ hB).trans rfl
 have hBl : B < W0.heap.size := by rw [hW0, hB]; simp
 have HB0 := hid hb0
 have HV : Hid (∀ W, Below w.heap.size w W → Vals W aa (ints l)) := hid (fun W h => hp.aft.below h lr)
 have HX : Hid (∀ W, Below w.heap.size w W → AskV W x (.agg #[.int .i64 x0, .string x1, .string x2, .int .i64 x3, .slice xd xl xc])) := hid (fun W h => AskV.below h _ _ hp.ask)
 have HLB : Hid (∀ W, Calls Tryz.prog 38 #[.string U] W fun e w' => e = .returned (.bool (lab u)) ∧ Below W.heap.size W w') := hid (fun W => by rw [← hU]; exact Label_any (bts u) W (by rw [bts_size]; exact Nat.le_trans hp.user (by omega)))
 have HND := hid (fun W => Check_any a b c W)
 have HAK := hid (fun W (h : Below w.heap.size w W) => askCheck_any x _ W hs (HX.out W h))
 have hac := hp.len
 simp only at hac
 rw [hn] at hac
 have hcap := hp.cap
 have HNL := hid hn
 obtain ⟨F, hF⟩ : ∃ F, (Jb.mk u P a b c x l).fault = F := ⟨_, rfl⟩
 have HF := hid hF
 rw [hF]
 obtain ⟨lb, hlb⟩ : ∃ b, lab u = b := ⟨_, rfl⟩
 rw [hlb] at HLB
 have HL := hid hlb
 obtain ⟨ne, hne⟩ : ∃ e, needE a b c = e := ⟨_, rfl⟩
 rw [hne] at HND
 have HNE := hid hne
 obtain ⟨ae, hae⟩ : ∃ e, x.fault = e := ⟨_, rfl⟩
 rw [hae] at HAK
 have HAE := hid hae
 clear hb0 hp hs hU hn hF hlb hne hae
 go_enter Tryz.func9, Tryz.ntmps9
 go_upto_region 1 with fail
 rw [← hW0, ← hB]
 clear hW0 hB
 go_wp2_with fail
 refine Calls.mono (HLB.out W0) ?_
 rintro e W1 ⟨rfl, hbn⟩
 have HB1 := hid (HB0.out.trans (hbn.mono HB0.out.size))
 have qq := below11 hbn hBl b0 b1 b2 b3 b4 b5 b6 b7 b8 b9 b10
 clear b0 b1 b2 b3 b4 b5 b6 b7 b8 b9 b10
 obtain ⟨b0, b1, b2, b3, b4, b5, b6, b7, b8, b9, b10⟩ := qq
 replace hBl := Nat.lt_of_lt_of_le hBl hbn.size
 clear hbn
 cases lb with
 | false =>
  obtain rfl : F = 3 := by rw [← HF.out]; unfold Jb.fault; rw [if_pos HL.out]
  go_wp2_with fail
  go_ret
  exact ⟨rfl, HB1.out⟩
 | true =>
  by_cases hp : P < -1000 ∨ 1000 < P
  ·obtain rfl : F = 4 := by rw [← HF.out]; unfold Jb.fault; rw [if_neg (by rw [HL.out]; simp), if_pos hp]
   rcases hp with hp | hp
   ·go_wp2_with fail
    go_ret
    exact ⟨rfl, HB1.out⟩
   ·have hp2 : ¬ P < -1000 := by omega
    go_wp2_with fail
    go_ret
    exact ⟨rfl, HB1.out⟩
  have hp1 : ¬ P < -1000 := by omega
  have hp2 : ¬ 1000 < P := by omega
  have HP := hid hp
  clear hp
  go_wp2_with fail
  refine Calls.mono (HND.out W1) ?_
  rintro e W2 ⟨rfl, hbn⟩
  have HB2 := hid (HB1.out.trans (hbn.mono HB1.out.size))
  have qq := below11 hbn hBl b0 b1 b2 b3 b4 b5 b6 b7 b8 b9 b10
  clear b0 b1 b2 b3 b4 b5 b6 b7 b8 b9 b10
  obtain ⟨b0, b1, b2, b3, b4, b5, b6, b7, b8, b9, b10⟩ := qq
  replace hBl := Nat.lt_of_lt_of_le hBl hbn.size
  clear hbn
  by_cases hne : ne = 0
  ·have hz : (ne == 0) = true := by simpa using hne
   have hz2 : (ne != 0) = false := by simpa using hne
   have HE0 := hid hne
   clear hne
   go_wp2_with fail
   refine Calls.mono (HAK.out W2 HB2.out) ?_
   rintro e W3 ⟨rfl, hbn⟩
   have HB3 := hid (HB2.out.trans (hbn.mono HB2.out.size))
   have qq := below11 hbn hBl b0 b1 b2 b3 b4 b5 b6 b7 b8 b9 b10
   clear b0 b1 b2 b3 b4 b5 b6 b7 b8 b9 b10
   obtain ⟨b0, b1, b2, b3, b4, b5, b6, b7, b8, b9, b10⟩ := qq
   replace hBl := Nat.lt_of_lt_of_le hBl hbn.size
   clear hbn
   by_cases hae : ae = 0
   ·have hy : (ae == 0) = true := by simpa using hae
    have hy2 : (ae != 0) = false := by simpa using hae
    have HA0 := hid hae
    clear hae
    have HFF : Hid (F = if 8 < n then 2 else aftE 0 l) := hid (by
     rw [← HF.out]; unfold Jb.fault
     rw [if_neg (by rw [HL.out]; simp), if_neg HP.out, if_neg (by show ¬ needE a b c ≠ 0; rw [HNE.out, HE0.out]; simp), if_neg (by show ¬ x.fault ≠ 0; rw [HAE.out, HA0.out]; simp)]
     show (if 8 < l.length then 2 else aftE 0 l) = _
     rw [HNL.out])
    by_cases h8 : 8 < n
    ·obtain rfl : F = 2 := by rw [HFF.out, if_pos h8]
     have h8' : (8 : Int) < (n : Int) := by omega
     go_wp2_with fail
     go_ret
     exact ⟨rfl, HB3.out⟩
    ·have h8' : ¬ (8 : Int) < (n : Int) := by omega
     obtain rfl : F = aftE 0 l := by rw [HFF.out, if_neg h8]
     have hn8 : n ≤ 8 := by omega
     clear h8
     have HVV := hid (HV.out W3 HB3.out)
     go_wp2_with fail
     go_loopg [5, 41] n (fun g x y wr => ∃ (k : Nat) (last : Int), k + g = n ∧ x = .int .i64 last ∧ y = .int .i64 (k : Int) ∧ Hid (W3 = wr) ∧ Hid (aftE last (l.drop k) = aftE 0 l))
     case atStart => exact ⟨0, 0, by omega, rfl, rfl, hid rfl, hid rfl⟩
     case round =>
      obtain ⟨k, last, hk, rfl, rfl, HW, HI⟩ := hrel
      obtain rfl := HW.out
      by_cases hkn : k < n
      ·obtain ⟨m, hm⟩ : ∃ m, l[k]? = some m := ⟨_, List.getElem?_eq_getElem (by rw [HNL.out]; exact hkn)⟩
       obtain ⟨bb, off, rfl, hbl, hcells⟩ := aft_cell HVV.out hm
       have hcell := hcells k m hm
       have HC := hid hcells
       have HD : Hid (l.drop k = m :: l.drop (k + 1)) := hid (drop_some hm)
       have hk1 : (0 : Int) ≤ (k : Int) := by omega
       have hk2 : (k : Int) < (n : Int) := by omega
       have HK := hid hk
       have HI2 : Hid (aftE 0 l = if m < 1 ∨ 60 < m then 4 else if m ≤ last then 6 else aftE m (l.drop (k + 1))) := hid (by rw [← HI.out, HD.out, aftE_cons])
       clear hm hk hcells
       by_cases h1 : m < 1
       ·have HE : Hid (aftE 0 l = 4) := hid (by rw [HI2.out, if_pos (.inl h1)])
        go_wp2_with fail
        go_ret
        exact ⟨by rw [HE.out]; try rfl, HB3.out⟩
       by_cases h2 : 60 < m
       ·have HE : Hid (aftE 0 l = 4) := hid (by rw [HI2.out, if_pos (.inr h2)])
        go_wp2_with fail
        go_ret
        exact ⟨by rw [HE.out]; try rfl, HB3.out⟩
       by_cases h3 : m ≤ last
       ·have HE : Hid (aftE 0 l = 6) := hid (by rw [HI2.out, if_neg (by omega), if_pos h3])
        go_wp2_with fail
        go_ret
        exact ⟨by rw [HE.out]; try rfl, HB3.out⟩
       ·have HE : Hid (aftE m (l.drop (k + 1)) = aftE 0 l) := hid (by rw [HI2.out, if_neg (by omega), if_neg h3])
        go_wp2_with fail
        go_roundg (n - (k + 1))
        case measure => (have := HK.out; omega)
        case rel => exact ⟨k + 1, m, by have := HK.out; omega, rfl, by simp, hid rfl, HE⟩
      ·have HE : Hid (aftE 0 l = 0) := hid (by rw [← HI.out, List.drop_eq_nil_of_le (by have := HNL.out; omega)]; rfl)
       have hk2 : ¬ (k : Int) < (n : Int) := by omega
       clear hk hkn
       go_wp2_with fail
       go_ret
       exact ⟨by rw [HE.out]; try rfl, HB3.out⟩
   ·obtain rfl : F = ae := by rw [← HF.out]; unfold Jb.fault; rw [if_neg (by rw [HL.out]; simp), if_neg HP.out, if_neg (by show ¬ needE a b c ≠ 0; rw [HNE.out, HE0.out]; simp), if_pos (by show x.fault ≠ 0; rw [HAE.out]; exact hae)]; exact HAE.out
    have hy : (F == 0) = false := by simpa using hae
    have hy2 : (F != 0) = true := by simpa using hae
    clear hae
    go_wp2_with fail
    go_ret
    exact ⟨rfl, HB3.out⟩
  ·obtain rfl : F = ne := by rw [← HF.out]; unfold Jb.fault; rw [if_neg (by rw [HL.out]; simp), if_neg HP.out, if_pos (by show needE a b c ≠ 0; rw [HNE.out]; exact hne)]; exact HNE.out
   have hz : (F == 0) = false := by simpa using hne
   have hz2 : (F != 0) = true := by simpa using hne
   clear hne
   go_wp2_with fail
   go_ret
   exact ⟨rfl, HB2.out⟩
end Go.Proofs.YtkemlckmfgacdaaGreatDoor
