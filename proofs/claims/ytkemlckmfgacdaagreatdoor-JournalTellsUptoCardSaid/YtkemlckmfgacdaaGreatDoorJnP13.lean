/- Contract: event.Check. -/
import Derived.Test.YtkemlckmfgacdaaGreatDoorJnP12
import Derived.Test.YtkemlckmfgacdaaGreatDoorJnP9
import Derived.Test.YtkemlckmfgacdaaGreatDoorJnP7
import Derived.Deep.LoopGhost
import Derived.Deep.CutBlock
import Derived.Test.YtkemlckmfgacdaaGreatDoorJnP1
import Derived.Lib.ItoaNum
namespace Go.Proofs.YtkemlckmfgacdaaGreatDoor
set_option maxRecDepth 20000
set_option maxHeartbeats 64000000
open Go.ChangeShapes Go.WideShapes Go.ChangeAt Go.RowKit
set_option linter.unusedVariables false
set_option linter.unusedSimpArgs false
open Tp Jm Ev
theorem evCheck_any (x : Evt) (v : Value) (w : World) (hs : x.job.ask.size ≤ 1000000000) (hv : EvV w x v) : Calls Tryz.prog 16 #[v] w fun e w' => e = .returned (.int .i64 x.fault) ∧ Below w.heap.size w w' := by
 obtain ⟨x0, x1, x2, x3, xd, xl, xc, aa, ac, rfl, hp⟩ := hv
 have hjv := hp.toV
 obtain ⟨k, j, N, I, O⟩ := x
 simp only at hp hs hjv ⊢
 have HPL := hid (fun W (h : Below w.heap.size w W) => plain_any j _ W (hjv.below h))
 have HCK := hid (fun W (h : Below w.heap.size w W) => jobCheck_any j _ W hs (hjv.below h))
 obtain ⟨F, hF⟩ : ∃ F, (Evt.mk k j N I O).fault = F := ⟨_, rfl⟩
 obtain ⟨od, hod⟩ : ∃ F, (Evt.mk k j N I O).odd = F := ⟨_, rfl⟩
 have HF : Hid (F = if od then 1 else if k = 1 then j.fault else if N < 0 ∨ 1000000000 < N ∨ I < 0 ∨ 65535 < I then 4 else 0) := hid (by rw [← hF, ← hod]; rfl)
 obtain ⟨pl, hpl⟩ : ∃ F, bare j = F := ⟨_, rfl⟩
 obtain ⟨k1, hk1⟩ : ∃ z, (k == 1) = z := ⟨_, rfl⟩
 obtain ⟨k2, hk2⟩ : ∃ z, (k == 2) = z := ⟨_, rfl⟩
 obtain ⟨k4, hk4⟩ : ∃ z, (k == 4) = z := ⟨_, rfl⟩
 obtain ⟨k5, hk5⟩ : ∃ z, (k == 5) = z := ⟨_, rfl⟩
 obtain ⟨nz, hnz⟩ : ∃ z, (N != 0) = z := ⟨_, rfl⟩
 obtain ⟨iz, hiz⟩ : ∃ z, (I != 0) = z := ⟨_, rfl⟩
 have HOD : Hid (od = (decide (k < 1) || decide (5 < k) || (!k1 && !pl) || (!k2 && nz) || (!(k4 || k5) && iz) || (!k4 && O))) := hid (by rw [← hod, ← hpl, ← hk1, ← hk2, ← hk4, ← hk5, ← hnz, ← hiz]; exact odd_bools k j N I O)
 have HK1 : Hid (k = 1 ↔ k1 = true) := hid (by rw [← hk1]; simp)
 rw [hF]
 rw [hpl] at HPL
 obtain ⟨G, hG⟩ : ∃ F, j.fault = F := ⟨_, rfl⟩
 rw [hG] at HF HCK
 unfold jobVal at HPL HCK
 unfold evVal
 obtain ⟨u, P, a, b, c, x, l⟩ := j
 simp only at HPL HCK ⊢
 obtain ⟨U, hU⟩ : ∃ U, bts u = U := ⟨_, rfl⟩
 obtain ⟨n, hn⟩ : ∃ n, l.length = n := ⟨_, rfl⟩
 rw [hU, hn] at HPL HCK ⊢
 obtain ⟨B, hB⟩ : ∃ B, B = w.heap.size := ⟨_, rfl⟩
 obtain ⟨W0, hW0⟩ : ∃ W, W = w.alloc (.cells #[.int .i64 k, .string U, .int .i64 P, .int .i64 a, .int .i64 b, .int .i64 c, .int .i64 x0, .string x1, .string x2, .int .i64 x3, .slice xd xl xc, .slice aa n ac, .int .i64 N, .int .i64 I, .bool O] 40) := ⟨_, rfl⟩
 have hbW0 : Below w.heap.size w W0 := be0 hW0
 have HX : Hid (BoxV B [.int .i64 k, .string U, .int .i64 P, .int .i64 a, .int .i64 b, .int .i64 c, .int .i64 x0, .string x1, .string x2, .int .i64 x3, .slice xd xl xc, .slice aa n ac, .int .i64 N, .int .i64 I, .bool O] W0) := hid (by rw [hW0]; exact BoxV.top _ hB)
 have HB0 := hid hbW0
 clear hbW0 hU hn hF hod hpl hG hp hs hjv
 go_enter Tryz.func16, Tryz.ntmps16
 go_upto_region 1 with fail
 rw [← hW0, ← hB]
 clear hW0 hB
 obtain ⟨b0, b1, b2, b3, b4, b5, b6, b7, b8, b9, b10, b11, b12, b13, b14⟩ := HX.out.c15
 have hBl := HX.out.lt
 go_upto_region 2 with (go_quiet (fail))
 have HBq : Hid (∀ q, Below w.heap.size w (W0.drewN q)) := hid (fun q => below_drewN HB0.out q)
 go_cut [6] (fun v W => v = .bool (k4 || k5) ∧ Hid (W0.drewN nq = W))
 case first =>
  cases k4 with
  | true =>
   go_wp2_with fail
   go_meet
   exact ⟨rfl, hid rfl⟩
  | false =>
   go_wp2_with fail
   go_meet
   exact ⟨by simp, hid rfl⟩
 case rest =>
  obtain ⟨rfl, HW⟩ := hcut
  obtain rfl := HW.out
  obtain ⟨nm, hnm⟩ : ∃ z, (k4 || k5) = z := ⟨_, rfl⟩
  rw [hnm]
  replace HOD := hid (HOD.out)
  rw [hnm] at HOD
  clear hnm
  go_upto_region 3 with fail
  obtain ⟨Wq, hWq⟩ : ∃ W, W = W0.drewN nq := ⟨_, rfl⟩
  have HBQ : Hid (Below w.heap.size w Wq) := hid (by rw [hWq]; exact HBq.out nq)
  replace HX := hid (HX.out.step (below_drewN (Below.refl _ _) nq))
  rw [← hWq] at HX ⊢
  clear hWq HW
  clear b0
  clear b1
  clear b2
  clear b3
  clear b4
  clear b5
  clear b6
  clear b7
  clear b8
  clear b9
  clear b10
  clear b11
  clear b12
  clear b13
  clear b14
  obtain ⟨b0, b1, b2, b3, b4, b5, b6, b7, b8, b9, b10, b11, b12, b13, b14⟩ := HX.out.c15
  replace hBl := HX.out.lt
  go_cut [65] (fun v W => v = .bool od ∧ Hid (Below Wq.heap.size Wq W))
  case first =>
   have HR0 : Hid (Below Wq.heap.size Wq Wq) := hid (Below.refl _ _)
   by_cases hlt : k < 1
   ·go_wp2_with fail
    go_meet
    exact ⟨by rw [HOD.out]; simp [*], HR0⟩
   by_cases hgt : 5 < k
   ·go_wp2_with fail
    go_meet
    exact ⟨by rw [HOD.out]; simp [*], HR0⟩
   cases k1 with
   | true =>
    cases k2 with
    | true =>
     cases nm with
     | true =>
      cases k4 with
      | true =>
       go_wp2_with fail
       go_meet
       exact ⟨by rw [HOD.out]; simp [*], HR0⟩
      | false =>
       cases O with
       | true =>
        go_wp2_with fail
        go_meet
        exact ⟨by rw [HOD.out]; simp [*], HR0⟩
       | false =>
        go_wp2_with fail
        go_meet
        exact ⟨by rw [HOD.out]; simp [*], HR0⟩
     | false =>
      cases iz with
      | true =>
       go_wp2_with fail
       go_meet
       exact ⟨by rw [HOD.out]; simp [*], HR0⟩
      | false =>
       cases k4 with
       | true =>
        go_wp2_with fail
        go_meet
        exact ⟨by rw [HOD.out]; simp [*], HR0⟩
       | false =>
        cases O with
        | true =>
         go_wp2_with fail
         go_meet
         exact ⟨by rw [HOD.out]; simp [*], HR0⟩
        | false =>
         go_wp2_with fail
         go_meet
         exact ⟨by rw [HOD.out]; simp [*], HR0⟩
    | false =>
     cases nz with
     | true =>
      go_wp2_with fail
      go_meet
      exact ⟨by rw [HOD.out]; simp [*], HR0⟩
     | false =>
      cases nm with
      | true =>
       cases k4 with
       | true =>
        go_wp2_with fail
        go_meet
        exact ⟨by rw [HOD.out]; simp [*], HR0⟩
       | false =>
        cases O with
        | true =>
         go_wp2_with fail
         go_meet
         exact ⟨by rw [HOD.out]; simp [*], HR0⟩
        | false =>
         go_wp2_with fail
         go_meet
         exact ⟨by rw [HOD.out]; simp [*], HR0⟩
      | false =>
       cases iz with
       | true =>
        go_wp2_with fail
        go_meet
        exact ⟨by rw [HOD.out]; simp [*], HR0⟩
       | false =>
        cases k4 with
        | true =>
         go_wp2_with fail
         go_meet
         exact ⟨by rw [HOD.out]; simp [*], HR0⟩
        | false =>
         cases O with
         | true =>
          go_wp2_with fail
          go_meet
          exact ⟨by rw [HOD.out]; simp [*], HR0⟩
         | false =>
          go_wp2_with fail
          go_meet
          exact ⟨by rw [HOD.out]; simp [*], HR0⟩
   | false =>
    go_wp2_with fail
    refine Calls.mono (HPL.out Wq HBQ.out) ?_
    rintro e W1 ⟨rfl, hbn⟩
    have HR1 : Hid (Below Wq.heap.size Wq W1) := hid hbn
    replace HX := hid (HX.out.step hbn)
    clear hbn
    clear b0
    clear b1
    clear b2
    clear b3
    clear b4
    clear b5
    clear b6
    clear b7
    clear b8
    clear b9
    clear b10
    clear b11
    clear b12
    clear b13
    clear b14
    obtain ⟨b0, b1, b2, b3, b4, b5, b6, b7, b8, b9, b10, b11, b12, b13, b14⟩ := HX.out.c15
    replace hBl := HX.out.lt
    cases pl with
    | false =>
     go_wp2_with fail
     go_meet
     exact ⟨by rw [HOD.out]; simp [*], HR1⟩
    | true =>
     cases k2 with
     | true =>
      cases nm with
      | true =>
       cases k4 with
       | true =>
        go_wp2_with fail
        go_meet
        exact ⟨by rw [HOD.out]; simp [*], HR1⟩
       | false =>
        cases O with
        | true =>
         go_wp2_with fail
         go_meet
         exact ⟨by rw [HOD.out]; simp [*], HR1⟩
        | false =>
         go_wp2_with fail
         go_meet
         exact ⟨by rw [HOD.out]; simp [*], HR1⟩
      | false =>
       cases iz with
       | true =>
        go_wp2_with fail
        go_meet
        exact ⟨by rw [HOD.out]; simp [*], HR1⟩
       | false =>
        cases k4 with
        | true =>
         go_wp2_with fail
         go_meet
         exact ⟨by rw [HOD.out]; simp [*], HR1⟩
        | false =>
         cases O with
         | true =>
          go_wp2_with fail
          go_meet
          exact ⟨by rw [HOD.out]; simp [*], HR1⟩
         | false =>
          go_wp2_with fail
          go_meet
          exact ⟨by rw [HOD.out]; simp [*], HR1⟩
     | false =>
      cases nz with
      | true =>
       go_wp2_with fail
       go_meet
       exact ⟨by rw [HOD.out]; simp [*], HR1⟩
      | false =>
       cases nm with
       | true =>
        cases k4 with
        | true =>
         go_wp2_with fail
         go_meet
         exact ⟨by rw [HOD.out]; simp [*], HR1⟩
        | false =>
         cases O with
         | true =>
          go_wp2_with fail
          go_meet
          exact ⟨by rw [HOD.out]; simp [*], HR1⟩
         | false =>
          go_wp2_with fail
          go_meet
          exact ⟨by rw [HOD.out]; simp [*], HR1⟩
       | false =>
        cases iz with
        | true =>
         go_wp2_with fail
         go_meet
         exact ⟨by rw [HOD.out]; simp [*], HR1⟩
        | false =>
         cases k4 with
         | true =>
          go_wp2_with fail
          go_meet
          exact ⟨by rw [HOD.out]; simp [*], HR1⟩
         | false =>
          cases O with
          | true =>
           go_wp2_with fail
           go_meet
           exact ⟨by rw [HOD.out]; simp [*], HR1⟩
          | false =>
           go_wp2_with fail
           go_meet
           exact ⟨by rw [HOD.out]; simp [*], HR1⟩
  case rest =>
   obtain ⟨rfl, HBc⟩ := hcut
   have hbn := HBc.out
   have HB1 : Hid (Below w.heap.size w wc) := hid (HBQ.out.trans (hbn.mono HBQ.out.size))
   replace HX := hid (HX.out.step hbn)
   clear hbn
   clear b0
   clear b1
   clear b2
   clear b3
   clear b4
   clear b5
   clear b6
   clear b7
   clear b8
   clear b9
   clear b10
   clear b11
   clear b12
   clear b13
   clear b14
   obtain ⟨b0, b1, b2, b3, b4, b5, b6, b7, b8, b9, b10, b11, b12, b13, b14⟩ := HX.out.c15
   replace hBl := HX.out.lt
   cases od with
   | true =>
    obtain rfl : F = 1 := by rw [HF.out]; simp
    go_wp2_with fail
    go_ret
    exact ⟨rfl, HB1.out⟩
   | false =>
    cases k1 with
    | true =>
     obtain rfl : F = G := by rw [HF.out]; simp [HK1.out.2 rfl]
     go_wp2_with fail
     refine Calls.mono (HCK.out wc HB1.out) ?_
     rintro e W2 ⟨rfl, hbn⟩
     have HB2 := hid (HB1.out.trans (hbn.mono HB1.out.size))
     clear hbn
     go_wp2_with fail
     go_ret
     exact ⟨rfl, HB2.out⟩
    | false =>
     have HFF : Hid (F = if N < 0 ∨ 1000000000 < N ∨ I < 0 ∨ 65535 < I then 4 else 0) := hid (by
      rw [HF.out, if_neg (by simp), if_neg (fun h => by have := HK1.out.1 h; cases this)])
     by_cases h1 : N < 0
     ·obtain rfl : F = 4 := by rw [HFF.out, if_pos (.inl h1)]
      go_wp2_with fail
      go_ret
      exact ⟨rfl, HB1.out⟩
     by_cases h2 : 1000000000 < N
     ·obtain rfl : F = 4 := by rw [HFF.out, if_pos (.inr (.inl h2))]
      go_wp2_with fail
      go_ret
      exact ⟨rfl, HB1.out⟩
     by_cases h3 : I < 0
     ·obtain rfl : F = 4 := by rw [HFF.out, if_pos (.inr (.inr (.inl h3)))]
      go_wp2_with fail
      go_ret
      exact ⟨rfl, HB1.out⟩
     by_cases h4 : 65535 < I
     ·obtain rfl : F = 4 := by rw [HFF.out, if_pos (.inr (.inr (.inr h4)))]
      go_wp2_with fail
      go_ret
      exact ⟨rfl, HB1.out⟩
     obtain rfl : F = 0 := by rw [HFF.out, if_neg (by omega)]
     go_wp2_with fail
     go_ret
     exact ⟨rfl, HB1.out⟩
end Go.Proofs.YtkemlckmfgacdaaGreatDoor
namespace Go.Proofs.YtkemlckmfgacdaaGreatDoor
set_option maxRecDepth 20000
set_option maxHeartbeats 64000000
open Go.ChangeShapes Go.WideShapes Go.ChangeAt Go.RowKit
set_option linter.unusedVariables false
open Tp
theorem splitB_txv (s : Bs) (c : UInt8) : (Lib.splitB (bts [c]) 0 (Lib.countB (bts s) (bts [c])) (bts s)).map Value.string = txv (Nt.pcs c s) := by
 have h := Lib.splitB_data (bts [c]) 0 (Lib.countB (bts s) (bts [c])) (bts s)
 rw [data_bts, data_bts, show Lib.countB (bts s) (bts [c]) = Lib.count s [c] from rfl, Nt.split_pcs c _ s rfl] at h
 rw [show Lib.countB (bts s) (bts [c]) = Lib.count s [c] from rfl, ← h]
 unfold txv
 rw [List.map_map]
 refine List.map_congr_left fun x _ => ?_
 show Value.string x = Value.string (bts (x.data.toList))
 congr 1
theorem Split_any (s : Bs) (c : UInt8) (w : World) (hs : s.length < 4294967281) (he : Env w) : Calls Tryz.prog 31 #[.string (bts s), .string (bts [c])] w fun e w' => e = .returned (.slice (some ⟨w.heap.size, 0, none⟩) (Nt.pcs c s).length (Nt.pcs c s).length) ∧ w' = w.alloc (.cells (txv (Nt.pcs c s)).toArray 9) := by
 obtain ⟨m, hm⟩ := he.most
 refine Calls.mono (Tryz.strings_Split (bts s) (bts [c]) m w (by rw [bts_size]; exact hs) hm (by rw [bts_size]; exact Nat.le_refl _)) ?_
 rintro e w' ⟨rfl, rfl⟩
 have h := splitB_txv s c
 have hl : Lib.countB (bts s) (bts [c]) + 1 = (Nt.pcs c s).length := by
  rw [← Lib.splitB_all (bts [c]) (by rw [bts_size]; exact Nat.le_refl _) 0 _ (bts s) rfl, ← List.length_map (f := Value.string), h, txv_length]
 rw [h, hl]
 exact ⟨rfl, rfl⟩
theorem Cut_any (s : Bs) (c : UInt8) (w : World) (hs : s.length < 4294967281) (he : Env w) : Calls Tryz.prog 66 #[.string (bts s), .string (bts [c])] w fun e w' => e = .returned (.tuple #[.string (bts (cutB c s).1), .string (bts (cutB c s).2.1), .bool (cutB c s).2.2]) ∧ Below w.heap.size w w' := by
 obtain ⟨m, hm⟩ := he.most
 refine Calls.mono (Tryz.strings_Cut (bts s) (bts [c]) m w (by rw [bts_size]; exact hs) hm) ?_
 rintro e w' ⟨rfl, n, rfl⟩
 rw [data_bts, data_bts, cut_one]
 exact ⟨rfl, below_drewN (Below.refl _ _) n⟩
theorem joinC_lib : ∀ l : List Bs, Lib.join l [44] = Nt.joinC l
 | [] => Lib.join_nil _
 | [x] => Lib.join_one _ _
 | x :: y :: l => by
  rw [Lib.join_cons, Nt.joinC, ← joinC_lib (y :: l), Lib.join_cons]
  simp [Lib.joinTail]
theorem Join_any (K : List Bs) (a : Option Addr) (c : Nat) (w : World) (hv : 0 < K.length → ∃ b off, a = some ⟨b, off, none⟩ ∧ b < w.heap.size ∧ ∀ i t, K[i]? = some t → w.cell? ⟨b, off + i, none⟩ = some (.string (bts t))) (hK : K.length ≤ 1099511627776) (hc : K.length ≤ c) (hl : (Nt.joinC K).length ≤ 1099511627776) : Calls Tryz.prog 28 #[.slice a K.length c, .string (bts [44])] w fun e w' => e = .returned (.string (bts (Nt.joinC K))) ∧ Below w.heap.size w w' := by
 have em : (K.map bts).map (·.data.toList) = K := by
  rw [List.map_map]
  refine (List.map_congr_left (g := id) fun x _ => rfl).trans (List.map_id K)
 by_cases h0 : 0 < K.length
 ·obtain ⟨b, off, rfl, hb, hcell⟩ := hv h0
  have h := Tryz.strings_Join b off c (K.map bts) (bts [44]) w (fun j x hx => by
   rw [List.getElem?_map] at hx
   cases hk : K[j]? with
   | none => rw [hk] at hx; cases hx
   | some t => rw [hk] at hx; cases hx; exact hcell j t hk) hb (by rw [List.length_map]; omega) (by rw [List.length_map]; exact hc) (by rw [em, data_bts, joinC_lib]; omega)
  rw [List.length_map, em, data_bts, joinC_lib] at h
  exact h
 ·have hn : K = [] := List.length_eq_zero_iff.1 (by omega)
  subst hn
  refine Calls.mono (Tryz.strings_Join_none a c (bts [44]) w) ?_
  rintro e w' ⟨rfl, rfl⟩
  exact ⟨rfl, Below.refl _ _⟩
end Go.Proofs.YtkemlckmfgacdaaGreatDoor
namespace Go.Proofs.YtkemlckmfgacdaaGreatDoor
set_option maxRecDepth 20000
set_option maxHeartbeats 64000000
open Go.ChangeShapes Go.WideShapes Go.ChangeAt Go.RowKit
set_option linter.unusedVariables false
set_option linter.unusedSimpArgs false
open Tp Jm
theorem Itoa_any (n : Int) (w : World) (h0 : -9223372036854775808 ≤ n) (h1 : n ≤ 9223372036854775807) (he : Env w) : Calls Tryz.prog 29 #[.int .i64 n] w fun e w' => e = .returned (.string (bts (Nt.decI n))) ∧ Below w.heap.size w w' := by
 refine Calls.mono (Tryz.strconv_Itoa n h0 h1 w he.pow) ?_
 rintro e w' ⟨rfl, k, os, rfl⟩
 exact ⟨rfl, Lib.below_grow _ w lr k os⟩
theorem decs_len : ∀ l : List Int, (∀ n, n ∈ l → 1 ≤ n ∧ n ≤ 60) → ∀ t, t ∈ l.map Nt.decI → t.length ≤ 2
 | l, h, t, ht => by
  obtain ⟨n, hn, rfl⟩ := List.mem_map.1 ht
  have := h n hn
  unfold Nt.decI
  rw [if_neg (by omega)]
  exact Nt.dec_len 1 n.toNat (by omega)
theorem joinC_len {m : Nat} : ∀ l : List Bs, (∀ t, t ∈ l → t.length ≤ m) → (Nt.joinC l).length ≤ l.length * (m + 1)
 | [], _ => by simp [Nt.joinC]
 | [x], h => by have := h x (by simp); simp [Nt.joinC]; omega
 | x :: y :: l, h => by
  have h1 := h x (by simp)
  have h2 := joinC_len (m := m) (y :: l) (fun t ht => h t (by simp at ht ⊢; exact .inr ht))
  rw [Nt.joinC, List.length_append, List.length_cons]
  simp only [List.length_cons] at h2 ⊢
  have h3 : (l.length + 1 + 1) * (m + 1) = (l.length + 1) * (m + 1) + (m + 1) := Nat.succ_mul _ _
  omega
theorem after_any (l : List Int) (aa : Option Addr) (n ac : Nat) (w : World) (hn : l.length = n) (h8 : n ≤ 8) (hb : ∀ m, m ∈ l → 1 ≤ m ∧ m ≤ 60) (he : Env w) (hV : Vals w aa (ints l)) : Calls Tryz.prog 30 #[.slice aa n ac] w fun e w' => e = .returned (.string (bts (aftT l))) ∧ Below w.heap.size w w' := by
 by_cases hl : l = []
 ·subst hl
  obtain rfl : n = 0 := hn.symm
  have HT : Hid ((⟨#[45]⟩ : ByteArray) = bts (aftT [])) := hid rfl
  rw [← HT.out]
  clear hV he hb
  go_enter Tryz.func30, Tryz.ntmps30
  go_wp2_with fail
  go_ret
  exact ⟨rfl, Below.refl _ _⟩
 obtain ⟨B, hB⟩ : ∃ B, w.heap.size = B := ⟨_, rfl⟩
 have HB := hid hB
 have hn0 : ¬ (n : Int) = 0 := by
  intro h
  exact hl (List.length_eq_zero_iff.1 (by omega))
 have hn1 : ((n : Int) == 0) = false := by simpa using hn0
 have HN := hid hn
 have HBD := hid hb
 have HEV : Hid (∀ W, Below B w W → Env W) := hid (fun W h => he.below h (Nat.le_of_eq hB))
 have HVV : Hid (∀ W, Below B w W → Vals W aa (ints l)) := hid (fun W h => hV.below h (Nat.le_of_eq hB))
 have HT : Hid (aftT l = Nt.joinC (l.map Nt.decI)) := hid (by unfold aftT; rw [if_neg hl])
 obtain ⟨T, hT⟩ : ∃ T, bts (aftT l) = T := ⟨_, rfl⟩
 have HTT := hid hT
 rw [hT, hB]
 have HR0 : Hid (RowS B 9 1 0 (txv ((l.take 0).map Nt.decI)) (.slice none 0 0) w w) := hid (by
  have := RowS.nil B 9 1 w
  exact this)
 clear hl hn hb he hV hT hB hn0
 go_enter Tryz.func30, Tryz.ntmps30
 go_wp2_with fail
 go_loopg [3, 11] n (fun g x y wr => ∃ (k : Nat), k + g = n ∧ y = .int .i64 (k : Int) ∧ Hid (RowS B 9 1 k (txv ((l.take k).map Nt.decI)) x w wr))
 case atStart => exact ⟨0, by omega, rfl, HR0⟩
 case round =>
  obtain ⟨k, hk, rfl, HW⟩ := hrel
  have HK := hid hk
  by_cases hkn : k < n
  ·obtain ⟨m, hm⟩ : ∃ m, l[k]? = some m := ⟨_, List.getElem?_eq_getElem (by rw [HN.out]; exact hkn)⟩
   obtain ⟨bb, off, rfl, hbl, hcells⟩ := aft_cell (HVV.out wr HW.out.below) hm
   have hcell := hcells k m hm
   have hk1 : (0 : Int) ≤ (k : Int) := by omega
   have hk2 : (k : Int) < (n : Int) := by omega
   have HTK : Hid ((l.take (k + 1)).map Nt.decI = (l.take k).map Nt.decI ++ [Nt.decI m]) := hid (by rw [take_snoc hm, List.map_append]; rfl)
   have hbm := HBD.out m (List.mem_of_getElem? hm)
   have HIT := hid (Itoa_any m wr (by omega) (by omega) (HEV.out wr HW.out.below))
   obtain ⟨D, hD⟩ : ∃ D, bts (Nt.decI m) = D := ⟨_, rfl⟩
   have HD := hid hD
   rw [hD] at HIT
   obtain ⟨K, hK⟩ : ∃ K, (l.take k).map Nt.decI = K := ⟨_, rfl⟩
   rw [hK] at HW HTK
   clear hk hm hcells hD hbm hK
   go_wp2_with fail
   refine Calls.mono HIT.out ?_
   rintro e w1 ⟨rfl, hb1⟩
   have HW1 := hid (HW.out.step hb1 (by have := HW.out.below.size; have := HB.out; omega))
   clear hb1
   obtain ⟨a4, cp4, hv, hcp, hcp2, hO9⟩ := ownForm HW1.out.own
   subst hv
   have hBw : B ≤ w1.heap.size := by have := HW1.out.below.size; have := HB.out; omega
   go_wp2_with (at_builtin; go_loud (refine wpList_push w1 (by rfl) _ _ 60 (by rfl) B 9 (.string ⟨#[]⟩) 16 Tryz.underlying60 infoStr (by rfl) (.slice a4 k cp4) k (txv K) (.string D) _ rfl (by rfl) HW1.out.own (by rfl) (by rfl) (by unfold maxLen; omega) (by omega) hBw ?_; intro gg cap3 w5 hown5 hgrow hgb hgl; have HW5 : Hid (RowS B 9 1 (k + 1) (txv (K ++ [Nt.decI m])) (.slice (some ⟨gg, 0, none⟩) (k + 1) cap3) w w5) := hid (by rw [txv_push, HD.out]; exact HW1.out.pushed hBw hown5 hgrow); clear hown5 hgrow hgb hgl))
   go_roundg (n - (k + 1))
   case measure => (have := HK.out; omega)
   case rel => exact ⟨k + 1, by have := HK.out; omega, by simp, by rw [HTK.out]; exact HW5⟩
  ·have hkn2 : ¬ (k : Int) < (n : Int) := by omega
   have HKN : Hid (k = n) := hid (by omega)
   obtain ⟨a4, cp4, hv, hcp, hcp2, hO9⟩ := ownForm HW.out.own
   subst hv
   have HFULL : Hid ((l.take k).map Nt.decI = l.map Nt.decI) := hid (by rw [List.take_of_length_le (by have := HN.out; have := HKN.out; omega)])
   have HO := hid hO9
   have HJ : Hid (Calls Tryz.prog 28 #[.slice a4 k cp4, .string ⟨#[44]⟩] wr fun e w' => e = .returned (.string T) ∧ Below wr.heap.size wr w') := hid (by
    have hlen : (l.map Nt.decI).length = k := by rw [List.length_map, HN.out, HKN.out]
    have h := Join_any (l.map Nt.decI) a4 cp4 wr (fun h0 => by
     rw [hlen] at h0
     obtain ⟨g, rfl⟩ := HO.out h0
     refine ⟨g, 0, rfl, (HW.out.own.lt g rfl).2, fun i t ht => ?_⟩
     have hi : i < k := by have := (List.getElem?_eq_some_iff.1 ht).1; omega
     rw [Nat.zero_add, HW.out.own.cellAt i (by simpa using hi), HFULL.out]
     exact txv_at ht) (by omega) (by omega) (by
      have := joinC_len (m := 2) (l.map Nt.decI) (decs_len l HBD.out)
      omega)
    rw [hlen, ← HT.out, HTT.out] at h
    exact h)
   clear hO9 hk hkn
   go_wp2_with fail
   refine Calls.mono HJ.out ?_
   rintro e w1 ⟨rfl, hb1⟩
   have HB1 := hid (HW.out.below.trans (hb1.mono (by have := HW.out.below.size; have := HB.out; omega)))
   clear hb1
   go_wp2_with fail
   go_ret
   exact ⟨rfl, HB1.out⟩
end Go.Proofs.YtkemlckmfgacdaaGreatDoor
namespace Go.Proofs.YtkemlckmfgacdaaGreatDoor
set_option maxRecDepth 20000
set_option maxHeartbeats 64000000
open Go.ChangeShapes Go.WideShapes Go.ChangeAt Go.RowKit
set_option linter.unusedVariables false
open Tp
def dec (u : Nat) : Bs := Lib.decDigits u
theorem dec_small {u : Nat} (h : u < 10) : dec u = [UInt8.ofNat (48 + u)] := by
 unfold dec
 rw [Lib.decDigits, dif_pos h]
theorem dec_big {u : Nat} (h : ¬ u < 10) : dec u = dec (u / 10) ++ [UInt8.ofNat (48 + u % 10)] := by
 show Lib.decDigits u = _
 rw [Lib.decDigits, dif_neg h]
 rfl
theorem dec_len : ∀ (k u : Nat), u < 10 ^ (k + 1) → (dec u).length ≤ k + 1
 | 0, u, h => by rw [dec_small (by simpa using h)]; simp
 | k + 1, u, h => by
  by_cases h1 : u < 10
  ·rw [dec_small h1]; simp
  ·rw [dec_big h1, List.length_append]
   have := dec_len k (u / 10) (by rw [Nat.pow_succ] at h; omega)
   simp; omega
def bdg (d : Int) : ByteArray := ⟨#[(48 + d).toNat.toUInt8]⟩
theorem ten_d {d : Int} (h1 : 0 ≤ d) (h2 : d < 10) : d = 0 ∨ d = 1 ∨ d = 2 ∨ d = 3 ∨ d = 4 ∨ d = 5 ∨ d = 6 ∨ d = 7 ∨ d = 8 ∨ d = 9 := by omega
theorem ten_size' : (⟨#[48, 49, 50, 51, 52, 53, 54, 55, 56, 57]⟩ : ByteArray).size = 10 := rfl
theorem cut_dg {d : Int} (h1 : 0 ≤ d) (h2 : d < 10) : (⟨#[48, 49, 50, 51, 52, 53, 54, 55, 56, 57]⟩ : ByteArray).extract d.toNat (d + 1).toNat = bdg d := by
 rcases ten_d h1 h2 with rfl | rfl | rfl | rfl | rfl | rfl | rfl | rfl | rfl | rfl <;> rfl
theorem bdg_bts {u : Nat} : bdg (((u % 10 : Nat) : Int)) = bts [UInt8.ofNat (48 + u % 10)] := by
 unfold bdg bts
 congr 1
theorem plain_all : ∀ (N u : Nat) (w : World), u < N → u < 10000000000000000000 → Calls Tryz.prog 75 #[.int .u64 (u : Int)] w fun e w' => e = .returned (.string (bts (dec u))) ∧ Below w.heap.size w w' := by
 intro N
 induction N with
 | zero => intro u w h; omega
 | succ N ih =>
  intro u w hN hu
  have HIH := hid ih
  clear ih
  obtain ⟨d, hd⟩ : ∃ d : Int, d = ((u % 10 : Nat) : Int) := ⟨_, rfl⟩
  have hd0 : 0 ≤ d := by omega
  have hd1 : d < 10 := by omega
  have HBD : Hid (bdg d = bts [UInt8.ofNat (48 + u % 10)]) := hid (by rw [hd]; exact bdg_bts)
  have hm : (u : Int) % 10 = d := by omega
  have hw1 : IntKind.u64.wrap (d + 1) = d + 1 := IntWalk.u64_in _ (by omega)
  have hc := cut_dg hd0 hd1
  have hz := ten_size'
  obtain ⟨D, hD⟩ : ∃ D, bdg d = D := ⟨_, rfl⟩
  rw [hD] at hc HBD
  have hds : D.size = 1 := by rw [← hD]; rfl
  obtain ⟨V, hV⟩ : ∃ V, bts (dec u) = V := ⟨_, rfl⟩
  have HV := hid hV
  rw [hV]
  by_cases h9 : u < 10
  ·have HR : Hid (D = V) := hid (by rw [← HV.out, dec_small h9, HBD.out, Nat.mod_eq_of_lt h9])
   have h9' : ¬ ((9 : Int) < (u : Int)) := by omega
   clear hd hD hV h9
   go_enter Tryz.func75, Tryz.ntmps75
   go_wp2_with fail
   go_ret
   exact ⟨by rw [HR.out]; rfl, Below.refl _ _⟩
  ·have HC := hid (HIH.out (u / 10) w (by omega) (by omega))
   have hq : (u : Int) / 10 = ((u / 10 : Nat) : Int) := by omega
   have hw2 : IntKind.u64.wrap ((u / 10 : Nat) : Int) = ((u / 10 : Nat) : Int) := IntWalk.u64_in _ (by omega)
   obtain ⟨q, hqq⟩ : ∃ q, u / 10 = q := ⟨_, rfl⟩
   rw [hqq] at hq HC hw2
   obtain ⟨Q, hQ⟩ : ∃ Q, bts (dec q) = Q := ⟨_, rfl⟩
   have hqs : Q.size ≤ 19 := by rw [← hQ, bts_size]; exact dec_len 18 q (by omega)
   have HR : Hid (Q ++ D = V) := hid (by rw [← HV.out, dec_big h9, HBD.out, ← hQ, bts_append, hqq])
   have h9' : (9 : Int) < (u : Int) := by omega
   rw [hQ] at HC
   clear hd hD hV h9 hQ hqq
   go_enter Tryz.func75, Tryz.ntmps75
   go_wp2_with fail
   refine Calls.mono HC.out ?_
   rintro e' W ⟨rfl, h1⟩
   go_wp2_with fail
   go_ret
   exact ⟨by rw [HR.out]; rfl, h1⟩
end Go.Proofs.YtkemlckmfgacdaaGreatDoor
