/- Contract: the document's JobRead. -/
import Derived.Test.YtkemlckmfgacdaaGreatDoorJnP38
import Derived.Test.YtkemlckmfgacdaaGreatDoorJnP35
import Derived.RegionTactic
import Derived.Deep.LoopGhost
import Derived.Deep.Light
import Derived.Deep.CutBlock
import Derived.Deep.DeepCutAuto
namespace Go.Proofs.YtkemlckmfgacdaaGreatDoor
set_option maxRecDepth 20000
set_option maxHeartbeats 64000000
open Go.ChangeShapes Go.WideShapes Go.ChangeAt Go.RowKit
set_option linter.unusedVariables false
set_option linter.unusedSimpArgs false
open Tp Jm
theorem askL_size {s : Bs} {x : Ask} (h : askL s = some x) : x.size ≤ 1000000000 := by
 unfold askL Ar.own at h
 split at h
 ·cases h
 split at h
 ·rename_i y _ hh
  cases h
  have := (Ar.fault_good hh.1).2
  omega
 ·cases h
theorem jobReadR_five (s : Bs) (w : World) (hs : s.length ≤ 2000) {u p n f x : Bs} (h5 : Nt.pcs 32 s = [u, p, n, f, x]) : Calls Tryz.prog 11 #[.string (bts s)] w (JobRdQ w (rdR s) 3) := by
 obtain ⟨S, hS⟩ : ∃ S, bts s = S := ⟨_, rfl⟩
 obtain ⟨nn, hn⟩ : ∃ n, S.size = n := ⟨_, rfl⟩
 have hns : s.length = nn := by rw [← hn, ← hS, bts_size]
 obtain ⟨C, hC⟩ : ∃ C, C = w.heap.size := ⟨_, rfl⟩
 obtain ⟨W0, hW0⟩ : ∃ W, W = w.alloc (.cells #[.string ⟨#[]⟩, .int .i64 0, .int .i64 0, .int .i64 0, .int .i64 0, .int .i64 0, .string ⟨#[]⟩, .string ⟨#[]⟩, .int .i64 0, .slice none 0 0, .slice none 0 0] 29) := ⟨_, rfl⟩
 have HB0 : Hid (Below w.heap.size w W0) := hid (be0 hW0)
 have HBC0 : Hid (BoxV C zcells W0) := hid (by rw [hW0]; exact BoxV.top zcells hC)
 have HC : Hid (C = w.heap.size) := hid hC
 have hn3 : ¬ (3000 : Int) < (nn : Int) := by omega
 obtain ⟨U, hU⟩ : ∃ S, bts u = S := ⟨_, rfl⟩
 obtain ⟨Pp, hPp⟩ : ∃ S, bts p = S := ⟨_, rfl⟩
 obtain ⟨Nn, hNn⟩ : ∃ S, bts n = S := ⟨_, rfl⟩
 obtain ⟨Ff, hFf⟩ : ∃ S, bts f = S := ⟨_, rfl⟩
 obtain ⟨Xx, hXx⟩ : ∃ S, bts x = S := ⟨_, rfl⟩
 have HSP : Hid (Calls Tryz.prog 44 #[.string S, .int .u8 32] W0 fun e w' => ∃ G cp, e = .returned (.slice (some ⟨G, 0, none⟩) 5 cp) ∧ W0.heap.size ≤ G ∧ BoxV G [.string U, .string Pp, .string Nn, .string Ff, .string Xx] w' ∧ 5 ≤ cp ∧ Below W0.heap.size W0 w') := hid (by
  have h := pieces_b s 32 32 (by decide) W0 (by omega)
  rw [hS, h5] at h
  refine Calls.mono h ?_
  rintro e w' ⟨G, cp, h1, h2, h3, h4, h6⟩
  refine ⟨G, cp, h1, h2, ?_, h4, h6⟩
  rw [← hU, ← hPp, ← hNn, ← hFf, ← hXx]
  exact h3)
 have hlen : ∀ t, t ∈ Nt.pcs 32 s → t.length ≤ 2000 := fun t ht => Nat.le_trans (pcs_len 32 s t ht) hs
 rw [h5] at hlen
 have HAT : Hid (∀ W, Calls Tryz.prog 45 #[.string Pp] W (IntOfB W p)) := hid (fun W => by rw [← hPp]; exact intOf_b p W (by have := hlen p (by simp); omega))
 have HND : Hid (∀ W, Calls Tryz.prog 46 #[.string Nn] W fun e w' => Below W.heap.size W w' ∧ ∃ (v : Nt.V3) (code : Int), e = .returned (.tuple #[.agg #[.int .i64 (v.1 : Int), .int .i64 (v.2.1 : Int), .int .i64 (v.2.2 : Int)], .int .i64 code]) ∧ ((nd n = some v ∧ code = 0) ∨ (nd n = none ∧ code ≠ 0))) := hid (fun W => by rw [← hNn]; exact need_r n W (by have := hlen n (by simp); omega))
 have HAK := hid (fun W => ask_r x W (hlen x (by simp)))
 rw [hXx] at HAK
 have HSPF : Hid (∀ W, Calls Tryz.prog 44 #[.string Ff, .int .u8 44] W fun e w' => ∃ G cp, e = .returned (.slice (some ⟨G, 0, none⟩) (Nt.pcs 44 f).length cp) ∧ W.heap.size ≤ G ∧ BoxV G (txv (Nt.pcs 44 f)) w' ∧ (Nt.pcs 44 f).length ≤ cp ∧ Below W.heap.size W w') := hid (fun W => by rw [← hFf]; exact pieces_b f 44 44 (by decide) W (by have := hlen f (by simp); omega))
 have HFL : Hid (f.length ≤ 3000) := hid (by have := hlen f (by simp); omega)
 have HUL : Hid (u.length ≤ 1099511627776) := hid (by have := hlen u (by simp); omega)
 have HFF := hid hFf
 have HUU := hid hU
 have HSS := hid hS
 obtain ⟨O, hO⟩ : ∃ O, own (parse Nt.intOf askL s) s = O := ⟨_, rfl⟩
 have HO : Hid (own (parse5 Nt.intOf askL u p n f x) s = O) := hid (by rw [← hO]; unfold parse; rw [h5])
 unfold rdR
 rw [hO, hS]
 clear hS hs hns hO h5 hlen hU hPp hNn hFf hXx
 go_enter Tryz.func11, Tryz.ntmps11
 go_upto_region 1 with fail
 rw [← hW0, ← hC]
 clear hW0 hC
 go_wp2_with fail
 refine Calls.mono HSP.out ?_
 rintro e W1 ⟨G, gcp, rfl, hG, hBG, hgc, hbn⟩
 have HBG1 := hid hBG
 have HB1 := hid (HB0.out.trans (hbn.mono HB0.out.size))
 have HBC1 := hid (HBC0.out.step hbn)
 have HGC : Hid (W0.heap.size ≤ G) := hid hG
 clear hBG hbn hG
 obtain ⟨g0, g1, g2, g3, g4⟩ := HBG1.out.c5
 have hgl := HBG1.out.lt
 go_wp2_with fail
 refine Calls.mono (HAT.out W1) ?_
 intro e W2 hq
 obtain ⟨v, pb, rfl, hbn, hev⟩ : ∃ (v : Int) (pb : Bool), e = .returned (.tuple #[.int .i64 v, .bool pb]) ∧ Below W1.heap.size W1 W2 ∧ ((Nt.intOf p = some v ∧ pb = true) ∨ (Nt.intOf p = none ∧ pb = false)) := by
  obtain ⟨hb, hq⟩ := hq
  cases hp : Nt.intOf p with
  | some v => rw [hp] at hq; exact ⟨v, _, hq, hb, .inl ⟨rfl, rfl⟩⟩
  | none => rw [hp] at hq; obtain ⟨k, h⟩ := hq; exact ⟨k, _, h, hb, .inr ⟨rfl, rfl⟩⟩
 have HEVV := hid hev
 clear hq hev
 have HB2 := hid (HB1.out.trans (hbn.mono HB1.out.size))
 have HBC2 := hid (HBC1.out.step hbn)
 have HBG2 := hid (HBG1.out.step hbn)
 clear hbn
 clear g0 g1 g2 g3 g4 hgl
 obtain ⟨g0, g1, g2, g3, g4⟩ := HBG2.out.c5
 have hgl := HBG2.out.lt
 go_wp2_with fail
 refine Calls.mono (HND.out W2) ?_
 rintro e W3 ⟨hbn, q, code, rfl, hnd⟩
 have HNDD := hid hnd
 clear hnd
 have HB3 := hid (HB2.out.trans (hbn.mono HB2.out.size))
 have HBC3 := hid (HBC2.out.step hbn)
 have HBG3 := hid (HBG2.out.step hbn)
 clear hbn
 clear g0 g1 g2 g3 g4 hgl
 obtain ⟨W4, hW4⟩ : ∃ W, W3.alloc (.cells #[.int .i64 (q.1 : Int), .int .i64 (q.2.1 : Int), .int .i64 (q.2.2 : Int)] 23) = W := ⟨_, rfl⟩
 obtain ⟨N, hN⟩ : ∃ N, N = W3.heap.size := ⟨_, rfl⟩
 have hbn : Below W3.heap.size W3 W4 := be0 hW4.symm
 have HBN4 : Hid (BoxV N [.int .i64 (q.1 : Int), .int .i64 (q.2.1 : Int), .int .i64 (q.2.2 : Int)] W4) := hid (by rw [← hW4]; exact BoxV.top _ hN)
 have HB4 := hid (HB3.out.trans (hbn.mono HB3.out.size))
 have HBC4 := hid (HBC3.out.step hbn)
 have HBG4 := hid (HBG3.out.step hbn)
 clear hbn
 obtain ⟨g0, g1, g2, g3, g4⟩ := HBG3.out.c5
 have hgl := HBG3.out.lt
 go_upto_region 8 with fail
 rw [← hN]
 clear hW4 hN
 clear g0 g1 g2 g3 g4 hgl
 obtain ⟨g0, g1, g2, g3, g4⟩ := HBG4.out.c5
 have hgl := HBG4.out.lt
 go_wp2_with fail
 refine Calls.mono (HAK.out W4) ?_
 rintro e W5 ⟨hbn, y0, y1, y2, y3, yd, yl, yc, ok, rfl, hak⟩
 have HAKK := hid hak
 clear hak
 have HB5 := hid (HB4.out.trans (hbn.mono HB4.out.size))
 have HBC5 := hid (HBC4.out.step hbn)
 have HBG5 := hid (HBG4.out.step hbn)
 have HBN5 := hid (HBN4.out.step hbn)
 clear hbn
 clear g0 g1 g2 g3 g4 hgl
 obtain ⟨W6, hW6⟩ : ∃ W, W5.alloc (.cells #[.int .i64 y0, .string y1, .string y2, .int .i64 y3, .slice yd yl yc] 26) = W := ⟨_, rfl⟩
 obtain ⟨Y, hY⟩ : ∃ N, N = W5.heap.size := ⟨_, rfl⟩
 have hbn : Below W5.heap.size W5 W6 := be0 hW6.symm
 have HBY6 : Hid (BoxV Y [.int .i64 y0, .string y1, .string y2, .int .i64 y3, .slice yd yl yc] W6) := hid (by rw [← hW6]; exact BoxV.top _ hY)
 have HBN6 := hid (HBN5.out.step hbn)
 have H56 := hid hbn
 have HB6 := hid (HB5.out.trans (hbn.mono HB5.out.size))
 have HBC6 := hid (HBC5.out.step hbn)
 have HBG6 := hid (HBG5.out.step hbn)
 clear hbn
 obtain ⟨g0, g1, g2, g3, g4⟩ := HBG5.out.c5
 have hgl := HBG5.out.lt
 go_upto_region 9 with fail
 rw [← hY]
 clear hW6 hY
 clear g0 g1 g2 g3 g4 hgl
 obtain ⟨Wd, hWd⟩ : ∃ W, W6.drew = W := ⟨_, rfl⟩
 have hbn : Below W6.heap.size W6 Wd := by rw [← hWd]; exact (Below.refl _ _).drew
 have HBGd := hid (HBG6.out.step hbn)
 have HBNd := hid (HBN6.out.step hbn)
 have HBYd := hid (HBY6.out.step hbn)
 clear hbn
 obtain ⟨g0, g1, g2, g3, g4⟩ := HBGd.out.c5
 have hgl := HBGd.out.lt
 have n0 := HBNd.out.cell 0 _ rfl
 have n1 := HBNd.out.cell 1 _ rfl
 have n2 := HBNd.out.cell 2 _ rfl
 have hnl := HBNd.out.lt
 obtain ⟨yy0, yy1, yy2, yy3, yy4⟩ := HBYd.out.c5
 have hyl := HBYd.out.lt
 go_region
 obtain ⟨W8, hW8⟩ : ∃ W, W = Wd.alloc (.cells #[.string U, .int .i64 v, .int .i64 (q.1 : Int), .int .i64 (q.2.1 : Int), .int .i64 (q.2.2 : Int), .int .i64 y0, .string y1, .string y2, .int .i64 y3, .slice yd yl yc, .slice none 0 0] 29) := ⟨_, rfl⟩
 obtain ⟨J, hJ⟩ : ∃ J, J = Wd.heap.size := ⟨_, rfl⟩
 rw [← hW8, ← hJ]
 have hJ6 : J = W6.heap.size := by rw [hJ, ← hWd]; rfl
 have hbn : Below W6.heap.size W6 W8 := by rw [hW8, ← hWd]; exact ((Below.refl _ _).drew).alloc lr _
 have HJW : Hid (w.heap.size ≤ J ∧ J ≠ C ∧ J ≠ G) := hid ⟨by rw [hJ6]; exact HB6.out.size, by rw [hJ6]; exact Nat.ne_of_gt HBC6.out.lt, by rw [hJ6]; exact Nat.ne_of_gt HBG6.out.lt⟩
 have HJ6 := hid hJ6
 have H68 := hid hbn
 have HBJ8 : Hid (BoxV J (jcells U v (q.1 : Int) (q.2.1 : Int) (q.2.2 : Int) y0 y1 y2 y3 yd yl yc (.slice none 0 0)) W8) := hid (by rw [hW8]; exact BoxV.top (jcells U v (q.1 : Int) (q.2.1 : Int) (q.2.2 : Int) y0 y1 y2 y3 yd yl yc (.slice none 0 0)) hJ)
 have HB8 := hid (HB6.out.trans (hbn.mono HB6.out.size))
 have HBC8 := hid (HBC6.out.step hbn)
 have HBG8 := hid (HBG6.out.step hbn)
 have HST : Hid (JSt J W8 W8.heap.size U v (q.1 : Int) (q.2.1 : Int) (q.2.2 : Int) y0 y1 y2 y3 yd yl yc [] (.slice none 0 0) W8) := hid ⟨But.refl _ _, HBJ8.out, World.ownsRow_nil _ _ _ _, Nat.le_refl _, Nat.le_refl _⟩
 clear hbn hJ hJ6 hW8 hWd
 clear g0 g1 g2 g3 g4 hgl
 clear n0 n1 n2 hnl
 clear yy0 yy1 yy2 yy3 yy4 hyl
 obtain ⟨g0, g1, g2, g3, g4⟩ := HBG8.out.c5
 go_upto_region 10 with fail
 rcases HEVV.out with ⟨h1, rfl⟩ | ⟨h1, rfl⟩
 ·rcases HNDD.out with ⟨h2, rfl⟩ | ⟨h2, hcn⟩
  ·rcases HAKK.out with ⟨xa, h3, rfl, hva⟩ | ⟨h3, rfl⟩
   ·have HP5 : Hid (own (parse5 Nt.intOf askL u p n f x) s = own (match aftR Nt.intOf f with | some l => some ⟨u, v, (q.1 : Int), (q.2.1 : Int), (q.2.2 : Int), xa, l⟩ | none => none) s) := hid (by unfold parse5; rw [h1, h2, h3]; rfl)
    have HVA : Hid (AskVP (fun b => b ≠ J ∧ b ≠ C ∧ b < W8.heap.size ∧ w.heap.size ≤ b) W8 xa (.agg #[.int .i64 y0, .string y1, .string y2, .int .i64 y3, .slice yd yl yc])) := hid (by
     have h1 := HJ6.out
     have h2 := HBC4.out.lt
     have h3 := H68.out.size
     have h4 := H56.out.size
     have h5 := HB4.out.size
     exact AskVP.stays (p := fun b => W4.heap.size ≤ b ∧ b < W5.heap.size) (fun b h => ⟨by omega, by omega, by omega, by omega⟩) (by omega) (fun b h hb => (H68.out.block b (by omega)).trans (H56.out.block b hb)) _ _ (AskVP.both hva lr (fun b _ _ => rfl)))
    have HXS : Hid (xa.size ≤ 1000000000) := hid (askL_size h3)
    clear h1 h2 h3 hva
    obtain ⟨fb, hfb⟩ : ∃ b, (Ff.toList == [45]) = b := ⟨_, rfl⟩
    have hfb2 : (Ff.toList != [45]) = !fb := by rw [bne, hfb]
    have HFB : Hid (decide (f = [45]) = fb) := hid (by
     rw [← hfb, ← HFF.out, bts_toList]
     by_cases h : f = [45]
     ·rw [h]; rfl
     ·rw [decide_eq_false h]; simpa using h)
    go_upto_if 68 with fail
    clear hfb hfb2
    go_cut [] (fun W => ∃ l vv bs, Hid (aftR Nt.intOf f = some l) ∧ Hid (l.length ≤ 3001) ∧ Hid (JSt J W8 bs U v (q.1 : Int) (q.2.1 : Int) (q.2.2 : Int) y0 y1 y2 y3 yd yl yc l vv W))
    case first =>
     cases fb with
     | true =>
      have HF45 : Hid (aftR Nt.intOf f = some []) := hid (by unfold aftR; rw [if_pos (of_decide_eq_true HFB.out)])
      go_wp2_with fail
      go_meet
      exact ⟨[], _, _, HF45, hid (by simp), HST⟩
     | false =>
      have HF45 : Hid (aftR Nt.intOf f = nums Nt.intOf (Nt.pcs 44 f)) := hid (by unfold aftR; rw [if_neg (of_decide_eq_false HFB.out)])
      go_wp2_with fail
      refine Calls.mono (HSPF.out W8) ?_
      rintro e W9 ⟨Q, qcp, rfl, hQ, hBQ, hqc, hbn⟩
      obtain ⟨P, hP⟩ : ∃ P, Nt.pcs 44 f = P := ⟨_, rfl⟩
      have hpl : ∀ t, t ∈ P → t.length ≤ 3000 := fun t ht => Nat.le_trans (pcs_len 44 f t (by rw [hP]; exact ht)) HFL.out
      have hcnt := pcs_cnt 44 f
      rw [hP] at hBQ HF45 hcnt hqc ⊢
      obtain ⟨m, hm⟩ : ∃ m, P.length = m := ⟨_, rfl⟩
      have HBQ9 := hid hBQ
      obtain ⟨bs, hbs⟩ : ∃ bs, bs = W9.heap.size := ⟨_, rfl⟩
      have HST9 : Hid (JSt J W8 bs U v (q.1 : Int) (q.2.1 : Int) (q.2.2 : Int) y0 y1 y2 y3 yd yl yc [] (.slice none 0 0) W9) := hid ⟨But.ofBelow hbn lr, HBJ8.out.step hbn, World.ownsRow_nil _ _ _ _, by rw [hbs]; exact hbn.size, Nat.le_of_eq hbs⟩
      have HQB : Hid (Q < bs) := hid (by rw [hbs]; exact HBQ9.out.lt)
      have HQW : Hid (W8.heap.size ≤ Q ∧ J ≠ Q) := hid ⟨hQ, Nat.ne_of_lt (Nat.lt_of_lt_of_le HBJ8.out.lt hQ)⟩
      have HPL := hid hpl
      have HM := hid hm
      have hm3 : m ≤ 3001 := by have := HFL.out; omega
      have HAI : Hid (∀ t W, t ∈ P → Calls Tryz.prog 45 #[.string (bts t)] W (IntOfB W t)) := hid (fun t W ht => intOf_b t W (by have := hpl t ht; omega))
      have HN0 : Hid (nums Nt.intOf (P.take 0) = some []) := hid rfl
      rw [hm] at hqc ⊢
      clear hBQ hbn hP hpl hcnt hm hQ hbs
      go_wp2_with fail
      go_loopg [74] m (fun g y wr => ∃ (k : Nat) (l : List Int) (vv : Value), k + g = m ∧ y = .int .i64 (k : Int) ∧ Hid (nums Nt.intOf (P.take k) = some l) ∧ Hid (JSt J W8 bs U v (q.1 : Int) (q.2.1 : Int) (q.2.2 : Int) y0 y1 y2 y3 yd yl yc l vv wr) ∧ Hid (BoxV Q (txv P) wr))
      case atStart => exact ⟨0, [], _, by omega, rfl, HN0, HST9, HBQ9⟩
      case round =>
       obtain ⟨k, l, vv, hk, rfl, HNK, HSR, HBQ⟩ := hrel
       have HK := hid hk
       have HLL : Hid (l.length = k) := hid (by
        have h1 := nums_len HNK.out
        rw [List.length_take] at h1
        have h2 := HM.out
        omega)
       have HBR : Hid (Below w.heap.size w wr) := hid (HB8.out.trans (HSR.out.but.below HJW.out.1 HB8.out.size))
       by_cases hkm : k < m
       ·obtain ⟨t, ht⟩ : ∃ t, P[k]? = some t := ⟨_, List.getElem?_eq_getElem (by rw [HM.out]; exact hkm)⟩
        have htm := List.mem_of_getElem? ht
        have HCT := hid (HAI.out t wr htm)
        obtain ⟨T, hT⟩ : ∃ T, bts t = T := ⟨_, rfl⟩
        rw [hT] at HCT
        have hcell : wr.cell? ⟨Q, k, none⟩ = some (.string T) := HBQ.out.cell k _ (by rw [txv_at ht, hT])
        have HTK := hid ht
        have hk1 : (0 : Int) ≤ (k : Int) := by omega
        have hk2 : (k : Int) < (m : Int) := by omega
        have hmm : (m : Int) ≤ 3001 := by omega
        clear ht htm hT hk
        go_wp2_with fail
        refine Calls.mono HCT.out ?_
        intro e w1 hq
        obtain ⟨hb1, hq⟩ := hq
        have HSR1 := hid (HSR.out.step hb1)
        have HBQ1 := hid (HBQ.out.step hb1)
        have HB1' : Hid (Below w.heap.size w w1) := hid (HBR.out.trans (hb1.mono HBR.out.size))
        clear hb1 hcell
        cases hnt : Nt.intOf t with
        | none =>
         rw [hnt] at hq
         obtain ⟨i0, rfl⟩ := hq
         have HP : Hid (O = none) := hid (by rw [← HO.out, HP5.out, HF45.out, nums_stop HNK.out HTK.out hnt]; rfl)
         have HBC9 : Hid (BoxV C zcells w1) := hid (HBC8.out.but HSR1.out.but HJW.out.2.1.symm)
         clear hnt
         go_upto_region 18 with fail
         have HKX := KR.of (P := Tryz.prog) (by assumption)
         go_light
         obtain ⟨r0, r1, r2, r3, r4, r5, r6, r7, r8, r9, r10⟩ := HBC9.out.c11
         obtain ⟨rf0, rf1, rf2, rf3, rf4, rf5, rf6, rf7, rf8, rf9, rf10⟩ := HBC9.out.f11
         have hcl := HBC9.out.lt
         go_wp2_with fail
         refine HKX.fin ?_
         refine bodyPost_ret (v := .tuple #[.agg #[.string ⟨#[]⟩, .int .i64 0, .int .i64 0, .int .i64 0, .int .i64 0, .int .i64 0, .string ⟨#[]⟩, .string ⟨#[]⟩, .int .i64 0, .slice none 0 0, .slice none 0 0], .int .i64 3]) (by simp [results, Tryz.results11, go_sem, cell_set, r0, r1, r2, r3, r4, r5, r6, r7, r8, r9, r10, hcl]) rfl ?_
         show JobRdQ w O 3 _ (puts w1 C 0 [.string ⟨#[]⟩, .int .i64 0, .int .i64 0, .int .i64 0, .int .i64 0, .int .i64 0, .string ⟨#[]⟩, .string ⟨#[]⟩, .int .i64 0, .slice none 0 0, .slice none 0 0])
         rw [HP.out]
         exact ⟨puts_below C (Nat.le_of_eq HC.out.symm) _ _ _ HB1'.out, rfl⟩
        | some num =>
         rw [hnt] at hq
         obtain rfl := hq
         have HNN : Hid (nums Nt.intOf (P.take (k + 1)) = some (l ++ [num])) := hid (by rw [take_snoc HTK.out, nums_snoc, HNK.out]; simp only; rw [hnt])
         have HPU := hid (fun w5 g cp ho hg => HSR1.out.push (w5 := w5) (n := num) (g := g) (cp := cp) HBJ8.out.lt ho hg)
         obtain ⟨a4, cp4, hv, hcp, hcp2, hO9⟩ := ownForm HSR1.out.own
         subst hv
         have hBw : bs ≤ w1.heap.size := HSR1.out.hi
         have hk3 : k ≤ 3001 := by omega
         have HL2 := hid HLL.out
         clear hnt hO9
         have j10 := HSR1.out.box.cell 10 _ rfl
         rw [HLL.out] at j10 hcp HPU
         have HOW : Hid (w1.ownsRow bs 3 1 (.slice a4 k cp4) k (ints l)) := hid (by have := HSR1.out.own; rw [HLL.out] at this; exact this)
         have hjl := HSR1.out.box.lt
         go_wp2_with (at_builtin; go_loud (refine wpList_push w1 (by rfl) _ _ 27 (by rfl) bs 3 (.int .i64 0) 8 Tryz.underlying27 infoIntJ (by rfl) (.slice a4 k cp4) k (ints l) (.int .i64 num) _ rfl (by rfl) HOW.out (by rfl) (by rfl) (by unfold maxLen; omega) (by omega) hBw ?_; intro gg cap3 w5 hown5 hgrow hgb hgl; have HPP := hid (HPU.out w5 gg cap3 hown5 hgrow); have HBQ5 : Hid (BoxV Q (txv P) w5) := hid (HBQ1.out.grown hgrow (fun e => absurd ((HOW.out.lt Q e.symm).1) (by have := HQB.out; omega))); clear hown5 hgrow hgb hgl; have s10 := HPP.out.1.cell 10 _ rfl; have sf10 := HPP.out.1.fz 10; have sl := HPP.out.1.lt))
         go_roundg (m - (k + 1))
         case measure => (have := HK.out; omega)
         case rel => exact ⟨k + 1, l ++ [num], _, by have := HK.out; omega, by simp, HNN, hid HPP.out.2, hid (HBQ5.out.other (a := ⟨J, 10, none⟩) HQW.out.2 _)⟩
       ·have hk2 : ¬ (k : Int) < (m : Int) := by omega
        have HAF : Hid (aftR Nt.intOf f = some l) := hid (by rw [HF45.out, ← HNK.out, List.take_of_length_le (by have := HM.out; have := HK.out; omega)])
        have HL3 : Hid (l.length ≤ 3001) := hid (by have := HLL.out; have := HK.out; omega)
        clear hk hkm
        go_wp2_with fail
        go_meet
        exact ⟨l, vv, bs, HAF, HL3, HSR⟩
    case rest =>
     obtain ⟨l, vv, bs, HAFT, HLN, HSR⟩ := hcut
     obtain ⟨a4, cp4, hv4, hcp, hcp2, hO9⟩ := ownForm HSR.out.own
     subst hv4
     have HVALS : ∀ W, W.ownsRow bs 3 1 (.slice a4 l.length cp4) l.length (ints l) → Vals W a4 (ints l) := fun W h => by
      obtain ⟨a, cap, e, hV⟩ := IsVals.own h
      have h2 := Value.slice.inj e
      rw [h2.1]
      exact hV
     have HBWC : Hid (Below w.heap.size w wc) := hid (HB8.out.trans (HSR.out.but.below HJW.out.1 HB8.out.size))
     obtain ⟨j, hj⟩ : ∃ j : Jb, j = ⟨u, v, (q.1 : Int), (q.2.1 : Int), (q.2.2 : Int), xa, l⟩ := ⟨_, rfl⟩
     have HJE := hid hj
     have HOJ : Hid (O = if j.fault = 0 ∧ j.text = s then some j else none) := hid (by rw [← HO.out, HP5.out, HAFT.out, hj]; rfl)
     have HPX : Hid (∀ W, W8.heap.size ≤ W.heap.size → (∀ b, b ≠ J ∧ b ≠ C ∧ b < W8.heap.size → W.heap[b]? = W8.heap[b]?) → W.ownsRow bs 3 1 (.slice a4 l.length cp4) l.length (ints l) → JobP W j y0 y1 y2 y3 yd yl yc a4 cp4) := hid (fun W h1 h2 h3 => by
      rw [hj]
      exact ⟨AskVP.toV _ _ (AskVP.stays (fun b h => h) h1 (fun b h _ => h2 b ⟨h.1, h.2.1, h.2.2.1⟩) _ _ HVA.out), HVALS W h3, HUL.out, hcp, hcp2⟩)
     have HPN : Hid (∀ W, W8.heap.size ≤ W.heap.size → (∀ b, b ≠ J ∧ b ≠ C ∧ b < W8.heap.size → W.heap[b]? = W8.heap[b]?) → AskVP (fun b => w.heap.size ≤ b) W j.ask (.agg #[.int .i64 y0, .string y1, .string y2, .int .i64 y3, .slice yd yl yc])) := hid (fun W h1 h2 => by
      rw [hj]
      exact AskVP.stays (fun b h => h.2.2.2) h1 (fun b h _ => h2 b ⟨h.1, h.2.1, h.2.2.1⟩) _ _ HVA.out)
     have HWW8 : Hid (w.heap.size ≤ W8.heap.size) := hid HB8.out.size
     have HJV : Hid (∀ W, W8.heap.size ≤ W.heap.size → (∀ b, b ≠ J ∧ b ≠ C ∧ b < W8.heap.size → W.heap[b]? = W8.heap[b]?) → W.ownsRow bs 3 1 (.slice a4 l.length cp4) l.length (ints l) → JobV W j (jobVal U v (q.1 : Int) (q.2.1 : Int) (q.2.2 : Int) y0 y1 y2 y3 yd yl yc a4 l.length cp4)) := hid (fun W h1 h2 h3 => ⟨y0, y1, y2, y3, yd, yl, yc, a4, cp4, by rw [hj]; simp only; rw [HUU.out], HPX.out W h1 h2 h3⟩)
     have HXJ : Hid (j.ask.size ≤ 1000000000) := hid (by rw [hj]; exact HXS.out)
     have HTX : Hid (Calls Tryz.prog 8 #[jobVal U v (q.1 : Int) (q.2.1 : Int) (q.2.2 : Int) y0 y1 y2 y3 yd yl yc a4 l.length cp4] wc fun e w' => e = .returned (.int .i64 j.fault) ∧ Below wc.heap.size wc w') := hid (jobFault_any j _ wc HXJ.out (HJV.out wc HSR.out.but.size (fun b h => HSR.out.but.block b h.2.2 h.1) HSR.out.own))
     have HTY : Hid (j.fault = 0 → ∀ W, W8.heap.size ≤ W.heap.size → (∀ b, b ≠ J ∧ b ≠ C ∧ b < W8.heap.size → W.heap[b]? = W8.heap[b]?) → W.ownsRow bs 3 1 (.slice a4 l.length cp4) l.length (ints l) → Calls Tryz.prog 10 #[jobVal U v (q.1 : Int) (q.2.1 : Int) (q.2.2 : Int) y0 y1 y2 y3 yd yl yc a4 l.length cp4] W fun e w' => e = .returned (.string (bts j.text)) ∧ Below W.heap.size W w') := hid (fun h0 W h1 h2 h3 => jobTextR_any j _ W h0 (HJV.out W h1 h2 h3))
     unfold jobVal at HTX HTY
     obtain ⟨F, hF⟩ : ∃ F, j.fault = F := ⟨_, rfl⟩
     obtain ⟨T, hT⟩ : ∃ T, bts j.text = T := ⟨_, rfl⟩
     have HF := hid hF
     have HT := hid hT
     rw [hF] at HTX
     rw [hF, hT] at HTY
     have HBJC := hid HSR.out.box
     have HCJ : Hid (C < W8.heap.size) := hid HBC8.out.lt
     clear hj hF hT hO9 HVALS
     obtain ⟨e0, e1, e2, e3, e4, e5, e6, e7, e8, e9, e10⟩ := HBJC.out.c11
     go_wp2_with fail
     refine Calls.mono HTX.out ?_
     rintro e W10 ⟨rfl, hbn⟩
     have HSR2 := hid (HSR.out.step hbn)
     have HB10 := hid (HBWC.out.trans (hbn.mono HBWC.out.size))
     have HBC10 : Hid (BoxV C zcells W10) := hid (HBC8.out.but HSR2.out.but HJW.out.2.1.symm)
     have HBJ10 := hid HSR2.out.box
     clear hbn e0 e1 e2 e3 e4 e5 e6 e7 e8 e9 e10
     by_cases h0 : F = 0
     ·subst h0
      have HTY2 := hid (HTY.out rfl W10 HSR2.out.but.size (fun b h => HSR2.out.but.block b h.2.2 h.1) HSR2.out.own)
      have HBJX := HBJ10
      obtain ⟨e0, e1, e2, e3, e4, e5, e6, e7, e8, e9, e10⟩ := HBJ10.out.c11
      go_wp2_with fail
      refine Calls.mono HTY2.out ?_
      rintro e W11 ⟨rfl, hbn⟩
      replace HSR2 := hid (HSR2.out.step hbn)
      replace HB10 := hid (HB10.out.trans (hbn.mono HB10.out.size))
      replace HBC10 : Hid (BoxV C zcells W11) := hid (HBC8.out.but HSR2.out.but HJW.out.2.1.symm)
      replace HBJ10 := hid HSR2.out.box
      clear hbn HBJX e0 e1 e2 e3 e4 e5 e6 e7 e8 e9 e10
      obtain ⟨tb, htb⟩ : ∃ b, (T.toList == S.toList) = b := ⟨_, rfl⟩
      have htb2 : (T.toList != S.toList) = !tb := by rw [bne, htb]
      have HTB : Hid (decide (j.text = s) = tb) := hid (by
       rw [← htb, ← HT.out, ← HSS.out]; rw [bts_toList, bts_toList]
       by_cases h : j.text = s
       ·rw [h]; simp
       ·simp [h])
      cases tb with
      | false =>
       have HP : Hid (O = none) := hid (by rw [HOJ.out]; exact if_neg (fun h => of_decide_eq_false HTB.out h.2))
       go_upto_region 22 with fail
       have HKX := KR.of (P := Tryz.prog) (by assumption)
       go_light
       obtain ⟨r0, r1, r2, r3, r4, r5, r6, r7, r8, r9, r10⟩ := HBC10.out.c11
       obtain ⟨rf0, rf1, rf2, rf3, rf4, rf5, rf6, rf7, rf8, rf9, rf10⟩ := HBC10.out.f11
       have hcl := HBC10.out.lt
       go_wp2_with fail
       refine HKX.fin ?_
       refine bodyPost_ret (v := .tuple #[.agg #[.string ⟨#[]⟩, .int .i64 0, .int .i64 0, .int .i64 0, .int .i64 0, .int .i64 0, .string ⟨#[]⟩, .string ⟨#[]⟩, .int .i64 0, .slice none 0 0, .slice none 0 0], .int .i64 3]) (by simp [results, Tryz.results11, go_sem, cell_set, r0, r1, r2, r3, r4, r5, r6, r7, r8, r9, r10, hcl]) rfl ?_
       show JobRdQ w O 3 _ (puts W11 C 0 [.string ⟨#[]⟩, .int .i64 0, .int .i64 0, .int .i64 0, .int .i64 0, .int .i64 0, .string ⟨#[]⟩, .string ⟨#[]⟩, .int .i64 0, .slice none 0 0, .slice none 0 0])
       rw [HP.out]
       exact ⟨puts_below C (Nat.le_of_eq HC.out.symm) _ _ _ HB10.out, rfl⟩
      | true =>
       have HP : Hid (O = some j) := hid (by rw [HOJ.out]; exact if_pos ⟨HF.out, of_decide_eq_true HTB.out⟩)
       go_upto_region 23 with fail
       have HKX := KR.of (P := Tryz.prog) (by assumption)
       go_light
       obtain ⟨r0, r1, r2, r3, r4, r5, r6, r7, r8, r9, r10⟩ := HBC10.out.c11
       obtain ⟨rf0, rf1, rf2, rf3, rf4, rf5, rf6, rf7, rf8, rf9, rf10⟩ := HBC10.out.f11
       have hcl := HBC10.out.lt
       obtain ⟨e0, e1, e2, e3, e4, e5, e6, e7, e8, e9, e10⟩ := HBJ10.out.c11
       go_wp2_with fail
       refine HKX.fin ?_
       refine bodyPost_ret (v := .tuple #[.agg #[.string U, .int .i64 v, .int .i64 (q.1 : Int), .int .i64 (q.2.1 : Int), .int .i64 (q.2.2 : Int), .int .i64 y0, .string y1, .string y2, .int .i64 y3, .slice yd yl yc, .slice a4 l.length cp4], .int .i64 0]) (by simp [results, Tryz.results11, go_sem, cell_set, r0, r1, r2, r3, r4, r5, r6, r7, r8, r9, r10, hcl]) rfl ?_
       show JobRdQ w O 3 _ (puts W11 C 0 [.string U, .int .i64 v, .int .i64 (q.1 : Int), .int .i64 (q.2.1 : Int), .int .i64 (q.2.2 : Int), .int .i64 y0, .string y1, .string y2, .int .i64 y3, .slice yd yl yc, .slice a4 l.length cp4])
       rw [HP.out]
       refine ⟨puts_below C (Nat.le_of_eq HC.out.symm) _ _ _ HB10.out, _, rfl, y0, y1, y2, y3, yd, yl, yc, a4, cp4, ?_, HPX.out _ (by rw [puts_size]; exact HSR2.out.but.size) (fun b h => ?_) (puts_own (Nat.lt_of_lt_of_le HCJ.out HSR2.out.lo) _ _ _ HSR2.out.own), HPN.out _ (by rw [puts_size]; exact HSR2.out.but.size) (fun b h => ?_), fun A hA => Nat.le_trans HWW8.out (Nat.le_trans HSR2.out.lo (HSR2.out.own.lt A.block (by rw [hA]; rfl)).1)⟩
       ·rw [HJE.out]; simp only; rw [HUU.out]; rfl
       ·rw [puts_heap C h.2.1]
        exact HSR2.out.but.block b h.2.2 h.1
       ·rw [puts_heap C h.2.1]
        exact HSR2.out.but.block b h.2.2 h.1
     ·have hz : (F == 0) = false := by simpa using h0
      have hz2 : (F != 0) = true := by simpa using h0
      have HP : Hid (O = none) := hid (by rw [HOJ.out]; exact if_neg (fun h => h0 (HF.out.symm.trans h.1)))
      clear h0
      go_upto_region 22 with fail
      have HKX := KR.of (P := Tryz.prog) (by assumption)
      go_light
      obtain ⟨r0, r1, r2, r3, r4, r5, r6, r7, r8, r9, r10⟩ := HBC10.out.c11
      obtain ⟨rf0, rf1, rf2, rf3, rf4, rf5, rf6, rf7, rf8, rf9, rf10⟩ := HBC10.out.f11
      have hcl := HBC10.out.lt
      go_wp2_with fail
      refine HKX.fin ?_
      refine bodyPost_ret (v := .tuple #[.agg #[.string ⟨#[]⟩, .int .i64 0, .int .i64 0, .int .i64 0, .int .i64 0, .int .i64 0, .string ⟨#[]⟩, .string ⟨#[]⟩, .int .i64 0, .slice none 0 0, .slice none 0 0], .int .i64 3]) (by simp [results, Tryz.results11, go_sem, cell_set, r0, r1, r2, r3, r4, r5, r6, r7, r8, r9, r10, hcl]) rfl ?_
      show JobRdQ w O 3 _ (puts W10 C 0 [.string ⟨#[]⟩, .int .i64 0, .int .i64 0, .int .i64 0, .int .i64 0, .int .i64 0, .string ⟨#[]⟩, .string ⟨#[]⟩, .int .i64 0, .slice none 0 0, .slice none 0 0])
      rw [HP.out]
      exact ⟨puts_below C (Nat.le_of_eq HC.out.symm) _ _ _ HB10.out, rfl⟩
   ·have hpn : own (parse5 Nt.intOf askL u p n f x) s = none := by unfold parse5; rw [h1, h2, h3]; rfl
    clear h1 h2 h3
    have HP : Hid (O = none) := hid (by rw [← HO.out, hpn])
    clear hpn
    go_upto_region 11 with fail
    have HKX := KR.of (P := Tryz.prog) (by assumption)
    go_light
    obtain ⟨r0, r1, r2, r3, r4, r5, r6, r7, r8, r9, r10⟩ := HBC8.out.c11
    obtain ⟨rf0, rf1, rf2, rf3, rf4, rf5, rf6, rf7, rf8, rf9, rf10⟩ := HBC8.out.f11
    have hcl := HBC8.out.lt
    go_wp2_with fail
    refine HKX.fin ?_
    refine bodyPost_ret (v := .tuple #[.agg #[.string ⟨#[]⟩, .int .i64 0, .int .i64 0, .int .i64 0, .int .i64 0, .int .i64 0, .string ⟨#[]⟩, .string ⟨#[]⟩, .int .i64 0, .slice none 0 0, .slice none 0 0], .int .i64 3]) (by simp [results, Tryz.results11, go_sem, cell_set, r0, r1, r2, r3, r4, r5, r6, r7, r8, r9, r10, hcl]) rfl ?_
    show JobRdQ w O 3 _ (puts W8 C 0 [.string ⟨#[]⟩, .int .i64 0, .int .i64 0, .int .i64 0, .int .i64 0, .int .i64 0, .string ⟨#[]⟩, .string ⟨#[]⟩, .int .i64 0, .slice none 0 0, .slice none 0 0])
    rw [HP.out]
    exact ⟨puts_below C (Nat.le_of_eq HC.out.symm) _ _ _ HB8.out, rfl⟩
  ·have hpn : own (parse5 Nt.intOf askL u p n f x) s = none := by unfold parse5; rw [h1, h2]; rfl
   have hc1 : (code == 0) = false := by simpa using hcn
   have hc2 : (code != 0) = true := by simpa using hcn
   clear h1 h2 hcn
   have HP : Hid (O = none) := hid (by rw [← HO.out, hpn])
   clear hpn
   go_upto_region 11 with fail
   have HKX := KR.of (P := Tryz.prog) (by assumption)
   go_light
   obtain ⟨r0, r1, r2, r3, r4, r5, r6, r7, r8, r9, r10⟩ := HBC8.out.c11
   obtain ⟨rf0, rf1, rf2, rf3, rf4, rf5, rf6, rf7, rf8, rf9, rf10⟩ := HBC8.out.f11
   have hcl := HBC8.out.lt
   go_wp2_with fail
   refine HKX.fin ?_
   refine bodyPost_ret (v := .tuple #[.agg #[.string ⟨#[]⟩, .int .i64 0, .int .i64 0, .int .i64 0, .int .i64 0, .int .i64 0, .string ⟨#[]⟩, .string ⟨#[]⟩, .int .i64 0, .slice none 0 0, .slice none 0 0], .int .i64 3]) (by simp [results, Tryz.results11, go_sem, cell_set, r0, r1, r2, r3, r4, r5, r6, r7, r8, r9, r10, hcl]) rfl ?_
   show JobRdQ w O 3 _ (puts W8 C 0 [.string ⟨#[]⟩, .int .i64 0, .int .i64 0, .int .i64 0, .int .i64 0, .int .i64 0, .string ⟨#[]⟩, .string ⟨#[]⟩, .int .i64 0, .slice none 0 0, .slice none 0 0])
   rw [HP.out]
   exact ⟨puts_below C (Nat.le_of_eq HC.out.symm) _ _ _ HB8.out, rfl⟩
 ·have hpn : own (parse5 Nt.intOf askL u p n f x) s = none := by unfold parse5; rw [h1]; rfl
  clear h1
  have HP : Hid (O = none) := hid (by rw [← HO.out, hpn])
  clear hpn
  go_upto_region 11 with fail
  have HKX := KR.of (P := Tryz.prog) (by assumption)
  go_light
  obtain ⟨r0, r1, r2, r3, r4, r5, r6, r7, r8, r9, r10⟩ := HBC8.out.c11
  obtain ⟨rf0, rf1, rf2, rf3, rf4, rf5, rf6, rf7, rf8, rf9, rf10⟩ := HBC8.out.f11
  have hcl := HBC8.out.lt
  go_wp2_with fail
  refine HKX.fin ?_
  refine bodyPost_ret (v := .tuple #[.agg #[.string ⟨#[]⟩, .int .i64 0, .int .i64 0, .int .i64 0, .int .i64 0, .int .i64 0, .string ⟨#[]⟩, .string ⟨#[]⟩, .int .i64 0, .slice none 0 0, .slice none 0 0], .int .i64 3]) (by simp [results, Tryz.results11, go_sem, cell_set, r0, r1, r2, r3, r4, r5, r6, r7, r8, r9, r10, hcl]) rfl ?_
  show JobRdQ w O 3 _ (puts W8 C 0 [.string ⟨#[]⟩, .int .i64 0, .int .i64 0, .int .i64 0, .int .i64 0, .int .i64 0, .string ⟨#[]⟩, .string ⟨#[]⟩, .int .i64 0, .slice none 0 0, .slice none 0 0])
  rw [HP.out]
  exact ⟨puts_below C (Nat.le_of_eq HC.out.symm) _ _ _ HB8.out, rfl⟩
theorem jobReadR_long (s : Bs) (w : World) (hs : 3000 < s.length) : Calls Tryz.prog 11 #[.string (bts s)] w (JobRdQ w none 2) := by
 obtain ⟨S, hS⟩ : ∃ S, bts s = S := ⟨_, rfl⟩
 obtain ⟨n, hn⟩ : ∃ n, S.size = n := ⟨_, rfl⟩
 have hns : s.length = n := by rw [← hn, ← hS, bts_size]
 obtain ⟨C, hC⟩ : ∃ C, C = w.heap.size := ⟨_, rfl⟩
 obtain ⟨W0, hW0⟩ : ∃ W, W = w.alloc (.cells #[.string ⟨#[]⟩, .int .i64 0, .int .i64 0, .int .i64 0, .int .i64 0, .int .i64 0, .string ⟨#[]⟩, .string ⟨#[]⟩, .int .i64 0, .slice none 0 0, .slice none 0 0] 29) := ⟨_, rfl⟩
 have HB0 : Hid (Below w.heap.size w W0) := hid (be0 hW0)
 have HBC0 : Hid (BoxV C zcells W0) := hid (by rw [hW0]; exact BoxV.top zcells hC)
 have HC : Hid (C = w.heap.size) := hid hC
 have hn3 : (3000 : Int) < (n : Int) := by omega
 obtain ⟨O, hO⟩ : ∃ O : Option Jb, O = none := ⟨_, rfl⟩
 have HP := hid hO
 rw [← hO, hS]
 clear hS hs hns hO
 go_enter Tryz.func11, Tryz.ntmps11
 go_upto_region 1 with fail
 rw [← hW0, ← hC]
 clear hW0 hC
 obtain ⟨r0, r1, r2, r3, r4, r5, r6, r7, r8, r9, r10⟩ := HBC0.out.c11
 obtain ⟨rf0, rf1, rf2, rf3, rf4, rf5, rf6, rf7, rf8, rf9, rf10⟩ := HBC0.out.f11
 have hcl := HBC0.out.lt
 go_wp2_with fail
 refine bodyPost_ret (v := .tuple #[.agg #[.string ⟨#[]⟩, .int .i64 0, .int .i64 0, .int .i64 0, .int .i64 0, .int .i64 0, .string ⟨#[]⟩, .string ⟨#[]⟩, .int .i64 0, .slice none 0 0, .slice none 0 0], .int .i64 2]) (by simp [results, Tryz.results11, go_sem, cell_set, r0, r1, r2, r3, r4, r5, r6, r7, r8, r9, r10, hcl]) rfl ?_
 show JobRdQ w O 2 _ (puts W0 C 0 [.string ⟨#[]⟩, .int .i64 0, .int .i64 0, .int .i64 0, .int .i64 0, .int .i64 0, .string ⟨#[]⟩, .string ⟨#[]⟩, .int .i64 0, .slice none 0 0, .slice none 0 0])
 rw [HP.out]
 exact ⟨puts_below C (Nat.le_of_eq HC.out.symm) _ _ _ HB0.out, rfl⟩
theorem jobReadR_few (s : Bs) (w : World) (hs : s.length ≤ 3000) (h5 : (Nt.pcs 32 s).length ≠ 5) : Calls Tryz.prog 11 #[.string (bts s)] w (JobRdQ w none 3) := by
 obtain ⟨S, hS⟩ : ∃ S, bts s = S := ⟨_, rfl⟩
 obtain ⟨n, hn⟩ : ∃ n, S.size = n := ⟨_, rfl⟩
 have hns : s.length = n := by rw [← hn, ← hS, bts_size]
 obtain ⟨C, hC⟩ : ∃ C, C = w.heap.size := ⟨_, rfl⟩
 obtain ⟨W0, hW0⟩ : ∃ W, W = w.alloc (.cells #[.string ⟨#[]⟩, .int .i64 0, .int .i64 0, .int .i64 0, .int .i64 0, .int .i64 0, .string ⟨#[]⟩, .string ⟨#[]⟩, .int .i64 0, .slice none 0 0, .slice none 0 0] 29) := ⟨_, rfl⟩
 have HB0 : Hid (Below w.heap.size w W0) := hid (be0 hW0)
 have HBC0 : Hid (BoxV C zcells W0) := hid (by rw [hW0]; exact BoxV.top zcells hC)
 have HC : Hid (C = w.heap.size) := hid hC
 have hn3 : ¬ (3000 : Int) < (n : Int) := by omega
 obtain ⟨P, hP⟩ : ∃ P, Nt.pcs 32 s = P := ⟨_, rfl⟩
 rw [hP] at h5
 obtain ⟨m, hm⟩ : ∃ m, P.length = m := ⟨_, rfl⟩
 have hm5 : ¬ (m : Int) = 5 := by omega
 have hm51 : ((m : Int) == 5) = false := by simpa using hm5
 have hm52 : ((m : Int) != 5) = true := by simpa using hm5
 have HSP : Hid (Calls Tryz.prog 44 #[.string S, .int .u8 32] W0 fun e w' => ∃ G cp, e = .returned (.slice (some ⟨G, 0, none⟩) m cp) ∧ Below W0.heap.size W0 w') := hid (by
  have h := pieces_b s 32 32 (by decide) W0 (by omega)
  rw [hS, hP, hm] at h
  refine Calls.mono h ?_
  rintro e w' ⟨G, cp, h1, h2, h3, h4, h5⟩
  exact ⟨G, cp, h1, h5⟩)
 obtain ⟨O, hO⟩ : ∃ O : Option Jb, O = none := ⟨_, rfl⟩
 have HP := hid hO
 rw [← hO, hS]
 clear hS hs hns hO hP h5 hm
 go_enter Tryz.func11, Tryz.ntmps11
 go_upto_region 1 with fail
 rw [← hW0, ← hC]
 clear hW0 hC
 go_wp2_with fail
 refine Calls.mono HSP.out ?_
 rintro e W1 ⟨G, cp, rfl, hb1⟩
 have HB1 := hid (HB0.out.trans (hb1.mono HB0.out.size))
 have HBC1 := hid (HBC0.out.step hb1)
 clear hb1
 obtain ⟨r0, r1, r2, r3, r4, r5, r6, r7, r8, r9, r10⟩ := HBC1.out.c11
 obtain ⟨rf0, rf1, rf2, rf3, rf4, rf5, rf6, rf7, rf8, rf9, rf10⟩ := HBC1.out.f11
 have hcl := HBC1.out.lt
 go_wp2_with fail
 refine bodyPost_ret (v := .tuple #[.agg #[.string ⟨#[]⟩, .int .i64 0, .int .i64 0, .int .i64 0, .int .i64 0, .int .i64 0, .string ⟨#[]⟩, .string ⟨#[]⟩, .int .i64 0, .slice none 0 0, .slice none 0 0], .int .i64 3]) (by simp [results, Tryz.results11, go_sem, cell_set, r0, r1, r2, r3, r4, r5, r6, r7, r8, r9, r10, hcl]) rfl ?_
 show JobRdQ w O 3 _ (puts W1 C 0 [.string ⟨#[]⟩, .int .i64 0, .int .i64 0, .int .i64 0, .int .i64 0, .int .i64 0, .string ⟨#[]⟩, .string ⟨#[]⟩, .int .i64 0, .slice none 0 0, .slice none 0 0])
 rw [HP.out]
 exact ⟨puts_below C (Nat.le_of_eq HC.out.symm) _ _ _ HB1.out, rfl⟩
end Go.Proofs.YtkemlckmfgacdaaGreatDoor
