/- Contracts: the gaps; the document's; are rows of slots the same? -/
import Derived.Test.YtfjoakhcgpckgaaBookTime
namespace Go.Proofs.Ytfjoakhcgpckgaa
open Go.ChangeShapes Go.WideShapes Go.ChangeAt Go.RowKit
set_option linter.unusedVariables false
open Bk
set_option maxRecDepth 20000 in
set_option maxHeartbeats 4000000 in
theorem rGaps_any (size nd : Int) (L : List Sl) (a : Option Addr) (n cap : Nat) (w : World) (hn : n = L.length) (hl : n ≤ 100) (hS : Sane L) (hL : Slots w a L) (h1 : 1 ≤ size) (h2 : size ≤ 1099511627776) :
    Calls Try.prog 89 #[.int .i64 size, .slice a n cap, .int .i64 nd] w fun e w' => ∃ ga m gc, e = .returned (.slice ga m gc) ∧ m = (gapsOf size nd L).length ∧ m ≤ 204 ∧ Vals w' ga (slc (gapsOf size nd L)) ∧ Below w.heap.size w w' := by
  have HN := Lib.hid hn
  have HS := Lib.hid hS
  have HL := Lib.hid hL
  obtain ⟨B, hB⟩ : ∃ B, B = w.heap.size := ⟨_, rfl⟩
  have HBB := Lib.hid hB
  obtain ⟨K, hK⟩ : ∃ K, K = (pts L).length - 1 := ⟨_, rfl⟩
  have hK2 : K ≤ 203 := by have := pts_length L; omega
  have HK := Lib.hid hK
  have HG0 : Hid (GapS B (gapsTo size nd L (pts L) 0) (.slice none 0 0) w w) := Lib.hid ⟨World.ownsRow_nil _ _ _ _, Below.refl _ _⟩
  have HP0 : Hid ((pts L)[0]? = some 0) := Lib.hid ((pts_ok L).first hS)
  clear hB hK hn hS hL
  go_enter Try.func89, Try.ntmps89
  go_wp2_with fail
  go_loopg [7, 8] K (fun gk u v wr => ∃ (i : Nat) (p : Int), i + gk = K ∧ v = .int .i64 p ∧ Hid ((pts L)[i]? = some p) ∧ Hid (GapS B (gapsTo size nd L (pts L) i) u w wr))
  case atStart => exact ⟨0, 0, by omega, rfl, HP0, HG0⟩
  case round =>
    clear HG0 HP0
    obtain ⟨i, p, hi, rfl, HP, HG⟩ := hrel
    have hpr := (pts_ok L).range HS.out (List.mem_of_getElem? HP.out)
    by_cases hik : p < 1000000
    · have hiK : i < K := by
        have h3 := (List.getElem?_eq_some_iff.1 HP.out).1
        have h4 := HK.out
        refine Decidable.byContradiction fun hc => ?_
        have h5 := (pts_ok L).last HS.out
        have h6 : i = (pts L).length - 1 := by omega
        have h7 := HP.out
        rw [h6, h5] at h7
        cases h7
        omega
      have HE0 := Lib.hid (EndS.zero (pts_ok L) hik)
      have HGS := Lib.hid (fun q h => gapsTo_succ (size := size) (n := nd) (L := L) (P := pts L) (i := i) (p := p) (q := q) h)
      have hgl := gapsTo_length size nd L (pts L) i
      obtain ⟨G, hG⟩ : ∃ G, gapsTo size nd L (pts L) i = G := ⟨_, rfl⟩
      rw [hG] at HGS HG hgl
      clear hG
      obtain ⟨gq', rfl⟩ : ∃ q, q = gk := ⟨_, rfl⟩
      go_wp2_with fail
      go_loopg [9, 18] n (fun q x y wx => ∃ (j : Nat) (e : Int), j + q = n ∧ y = .int .i64 (j : Int) ∧ x = .int .i64 e ∧ Hid (EndS L (pts L) p j e) ∧ Hid (GapS B G u7 w wx))
      case atStart => exact ⟨0, 1000000, by omega, rfl, rfl, HE0, HG⟩
      case round =>
        clear HE0 HG
        obtain ⟨j, e, hj, rfl, rfl, HE, HG⟩ := hrel
        have hszr : B ≤ wr.heap.size := by have := HG.out.below.size; have := HBB.out; omega
        by_cases hjn : j < n
        · obtain ⟨s, hs⟩ : ∃ s, L[j]? = some s := ⟨_, List.getElem?_eq_getElem (by have := HN.out; omega)⟩
          obtain ⟨b, off, rfl, hb, hat⟩ := HL.out (by have := HN.out; omega)
          obtain ⟨q0, q1, q2⟩ := (hat.below HG.out.below (by have := HBB.out; omega)) j s hs
          have hbr : b < wr.heap.size := by have := HBB.out; omega
          have HQ := Lib.hid (HE.out.succ (pts_ok L) hs)
          have hj1 : (0 : Int) ≤ (j : Int) := by omega
          have hj2 : (j : Int) < (n : Int) := by omega
          clear hat hs
          go_upto_region 8 with fail
          obtain ⟨W2, hW2⟩ : ∃ W, W = wr.alloc (.cells #[.int .i64 s.fr, .int .i64 s.to, .int .i64 s.n] 130) := ⟨_, rfl⟩
          rw [← hW2]
          obtain ⟨c, hc⟩ : ∃ c, c = wr.heap.size := ⟨_, rfl⟩
          have d0 : W2.cell? ⟨c, 0, none⟩ = some (.int .i64 s.fr) := by rw [hW2, hc]; simp
          have d1 : W2.cell? ⟨c, 1, none⟩ = some (.int .i64 s.to) := by rw [hW2, hc]; simp
          have l0 : c < W2.heap.size := by rw [hW2, hc]; simp
          have HB4 : Hid (Below wr.heap.size wr W2) := Lib.hid (by rw [hW2]; exact (Below.refl _ _).alloc (Nat.le_refl _) _)
          have HGW := Lib.hid (HG.out.step HB4.out hszr)
          rw [← hc]
          clear hW2 hc q0 q1 q2
          by_cases h1 : p < s.fr
          · rw [show lower p e s.fr = min e s.fr from if_pos h1] at HQ
            by_cases h2 : p < s.to
            · rw [show lower p (min e s.fr) s.to = min (min e s.fr) s.to from if_pos h2, show min (min e s.fr) s.to = min e (min s.fr s.to) from by omega] at HQ
              go_wp2_with fail
              go_roundg (n - (j + 1))
              case measure => omega
              case rel => exact ⟨j + 1, _, by omega, by simp, rfl, HQ, HGW⟩
            · rw [show lower p (min e s.fr) s.to = min e s.fr from if_neg h2] at HQ
              go_wp2_with fail
              go_roundg (n - (j + 1))
              case measure => omega
              case rel => exact ⟨j + 1, _, by omega, by simp, rfl, HQ, HGW⟩
          · rw [show lower p e s.fr = e from if_neg h1] at HQ
            by_cases h2 : p < s.to
            · rw [show lower p e s.to = min e s.to from if_pos h2] at HQ
              go_wp2_with fail
              go_roundg (n - (j + 1))
              case measure => omega
              case rel => exact ⟨j + 1, _, by omega, by simp, rfl, HQ, HGW⟩
            · rw [show lower p e s.to = e from if_neg h2] at HQ
              go_wp2_with fail
              go_roundg (n - (j + 1))
              case measure => omega
              case rel => exact ⟨j + 1, _, by omega, by simp, rfl, HQ, HGW⟩
        · obtain rfl : j = n := by omega
          have HX : Hid (NextP (pts L) i p e) := Lib.hid ((HN.out ▸ HE.out).done (pts_ok L) HS.out HP.out)
          have HSUC := Lib.hid (HGS.out e HX.out)
          have HC := Lib.hid (rBooked_any L p a j cap wr HN.out (by omega) HS.out (HL.out.below HG.out.below (by have := HBB.out; omega)))
          obtain ⟨v, hv⟩ : ∃ v, bk L p = v := ⟨_, rfl⟩
          have hvb := bk_small' HS.out (by have := HN.out; omega) p
          rw [hv] at HSUC HC hvb
          have hwf : IntKind.i64.wrap (size - v) = size - v := IntWalk.i64_in _ (by omega)
          clear hv
          go_upto_region 14 with (go_at_call 165; refine Calls.mono HC.out ?_; rintro e' W3 ⟨rfl, h1⟩; have HGW := Lib.hid (HG.out.step h1 hszr); have hszw : B ≤ W3.heap.size := Nat.le_trans hszr h1.size; clear h1)
          obtain ⟨ga, gc, hu, hgc1, hgc2, hgf⟩ := ownForm HGW.out.own
          rcases last_cases G with rfl | ⟨o, g', rfl⟩
          · have hu' : u7 = .slice ga 0 gc := hu
            subst hu'
            by_cases hfree : size - v < nd
            · have HQ : Hid (GapS B (gapsTo size nd L (pts L) (i + 1)) (.slice ga 0 gc) w W3) := Lib.hid (by rw [HSUC.out, addG_skip hfree]; exact HGW.out)
              have hfr : ¬ nd ≤ size - v := by omega
              go_wp2_with fail
              go_roundg (K - (i + 1))
              case measure => omega
              case rel => exact ⟨i + 1, e, by omega, rfl, Lib.hid HX.out.two, HQ⟩
            · have HAD : Hid (gapsTo size nd L (pts L) (i + 1) = [⟨p, e, size - v⟩]) := Lib.hid (by rw [HSUC.out, addG_new hfree (fun g hg => by cases hg)]; rfl)
              have hfr : nd ≤ size - v := by omega
              go_wp2_with (at_builtin; go_loud (refine wpList_pushN W3 (by rfl) _ _ 128 (by rfl) B 130 (.agg #[.int .i64 0, .int .i64 0, .int .i64 0]) 3 24 Try.underlying128 infoSlot (by rfl) (by decide) (.slice ga 0 gc) 0 [] [.int .i64 p, .int .i64 e, .int .i64 (size - v)] _ rfl (by rfl) HGW.out.own (by rfl) (by rfl) (by intro u hu; simp at hu; rcases hu with rfl | rfl | rfl <;> rfl) (by unfold maxLen; omega) (by omega) hszw ?_; intro gg cap3 w5 hown hgrow hgb hgl2; have HW5 : Hid (GapS B (gapsTo size nd L (pts L) (i + 1)) (.slice (some ⟨gg, 0, none⟩) (0 + 1) cap3) w w5) := Lib.hid (by rw [HAD.out]; exact HGW.out.pushed (s := ⟨p, e, size - v⟩) hszw hown hgrow); clear hown hgrow hgb))
              go_roundg (K - (i + 1))
              case measure => omega
              case rel => exact ⟨i + 1, e, by omega, rfl, Lib.hid HX.out.two, HW5⟩
          · obtain ⟨r, hr⟩ : ∃ r, o.length = r := ⟨_, rfl⟩
            have hlr : (o ++ [g']).length = r + 1 := by simp [hr]
            rw [hlr] at hu hgl hgc1 hgf
            obtain ⟨gb, rfl⟩ := hgf (by omega)
            subst hu
            have HR := Lib.hid hr
            have HLR := Lib.hid hlr
            have hwr : IntKind.i64.wrap (((r + 1 : Nat) : Int) - 1) = (r : Int) := by rw [IntWalk.i64_in _ (by omega)]; omega
            obtain ⟨s0, s1, s2⟩ := slc_at (L := o ++ [g']) (i := r) (s := g') (by rw [← hr]; simp)
            have hown := HGW.out.own
            rw [hlr] at hown
            have c1 : W3.cell? ⟨gb, r * 3 + 1, none⟩ = some (.int .i64 g'.to) := by rw [hown.cellAt _ (by omega)]; exact s1
            have c2 : W3.cell? ⟨gb, r * 3 + 2, none⟩ = some (.int .i64 g'.n) := by rw [hown.cellAt _ (by omega)]; exact s2
            have f1 := hown.frozenAt (r * 3 + 1)
            have f2 := hown.frozenAt (r * 3 + 2)
            have lgb := (hown.lt gb rfl).2
            have hr1 : (0 : Int) ≤ (r : Int) := by omega
            have hr2 : (r : Int) < ((r + 1 : Nat) : Int) := by omega
            clear hr hlr s0 s1 s2 hown
            by_cases hfree : size - v < nd
            · have HQ : Hid (GapS B (gapsTo size nd L (pts L) (i + 1)) (.slice (some ⟨gb, 0, none⟩) (r + 1) gc) w W3) := Lib.hid (by rw [HSUC.out, addG_skip hfree]; exact HGW.out)
              have hfr : ¬ nd ≤ size - v := by omega
              go_wp2_with fail
              go_roundg (K - (i + 1))
              case measure => omega
              case rel => exact ⟨i + 1, e, by omega, rfl, Lib.hid HX.out.two, HQ⟩
            · have hfr : nd ≤ size - v := by omega
              by_cases hto : g'.to = p
              · have HAD : Hid (gapsTo size nd L (pts L) (i + 1) = o ++ [⟨g'.fr, e, min g'.n (size - v)⟩]) := Lib.hid (by rw [HSUC.out, addG_merge hfree hto])
                rw [hto] at c1
                clear hto
                have HW5 : Hid (GapS B (gapsTo size nd L (pts L) (i + 1)) (.slice (some ⟨gb, 0, none⟩) (r + 1) gc) w ((W3.setCell ⟨gb, r * 3 + 1, none⟩ (.int .i64 e)).setCell ⟨gb, r * 3 + 2, none⟩ (.int .i64 (min g'.n (size - v))))) := Lib.hid (by rw [HAD.out]; exact HGW.out.merge HR.out)
                go_wp2_with fail
                go_roundg (K - (i + 1))
                case measure => omega
                case rel => exact ⟨i + 1, e, by omega, rfl, Lib.hid HX.out.two, HW5⟩
              · have HAD : Hid (gapsTo size nd L (pts L) (i + 1) = (o ++ [g']) ++ [⟨p, e, size - v⟩]) := Lib.hid (by rw [HSUC.out, addG_new hfree (fun g hg => by simp at hg; subst hg; exact hto)])
                have hto2 : (g'.to == p) = false := by simpa using hto
                have HO9 := Lib.hid HGW.out.own
                rw [HLR.out] at HO9
                go_wp2_with (at_builtin; go_loud (refine wpList_pushN W3 (by rfl) _ _ 128 (by rfl) B 130 (.agg #[.int .i64 0, .int .i64 0, .int .i64 0]) 3 24 Try.underlying128 infoSlot (by rfl) (by decide) (.slice (some ⟨gb, 0, none⟩) (r + 1) gc) (r + 1) (slc (o ++ [g'])) [.int .i64 p, .int .i64 e, .int .i64 (size - v)] _ rfl (by rfl) HO9.out (by rfl) (by rfl) (by intro u hu; simp at hu; rcases hu with rfl | rfl | rfl <;> rfl) (by unfold maxLen; omega) (by omega) hszw ?_; intro gg cap3 w5 hown hgrow hgb hgl2; have HW5 : Hid (GapS B (gapsTo size nd L (pts L) (i + 1)) (.slice (some ⟨gg, 0, none⟩) (r + 1 + 1) cap3) w w5) := Lib.hid (by rw [HAD.out, ← HLR.out]; exact HGW.out.pushed (s := ⟨p, e, size - v⟩) hszw (by rw [HLR.out]; exact hown) hgrow); clear hown hgrow hgb))
                go_roundg (K - (i + 1))
                case measure => omega
                case rel => exact ⟨i + 1, e, by omega, rfl, Lib.hid HX.out.two, HW5⟩
    · obtain rfl : p = 1000000 := by omega
      have hiK : i = K := by rw [HK.out]; exact (pts_ok L).end' HS.out HP.out
      have HGO : Hid (gapsTo size nd L (pts L) i = gapsOf size nd L) := Lib.hid (by unfold gapsOf; rw [← HK.out, hiK])
      rw [HGO.out] at HG
      obtain ⟨ga, gc, hu, _, _, _⟩ := ownForm HG.out.own
      have hgl := gapsTo_length size nd L (pts L) i
      rw [HGO.out] at hgl
      have HV : Hid (Vals wr ga (slc (gapsOf size nd L))) := Lib.hid (by
        obtain ⟨ga', gc', hu2, hv⟩ := IsRow.own (by decide) HG.out.own
        rw [hu2] at hu
        cases hu
        exact hv)
      have HBE : Hid (Below w.heap.size w wr) := Lib.hid (by rw [← HBB.out]; exact HG.out.below)
      obtain ⟨m, hm⟩ : ∃ m, m = (gapsOf size nd L).length := ⟨_, rfl⟩
      rw [← hm] at hu hgl
      subst hu
      have HM := Lib.hid hm
      clear hm HG
      go_wp2_with fail
      go_ret
      exact ⟨ga, m, ⟨gc, rfl⟩, HM.out, by omega, HV.out, HBE.out⟩
set_option maxHeartbeats 1600000 in
theorem rSame_any (G : List Sl) (a1 a2 : Option Addr) (n c1 c2 : Nat) (w : World) (hn : n = G.length) (hl : n ≤ 1000) (hA : Slots w a1 G) (hB : Slots w a2 G) :
    Calls Try.prog 88 #[.slice a1 n c1, .slice a2 n c2] w fun e w' => e = .returned (.bool true) ∧ Below w.heap.size w w' := by
  have HN := Lib.hid hn
  have HA := Lib.hid hA
  have HB := Lib.hid hB
  have hnb : ((n : Int) != n) = false := by simp
  clear hn hA hB
  go_enter Try.func88, Try.ntmps88
  go_wp2_with fail
  go_loopw [13] (fun x wr => ∃ i : Nat, i ≤ n ∧ x = .int .i64 i ∧ Below w.heap.size w wr) (fun x _ => n - (intOf x).toNat)
  case atStart => exact ⟨0, by omega, rfl, Below.refl _ _⟩
  case round =>
    obtain ⟨i, hi, rfl, hW⟩ := hrel
    by_cases hin : i < n
    · obtain ⟨s, hs⟩ : ∃ p, G[i]? = some p := ⟨_, List.getElem?_eq_getElem (by have := HN.out; omega)⟩
      obtain ⟨b1, o1, rfl, hb1, ht1⟩ := HA.out (by have := HN.out; omega)
      obtain ⟨b2, o2, rfl, hb2, ht2⟩ := HB.out (by have := HN.out; omega)
      obtain ⟨p0, p1, p2⟩ := (ht1.below hW hb1) i s hs
      obtain ⟨q0, q1, q2⟩ := (ht2.below hW hb2) i s hs
      have hi1 : (0 : Int) ≤ (i : Int) := by omega
      have hi2 : (i : Int) < (n : Int) := by omega
      have l1 : b1 < wr.heap.size := Nat.lt_of_lt_of_le hb1 hW.size
      have l2 : b2 < wr.heap.size := Nat.lt_of_lt_of_le hb2 hW.size
      clear ht1 ht2 hs
      go_wp2_with fail
      go_quiet (fail)
      go_wp2_with fail
      go_roundw
      case rel => exact ⟨i + 1, by omega, rfl, by refine below_drewN ?_ _; exact hW⟩
      case measure => simp [intOf]; omega
    · go_wp2_with fail
      go_ret
      exact ⟨rfl, hW⟩
end Go.Proofs.Ytfjoakhcgpckgaa
