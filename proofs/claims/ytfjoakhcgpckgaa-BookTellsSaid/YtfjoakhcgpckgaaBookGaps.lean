/- Contracts: the gaps; the program's. -/
import Derived.Test.YtfjoakhcgpckgaaBookMost
import Derived.Test.YtfjoakhcgpckgaaBookG
namespace Go.Proofs.Ytfjoakhcgpckgaa
open Go.ChangeShapes Go.WideShapes Go.ChangeAt Go.RowKit
set_option linter.unusedVariables false
open Bk
theorem ownForm {w : World} {base n size : Nat} {e : TypeId} {v : Value} {xs : List Value} (h : w.ownsRow base e size v n xs) : ∃ a cp, v = .slice a n cp ∧ n ≤ cp ∧ cp ≤ 9223372036854775807 ∧ (0 < n → ∃ g, a = some ⟨g, 0, none⟩) := by
  have hml : maxLen = 9223372036854775807 := rfl
  rcases h.2 with ⟨rfl, rfl⟩ | ⟨g, cap, cur, rfl, _, _, h1, h2, _, _⟩
  · exact ⟨none, 0, rfl, Nat.le_refl _, by omega, fun h => absurd h (by omega)⟩
  · exact ⟨some ⟨g, 0, none⟩, cap, rfl, h1, by omega, fun _ => ⟨g, rfl⟩⟩
structure GapS (B : Nat) (G : List Sl) (x : Value) (w wr : World) : Prop where
  own : wr.ownsRow B 130 3 x G.length (slc G)
  below : Below B w wr
theorem GapS.step {B : Nat} {G : List Sl} {x : Value} {w wr wx : World} (h : GapS B G x w wr) (hb : Below wr.heap.size wr wx) (hB : B ≤ wr.heap.size) : GapS B G x w wx := ⟨ownsRow_below h.own hb, h.below.trans (hb.mono hB)⟩
theorem GapS.drewN {B : Nat} {G : List Sl} {x : Value} {w wr : World} (h : GapS B G x w wr) (q : Nat) : GapS B G x w (wr.drewN q) := ⟨ownsRow_below h.own (below_drewN (Below.refl _ _) q), below_drewN h.below q⟩
theorem GapS.pushed {B gb cp : Nat} {G : List Sl} {x : Value} {s : Sl} {w wr wx : World} (h : GapS B G x w wr) (hB : B ≤ wr.heap.size) (ho : wx.ownsRow B 130 3 (.slice (some ⟨gb, 0, none⟩) (G.length + 1) cp) (G.length + 1) (slc G ++ [.int .i64 s.fr, .int .i64 s.to, .int .i64 s.n])) (hg : wr.grownBy wx x.ownBlock) : GapS B (G ++ [s]) (.slice (some ⟨gb, 0, none⟩) (G.length + 1) cp) w wx := by
  refine ⟨?_, h.below.grown hg hB (ownBlock_ge h.own (Nat.le_refl _))⟩
  rw [List.length_append, slc_append]
  exact ho
theorem slc_merge (o : List Sl) (g : Sl) (r : Nat) (hr : o.length = r) (q f : Int) : ((slc (o ++ [g])).set (r * 3 + 1) (.int .i64 q)).set (r * 3 + 2) (.int .i64 f) = slc (o ++ [⟨g.fr, q, f⟩]) := by
  have hl : (slc o).length = r * 3 := by rw [slc_length, hr]
  rw [slc_append, slc_append, List.set_append_right _ _ (by omega), List.set_append_right _ _ (by omega), hl]
  simp [slc]
theorem GapS.merge {B gb cp r : Nat} {o : List Sl} {g : Sl} {q f : Int} {w wr : World} (h : GapS B (o ++ [g]) (.slice (some ⟨gb, 0, none⟩) (r + 1) cp) w wr) (hr : o.length = r) : GapS B (o ++ [⟨g.fr, q, f⟩]) (.slice (some ⟨gb, 0, none⟩) (r + 1) cp) w ((wr.setCell ⟨gb, r * 3 + 1, none⟩ (.int .i64 q)).setCell ⟨gb, r * 3 + 2, none⟩ (.int .i64 f)) := by
  have hl : (o ++ [g]).length = r + 1 := by simp [hr]
  have hl2 : (o ++ [(⟨g.fr, q, f⟩ : Sl)]).length = r + 1 := by simp [hr]
  have h1 := h.own
  rw [hl] at h1
  have h2 := (h1.stored (r * 3 + 1) (.int .i64 q)).1
  have h3 := (h2.stored (r * 3 + 2) (.int .i64 f)).1
  have hb := (h1.lt gb rfl).1
  refine ⟨?_, (h.below.setCell (p := ⟨gb, _, none⟩) hb _).setCell (p := ⟨gb, _, none⟩) hb _⟩
  rw [hl2, ← slc_merge o g r hr q f]
  exact h3
theorem last_cases (G : List Sl) : G = [] ∨ ∃ o g, G = o ++ [g] := by
  rcases List.eq_nil_or_concat G with e | ⟨o, l, e⟩
  · exact .inl e
  · exact .inr ⟨o, l, by rw [e, List.concat_eq_append]⟩
set_option maxRecDepth 20000 in
set_option maxHeartbeats 4000000 in
theorem gaps_any (size nd : Int) (L : List Sl) (a : Option Addr) (n cap : Nat) (w : World) (hn : n = L.length) (hl : n ≤ 101) (hS : Sane L) (hL : Slots w a L) (h1 : 1 ≤ size) (h2 : size ≤ 1099511627776) :
    Calls Try.prog 162 #[.int .i64 size, .slice a n cap, .int .i64 nd] w fun e w' => ∃ ga m gc, e = .returned (.slice ga m gc) ∧ m = (gapsOf size nd L).length ∧ m ≤ 204 ∧ Vals w' ga (slc (gapsOf size nd L)) ∧ Below w.heap.size w w' := by
  have HN := Lib.hid hn
  have HS := Lib.hid hS
  have HL := Lib.hid hL
  clear hn hS hL
  go_enter Try.func162, Try.ntmps162
  go_upto_region 3 with (go_at_call 161; refine Calls.mono (steps_any L a n cap _ HN.out hl HS.out HL.out) ?_; rintro e w2 ⟨g, k, cp, rfl, h1, h2⟩; have HT := Lib.hid h1; have HB := Lib.hid h2; clear h1 h2)
  obtain ⟨k, rfl⟩ : ∃ m, k = m + 1 := ⟨k - 1, by have := HT.out.two; omega⟩
  have hk := HT.out.two
  have hcp := HT.out.cap
  have hw : IntKind.i64.wrap (((k + 1 : Nat) : Int) - 1) = (k : Int) := by rw [IntWalk.i64_in _ (by omega)]; omega
  have hi1 : (0 : Int) ≤ (k : Int) := by omega
  have hi2 : (k : Int) ≤ (cp : Int) := by omega
  obtain ⟨B, hB⟩ : ∃ B, B = w2.heap.size := ⟨_, rfl⟩
  have HBB := Lib.hid hB
  have HG0 : Hid (GapS B (gapsTo size nd L (pts L) 0) (.slice none 0 0) w2 w2) := Lib.hid ⟨World.ownsRow_nil _ _ _ _, Below.refl _ _⟩
  have hgB : g < B := by have := HT.out.lt; omega
  clear hB
  go_wp2_with fail
  go_loopg [7, 22] k (fun gk u v wr => ∃ (i : Nat), i + gk = k ∧ v = .int .i64 (i : Int) ∧ Hid (GapS B (gapsTo size nd L (pts L) i) u w2 wr))
  case atStart => exact ⟨0, by omega, rfl, HG0⟩
  case round =>
    clear HG0
    obtain ⟨i, hi, rfl, HG⟩ := hrel
    have hszr : B ≤ wr.heap.size := by have := HG.out.below.size; have := HBB.out; omega
    by_cases hik : i < k
    · obtain ⟨p, hp⟩ : ∃ x, (pts L)[i]? = some x := ⟨_, List.getElem?_eq_getElem (by have := HT.out.len; omega)⟩
      obtain ⟨q, hq⟩ : ∃ x, (pts L)[i + 1]? = some x := ⟨_, List.getElem?_eq_getElem (by have := HT.out.len; omega)⟩
      have HB2 : Hid (Below w2.heap.size w2 wr) := Lib.hid (by rw [← HBB.out]; exact HG.out.below)
      obtain ⟨q0, q1⟩ := (HT.out.below HB2.out).cell i p hp
      obtain ⟨q2, _⟩ := (HT.out.below HB2.out).cell (i + 1) q hq
      have lg := (HT.out.below HB2.out).lt
      obtain ⟨v, hv⟩ : ∃ v, bk L p = v := ⟨_, rfl⟩
      have hvb := bk_small' HS.out (by have := HN.out; omega) p
      rw [hv] at q1 hvb
      have HX : Hid (NextP (pts L) i p q) := Lib.hid ⟨hp, hq⟩
      have HV := Lib.hid hv
      have hq1 : (0 : Int) ≤ (i : Int) := by omega
      have hq2 : (i : Int) < (k : Int) := by omega
      have hw3 : IntKind.i64.wrap ((i : Int) + 1) = (i : Int) + 1 := IntWalk.i64_in _ (by omega)
      have hq3 : (0 : Int) ≤ (i : Int) + 1 := by omega
      have hq4 : (i : Int) + 1 < ((k + 1 : Nat) : Int) := by omega
      clear hp hq hv
      go_upto_region 6 with fail
      obtain ⟨W2, hW2⟩ : ∃ W, W = wr.alloc (.cells #[.int .i64 p, .int .i64 v] 222) := ⟨_, rfl⟩
      rw [← hW2]
      obtain ⟨c, hc⟩ : ∃ c, c = wr.heap.size := ⟨_, rfl⟩
      have d0 : W2.cell? ⟨c, 0, none⟩ = some (.int .i64 p) := by rw [hW2, hc]; simp
      have d1 : W2.cell? ⟨c, 1, none⟩ = some (.int .i64 v) := by rw [hW2, hc]; simp
      have l0 : c < W2.heap.size := by rw [hW2, hc]; simp
      have HB4 : Hid (Below wr.heap.size wr W2) := Lib.hid (by rw [hW2]; exact (Below.refl _ _).alloc (Nat.le_refl _) _)
      have e2 := (HB4.out.cell (p := ⟨g, (i + 1) * 2, none⟩) lg).trans q2
      have lg2 : g < W2.heap.size := Nat.lt_of_lt_of_le lg HB4.out.size
      have HGW := Lib.hid (HG.out.step HB4.out hszr)
      have hszw : B ≤ W2.heap.size := Nat.le_trans hszr HB4.out.size
      have hwf : IntKind.i64.wrap (size - v) = size - v := IntWalk.i64_in _ (by omega)
      have HSUC := Lib.hid (gapsTo_succ (size := size) (n := nd) (L := L) HX.out)
      rw [HV.out] at HSUC
      have hgl := gapsTo_length size nd L (pts L) i
      obtain ⟨G, hG⟩ : ∃ G, gapsTo size nd L (pts L) i = G := ⟨_, rfl⟩
      rw [hG] at HSUC HGW hgl
      rw [← hc]
      clear hW2 hc q0 q1 q2 HG hG
      go_quiet (fail)
      obtain ⟨W3, hW3⟩ : ∃ W, W = W2.drewN nq := ⟨_, rfl⟩
      rw [← hW3]
      have d0 : W3.cell? ⟨c, 0, none⟩ = some (.int .i64 p) := by rw [hW3]; exact d0
      have l0 : c < W3.heap.size := by rw [hW3]; exact l0
      have HGW : Hid (GapS B G u7 w2 W3) := Lib.hid (by rw [hW3]; exact HGW.out.drewN nq)
      have hszw : B ≤ W3.heap.size := by rw [hW3]; exact hszw
      clear hW3 hwf
      obtain ⟨ga, gc, hu, hgc1, hgc2, hgf⟩ := ownForm HGW.out.own
      rcases last_cases G with rfl | ⟨o, g', rfl⟩
      · have hu' : u7 = .slice ga 0 gc := hu
        subst hu'
        by_cases hfree : size - v < nd
        · have HQ : Hid (GapS B (gapsTo size nd L (pts L) (i + 1)) (.slice ga 0 gc) w2 W3) := Lib.hid (by rw [HSUC.out, addG_skip hfree]; exact HGW.out)
          go_wp2_with fail
          go_roundg (k - (i + 1))
          case measure => omega
          case rel => exact ⟨i + 1, by omega, by simp, HQ⟩
        · have HAD : Hid (gapsTo size nd L (pts L) (i + 1) = [⟨p, q, size - v⟩]) := Lib.hid (by rw [HSUC.out, addG_new hfree (fun g hg => by cases hg)]; rfl)
          go_wp2_with fail
          go_quiet (fail)
          obtain ⟨W4, hW4⟩ : ∃ W, W = W3.drewN nq := ⟨_, rfl⟩
          rw [← hW4]
          have d0 : W4.cell? ⟨c, 0, none⟩ = some (.int .i64 p) := by rw [hW4]; exact d0
          have l0 : c < W4.heap.size := by rw [hW4]; exact l0
          have HGW : Hid (GapS B [] (.slice ga 0 gc) w2 W4) := Lib.hid (by rw [hW4]; exact HGW.out.drewN nq)
          have hszw : B ≤ W4.heap.size := by rw [hW4]; exact hszw
          clear hW4
          go_wp2_with (at_builtin; go_loud (refine wpList_pushN W4 (by rfl) _ _ 128 (by rfl) B 130 (.agg #[.int .i64 0, .int .i64 0, .int .i64 0]) 3 24 Try.underlying128 infoSlot (by rfl) (by decide) (.slice ga 0 gc) 0 [] [.int .i64 p, .int .i64 q, .int .i64 (size - v)] _ rfl (by rfl) HGW.out.own (by rfl) (by rfl) (by intro u hu; simp at hu; rcases hu with rfl | rfl | rfl <;> rfl) (by unfold maxLen; omega) (by omega) hszw ?_; intro gg cap3 w5 hown hgrow hgb hgl2; have HW5 : Hid (GapS B (gapsTo size nd L (pts L) (i + 1)) (.slice (some ⟨gg, 0, none⟩) (0 + 1) cap3) w2 w5) := Lib.hid (by rw [HAD.out]; exact HGW.out.pushed (s := ⟨p, q, size - v⟩) hszw hown hgrow); clear hown hgrow hgb))
          go_roundg (k - (i + 1))
          case measure => omega
          case rel => exact ⟨i + 1, by omega, by simp, HW5⟩
      · obtain ⟨r, hr⟩ : ∃ r, o.length = r := ⟨_, rfl⟩
        have hlr : (o ++ [g']).length = r + 1 := by simp [hr]
        rw [hlr] at hu hgl hgc1 hgf
        obtain ⟨gb, rfl⟩ := hgf (by omega)
        subst hu
        have HR := Lib.hid hr
        have HLR := Lib.hid hlr
        have hwr : IntKind.i64.wrap (((r + 1 : Nat) : Int) - 1) = (r : Int) := by rw [IntWalk.i64_in _ (by omega)]; omega
        obtain ⟨s0, s1, s2⟩ := slc_at (L := o ++ [g']) (i := r) (s := g') (by rw [← hr]; simp)
        have hown := HGW.out.own
        rw [hlr] at hown
        have c1 : W3.cell? ⟨gb, r * 3 + 1, none⟩ = some (.int .i64 g'.to) := by rw [hown.cellAt _ (by omega)]; exact s1
        have c2 : W3.cell? ⟨gb, r * 3 + 2, none⟩ = some (.int .i64 g'.n) := by rw [hown.cellAt _ (by omega)]; exact s2
        have f1 := hown.frozenAt (r * 3 + 1)
        have f2 := hown.frozenAt (r * 3 + 2)
        have lgb := (hown.lt gb rfl).2
        have hr1 : (0 : Int) ≤ (r : Int) := by omega
        have hr2 : (r : Int) < ((r + 1 : Nat) : Int) := by omega
        clear hr hlr s0 s1 s2 hown
        by_cases hfree : size - v < nd
        · have HQ : Hid (GapS B (gapsTo size nd L (pts L) (i + 1)) (.slice (some ⟨gb, 0, none⟩) (r + 1) gc) w2 W3) := Lib.hid (by rw [HSUC.out, addG_skip hfree]; exact HGW.out)
          go_wp2_with fail
          go_roundg (k - (i + 1))
          case measure => omega
          case rel => exact ⟨i + 1, by omega, by simp, HQ⟩
        · by_cases hto : g'.to = p
          · have HAD : Hid (gapsTo size nd L (pts L) (i + 1) = o ++ [⟨g'.fr, q, min g'.n (size - v)⟩]) := Lib.hid (by rw [HSUC.out, addG_merge hfree hto])
            rw [hto] at c1
            clear hto
            go_wp2_with fail
            go_quiet (fail)
            obtain ⟨W4, hW4⟩ : ∃ W, W = W3.drewN nq := ⟨_, rfl⟩
            rw [← hW4]
            have c2 : W4.cell? ⟨gb, r * 3 + 2, none⟩ = some (.int .i64 g'.n) := by rw [hW4]; exact c2
            have c1 : W4.cell? ⟨gb, r * 3 + 1, none⟩ = some (.int .i64 p) := by rw [hW4]; exact c1
            have f1 : W4.frozen? ⟨gb, r * 3 + 1, none⟩ = false := by rw [hW4]; exact f1
            have f2 : W4.frozen? ⟨gb, r * 3 + 2, none⟩ = false := by rw [hW4]; exact f2
            have lgb : gb < W4.heap.size := by rw [hW4]; exact lgb
            have HW5 : Hid (GapS B (gapsTo size nd L (pts L) (i + 1)) (.slice (some ⟨gb, 0, none⟩) (r + 1) gc) w2 ((W4.setCell ⟨gb, r * 3 + 1, none⟩ (.int .i64 q)).setCell ⟨gb, r * 3 + 2, none⟩ (.int .i64 (min g'.n (size - v))))) := Lib.hid (by rw [HAD.out, hW4]; exact (HGW.out.drewN nq).merge HR.out)
            clear hW4
            go_wp2_with fail
            go_roundg (k - (i + 1))
            case measure => omega
            case rel => exact ⟨i + 1, by omega, by simp, HW5⟩
          · have HAD : Hid (gapsTo size nd L (pts L) (i + 1) = (o ++ [g']) ++ [⟨p, q, size - v⟩]) := Lib.hid (by rw [HSUC.out, addG_new hfree (fun g hg => by simp at hg; subst hg; exact hto)])
            have hto2 : (g'.to == p) = false := by simpa using hto
            go_wp2_with fail
            go_quiet (fail)
            obtain ⟨W4, hW4⟩ : ∃ W, W = W3.drewN nq := ⟨_, rfl⟩
            rw [← hW4]
            have d0 : W4.cell? ⟨c, 0, none⟩ = some (.int .i64 p) := by rw [hW4]; exact d0
            have l0 : c < W4.heap.size := by rw [hW4]; exact l0
            have HGW : Hid (GapS B (o ++ [g']) (.slice (some ⟨gb, 0, none⟩) (r + 1) gc) w2 W4) := Lib.hid (by rw [hW4]; exact HGW.out.drewN nq)
            have hszw : B ≤ W4.heap.size := by rw [hW4]; exact hszw
            clear hW4 c1 c2 f1 f2
            have HO9 := Lib.hid HGW.out.own
            rw [HLR.out] at HO9
            go_wp2_with (at_builtin; go_loud (refine wpList_pushN W4 (by rfl) _ _ 128 (by rfl) B 130 (.agg #[.int .i64 0, .int .i64 0, .int .i64 0]) 3 24 Try.underlying128 infoSlot (by rfl) (by decide) (.slice (some ⟨gb, 0, none⟩) (r + 1) gc) (r + 1) (slc (o ++ [g'])) [.int .i64 p, .int .i64 q, .int .i64 (size - v)] _ rfl (by rfl) HO9.out (by rfl) (by rfl) (by intro u hu; simp at hu; rcases hu with rfl | rfl | rfl <;> rfl) (by unfold maxLen; omega) (by omega) hszw ?_; intro gg cap3 w5 hown hgrow hgb hgl2; have HW5 : Hid (GapS B (gapsTo size nd L (pts L) (i + 1)) (.slice (some ⟨gg, 0, none⟩) (r + 1 + 1) cap3) w2 w5) := Lib.hid (by rw [HAD.out, ← HLR.out]; exact HGW.out.pushed (s := ⟨p, q, size - v⟩) hszw (by rw [HLR.out]; exact hown) hgrow); clear hown hgrow hgb))
            go_roundg (k - (i + 1))
            case measure => omega
            case rel => exact ⟨i + 1, by omega, by simp, HW5⟩
    · obtain rfl : i = k := by omega
      have HGO : Hid (gapsTo size nd L (pts L) i = gapsOf size nd L) := Lib.hid (by unfold gapsOf; rw [← HT.out.len]; rfl)
      rw [HGO.out] at HG
      obtain ⟨ga, gc, hu, _, _, _⟩ := ownForm HG.out.own
      have hgl := gapsTo_length size nd L (pts L) i
      rw [HGO.out] at hgl
      have HV : Hid (Vals wr ga (slc (gapsOf size nd L))) := Lib.hid (by
        obtain ⟨ga', gc', hu2, hv⟩ := IsRow.own (by decide) HG.out.own
        rw [hu2] at hu
        cases hu
        exact hv)
      have HBE : Hid (Below w.heap.size w wr) := Lib.hid (HB.out.trans (HG.out.below.mono (by have := HB.out.size; have := HBB.out; omega)))
      obtain ⟨m, hm⟩ : ∃ m, m = (gapsOf size nd L).length := ⟨_, rfl⟩
      rw [← hm] at hu hgl
      subst hu
      have HM := Lib.hid hm
      clear hm HG
      go_wp2_with fail
      go_ret
      exact ⟨ga, m, gc, rfl, HM.out, by omega, HV.out, HBE.out⟩
end Go.Proofs.Ytfjoakhcgpckgaa
