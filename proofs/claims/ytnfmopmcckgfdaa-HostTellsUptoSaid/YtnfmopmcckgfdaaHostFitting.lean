/- Contract: Fitting: the hosts that fit; the document's. -/
import Derived.Test.YtnfmopmcckgfdaaHostFit
import Derived.Test.YtnfmopmcckgfdaaAskRefH
import Derived.Test.YtnfmopmcckgfdaaNeedFits
import Derived.Deep.RegionHeld3
namespace Go.Proofs.Ytnfmopmcckgfdaa
open Go.ChangeShapes Go.WideShapes Go.ChangeAt Go.RowKit
set_option linter.unusedVariables false
open Tp
def FittingQ (w : World) (l : List Nat) (e : Ending) (w' : World) : Prop := ∃ v, e = .returned v ∧ w'.ownsRow w.heap.size 3 1 v l.length (nats l) ∧ Below w.heap.size w w'
set_option maxRecDepth 20000 in
set_option maxHeartbeats 16000000 in
theorem Fitting_any (x : Ask) (A : Amt) (L : List Hst) (a : Option Addr) (n cap : Nat) (vx : Value) (w : World) (hn : n = L.length) (hn40 : n ≤ 40) (hexr : x.err = 0) (hok : ∀ (i : Nat) (h : Hst), L[i]? = some h → h.has.ok = true ∧ h.used.ok = true) (hL : Hosts w a L) (hx : AskV w x vx) :
    Calls Try.prog 15 #[.slice a n cap, vx, A.v] w fun e w' => FittingQ w (fitL x A L n) e w' := by
  obtain ⟨k, a1, a2, nu, ad, m, cp, rfl⟩ := askForm hx
  obtain ⟨W0, hW0⟩ : ∃ W, W = (w.alloc (.cells #[.int .i64 k, .string a1, .string a2, .int .i64 nu, .slice ad m cp] 25)).alloc (.cells #[.int .i64 A.cpu, .int .i64 A.mem, .int .i64 A.gpu] 27) := ⟨_, rfl⟩
  obtain ⟨c, hc⟩ : ∃ c, c = w.heap.size := ⟨_, rfl⟩
  have HX2 := Lib.hid (Box2.made hc hW0)
  have hb9 : Below w.heap.size w W0 := by rw [hW0]; exact ((Below.refl _ _).alloc (Nat.le_refl _) _).alloc (by simp) _
  have HB0 := Lib.hid hb9
  have HXV := Lib.hid (AskV.below hb9 _ _ hx)
  have HN := Lib.hid hn
  have HL := Lib.hid (hL.below hb9)
  have HEX := Lib.hid hexr
  have HOK := Lib.hid hok
  unfold Amt.v
  clear hn hL hexr hx hb9 hok
  go_enter Try.func15, Try.ntmps15
  go_upto_region 1 with fail
  rw [← hW0, ← hc]
  clear hW0 hc
  go_wp2_with fail
  go_loopg [7, 12] n (fun g u y wr => ∃ j : Nat, j + g = n ∧ y = .int .i64 (j : Int) ∧ Hid (wr.ownsRow W0.heap.size 3 1 u (fitL x A L j).length (nats (fitL x A L j))) ∧ Hid (Below W0.heap.size W0 wr))
  case atStart => exact ⟨0, by omega, rfl, Lib.hid ⟨rfl, .inl ⟨rfl, rfl⟩⟩, Lib.hid (Below.refl _ _)⟩
  case round =>
    obtain ⟨j, hj, rfl, HO, HB⟩ := hrel
    by_cases hjn : j < n
    · obtain ⟨h, hx⟩ : ∃ h, L[j]? = some h := ⟨_, List.getElem?_eq_getElem (by rw [← HN.out]; exact hjn)⟩
      have HX := Lib.hid hx
      obtain ⟨b, off, rfl, hb, hat⟩ := (HL.out.below HB.out) (by rw [← HN.out]; omega)
      obtain ⟨la, lc, hhv, c0, c1, c2, c3, c4, c5, c6, c7⟩ := (hat j h hx).val
      have HHV := Lib.hid hhv
      obtain ⟨nm, hnm⟩ : ∃ s, bts h.name = s := ⟨_, rfl⟩
      obtain ⟨lm, hlm⟩ : ∃ s, h.labels.length = s := ⟨_, rfl⟩
      rw [hnm] at c0 HHV
      rw [hlm] at c1 HHV
      have HJ := Lib.hid hj
      have hj1 : (0 : Int) ≤ (j : Int) := by omega
      have hj2 : (j : Int) < (n : Int) := by omega
      obtain ⟨Q1, hQ1⟩ : ∃ W, W = wr.alloc (.cells #[.string nm, .slice la lm lc, .int .i64 h.has.cpu, .int .i64 h.has.mem, .int .i64 h.has.gpu, .int .i64 h.used.cpu, .int .i64 h.used.mem, .int .i64 h.used.gpu] 30) := ⟨_, rfl⟩
      obtain ⟨ch, hch⟩ : ∃ c, c = wr.heap.size := ⟨_, rfl⟩
      have hl1 : Below wr.heap.size wr Q1 := by rw [hQ1]; exact (Below.refl _ _).alloc (Nat.le_refl _) _
      have HBQ0 := Lib.hid (HB.out.trans (hl1.mono HB.out.size))
      have HBQ1 : Hid (Below W0.heap.size W0 Q1.drew) := Lib.hid HBQ0.out.drew
      have HOQ1 : Hid (Q1.drew.ownsRow W0.heap.size 3 1 u7 (fitL x A L j).length (nats (fitL x A L j))) := Lib.hid (ownsRow_below HO.out hl1.drew)
      have HHV1 : Hid (HostV Q1.drew h (.agg #[.string nm, .slice la lm lc, .int .i64 h.has.cpu, .int .i64 h.has.mem, .int .i64 h.has.gpu, .int .i64 h.used.cpu, .int .i64 h.used.mem, .int .i64 h.used.gpu])) := Lib.hid ((HHV.out.below hl1).below ((Below.refl _ _).drew))
      have d0z : Q1.drew.cell? ⟨ch, 0, none⟩ = some (.string nm) := (show Q1.cell? ⟨ch, 0, none⟩ = some (.string nm) from by rw [hQ1]; exact (top_cell _ _ _ _ _ hch).trans rfl)
      have d1z : Q1.drew.cell? ⟨ch, 1, none⟩ = some (.slice la lm lc) := (show Q1.cell? ⟨ch, 1, none⟩ = some (.slice la lm lc) from by rw [hQ1]; exact (top_cell _ _ _ _ _ hch).trans rfl)
      have d2z : Q1.drew.cell? ⟨ch, 2, none⟩ = some (.int .i64 h.has.cpu) := (show Q1.cell? ⟨ch, 2, none⟩ = some (.int .i64 h.has.cpu) from by rw [hQ1]; exact (top_cell _ _ _ _ _ hch).trans rfl)
      have d3z : Q1.drew.cell? ⟨ch, 3, none⟩ = some (.int .i64 h.has.mem) := (show Q1.cell? ⟨ch, 3, none⟩ = some (.int .i64 h.has.mem) from by rw [hQ1]; exact (top_cell _ _ _ _ _ hch).trans rfl)
      have d4z : Q1.drew.cell? ⟨ch, 4, none⟩ = some (.int .i64 h.has.gpu) := (show Q1.cell? ⟨ch, 4, none⟩ = some (.int .i64 h.has.gpu) from by rw [hQ1]; exact (top_cell _ _ _ _ _ hch).trans rfl)
      have d5z : Q1.drew.cell? ⟨ch, 5, none⟩ = some (.int .i64 h.used.cpu) := (show Q1.cell? ⟨ch, 5, none⟩ = some (.int .i64 h.used.cpu) from by rw [hQ1]; exact (top_cell _ _ _ _ _ hch).trans rfl)
      have d6z : Q1.drew.cell? ⟨ch, 6, none⟩ = some (.int .i64 h.used.mem) := (show Q1.cell? ⟨ch, 6, none⟩ = some (.int .i64 h.used.mem) from by rw [hQ1]; exact (top_cell _ _ _ _ _ hch).trans rfl)
      have d7z : Q1.drew.cell? ⟨ch, 7, none⟩ = some (.int .i64 h.used.gpu) := (show Q1.cell? ⟨ch, 7, none⟩ = some (.int .i64 h.used.gpu) from by rw [hQ1]; exact (top_cell _ _ _ _ _ hch).trans rfl)
      have hlh : ch < Q1.drew.heap.size := (show ch < Q1.heap.size from by rw [hQ1, hch]; exact top_lt _ _)
      have HXQ := Lib.hid (HX2.out.below HBQ1.out)
      obtain ⟨x0z, x1z, x2z, x3z, x4z, y0z, y1z, y2z, hlc1⟩ := HXQ.out
      have hlc : c < Q1.drew.heap.size := by omega
      obtain ⟨ok1, ok2⟩ := HOK.out j h hx
      have HFREE : Hid (∀ W, HostV W h (.agg #[.string nm, .slice la lm lc, .int .i64 h.has.cpu, .int .i64 h.has.mem, .int .i64 h.has.gpu, .int .i64 h.used.cpu, .int .i64 h.used.mem, .int .i64 h.used.gpu]) → Calls Try.prog 6 #[.agg #[.string nm, .slice la lm lc, .int .i64 h.has.cpu, .int .i64 h.has.mem, .int .i64 h.has.gpu, .int .i64 h.used.cpu, .int .i64 h.used.mem, .int .i64 h.used.gpu]] W fun e w' => e = .returned (.agg #[.int .i64 h.left.cpu, .int .i64 h.left.mem, .int .i64 h.left.gpu]) ∧ Below W.heap.size W w') := Lib.hid (fun W hW => FreeOf_any h _ W hW ok1 ok2)
      have HFITS : Hid (∀ W, Calls Try.prog 17 #[.agg #[.int .i64 A.cpu, .int .i64 A.mem, .int .i64 A.gpu], .agg #[.int .i64 h.left.cpu, .int .i64 h.left.mem, .int .i64 h.left.gpu]] W fun e w' => e = .returned (.bool (A.le h.left)) ∧ Below W.heap.size W w') := Lib.hid (fun W => needFits_any A.cpu A.mem A.gpu h.left.cpu h.left.mem h.left.gpu W)
      have HHOL := Lib.hid (refHolds_any h x _ _ Q1.drew HEX.out (AskV.below HBQ1.out _ _ HXV.out) HHV1.out)
      have HHIT : Hid (hit x A h = (x.ev (atomB h) && A.le h.left)) := Lib.hid rfl
      obtain ⟨b1, hb1⟩ : ∃ b, x.ev (atomB h) = b := ⟨_, rfl⟩
      obtain ⟨b2, hb2⟩ : ∃ b, A.le h.left = b := ⟨_, rfl⟩
      rw [hb2] at HFITS HHIT
      rw [hb1] at HHOL HHIT
      obtain ⟨l0, hl0⟩ : ∃ q, h.left.cpu = q := ⟨_, rfl⟩
      obtain ⟨l1, hl1'⟩ : ∃ q, h.left.mem = q := ⟨_, rfl⟩
      obtain ⟨l2, hl2⟩ : ∃ q, h.left.gpu = q := ⟨_, rfl⟩
      rw [hl0, hl1', hl2] at HFREE HFITS
      clear hat hx hhv hnm hlm hb1 hb2 hl0 hl1' hl2 hl1 ok1 ok2 hj hb
      go_upto_region 5 with fail
      rw [← hQ1, ← hch]
      clear hQ1 hch
      clear c0 c1 c2 c3 c4 c5 c6 c7
      cases b1 with
      | true =>
        refine wp_region_held_drew (S := fun W => W.cell? ⟨c, 0, none⟩ = some (.int .i64 k) ∧ W.cell? ⟨c, 1, none⟩ = some (.string a1) ∧ W.cell? ⟨c, 2, none⟩ = some (.string a2) ∧ W.cell? ⟨c, 3, none⟩ = some (.int .i64 nu) ∧ W.cell? ⟨c, 4, none⟩ = some (.slice ad m cp) ∧ W.cell? ⟨c + 1, 0, none⟩ = some (.int .i64 A.cpu) ∧ W.cell? ⟨c + 1, 1, none⟩ = some (.int .i64 A.mem) ∧ W.cell? ⟨c + 1, 2, none⟩ = some (.int .i64 A.gpu) ∧ W.cell? ⟨ch, 0, none⟩ = some (.string nm) ∧ W.cell? ⟨ch, 1, none⟩ = some (.slice la lm lc) ∧ W.cell? ⟨ch, 2, none⟩ = some (.int .i64 h.has.cpu) ∧ W.cell? ⟨ch, 3, none⟩ = some (.int .i64 h.has.mem) ∧ W.cell? ⟨ch, 4, none⟩ = some (.int .i64 h.has.gpu) ∧ W.cell? ⟨ch, 5, none⟩ = some (.int .i64 h.used.cpu) ∧ W.cell? ⟨ch, 6, none⟩ = some (.int .i64 h.used.mem) ∧ W.cell? ⟨ch, 7, none⟩ = some (.int .i64 h.used.gpu)) (by kernel_rfl) (by with_reducible exact ⟨x0z, x1z, x2z, x3z, x4z, y0z, y1z, y2z, d0z, d1z, d2z, d3z, d4z, d5z, d6z, d7z⟩) (fun hHeld => ?_)
        refine wpAnyH_take (i := 0) (v := ?vx1x0) rfl (by kernel_rfl) (by kernel_rfl) (by kernel_rfl) (fun _ _ _ h => h) (Or.inl ⟨by rfl, ?hyx1x0⟩) (by assumption) ?restx1x0
        case hyx1x0 =>
          intro w hSw
          (try dsimp only at hSw)
          go_simp
          (try with_reducible rfl)
        change wpAnyH _ _ _ _ _ _ _ (Act.put _ (some 17) _) _
        try simp only [Act.put, List.setIfInBounds_toArray, List.set_cons_zero, List.set_cons_succ]
        refine wpAnyH_take (i := 1) (v := ?vx1x1) rfl (by kernel_rfl) (by kernel_rfl) (by kernel_rfl) (fun _ _ _ h => h) (Or.inl ⟨by rfl, ?hyx1x1⟩) (by assumption) ?restx1x1
        case hyx1x1 =>
          intro w hSw
          (try dsimp only at hSw)
          go_simp
          (try with_reducible rfl)
        change wpAnyH _ _ _ _ _ _ _ (Act.put _ (some 18) _) _
        try simp only [Act.put, List.setIfInBounds_toArray, List.set_cons_zero, List.set_cons_succ]
        refine wpAnyH_ready (rs := [2]) (by kernel_rfl) (by simp) ?_
        refine AllReadyH.cons rfl (fun K hK => ?_) AllReadyH.nil
        go_simp
        go_at_call 40
        refine Calls.mono HHOL.out ?_
        rintro e w1 ⟨rfl, hb1⟩
        have x0a : w1.cell? ⟨c, 0, none⟩ = some (.int .i64 k) := (hb1.cell (p := ⟨c, 0, none⟩) hlc).trans x0z
        have x1a : w1.cell? ⟨c, 1, none⟩ = some (.string a1) := (hb1.cell (p := ⟨c, 1, none⟩) hlc).trans x1z
        have x2a : w1.cell? ⟨c, 2, none⟩ = some (.string a2) := (hb1.cell (p := ⟨c, 2, none⟩) hlc).trans x2z
        have x3a : w1.cell? ⟨c, 3, none⟩ = some (.int .i64 nu) := (hb1.cell (p := ⟨c, 3, none⟩) hlc).trans x3z
        have x4a : w1.cell? ⟨c, 4, none⟩ = some (.slice ad m cp) := (hb1.cell (p := ⟨c, 4, none⟩) hlc).trans x4z
        have y0a : w1.cell? ⟨c + 1, 0, none⟩ = some (.int .i64 A.cpu) := (hb1.cell (p := ⟨c + 1, 0, none⟩) hlc1).trans y0z
        have y1a : w1.cell? ⟨c + 1, 1, none⟩ = some (.int .i64 A.mem) := (hb1.cell (p := ⟨c + 1, 1, none⟩) hlc1).trans y1z
        have y2a : w1.cell? ⟨c + 1, 2, none⟩ = some (.int .i64 A.gpu) := (hb1.cell (p := ⟨c + 1, 2, none⟩) hlc1).trans y2z
        have d0a : w1.cell? ⟨ch, 0, none⟩ = some (.string nm) := (hb1.cell (p := ⟨ch, 0, none⟩) hlh).trans d0z
        have d1a : w1.cell? ⟨ch, 1, none⟩ = some (.slice la lm lc) := (hb1.cell (p := ⟨ch, 1, none⟩) hlh).trans d1z
        have d2a : w1.cell? ⟨ch, 2, none⟩ = some (.int .i64 h.has.cpu) := (hb1.cell (p := ⟨ch, 2, none⟩) hlh).trans d2z
        have d3a : w1.cell? ⟨ch, 3, none⟩ = some (.int .i64 h.has.mem) := (hb1.cell (p := ⟨ch, 3, none⟩) hlh).trans d3z
        have d4a : w1.cell? ⟨ch, 4, none⟩ = some (.int .i64 h.has.gpu) := (hb1.cell (p := ⟨ch, 4, none⟩) hlh).trans d4z
        have d5a : w1.cell? ⟨ch, 5, none⟩ = some (.int .i64 h.used.cpu) := (hb1.cell (p := ⟨ch, 5, none⟩) hlh).trans d5z
        have d6a : w1.cell? ⟨ch, 6, none⟩ = some (.int .i64 h.used.mem) := (hb1.cell (p := ⟨ch, 6, none⟩) hlh).trans d6z
        have d7a : w1.cell? ⟨ch, 7, none⟩ = some (.int .i64 h.used.gpu) := (hb1.cell (p := ⟨ch, 7, none⟩) hlh).trans d7z
        have hlc : c < w1.heap.size := Nat.lt_of_lt_of_le hlc hb1.size
        have hlc1 : c + 1 < w1.heap.size := Nat.lt_of_lt_of_le hlc1 hb1.size
        have hlh : ch < w1.heap.size := Nat.lt_of_lt_of_le hlh hb1.size
        have HBQ2 := Lib.hid (HBQ1.out.trans (hb1.mono HBQ1.out.size))
        have HOQ2 := Lib.hid (ownsRow_below HOQ1.out hb1)
        have HHV2 := Lib.hid (HHV1.out.below hb1)
        (try go_wp2_with fail)
        refine hK.out _ _ (by with_reducible exact ⟨x0a, x1a, x2a, x3a, x4a, y0a, y1a, y2a, d0a, d1a, d2a, d3a, d4a, d5a, d6a, d7a⟩) (fun hHeld => ?_)
        clear hK K
        try simp only [Act.put, List.setIfInBounds_toArray, List.set_cons_zero, List.set_cons_succ]
        refine wpAnyH_take (i := 3) (v := ?vx1x3) rfl (by kernel_rfl) (by kernel_rfl) (by kernel_rfl) (fun _ _ _ h => h) (Or.inl ⟨by rfl, ?hyx1x3⟩) (by assumption) ?restx1x3
        case hyx1x3 =>
          intro w hSw
          (try dsimp only at hSw)
          go_simp
          (try with_reducible rfl)
        change wpAnyH _ _ _ _ _ _ _ (Act.put _ (some 20) _) _
        try simp only [Act.put, List.setIfInBounds_toArray, List.set_cons_zero, List.set_cons_succ]
        refine wpAnyH_take (i := 4) (v := ?vx1x4) rfl (by kernel_rfl) (by kernel_rfl) (by kernel_rfl) (fun _ _ _ h => h) (Or.inl ⟨by rfl, ?hyx1x4⟩) (by assumption) ?restx1x4
        case hyx1x4 =>
          intro w hSw
          (try dsimp only at hSw)
          go_simp
          (try with_reducible rfl)
        change wpAnyH _ _ _ _ _ _ _ (Act.put _ (some 21) _) _
        try simp only [Act.put, List.setIfInBounds_toArray, List.set_cons_zero, List.set_cons_succ]
        refine wpAnyH_take (i := 5) (v := ?vx1x5) rfl (by kernel_rfl) (by kernel_rfl) (by kernel_rfl) (fun _ _ _ h => h) (Or.inl ⟨by rfl, ?hyx1x5⟩) (by assumption) ?restx1x5
        case hyx1x5 =>
          intro w hSw
          (try dsimp only at hSw)
          go_simp
          (try with_reducible rfl)
        change wpAnyH _ _ _ _ _ _ _ (Act.put _ (some 22) _) _
        try simp only [Act.put, List.setIfInBounds_toArray, List.set_cons_zero, List.set_cons_succ]
        refine wpAnyH_ready (rs := [6]) (by kernel_rfl) (by simp) ?_
        refine AllReadyH.cons rfl (fun K hK => ?_) AllReadyH.nil
        go_simp
        go_at_call 6
        refine Calls.mono (HFREE.out _ HHV2.out) ?_
        rintro e w2 ⟨rfl, hb2⟩
        have x0b : w2.cell? ⟨c, 0, none⟩ = some (.int .i64 k) := (hb2.cell (p := ⟨c, 0, none⟩) hlc).trans x0a
        have x1b : w2.cell? ⟨c, 1, none⟩ = some (.string a1) := (hb2.cell (p := ⟨c, 1, none⟩) hlc).trans x1a
        have x2b : w2.cell? ⟨c, 2, none⟩ = some (.string a2) := (hb2.cell (p := ⟨c, 2, none⟩) hlc).trans x2a
        have x3b : w2.cell? ⟨c, 3, none⟩ = some (.int .i64 nu) := (hb2.cell (p := ⟨c, 3, none⟩) hlc).trans x3a
        have x4b : w2.cell? ⟨c, 4, none⟩ = some (.slice ad m cp) := (hb2.cell (p := ⟨c, 4, none⟩) hlc).trans x4a
        have y0b : w2.cell? ⟨c + 1, 0, none⟩ = some (.int .i64 A.cpu) := (hb2.cell (p := ⟨c + 1, 0, none⟩) hlc1).trans y0a
        have y1b : w2.cell? ⟨c + 1, 1, none⟩ = some (.int .i64 A.mem) := (hb2.cell (p := ⟨c + 1, 1, none⟩) hlc1).trans y1a
        have y2b : w2.cell? ⟨c + 1, 2, none⟩ = some (.int .i64 A.gpu) := (hb2.cell (p := ⟨c + 1, 2, none⟩) hlc1).trans y2a
        have d0b : w2.cell? ⟨ch, 0, none⟩ = some (.string nm) := (hb2.cell (p := ⟨ch, 0, none⟩) hlh).trans d0a
        have d1b : w2.cell? ⟨ch, 1, none⟩ = some (.slice la lm lc) := (hb2.cell (p := ⟨ch, 1, none⟩) hlh).trans d1a
        have d2b : w2.cell? ⟨ch, 2, none⟩ = some (.int .i64 h.has.cpu) := (hb2.cell (p := ⟨ch, 2, none⟩) hlh).trans d2a
        have d3b : w2.cell? ⟨ch, 3, none⟩ = some (.int .i64 h.has.mem) := (hb2.cell (p := ⟨ch, 3, none⟩) hlh).trans d3a
        have d4b : w2.cell? ⟨ch, 4, none⟩ = some (.int .i64 h.has.gpu) := (hb2.cell (p := ⟨ch, 4, none⟩) hlh).trans d4a
        have d5b : w2.cell? ⟨ch, 5, none⟩ = some (.int .i64 h.used.cpu) := (hb2.cell (p := ⟨ch, 5, none⟩) hlh).trans d5a
        have d6b : w2.cell? ⟨ch, 6, none⟩ = some (.int .i64 h.used.mem) := (hb2.cell (p := ⟨ch, 6, none⟩) hlh).trans d6a
        have d7b : w2.cell? ⟨ch, 7, none⟩ = some (.int .i64 h.used.gpu) := (hb2.cell (p := ⟨ch, 7, none⟩) hlh).trans d7a
        have hlc : c < w2.heap.size := Nat.lt_of_lt_of_le hlc hb2.size
        have hlc1 : c + 1 < w2.heap.size := Nat.lt_of_lt_of_le hlc1 hb2.size
        have hlh : ch < w2.heap.size := Nat.lt_of_lt_of_le hlh hb2.size
        have HBQ3 := Lib.hid (HBQ2.out.trans (hb2.mono HBQ2.out.size))
        have HOQ3 := Lib.hid (ownsRow_below HOQ2.out hb2)
        have HHV3 := Lib.hid (HHV2.out.below hb2)
        (try go_wp2_with fail)
        refine hK.out _ _ (by with_reducible exact ⟨x0b, x1b, x2b, x3b, x4b, y0b, y1b, y2b, d0b, d1b, d2b, d3b, d4b, d5b, d6b, d7b⟩) (fun hHeld => ?_)
        clear hK K
        try simp only [Act.put, List.setIfInBounds_toArray, List.set_cons_zero, List.set_cons_succ]
        refine wpAnyH_ready (rs := [7]) (by kernel_rfl) (by simp) ?_
        refine AllReadyH.cons rfl (fun K hK => ?_) AllReadyH.nil
        go_simp
        go_at_call 17
        refine Calls.mono (HFITS.out _) ?_
        rintro e w3 ⟨rfl, hb3⟩
        have x0e : w3.cell? ⟨c, 0, none⟩ = some (.int .i64 k) := (hb3.cell (p := ⟨c, 0, none⟩) hlc).trans x0b
        have x1e : w3.cell? ⟨c, 1, none⟩ = some (.string a1) := (hb3.cell (p := ⟨c, 1, none⟩) hlc).trans x1b
        have x2e : w3.cell? ⟨c, 2, none⟩ = some (.string a2) := (hb3.cell (p := ⟨c, 2, none⟩) hlc).trans x2b
        have x3e : w3.cell? ⟨c, 3, none⟩ = some (.int .i64 nu) := (hb3.cell (p := ⟨c, 3, none⟩) hlc).trans x3b
        have x4e : w3.cell? ⟨c, 4, none⟩ = some (.slice ad m cp) := (hb3.cell (p := ⟨c, 4, none⟩) hlc).trans x4b
        have y0e : w3.cell? ⟨c + 1, 0, none⟩ = some (.int .i64 A.cpu) := (hb3.cell (p := ⟨c + 1, 0, none⟩) hlc1).trans y0b
        have y1e : w3.cell? ⟨c + 1, 1, none⟩ = some (.int .i64 A.mem) := (hb3.cell (p := ⟨c + 1, 1, none⟩) hlc1).trans y1b
        have y2e : w3.cell? ⟨c + 1, 2, none⟩ = some (.int .i64 A.gpu) := (hb3.cell (p := ⟨c + 1, 2, none⟩) hlc1).trans y2b
        have d0e : w3.cell? ⟨ch, 0, none⟩ = some (.string nm) := (hb3.cell (p := ⟨ch, 0, none⟩) hlh).trans d0b
        have d1e : w3.cell? ⟨ch, 1, none⟩ = some (.slice la lm lc) := (hb3.cell (p := ⟨ch, 1, none⟩) hlh).trans d1b
        have d2e : w3.cell? ⟨ch, 2, none⟩ = some (.int .i64 h.has.cpu) := (hb3.cell (p := ⟨ch, 2, none⟩) hlh).trans d2b
        have d3e : w3.cell? ⟨ch, 3, none⟩ = some (.int .i64 h.has.mem) := (hb3.cell (p := ⟨ch, 3, none⟩) hlh).trans d3b
        have d4e : w3.cell? ⟨ch, 4, none⟩ = some (.int .i64 h.has.gpu) := (hb3.cell (p := ⟨ch, 4, none⟩) hlh).trans d4b
        have d5e : w3.cell? ⟨ch, 5, none⟩ = some (.int .i64 h.used.cpu) := (hb3.cell (p := ⟨ch, 5, none⟩) hlh).trans d5b
        have d6e : w3.cell? ⟨ch, 6, none⟩ = some (.int .i64 h.used.mem) := (hb3.cell (p := ⟨ch, 6, none⟩) hlh).trans d6b
        have d7e : w3.cell? ⟨ch, 7, none⟩ = some (.int .i64 h.used.gpu) := (hb3.cell (p := ⟨ch, 7, none⟩) hlh).trans d7b
        have hlc : c < w3.heap.size := Nat.lt_of_lt_of_le hlc hb3.size
        have hlc1 : c + 1 < w3.heap.size := Nat.lt_of_lt_of_le hlc1 hb3.size
        have hlh : ch < w3.heap.size := Nat.lt_of_lt_of_le hlh hb3.size
        have HBQ4 := Lib.hid (HBQ3.out.trans (hb3.mono HBQ3.out.size))
        have HOQ4 := Lib.hid (ownsRow_below HOQ3.out hb3)
        have HHV4 := Lib.hid (HHV3.out.below hb3)
        (try go_wp2_with fail)
        refine hK.out _ _ (by with_reducible exact ⟨x0e, x1e, x2e, x3e, x4e, y0e, y1e, y2e, d0e, d1e, d2e, d3e, d4e, d5e, d6e, d7e⟩) (fun hHeld => ?_)
        clear hK K
        try simp only [Act.put, List.setIfInBounds_toArray, List.set_cons_zero, List.set_cons_succ]
        refine wpAnyH_take (i := 8) (v := ?vx1x8) rfl (by kernel_rfl) (by kernel_rfl) (by kernel_rfl) (fun _ _ _ h => h) (Or.inl ⟨by rfl, ?hyx1x8⟩) (by assumption) ?restx1x8
        case hyx1x8 =>
          intro w hSw
          (try dsimp only at hSw)
          go_simp
          (try with_reducible rfl)
        change wpAnyH _ _ _ _ _ _ _ (Act.put _ (some 25) _) _
        try simp only [Act.put, List.setIfInBounds_toArray, List.set_cons_zero, List.set_cons_succ]
        refine wpAnyH_done (by kernel_rfl) ?_ _
        cases b2 with
        | true =>
          have HY := Lib.hid (fitL_yes HX.out HHIT.out)
          have hln := fitL_len x A L j
          have hsz5 : W0.heap.size ≤ w3.heap.size := HBQ4.out.size
          have hj40 : j ≤ 40 := by omega
          go_wp2_with (at_builtin; refine wpList_push w3 (by rfl) _ _ 38 (by rfl) W0.heap.size 3 (.int .i64 0) 8 Try.underlying38 infoI (by rfl) u7 (fitL x A L j).length (nats (fitL x A L j)) (nat1 j) _ rfl (by rfl) HOQ4.out (by rfl) (by rfl) (by unfold maxLen; omega) (by omega) hsz5 ?_; intro gg cap2 w4 hown1 hgrow1 hgb hgl; have HP := Lib.hid hown1; have HBG := Lib.hid (HBQ4.out.grown hgrow1 HBQ4.out.size (ownBlock_ge HOQ4.out (Nat.le_refl _))); clear hown1 hgrow1)
          go_roundg (n - (j + 1))
          case measure => (have := HJ.out; omega)
          case rel => exact ⟨j + 1, by have := HJ.out; omega, by simp, by rw [HY.out, nats_snoc, List.length_append]; exact HP, HBG⟩
        | false =>
          have HY := Lib.hid (fitL_no HX.out HHIT.out)
          go_wp2_with fail
          go_roundg (n - (j + 1))
          case measure => (have := HJ.out; omega)
          case rel => exact ⟨j + 1, by have := HJ.out; omega, by simp, by rw [HY.out]; exact HOQ4, HBQ4⟩
      | false =>
        refine wp_region_held_drew (S := fun W => W.cell? ⟨c, 0, none⟩ = some (.int .i64 k) ∧ W.cell? ⟨c, 1, none⟩ = some (.string a1) ∧ W.cell? ⟨c, 2, none⟩ = some (.string a2) ∧ W.cell? ⟨c, 3, none⟩ = some (.int .i64 nu) ∧ W.cell? ⟨c, 4, none⟩ = some (.slice ad m cp) ∧ W.cell? ⟨c + 1, 0, none⟩ = some (.int .i64 A.cpu) ∧ W.cell? ⟨c + 1, 1, none⟩ = some (.int .i64 A.mem) ∧ W.cell? ⟨c + 1, 2, none⟩ = some (.int .i64 A.gpu) ∧ W.cell? ⟨ch, 0, none⟩ = some (.string nm) ∧ W.cell? ⟨ch, 1, none⟩ = some (.slice la lm lc) ∧ W.cell? ⟨ch, 2, none⟩ = some (.int .i64 h.has.cpu) ∧ W.cell? ⟨ch, 3, none⟩ = some (.int .i64 h.has.mem) ∧ W.cell? ⟨ch, 4, none⟩ = some (.int .i64 h.has.gpu) ∧ W.cell? ⟨ch, 5, none⟩ = some (.int .i64 h.used.cpu) ∧ W.cell? ⟨ch, 6, none⟩ = some (.int .i64 h.used.mem) ∧ W.cell? ⟨ch, 7, none⟩ = some (.int .i64 h.used.gpu)) (by kernel_rfl) (by with_reducible exact ⟨x0z, x1z, x2z, x3z, x4z, y0z, y1z, y2z, d0z, d1z, d2z, d3z, d4z, d5z, d6z, d7z⟩) (fun hHeld => ?_)
        refine wpAnyH_take (i := 0) (v := ?vx2x0) rfl (by kernel_rfl) (by kernel_rfl) (by kernel_rfl) (fun _ _ _ h => h) (Or.inl ⟨by rfl, ?hyx2x0⟩) (by assumption) ?restx2x0
        case hyx2x0 =>
          intro w hSw
          (try dsimp only at hSw)
          go_simp
          (try with_reducible rfl)
        change wpAnyH _ _ _ _ _ _ _ (Act.put _ (some 17) _) _
        try simp only [Act.put, List.setIfInBounds_toArray, List.set_cons_zero, List.set_cons_succ]
        refine wpAnyH_take (i := 1) (v := ?vx2x1) rfl (by kernel_rfl) (by kernel_rfl) (by kernel_rfl) (fun _ _ _ h => h) (Or.inl ⟨by rfl, ?hyx2x1⟩) (by assumption) ?restx2x1
        case hyx2x1 =>
          intro w hSw
          (try dsimp only at hSw)
          go_simp
          (try with_reducible rfl)
        change wpAnyH _ _ _ _ _ _ _ (Act.put _ (some 18) _) _
        try simp only [Act.put, List.setIfInBounds_toArray, List.set_cons_zero, List.set_cons_succ]
        refine wpAnyH_ready (rs := [2]) (by kernel_rfl) (by simp) ?_
        refine AllReadyH.cons rfl (fun K hK => ?_) AllReadyH.nil
        go_simp
        go_at_call 40
        refine Calls.mono HHOL.out ?_
        rintro e w1 ⟨rfl, hb1⟩
        have x0a : w1.cell? ⟨c, 0, none⟩ = some (.int .i64 k) := (hb1.cell (p := ⟨c, 0, none⟩) hlc).trans x0z
        have x1a : w1.cell? ⟨c, 1, none⟩ = some (.string a1) := (hb1.cell (p := ⟨c, 1, none⟩) hlc).trans x1z
        have x2a : w1.cell? ⟨c, 2, none⟩ = some (.string a2) := (hb1.cell (p := ⟨c, 2, none⟩) hlc).trans x2z
        have x3a : w1.cell? ⟨c, 3, none⟩ = some (.int .i64 nu) := (hb1.cell (p := ⟨c, 3, none⟩) hlc).trans x3z
        have x4a : w1.cell? ⟨c, 4, none⟩ = some (.slice ad m cp) := (hb1.cell (p := ⟨c, 4, none⟩) hlc).trans x4z
        have y0a : w1.cell? ⟨c + 1, 0, none⟩ = some (.int .i64 A.cpu) := (hb1.cell (p := ⟨c + 1, 0, none⟩) hlc1).trans y0z
        have y1a : w1.cell? ⟨c + 1, 1, none⟩ = some (.int .i64 A.mem) := (hb1.cell (p := ⟨c + 1, 1, none⟩) hlc1).trans y1z
        have y2a : w1.cell? ⟨c + 1, 2, none⟩ = some (.int .i64 A.gpu) := (hb1.cell (p := ⟨c + 1, 2, none⟩) hlc1).trans y2z
        have d0a : w1.cell? ⟨ch, 0, none⟩ = some (.string nm) := (hb1.cell (p := ⟨ch, 0, none⟩) hlh).trans d0z
        have d1a : w1.cell? ⟨ch, 1, none⟩ = some (.slice la lm lc) := (hb1.cell (p := ⟨ch, 1, none⟩) hlh).trans d1z
        have d2a : w1.cell? ⟨ch, 2, none⟩ = some (.int .i64 h.has.cpu) := (hb1.cell (p := ⟨ch, 2, none⟩) hlh).trans d2z
        have d3a : w1.cell? ⟨ch, 3, none⟩ = some (.int .i64 h.has.mem) := (hb1.cell (p := ⟨ch, 3, none⟩) hlh).trans d3z
        have d4a : w1.cell? ⟨ch, 4, none⟩ = some (.int .i64 h.has.gpu) := (hb1.cell (p := ⟨ch, 4, none⟩) hlh).trans d4z
        have d5a : w1.cell? ⟨ch, 5, none⟩ = some (.int .i64 h.used.cpu) := (hb1.cell (p := ⟨ch, 5, none⟩) hlh).trans d5z
        have d6a : w1.cell? ⟨ch, 6, none⟩ = some (.int .i64 h.used.mem) := (hb1.cell (p := ⟨ch, 6, none⟩) hlh).trans d6z
        have d7a : w1.cell? ⟨ch, 7, none⟩ = some (.int .i64 h.used.gpu) := (hb1.cell (p := ⟨ch, 7, none⟩) hlh).trans d7z
        have hlc : c < w1.heap.size := Nat.lt_of_lt_of_le hlc hb1.size
        have hlc1 : c + 1 < w1.heap.size := Nat.lt_of_lt_of_le hlc1 hb1.size
        have hlh : ch < w1.heap.size := Nat.lt_of_lt_of_le hlh hb1.size
        have HBQ2 := Lib.hid (HBQ1.out.trans (hb1.mono HBQ1.out.size))
        have HOQ2 := Lib.hid (ownsRow_below HOQ1.out hb1)
        have HHV2 := Lib.hid (HHV1.out.below hb1)
        (try go_wp2_with fail)
        refine hK.out _ _ (by with_reducible exact ⟨x0a, x1a, x2a, x3a, x4a, y0a, y1a, y2a, d0a, d1a, d2a, d3a, d4a, d5a, d6a, d7a⟩) (fun hHeld => ?_)
        clear hK K
        try simp only [Act.put, List.setIfInBounds_toArray, List.set_cons_zero, List.set_cons_succ]
        refine wpAnyH_take (i := 3) (v := ?vx2x3) rfl (by kernel_rfl) (by kernel_rfl) (by kernel_rfl) (fun _ _ _ h => h) (Or.inl ⟨by rfl, ?hyx2x3⟩) (by assumption) ?restx2x3
        case hyx2x3 =>
          intro w hSw
          (try dsimp only at hSw)
          go_simp
          (try with_reducible rfl)
        change wpAnyH _ _ _ _ _ _ _ (Act.put _ (some 20) _) _
        try simp only [Act.put, List.setIfInBounds_toArray, List.set_cons_zero, List.set_cons_succ]
        refine wpAnyH_take (i := 4) (v := undef) rfl (by kernel_rfl) (by kernel_rfl) (by kernel_rfl) (fun _ _ _ h => h) (Or.inr ⟨by rfl, rfl⟩) (by assumption) ?_
        change wpAnyH _ _ _ _ _ _ _ (Act.put _ (some 21) _) _
        try simp only [Act.put, List.setIfInBounds_toArray, List.set_cons_zero, List.set_cons_succ]
        refine wpAnyH_take (i := 5) (v := undef) rfl (by kernel_rfl) (by kernel_rfl) (by kernel_rfl) (fun _ _ _ h => h) (Or.inr ⟨by rfl, rfl⟩) (by assumption) ?_
        change wpAnyH _ _ _ _ _ _ _ (Act.put _ (some 22) _) _
        try simp only [Act.put, List.setIfInBounds_toArray, List.set_cons_zero, List.set_cons_succ]
        refine wpAnyH_take (i := 6) (v := undef) rfl (by kernel_rfl) (by kernel_rfl) (by kernel_rfl) (fun _ _ _ h => h) (Or.inr ⟨by rfl, rfl⟩) (by assumption) ?_
        change wpAnyH _ _ _ _ _ _ _ (Act.put _ (some 23) _) _
        try simp only [Act.put, List.setIfInBounds_toArray, List.set_cons_zero, List.set_cons_succ]
        refine wpAnyH_take (i := 7) (v := undef) rfl (by kernel_rfl) (by kernel_rfl) (by kernel_rfl) (fun _ _ _ h => h) (Or.inr ⟨by rfl, rfl⟩) (by assumption) ?_
        change wpAnyH _ _ _ _ _ _ _ (Act.put _ (some 24) _) _
        try simp only [Act.put, List.setIfInBounds_toArray, List.set_cons_zero, List.set_cons_succ]
        refine wpAnyH_take (i := 8) (v := ?vx2x8) rfl (by kernel_rfl) (by kernel_rfl) (by kernel_rfl) (fun _ _ _ h => h) (Or.inl ⟨by rfl, ?hyx2x8⟩) (by assumption) ?restx2x8
        case hyx2x8 =>
          intro w hSw
          (try dsimp only at hSw)
          go_simp
          (try with_reducible rfl)
        change wpAnyH _ _ _ _ _ _ _ (Act.put _ (some 25) _) _
        try simp only [Act.put, List.setIfInBounds_toArray, List.set_cons_zero, List.set_cons_succ]
        refine wpAnyH_done (by kernel_rfl) ?_ _
        have HY := Lib.hid (fitL_no HX.out HHIT.out)
        go_wp2_with fail
        go_roundg (n - (j + 1))
        case measure => (have := HJ.out; omega)
        case rel => exact ⟨j + 1, by have := HJ.out; omega, by simp, by rw [HY.out]; exact HOQ2, HBQ2⟩
    · obtain rfl : j = n := by omega
      go_wp2_with fail
      go_ret
      exact ⟨_, rfl, ownsRow_low HO.out HB0.out.size, HB0.out.trans (HB.out.mono HB0.out.size)⟩
end Go.Proofs.Ytnfmopmcckgfdaa
