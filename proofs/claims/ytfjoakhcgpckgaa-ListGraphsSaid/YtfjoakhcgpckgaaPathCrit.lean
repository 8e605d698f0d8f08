/- Contracts: the times that are not there, and critical things; the program's. -/
import Derived.Test.YtfjoakhcgpckgaaPathTimes
namespace Go.Proofs.Ytfjoakhcgpckgaa
open Go.ChangeShapes Go.WideShapes Go.ChangeAt Go.RowKit
set_option linter.unusedVariables false
open Gr (El Tm)
set_option maxRecDepth 100000 in
set_option maxHeartbeats 4000000 in
theorem Times_bad (z : Int) (L : El) (D : List Int) (a b : Option Addr) (l cap m cap2 : Nat) (w : World) (hn : l = L.length) (hmax : l ≤ 9223372036854775807) (hL : Edges w a L) (hm : m = D.length) (hmax2 : m ≤ 9223372036854775807) (hD : Vals w b (ints D)) (hb : timesE z L D ≠ 0) :
    Calls Try.prog 29 #[.int .i64 z, .slice a l cap, .slice b m cap2] w fun e w' => e = .returned (.tuple #[.agg #[.slice none 0 0, .slice none 0 0, .int .i64 0], .int .i64 (timesE z L D)]) ∧ Below w.heap.size w w' := by
  have HL := Lib.hid hL
  have HN := Lib.hid hn
  have HD := Lib.hid hD
  have HM := Lib.hid hm
  have HB := Lib.hid hb
  clear hL hn hD hm
  have hbb : (timesE z L D == 0) = false := by simp [hb]
  clear hb
  go_enter Try.func29, Try.ntmps29
  go_wp2_with (go_at_call 114; refine Calls.mono (pcheck_bad z L D _ _ _ _ _ _ _ HN.out hmax (HL.out.below (show Below w.heap.size w _ from (Below.refl _ _).alloc (Nat.le_refl _) _) (Nat.le_refl _)) HM.out hmax2 (HD.out.below (show Below w.heap.size w _ from (Below.refl _ _).alloc (Nat.le_refl _) _) (Nat.le_refl _)) HB.out) ?_; rintro e w1 ⟨rfl, hB1⟩; have HB1 := Lib.hid ((show Below w.heap.size w _ from (Below.refl _ _).alloc (Nat.le_refl _) _).trans (hB1.mono (by simp))); have HRES := Lib.hid (rowIs_below (plan_res w) hB1 (by simp)); clear hB1; have r0 := HRES.out.cell (i := 0) (by omega); have r1 := HRES.out.cell (i := 1) (by omega); have r2 := HRES.out.cell (i := 2) (by omega); have f0 := HRES.out.frozen 0; have f1 := HRES.out.frozen 1; have f2 := HRES.out.frozen 2; have hrl := HRES.out.lt)
  have hR3 := ((HRES.out.set 0 (.slice none 0 0)).set 1 (.slice none 0 0)).set 2 (.int .i64 0)
  have c0 := hR3.cell (i := 0) (by omega)
  have c1 := hR3.cell (i := 1) (by omega)
  have c2 := hR3.cell (i := 2) (by omega)
  simp only [if_true, if_false, Nat.reduceEqDiff] at c0 c1 c2
  exact bodyPost_ret (v := .tuple #[.agg #[.slice none 0 0, .slice none 0 0, .int .i64 0], .int .i64 (timesE z L D)]) (by simp [results, Try.results29, go_sem, c0, c1, c2]) rfl ⟨rfl, ((HB1.out.setCell (p := ⟨w.heap.size, 0, none⟩) (Nat.le_refl _) _).setCell (p := ⟨w.heap.size, 1, none⟩) (Nat.le_refl _) _).setCell (p := ⟨w.heap.size, 2, none⟩) (Nat.le_refl _) _⟩
set_option maxRecDepth 100000 in
set_option maxHeartbeats 4000000 in
theorem Crit_bad (z : Int) (L : El) (D : List Int) (a b : Option Addr) (l cap m cap2 : Nat) (w : World) (hn : l = L.length) (hmax : l ≤ 9223372036854775807) (hL : Edges w a L) (hm : m = D.length) (hmax2 : m ≤ 9223372036854775807) (hD : Vals w b (ints D)) (hb : timesE z L D ≠ 0) :
    Calls Try.prog 30 #[.int .i64 z, .slice a l cap, .slice b m cap2] w fun e w' => e = .returned (.tuple #[.slice none 0 0, .int .i64 (timesE z L D)]) ∧ Below w.heap.size w w' := by
  have HL := Lib.hid hL
  have HN := Lib.hid hn
  have HD := Lib.hid hD
  have HM := Lib.hid hm
  have HB := Lib.hid hb
  clear hL hn hD hm
  have hbb : (timesE z L D == 0) = false := by simp [hb]
  clear hb
  go_enter Try.func30, Try.ntmps30
  go_wp2_with (go_at_call 29; refine Calls.mono (Times_bad z L D _ _ _ _ _ _ _ HN.out hmax HL.out HM.out hmax2 HD.out HB.out) ?_; rintro e w1 ⟨rfl, hB1⟩)
  exact bodyPost_ret (v := .tuple #[.slice none 0 0, .int .i64 (timesE z L D)]) (by simp [results, Try.results30, go_sem]) rfl ⟨rfl, hB1.alloc hB1.size _⟩
set_option maxRecDepth 100000 in
set_option maxHeartbeats 4000000 in
theorem Crit_good (n : Nat) (L : El) (D : List Int) (a b : Option Addr) (l cap m cap2 : Nat) (w : World) (hn : l = L.length) (hL : Edges w a L) (hm : m = D.length) (hD : Vals w b (ints D)) (hF : Fine n L D) :
    Calls Try.prog 30 #[.int .i64 n, .slice a l cap, .slice b m cap2] w fun e w' => ∃ (E T : Tm) (S : Int), Gr.IsE n L (dur D) E ∧ Gr.IsS n (dur D) E S ∧ Gr.IsL n L (dur D) S T ∧ Nats2 (Gr.yes (fun i => E i == T i) n) w e w' := by
  have HL := Lib.hid hL
  have HN := Lib.hid hn
  have HD := Lib.hid hD
  have HM := Lib.hid hm
  have HF := Lib.hid hF
  have h60 : n ≤ 60 := by obtain ⟨_, z1, _⟩ := graphE_good hF.g; omega
  clear hL hn hD hm hF
  go_enter Try.func30, Try.ntmps30
  go_wp2_with (go_at_call 29; refine Calls.mono (Times_good n L D _ _ _ _ _ _ _ HN.out HL.out HM.out HD.out HF.out) ?_; rintro e w1 ⟨ge, gl, E, T, S, rfl, hE, hS, hT, hRE, hRT, hne, hge, hgl, hB1⟩; have HE := Lib.hid hE; have HS := Lib.hid hS; have HT := Lib.hid hT; have HRE := Lib.hid hRE; have HRT := Lib.hid hRT; have HB1 := Lib.hid hB1; clear hE hS hT hRE hRT)
  obtain ⟨W0, hW0⟩ : ∃ W, W = w1.alloc (.cells #[.slice (some ⟨ge, 0, none⟩) n n, .slice (some ⟨gl, 0, none⟩) n n, .int .i64 S] 55) := ⟨_, rfl⟩
  have HP := Lib.hid (show W0.rowIs w1.heap.size 55 3 (planF n ge gl S) from by
    rw [hW0]
    refine World.rowIs_alloc w1 _ _ _ fun i hi => ?_
    have hi : i < 3 := hi
    have : i = 0 ∨ i = 1 ∨ i = 2 := by omega
    rcases this with rfl | rfl | rfl <;> rfl)
  have HRE0 := Lib.hid (show W0.rowIs ge 2 n (i64s E) from by rw [hW0]; exact HRE.out.alloc _)
  have HRT0 := Lib.hid (show W0.rowIs gl 2 n (i64s T) from by rw [hW0]; exact HRT.out.alloc _)
  have HB0 := Lib.hid (show Below w.heap.size w W0 from by rw [hW0]; exact hB1.alloc hB1.size _)
  rw [← hW0]
  clear hW0 hB1 HRE HRT
  go_loopw [10, 23] (fun v x wr => ∃ k : Nat, k ≤ n ∧ x = .int .i64 k ∧ Hid (wr.ownsRow W0.heap.size 3 1 v (Gr.yes (fun i => E i == T i) k).length (nats (Gr.yes (fun i => E i == T i) k))) ∧ Below W0.heap.size W0 wr) (fun _ x _ => n - (intOf x).toNat)
  case atStart => exact ⟨0, by omega, rfl, Lib.hid (World.ownsRow_nil _ _ _ _), Below.refl _ _⟩
  case round =>
    obtain ⟨k, hk, rfl, HOW, hB2⟩ := hrel
    have hsz := hB2.size
    by_cases hkn : k < n
    · have HGO := Lib.hid (yes_go (fun i => E i == T i) k)
      have hlen := Gr.yes_length (fun i => E i == T i) k
      have e1 := (rowIs_below HRE0.out hB2 HRE0.out.lt).cell hkn
      have e2 := (rowIs_below HRT0.out hB2 HRT0.out.lt).cell hkn
      have hP := rowIs_below HP.out hB2 HP.out.lt
      have p0 : wr.cell? ⟨w1.heap.size, 0, none⟩ = some (.slice (some ⟨ge, 0, none⟩) n n) := hP.cell (i := 0) (by omega)
      have p1 : wr.cell? ⟨w1.heap.size, 1, none⟩ = some (.slice (some ⟨gl, 0, none⟩) n n) := hP.cell (i := 1) (by omega)
      have hgpl := hP.lt
      have hgel := (rowIs_below HRE0.out hB2 HRE0.out.lt).lt
      have hgll := (rowIs_below HRT0.out hB2 HRT0.out.lt).lt
      unfold i64s at e1 e2
      clear hP
      cases hb2 : (E k == T k) with
      | true =>
        have HB2 := Lib.hid hb2
        have HS2 := Lib.hid (HGO.out.trans (if_pos hb2))
        go_wp2_with fail
        go_quiet (fail)
        have hBq : Below wr.heap.size wr (wr.drewN nq) := (Drawn.drewN wr nq).below _
        have HOW2 := Lib.hid (ownsRow_below HOW.out hBq)
        have hB4 := hB2.trans (hBq.mono hsz)
        have hs4 := hB4.size
        clear HOW
        go_wp2_with (at_builtin; refine wpList_push _ (by rfl) _ _ 58 (by rfl) W0.heap.size 3 (.int .i64 0) 8 Try.underlying58 infoInt (by rfl) u10 (Gr.yes (fun i => E i == T i) k).length _ (nat1 k) _ rfl (by rfl) HOW2.out (by rfl) (by rfl) (by unfold maxLen; omega) (by omega) (by omega) ?_; intro gg cap2 w4 hown1 hgrow1 hgb hgl; have HP := Lib.hid hown1; have hB5 := hB4.grown hgrow1 hs4 (ownBlock_ge HOW2.out (Nat.le_refl _)); clear hown1 hgrow1 hgb)
        have HO2 : Hid (w4.ownsRow W0.heap.size 3 1 (.slice (some ⟨gg, 0, none⟩) ((Gr.yes (fun i => E i == T i) k).length + 1) cap2) (Gr.yes (fun i => E i == T i) (k + 1)).length (nats (Gr.yes (fun i => E i == T i) (k + 1)))) := Lib.hid (by rw [HS2.out, nats_snoc]; simpa using HP.out)
        go_roundw
        case rel => exact ⟨k + 1, by omega, rfl, HO2, hB5⟩
        case measure => simp [intOf]; omega
      | false =>
        have HB2 := Lib.hid hb2
        have HS2 := Lib.hid (HGO.out.trans (if_neg (by simp [hb2])))
        go_wp2_with fail
        go_quiet (fail)
        have hBq : Below wr.heap.size wr (wr.drewN nq) := (Drawn.drewN wr nq).below _
        have HO2 : Hid ((wr.drewN nq).ownsRow W0.heap.size 3 1 u10 (Gr.yes (fun i => E i == T i) (k + 1)).length (nats (Gr.yes (fun i => E i == T i) (k + 1)))) := Lib.hid (by rw [HS2.out]; exact ownsRow_below HOW.out hBq)
        have hB4 := hB2.trans (hBq.mono hsz)
        clear HOW
        go_wp2_with fail
        go_roundw
        case rel => exact ⟨k + 1, by omega, rfl, HO2, hB4⟩
        case measure => simp [intOf]; omega
    · obtain rfl : k = n := by omega
      have HV := Lib.hid (IsVals.own HOW.out)
      go_wp2_with fail
      exact bodyPost_ret (v := .tuple #[u10, .int .i64 0]) (by simp [results, Try.results30, go_sem]) rfl ⟨E, T, S, HE.out, HS.out, HT.out, _, rfl, HV.out, HB0.out.trans (hB2.mono HB0.out.size)⟩
end Go.Proofs.Ytfjoakhcgpckgaa
