/- The walk of the law PathTells: for all things, edges and lengths it answers true. -/
import Derived.Test.YtfjoakhcgpckgaaPathLawM
namespace Go.Proofs.Ytfjoakhcgpckgaa
open Go.ChangeShapes Go.WideShapes Go.ChangeAt Go.RowKit
set_option linter.unusedVariables false
set_option linter.unusedSimpArgs false
open Gr (El Tm)
/-- two rows of the same things are one -/
theorem eqNats (l : List Nat) (a1 a2 : Option Addr) (n1 c1 n2 c2 : Nat) (w : World) (h1 : n1 = l.length) (h2 : n2 = l.length) (hm : l.length ≤ 9223372036854775807) (hA : Vals w a1 (nats l)) (hB : Vals w a2 (nats l)) :
    Calls Try.prog 34 #[.slice a1 n1 c1, .slice a2 n2 c2] w fun e w' => e = .returned (.bool true) ∧ Below w.heap.size w w' := by
  have HA := Lib.hid hA
  have HB := Lib.hid hB
  have HN := Lib.hid h1
  obtain rfl : n1 = n2 := by omega
  have hmax : n1 ≤ 9223372036854775807 := by omega
  clear hA hB h1 h2 hm
  have hnb : ((n1 : Int) != n1) = false := by simp
  go_enter Try.func34, Try.ntmps34
  go_wp2_with fail
  go_loopw [13] (fun x wr => ∃ i : Nat, i ≤ n1 ∧ x = .int .i64 i ∧ Below w.heap.size w wr) (fun x _ => n1 - (intOf x).toNat)
  case atStart => exact ⟨0, by omega, rfl, Below.refl _ _⟩
  case round =>
    obtain ⟨i, hi, rfl, hW⟩ := hrel
    by_cases hin : i < n1
    · obtain ⟨b1, o1, rfl, hb1, hc1⟩ := HA.out (by rw [nats_length]; have := HN.out; omega)
      obtain ⟨b2, o2, rfl, hb2, hc2⟩ := HB.out (by rw [nats_length]; have := HN.out; omega)
      obtain ⟨x, hx⟩ : ∃ p, l[i]? = some p := ⟨_, List.getElem?_eq_getElem (by have := HN.out; omega)⟩
      have q1 := (hW.cell (p := ⟨b1, o1 + i, none⟩) hb1).trans (hc1 i (.int .i64 (x : Int)) (by simp [nats, hx, nat1]))
      have q3 := (hW.cell (p := ⟨b2, o2 + i, none⟩) hb2).trans (hc2 i (.int .i64 (x : Int)) (by simp [nats, hx, nat1]))
      have hi1 : (0 : Int) ≤ (i : Int) := by omega
      have hi2 : (i : Int) < (n1 : Int) := by omega
      have hx1 : ((x : Int) != x) = false := by simp
      clear hc1 hc2 hx
      go_wp2_with fail
      go_quiet (fail)
      go_wp2_with fail
      go_roundw
      case rel => exact ⟨i + 1, by omega, rfl, by refine below_drewN ?_ _; exact hW⟩
      case measure => simp [intOf]; omega
    · go_wp2_with fail
      go_ret
      exact ⟨rfl, hW⟩
theorem vals_i64 {w : World} {b : Nat} {n : Nat} {f : Tm} (h : w.rowIs b 2 n (i64s f)) : Vals w (some ⟨b, 0, none⟩) (ints ((List.range n).map f)) := by
  obtain ⟨a, c, e, h2⟩ := IsVals.row (cap := n) h
  simp only [Value.slice.injEq] at e
  rw [e.1]
  have : ints ((List.range n).map f) = (List.range n).map (i64s f) := by simp [ints, i64s, Function.comp_def]
  rw [this]; exact h2
theorem vals_own {w : World} {H g n cap : Nat} {l : List Nat} (h : w.ownsRow H 3 1 (.slice (some ⟨g, 0, none⟩) n cap) n (nats l)) : Vals w (some ⟨g, 0, none⟩) (nats l) := by
  obtain ⟨a, c, e, j⟩ := IsVals.own h
  simp only [Value.slice.injEq] at e
  rw [e.1]; exact j
theorem plan_row (w : World) (n ge gl : Nat) (S : Int) : (w.alloc (.cells #[.slice (some ⟨ge, 0, none⟩) n n, .slice (some ⟨gl, 0, none⟩) n n, .int .i64 S] 55)).rowIs w.heap.size 55 3 (planF n ge gl S) := by
  refine World.rowIs_alloc w _ _ _ fun i hi => ?_
  have hi : i < 3 := hi
  have : i = 0 ∨ i = 1 ∨ i = 2 := by omega
  rcases this with rfl | rfl | rfl <;> rfl
set_option maxRecDepth 100000 in
set_option maxHeartbeats 4000000 in
theorem pathLaw_bad (z : Int) (L : El) (D : List Int) (a b : Option Addr) (l cap m cap2 : Nat) (w : World) (hn : l = L.length) (hmax : l ≤ 9223372036854775807) (hL : Edges w a L) (hm : m = D.length) (hmax2 : m ≤ 9223372036854775807) (hD : Vals w b (ints D)) (hb : timesE z L D ≠ 0) :
    Calls Try.prog 6 #[.int .i64 z, .slice a l cap, .slice b m cap2] w fun e w' => e = .returned (.bool true) ∧ Below w.heap.size w w' := by
  have HL := Lib.hid hL
  have HN := Lib.hid hn
  have HD := Lib.hid hD
  have HM := Lib.hid hm
  have HB := Lib.hid hb
  have hbb : (timesE z L D != 0) = true := by simp [hb]
  have hee : (timesE z L D == timesE z L D) = true := by simp
  clear hL hn hD hm hb
  by_cases h25 : 25 < z
  · have h25b : decide (25 < z) = true := by simp [h25]
    by_cases h60 : z ≤ 60
    · have h60b : decide (z ≤ 60) = true := by simp [h60]
      go_enter Try.func6, Try.ntmps6
      go_wp2_with (first
        | (go_at_call 29; refine Calls.mono (Times_bad z L D _ _ _ _ _ _ _ HN.out hmax HL.out HM.out hmax2 HD.out HB.out) ?_; rintro e w1 ⟨rfl, hB1⟩; have HA := Lib.hid (hB1.alloc hB1.size (.cells #[.slice none 0 0, .slice none 0 0, .int .i64 0] 55)); have HR := Lib.hid (plan_res w1))
        | (go_at_call 30; refine Calls.mono (Crit_bad z L D _ _ _ _ _ _ _ HN.out hmax (HL.out.below HA.out (Nat.le_refl _)) HM.out hmax2 (HD.out.below HA.out (Nat.le_refl _)) HB.out) ?_; rintro e w2 ⟨rfl, hC⟩; replace HA := Lib.hid (HA.out.trans (hC.mono HA.out.size)); replace HR := Lib.hid (rowIs_below HR.out hC HR.out.lt))
        | (go_at_call 31; refine Calls.mono (Way_bad z L D _ _ _ _ _ _ _ HN.out hmax (HL.out.below HA.out (Nat.le_refl _)) HM.out hmax2 (HD.out.below HA.out (Nat.le_refl _)) HB.out) ?_; rintro e w3 ⟨rfl, hC⟩; replace HA := Lib.hid (HA.out.trans (hC.mono HA.out.size)); replace HR := Lib.hid (rowIs_below HR.out hC HR.out.lt))
        | (go_at_call 18; refine Calls.mono (tFault_any z L D _ _ _ _ _ _ _ HN.out hmax (HL.out.below HA.out (Nat.le_refl _)) HM.out hmax2 (HD.out.below HA.out (Nat.le_refl _))) ?_; rintro e w4 ⟨rfl, hC⟩; replace HA := Lib.hid (HA.out.trans (hC.mono HA.out.size)); replace HR := Lib.hid (rowIs_below HR.out hC HR.out.lt); have c0 := HR.out.cell (i := 0) (by omega); have c1 := HR.out.cell (i := 1) (by omega); have c2 := HR.out.cell (i := 2) (by omega); have hrl := HR.out.lt; unfold planZ at c0 c1 c2; simp only [if_true, if_false, Nat.reduceEqDiff] at c0 c1 c2)
        | (go_at_call 32; refine Calls.mono (samePlan_yes [] [] none none none none 0 0 0 0 0 0 0 0 0 _ rfl rfl rfl rfl (by simp) (by simp) (fun h => absurd h (by simp [ints])) (fun h => absurd h (by simp [ints])) (fun h => absurd h (by simp [ints])) (fun h => absurd h (by simp [ints]))) ?_; rintro e w5 ⟨rfl, hC⟩; replace HA := Lib.hid (HA.out.trans (hC.mono HA.out.size))))
      go_ret
      exact ⟨rfl, HA.out⟩
    · have h60b : decide (z ≤ 60) = false := by simp [h60]
      go_enter Try.func6, Try.ntmps6
      go_wp2_with (first
        | (go_at_call 29; refine Calls.mono (Times_bad z L D _ _ _ _ _ _ _ HN.out hmax HL.out HM.out hmax2 HD.out HB.out) ?_; rintro e w1 ⟨rfl, hB1⟩; have HA := Lib.hid (hB1.alloc hB1.size (.cells #[.slice none 0 0, .slice none 0 0, .int .i64 0] 55)); have HR := Lib.hid (plan_res w1))
        | (go_at_call 30; refine Calls.mono (Crit_bad z L D _ _ _ _ _ _ _ HN.out hmax (HL.out.below HA.out (Nat.le_refl _)) HM.out hmax2 (HD.out.below HA.out (Nat.le_refl _)) HB.out) ?_; rintro e w2 ⟨rfl, hC⟩; replace HA := Lib.hid (HA.out.trans (hC.mono HA.out.size)); replace HR := Lib.hid (rowIs_below HR.out hC HR.out.lt))
        | (go_at_call 31; refine Calls.mono (Way_bad z L D _ _ _ _ _ _ _ HN.out hmax (HL.out.below HA.out (Nat.le_refl _)) HM.out hmax2 (HD.out.below HA.out (Nat.le_refl _)) HB.out) ?_; rintro e w3 ⟨rfl, hC⟩; replace HA := Lib.hid (HA.out.trans (hC.mono HA.out.size)); replace HR := Lib.hid (rowIs_below HR.out hC HR.out.lt))
        | (go_at_call 18; refine Calls.mono (tFault_any z L D _ _ _ _ _ _ _ HN.out hmax (HL.out.below HA.out (Nat.le_refl _)) HM.out hmax2 (HD.out.below HA.out (Nat.le_refl _))) ?_; rintro e w4 ⟨rfl, hC⟩; replace HA := Lib.hid (HA.out.trans (hC.mono HA.out.size)); replace HR := Lib.hid (rowIs_below HR.out hC HR.out.lt); have c0 := HR.out.cell (i := 0) (by omega); have c1 := HR.out.cell (i := 1) (by omega); have c2 := HR.out.cell (i := 2) (by omega); have hrl := HR.out.lt; unfold planZ at c0 c1 c2; simp only [if_true, if_false, Nat.reduceEqDiff] at c0 c1 c2)
        | (go_at_call 32; refine Calls.mono (samePlan_yes [] [] none none none none 0 0 0 0 0 0 0 0 0 _ rfl rfl rfl rfl (by simp) (by simp) (fun h => absurd h (by simp [ints])) (fun h => absurd h (by simp [ints])) (fun h => absurd h (by simp [ints])) (fun h => absurd h (by simp [ints]))) ?_; rintro e w5 ⟨rfl, hC⟩; replace HA := Lib.hid (HA.out.trans (hC.mono HA.out.size))))
      go_ret
      exact ⟨rfl, HA.out⟩
  · have h25b : decide (25 < z) = false := by simp [h25]
    go_enter Try.func6, Try.ntmps6
    go_wp2_with (first
        | (go_at_call 29; refine Calls.mono (Times_bad z L D _ _ _ _ _ _ _ HN.out hmax HL.out HM.out hmax2 HD.out HB.out) ?_; rintro e w1 ⟨rfl, hB1⟩; have HA := Lib.hid (hB1.alloc hB1.size (.cells #[.slice none 0 0, .slice none 0 0, .int .i64 0] 55)); have HR := Lib.hid (plan_res w1))
        | (go_at_call 30; refine Calls.mono (Crit_bad z L D _ _ _ _ _ _ _ HN.out hmax (HL.out.below HA.out (Nat.le_refl _)) HM.out hmax2 (HD.out.below HA.out (Nat.le_refl _)) HB.out) ?_; rintro e w2 ⟨rfl, hC⟩; replace HA := Lib.hid (HA.out.trans (hC.mono HA.out.size)); replace HR := Lib.hid (rowIs_below HR.out hC HR.out.lt))
        | (go_at_call 31; refine Calls.mono (Way_bad z L D _ _ _ _ _ _ _ HN.out hmax (HL.out.below HA.out (Nat.le_refl _)) HM.out hmax2 (HD.out.below HA.out (Nat.le_refl _)) HB.out) ?_; rintro e w3 ⟨rfl, hC⟩; replace HA := Lib.hid (HA.out.trans (hC.mono HA.out.size)); replace HR := Lib.hid (rowIs_below HR.out hC HR.out.lt))
        | (go_at_call 18; refine Calls.mono (tFault_any z L D _ _ _ _ _ _ _ HN.out hmax (HL.out.below HA.out (Nat.le_refl _)) HM.out hmax2 (HD.out.below HA.out (Nat.le_refl _))) ?_; rintro e w4 ⟨rfl, hC⟩; replace HA := Lib.hid (HA.out.trans (hC.mono HA.out.size)); replace HR := Lib.hid (rowIs_below HR.out hC HR.out.lt); have c0 := HR.out.cell (i := 0) (by omega); have c1 := HR.out.cell (i := 1) (by omega); have c2 := HR.out.cell (i := 2) (by omega); have hrl := HR.out.lt; unfold planZ at c0 c1 c2; simp only [if_true, if_false, Nat.reduceEqDiff] at c0 c1 c2)
        | (go_at_call 32; refine Calls.mono (samePlan_yes [] [] none none none none 0 0 0 0 0 0 0 0 0 _ rfl rfl rfl rfl (by simp) (by simp) (fun h => absurd h (by simp [ints])) (fun h => absurd h (by simp [ints])) (fun h => absurd h (by simp [ints])) (fun h => absurd h (by simp [ints]))) ?_; rintro e w5 ⟨rfl, hC⟩; replace HA := Lib.hid (HA.out.trans (hC.mono HA.out.size))))
    go_ret
    exact ⟨rfl, HA.out⟩
theorem crit_same {n : Nat} {L : El} {d E T E' T' : Tm} {S S' : Int} {row : List Nat} {w : World} {v : Value} (hO : Gr.Ok n L) (hT : Gr.Topo n L row) (h1 : Gr.IsE n L d E) (h2 : Gr.IsS n d E S) (h3 : Gr.IsL n L d S T) (g1 : Gr.IsE n L d E') (g2 : Gr.IsS n d E' S') (g3 : Gr.IsL n L d S' T') (hv : IsVals w v (nats (Gr.yes (fun i => E' i == T' i) n))) : IsVals w v (nats (Gr.yes (fun i => E i == T i) n)) := by
  have e1 := h1.uniq hT g1
  have e2 : S = S' := IsS_uniq h2 ⟨g2.pos, fun i hi => by rw [e1 i hi]; exact g2.ge i hi, by
    rcases g2.eq with e | ⟨i, hi, e⟩
    · exact .inl e
    · exact .inr ⟨i, hi, by rw [e1 i hi]; exact e⟩⟩
  subst e2
  have e3 := h3.uniq hO hT g3
  rw [Gr.yes_congr (g := fun i => E' i == T' i) fun i hi => by rw [e1 i hi, e3 i hi]]
  exact hv
theorem way_same {n : Nat} {L : El} {d E T E' T' : Tm} {S S' : Int} {row l : List Nat} (hO : Gr.Ok n L) (hT : Gr.Topo n L row) (h1 : Gr.IsE n L d E) (h2 : Gr.IsS n d E S) (h3 : Gr.IsL n L d S T) (g1 : Gr.IsE n L d E') (g2 : Gr.IsS n d E' S') (g3 : Gr.IsL n L d S' T') (hv : WayR n L d E' T' S' (leastI (fun i => E' i == 0 && T' i == 0) n) l) : WayR n L d E T S (leastI (fun i => E i == 0 && T i == 0) n) l := by
  have e1 := h1.uniq hT g1
  have e2 : S = S' := IsS_uniq h2 ⟨g2.pos, fun i hi => by rw [e1 i hi]; exact g2.ge i hi, by
    rcases g2.eq with e | ⟨i, hi, e⟩
    · exact .inl e
    · exact .inr ⟨i, hi, by rw [e1 i hi]; exact e⟩⟩
  subst e2
  have e3 := h3.uniq hO hT g3
  have := hv.congr (E' := E) (T' := T) (fun i hi => (e1 i hi).symm) (fun i hi => (e3 i hi).symm) rfl (leastI_lt _ _)
  rw [leastI_congr (q := fun i => E' i == 0 && T' i == 0) fun i hi => by rw [e1 i hi, e3 i hi]]
  exact this
set_option maxRecDepth 100000 in
set_option maxHeartbeats 8000000 in
theorem pathLaw_good (n : Nat) (L : El) (D : List Int) (a b : Option Addr) (l cap m cap2 : Nat) (w : World) (hn : l = L.length) (hmax : l ≤ 9223372036854775807) (hL : Edges w a L) (hm : m = D.length) (hmax2 : m ≤ 9223372036854775807) (hD : Vals w b (ints D)) (hF : Fine n L D) :
    Calls Try.prog 6 #[.int .i64 n, .slice a l cap, .slice b m cap2] w fun e w' => e = .returned (.bool true) ∧ Below w.heap.size w w' := by
  obtain ⟨_, z1, _, _, g2, g3⟩ := graphE_good hF.g
  have HO := Lib.hid (okG g3)
  have HT := Lib.hid (Gr.topo (okG g3) hF.k)
  have HTE := Lib.hid (timesE_ok hF.g hF.len hF.d hF.k)
  have h60 : n ≤ 60 := by omega
  have hl4 : l ≤ 400 := by omega
  have HL := Lib.hid hL
  have HN := Lib.hid hn
  have HD := Lib.hid hD
  have HM := Lib.hid hm
  have HF := Lib.hid hF
  obtain ⟨qm, hqm⟩ : ∃ qm : Tm → Tm → Nat, ∀ E T, (Gr.yes (fun i => E i == T i) n).length = qm E T := ⟨_, fun _ _ => rfl⟩
  have HQM := Lib.hid hqm
  have HDP : Hid (∀ i, i < n → 0 ≤ dur D i ∧ dur D i ≤ 1000000000) := Lib.hid fun i hi => okD_at hF.d (show D[i]? = some (dur D i) by simp [dur, List.getElem?_eq_getElem (show i < D.length by have := hF.len; omega)])
  obtain ⟨ord, hord⟩ : ∃ r, r = (Gr.steps n L n).row := ⟨_, rfl⟩
  rw [← hord] at HT
  clear hL hn hD hm hF g3 hqm hord
  by_cases h25 : 25 < n
  · have h25b : decide ((25 : Int) < n) = true := by simp; omega
    have h60b : decide ((n : Int) ≤ 60) = true := by simp; omega
    go_enter Try.func6, Try.ntmps6
    go_wp2_with (first
        | (go_at_call 29; refine Calls.mono (Times_good n L D _ _ _ _ _ _ _ HN.out HL.out HM.out HD.out HF.out) ?_; rintro e w1 ⟨ge, gl, E, T, S, rfl, hE, hS, hT, hRE, hRT, -, hge, hgl, hB1⟩; have HE := Lib.hid hE; have HS := Lib.hid hS; have HTL := Lib.hid hT; have HRE := Lib.hid (hRE.alloc (.cells #[.slice (some ⟨ge, 0, none⟩) n n, .slice (some ⟨gl, 0, none⟩) n n, .int .i64 S] 55)); have HRT := Lib.hid (hRT.alloc (.cells #[.slice (some ⟨ge, 0, none⟩) n n, .slice (some ⟨gl, 0, none⟩) n n, .int .i64 S] 55)); have HP := Lib.hid (plan_row w1 n ge gl S); have HA := Lib.hid (hB1.alloc hB1.size (.cells #[.slice (some ⟨ge, 0, none⟩) n n, .slice (some ⟨gl, 0, none⟩) n n, .int .i64 S] 55)); clear hE hS hT hRE hRT hge hgl)
        | (go_at_call 30; refine Calls.mono (Crit_good n L D _ _ _ _ _ _ _ HN.out (HL.out.below HA.out (Nat.le_refl _)) HM.out (HD.out.below HA.out (Nat.le_refl _)) HF.out) ?_; rintro e w2 ⟨E', T', S', hE', hS', hT', v, rfl, hv, hC⟩; replace hv := crit_same HO.out HT.out HE.out HS.out HTL.out hE' hS' hT' hv; obtain ⟨a1, c1, rfl, j1⟩ := hv; rw [nats_length, HQM.out E T]; have HJ1 := Lib.hid j1; clear j1 hE' hS' hT'; replace HA := Lib.hid (HA.out.trans (hC.mono HA.out.size)); replace HRE := Lib.hid (rowIs_below HRE.out hC HRE.out.lt); replace HRT := Lib.hid (rowIs_below HRT.out hC HRT.out.lt); replace HP := Lib.hid (rowIs_below HP.out hC HP.out.lt))
        | (go_at_call 31; refine Calls.mono (Way_good n L D _ _ _ _ _ _ _ HN.out (HL.out.below HA.out (Nat.le_refl _)) HM.out (HD.out.below HA.out (Nat.le_refl _)) HF.out) ?_; rintro e w3 ⟨E', T', S', row, hE', hS', hT', hW, v, rfl, hv, hC⟩; have HWR := Lib.hid (way_same HO.out HT.out HE.out HS.out HTL.out hE' hS' hT' hW); obtain ⟨a2, c2, rfl, j2⟩ := hv; obtain ⟨rl, hrl⟩ : ∃ r, row.length = r := ⟨_, rfl⟩; have HRL := Lib.hid hrl; rw [nats_length, HRL.out]; have HJ2 := Lib.hid j2; clear j2 hE' hS' hT' hW hrl; replace HA := Lib.hid (HA.out.trans (hC.mono HA.out.size)); replace HRE := Lib.hid (rowIs_below HRE.out hC HRE.out.lt); replace HRT := Lib.hid (rowIs_below HRT.out hC HRT.out.lt); replace HP := Lib.hid (rowIs_below HP.out hC HP.out.lt); replace HJ1 := Lib.hid (HJ1.out.below hC (Nat.le_refl _)))
        | (go_at_call 18; refine Calls.mono (tFault_any n L D _ _ _ _ _ _ _ HN.out hmax (HL.out.below HA.out (Nat.le_refl _)) HM.out hmax2 (HD.out.below HA.out (Nat.le_refl _))) ?_; rintro e w4 ⟨rfl, hC⟩; rw [HTE.out]; replace HA := Lib.hid (HA.out.trans (hC.mono HA.out.size)); replace HRE := Lib.hid (rowIs_below HRE.out hC HRE.out.lt); replace HRT := Lib.hid (rowIs_below HRT.out hC HRT.out.lt); replace HP := Lib.hid (rowIs_below HP.out hC HP.out.lt); replace HJ1 := Lib.hid (HJ1.out.below hC (Nat.le_refl _)); replace HJ2 := Lib.hid (HJ2.out.below hC (Nat.le_refl _)))
        | (go_at_call 33; refine Calls.mono (PlanOf_good n L D _ _ _ _ _ _ E T S _ HN.out (HL.out.below HA.out (Nat.le_refl _)) HM.out (HD.out.below HA.out (Nat.le_refl _)) HF.out HE.out HS.out HTL.out) ?_; rintro e w5 ⟨ge2, gl2, rfl, hRE2, hRT2, -, -, hC⟩; have HRE2 := Lib.hid hRE2; have HRT2 := Lib.hid hRT2; clear hRE2 hRT2; replace HA := Lib.hid (HA.out.trans (hC.mono HA.out.size)); replace HRE := Lib.hid (rowIs_below HRE.out hC HRE.out.lt); replace HRT := Lib.hid (rowIs_below HRT.out hC HRT.out.lt); replace HP := Lib.hid (rowIs_below HP.out hC HP.out.lt); replace HJ1 := Lib.hid (HJ1.out.below hC (Nat.le_refl _)); replace HJ2 := Lib.hid (HJ2.out.below hC (Nat.le_refl _))))
    go_ret
    exact ⟨rfl, HA.out⟩
  · have h25b : decide ((25 : Int) < n) = false := by simp; omega
    go_enter Try.func6, Try.ntmps6
    go_wp2_with (first
        | (go_at_call 29; refine Calls.mono (Times_good n L D _ _ _ _ _ _ _ HN.out HL.out HM.out HD.out HF.out) ?_; rintro e w1 ⟨ge, gl, E, T, S, rfl, hE, hS, hT, hRE, hRT, -, hge, hgl, hB1⟩; have HE := Lib.hid hE; have HS := Lib.hid hS; have HTL := Lib.hid hT; have HRE := Lib.hid (hRE.alloc (.cells #[.slice (some ⟨ge, 0, none⟩) n n, .slice (some ⟨gl, 0, none⟩) n n, .int .i64 S] 55)); have HRT := Lib.hid (hRT.alloc (.cells #[.slice (some ⟨ge, 0, none⟩) n n, .slice (some ⟨gl, 0, none⟩) n n, .int .i64 S] 55)); have HP := Lib.hid (plan_row w1 n ge gl S); have HA := Lib.hid (hB1.alloc hB1.size (.cells #[.slice (some ⟨ge, 0, none⟩) n n, .slice (some ⟨gl, 0, none⟩) n n, .int .i64 S] 55)); clear hE hS hT hRE hRT hge hgl)
        | (go_at_call 30; refine Calls.mono (Crit_good n L D _ _ _ _ _ _ _ HN.out (HL.out.below HA.out (Nat.le_refl _)) HM.out (HD.out.below HA.out (Nat.le_refl _)) HF.out) ?_; rintro e w2 ⟨E', T', S', hE', hS', hT', v, rfl, hv, hC⟩; replace hv := crit_same HO.out HT.out HE.out HS.out HTL.out hE' hS' hT' hv; obtain ⟨a1, c1, rfl, j1⟩ := hv; rw [nats_length, HQM.out E T]; have HJ1 := Lib.hid j1; clear j1 hE' hS' hT'; replace HA := Lib.hid (HA.out.trans (hC.mono HA.out.size)); replace HRE := Lib.hid (rowIs_below HRE.out hC HRE.out.lt); replace HRT := Lib.hid (rowIs_below HRT.out hC HRT.out.lt); replace HP := Lib.hid (rowIs_below HP.out hC HP.out.lt))
        | (go_at_call 31; refine Calls.mono (Way_good n L D _ _ _ _ _ _ _ HN.out (HL.out.below HA.out (Nat.le_refl _)) HM.out (HD.out.below HA.out (Nat.le_refl _)) HF.out) ?_; rintro e w3 ⟨E', T', S', row, hE', hS', hT', hW, v, rfl, hv, hC⟩; have HWR := Lib.hid (way_same HO.out HT.out HE.out HS.out HTL.out hE' hS' hT' hW); obtain ⟨a2, c2, rfl, j2⟩ := hv; obtain ⟨rl, hrl⟩ : ∃ r, row.length = r := ⟨_, rfl⟩; have HRL := Lib.hid hrl; rw [nats_length, HRL.out]; have HJ2 := Lib.hid j2; clear j2 hE' hS' hT' hW hrl; replace HA := Lib.hid (HA.out.trans (hC.mono HA.out.size)); replace HRE := Lib.hid (rowIs_below HRE.out hC HRE.out.lt); replace HRT := Lib.hid (rowIs_below HRT.out hC HRT.out.lt); replace HP := Lib.hid (rowIs_below HP.out hC HP.out.lt); replace HJ1 := Lib.hid (HJ1.out.below hC (Nat.le_refl _)))
        | (go_at_call 18; refine Calls.mono (tFault_any n L D _ _ _ _ _ _ _ HN.out hmax (HL.out.below HA.out (Nat.le_refl _)) HM.out hmax2 (HD.out.below HA.out (Nat.le_refl _))) ?_; rintro e w4 ⟨rfl, hC⟩; rw [HTE.out]; replace HA := Lib.hid (HA.out.trans (hC.mono HA.out.size)); replace HRE := Lib.hid (rowIs_below HRE.out hC HRE.out.lt); replace HRT := Lib.hid (rowIs_below HRT.out hC HRT.out.lt); replace HP := Lib.hid (rowIs_below HP.out hC HP.out.lt); replace HJ1 := Lib.hid (HJ1.out.below hC (Nat.le_refl _)); replace HJ2 := Lib.hid (HJ2.out.below hC (Nat.le_refl _)))
        | (go_at_call 33; refine Calls.mono (PlanOf_good n L D _ _ _ _ _ _ E T S _ HN.out (HL.out.below HA.out (Nat.le_refl _)) HM.out (HD.out.below HA.out (Nat.le_refl _)) HF.out HE.out HS.out HTL.out) ?_; rintro e w5 ⟨ge2, gl2, rfl, hRE2, hRT2, -, -, hC⟩; have HRE2 := Lib.hid hRE2; have HRT2 := Lib.hid hRT2; clear hRE2 hRT2; replace HA := Lib.hid (HA.out.trans (hC.mono HA.out.size)); replace HRE := Lib.hid (rowIs_below HRE.out hC HRE.out.lt); replace HRT := Lib.hid (rowIs_below HRT.out hC HRT.out.lt); replace HP := Lib.hid (rowIs_below HP.out hC HP.out.lt); replace HJ1 := Lib.hid (HJ1.out.below hC (Nat.le_refl _)); replace HJ2 := Lib.hid (HJ2.out.below hC (Nat.le_refl _))))
    have hS0 : 0 ≤ S := HS.out.pos
    obtain ⟨W5, hW5⟩ : ∃ W, W = w5.alloc (.cells #[.slice (some ⟨ge2, 0, none⟩) n n, .slice (some ⟨gl2, 0, none⟩) n n, .int .i64 S] 55) := ⟨_, rfl⟩
    have hbW : Below w5.heap.size w5 W5 := by rw [hW5]; exact (Below.refl _ _).alloc (Nat.le_refl _) _
    have HP2 := Lib.hid (show W5.rowIs w5.heap.size 55 3 (planF n ge2 gl2 S) from by rw [hW5]; exact plan_row w5 n ge2 gl2 S)
    replace HA := Lib.hid (HA.out.trans (hbW.mono HA.out.size))
    replace HRE := Lib.hid (rowIs_below HRE.out hbW HRE.out.lt)
    replace HRT := Lib.hid (rowIs_below HRT.out hbW HRT.out.lt)
    replace HP := Lib.hid (rowIs_below HP.out hbW HP.out.lt)
    replace HRE2 := Lib.hid (rowIs_below HRE2.out hbW HRE2.out.lt)
    replace HRT2 := Lib.hid (rowIs_below HRT2.out hbW HRT2.out.lt)
    replace HJ1 := Lib.hid (HJ1.out.below hbW (Nat.le_refl _))
    replace HJ2 := Lib.hid (HJ2.out.below hbW (Nat.le_refl _))
    rw [← hW5]
    clear hW5 hbW
    go_loopw [15, 90] (fun v x wr => ∃ k : Nat, k ≤ n ∧ x = .int .i64 k ∧ Hid (wr.ownsRow W5.heap.size 3 1 v (Gr.yes (fun i => E i == T i) k).length (nats (Gr.yes (fun i => E i == T i) k))) ∧ Below W5.heap.size W5 wr) (fun _ x _ => n - (intOf x).toNat)
    case atStart => exact ⟨0, by omega, rfl, Lib.hid (World.ownsRow_nil _ _ _ _), Below.refl _ _⟩
    case round =>
      obtain ⟨k, hk, rfl, HOW, hB2⟩ := hrel
      have hsz := hB2.size
      have hP := rowIs_below HP2.out hB2 HP2.out.lt
      have p0 : wr.cell? ⟨w5.heap.size, 0, none⟩ = some (.slice (some ⟨ge2, 0, none⟩) n n) := hP.cell (i := 0) (by omega)
      have p1 : wr.cell? ⟨w5.heap.size, 1, none⟩ = some (.slice (some ⟨gl2, 0, none⟩) n n) := hP.cell (i := 1) (by omega)
      have p2 : wr.cell? ⟨w5.heap.size, 2, none⟩ = some (.int .i64 S) := hP.cell (i := 2) (by omega)
      have hgpl := hP.lt
      have hgel := (rowIs_below HRE2.out hB2 HRE2.out.lt).lt
      have hgll := (rowIs_below HRT2.out hB2 HRT2.out.lt).lt
      clear hP
      by_cases hkn : k < n
      · have HGO := Lib.hid (yes_go (fun i => E i == T i) k)
        have hlen := Gr.yes_length (fun i => E i == T i) k
        have e1 := (rowIs_below HRE2.out hB2 HRE2.out.lt).cell hkn
        have e2 := (rowIs_below HRT2.out hB2 HRT2.out.lt).cell hkn
        unfold i64s at e1 e2
        cases hb2 : (E k == T k) with
        | true =>
          have HB2 := Lib.hid hb2
          have HS2 := Lib.hid (HGO.out.trans (if_pos hb2))
          go_wp2_with fail
          go_quiet (fail)
          have hBq : Below wr.heap.size wr (wr.drewN nq) := (Drawn.drewN wr nq).below _
          have HOW2 := Lib.hid (ownsRow_below HOW.out hBq)
          have hB4 := hB2.trans (hBq.mono hsz)
          have hs4 := hB4.size
          clear HOW
          go_wp2_with (at_builtin; refine wpList_push _ (by rfl) _ _ 58 (by rfl) W5.heap.size 3 (.int .i64 0) 8 Try.underlying58 infoInt (by rfl) u15 (Gr.yes (fun i => E i == T i) k).length _ (nat1 k) _ rfl (by rfl) HOW2.out (by rfl) (by rfl) (by unfold maxLen; omega) (by omega) (by omega) ?_; intro gg cap2 w4 hown1 hgrow1 hgb hgl; have HPU := Lib.hid hown1; have hB5 := hB4.grown hgrow1 hs4 (ownBlock_ge HOW2.out (Nat.le_refl _)); clear hown1 hgrow1 hgb)
          have HO2 : Hid (w4.ownsRow W5.heap.size 3 1 (.slice (some ⟨gg, 0, none⟩) ((Gr.yes (fun i => E i == T i) k).length + 1) cap2) (Gr.yes (fun i => E i == T i) (k + 1)).length (nats (Gr.yes (fun i => E i == T i) (k + 1)))) := Lib.hid (by rw [HS2.out, nats_snoc]; simpa using HPU.out)
          go_roundw
          case rel => exact ⟨k + 1, by omega, rfl, HO2, hB5⟩
          case measure => simp [intOf]; omega
        | false =>
          have HB2 := Lib.hid hb2
          have HS2 := Lib.hid (HGO.out.trans (if_neg (by simp [hb2])))
          go_wp2_with fail
          go_quiet (fail)
          have hBq : Below wr.heap.size wr (wr.drewN nq) := (Drawn.drewN wr nq).below _
          have HO2 : Hid ((wr.drewN nq).ownsRow W5.heap.size 3 1 u15 (Gr.yes (fun i => E i == T i) (k + 1)).length (nats (Gr.yes (fun i => E i == T i) (k + 1)))) := Lib.hid (by rw [HS2.out]; exact ownsRow_below HOW.out hBq)
          have hB4 := hB2.trans (hBq.mono hsz)
          clear HOW
          go_wp2_with fail
          go_roundw
          case rel => exact ⟨k + 1, by omega, rfl, HO2, hB4⟩
          case measure => simp [intOf]; omega
      · obtain rfl : k = n := by omega
        obtain ⟨a3, c3, rfl, j3⟩ := IsVals.own HOW.out
        rw [nats_length, HQM.out E T]
        have HJ3 := Lib.hid j3
        clear j3 HOW
        have hP := rowIs_below HP.out hB2 HP.out.lt
        have o0 : wr.cell? ⟨w1.heap.size, 0, none⟩ = some (.slice (some ⟨ge, 0, none⟩) k k) := hP.cell (i := 0) (by omega)
        have o1 : wr.cell? ⟨w1.heap.size, 1, none⟩ = some (.slice (some ⟨gl, 0, none⟩) k k) := hP.cell (i := 1) (by omega)
        have o2 : wr.cell? ⟨w1.heap.size, 2, none⟩ = some (.int .i64 S) := hP.cell (i := 2) (by omega)
        have hopl := hP.lt
        clear hP
        have HA2 := Lib.hid (HA.out.trans (hB2.mono HA.out.size))
        have HV1 := Lib.hid (vals_i64 (rowIs_below HRE.out hB2 HRE.out.lt))
        have HV2 := Lib.hid (vals_i64 (rowIs_below HRT.out hB2 HRT.out.lt))
        have HV3 := Lib.hid (vals_i64 (rowIs_below HRE2.out hB2 HRE2.out.lt))
        have HV4 := Lib.hid (vals_i64 (rowIs_below HRT2.out hB2 HRT2.out.lt))
        have HJ1b := Lib.hid (HJ1.out.below hB2 (Nat.le_refl _))
        have hqm : qm E T ≤ 60 := by have := Gr.yes_length (fun i => E i == T i) k; rw [HQM.out E T] at this; omega
        go_wp2_with (first
          | (go_at_call 32; refine Calls.mono (samePlan_yes ((List.range k).map E) ((List.range k).map T) _ _ _ _ _ _ _ _ _ _ _ _ S _ (by simp) (by simp) (by simp) (by simp) (by simp; omega) (by simp; omega) HV1.out HV3.out HV2.out HV4.out) ?_; rintro e w6 ⟨rfl, hC6⟩; have HC6 := Lib.hid hC6; clear hC6)
          | (go_at_call 34; refine Calls.mono (eqNats (Gr.yes (fun i => E i == T i) k) a1 a3 _ _ _ _ _ (HQM.out E T).symm (HQM.out E T).symm (by rw [HQM.out E T]; omega) (HJ1b.out.below HC6.out (Nat.le_refl _)) (HJ3.out.below HC6.out (Nat.le_refl _))) ?_; rintro e w7 ⟨rfl, hC7⟩; have HC7 := Lib.hid hC7; clear hC7))
        have hB57 := hB2.trans ((HC6.out.trans (HC7.out.mono HC6.out.size)).mono hsz)
        have hW7 := (HC6.out.trans (HC7.out.mono HC6.out.size))
        have HA7 := Lib.hid (HA.out.trans (hB57.mono HA.out.size))
        have HP7 := Lib.hid (rowIs_below HP2.out hB57 HP2.out.lt)
        have HE7 := Lib.hid (rowIs_below HRE2.out hB57 HRE2.out.lt)
        have HJ27 := Lib.hid (HJ2.out.below hB57 (Nat.le_refl _))
        have HJ37 := Lib.hid (HJ3.out.below hW7 (Nat.le_refl _))
        have HD7 := Lib.hid (HD.out.below HA7.out (Nat.le_refl _))
        have HL7 := Lib.hid (HL.out.below HA7.out (Nat.le_refl _))
        obtain ⟨n, rfl⟩ : ∃ n, n = k := ⟨_, rfl⟩
        clear HA HP HP2 HRE HRT HRE2 HRT2 HJ1 HJ2 HJ3 HV1 HV2 HV3 HV4 HJ1b p0 p1 p2 o0 o1 o2 hB57 hW7 HC6 HC7 hgel hgll hgpl hopl HA2 hB2 hsz
        go_loopg [17, 18] (n + 1) (fun g v x wr => ∃ (pre : List Nat) (at' : Int), x = .int .i64 at' ∧ pre.length + g ≤ n + 1 ∧ Hid (wr.ownsRow w7.heap.size 3 1 v pre.length (nats pre)) ∧ Hid (WayI n L (dur D) E T S ord pre at' g) ∧ Below w7.heap.size w7 wr)
        case atStart => exact ⟨[], 0, rfl, by simp, Lib.hid (World.ownsRow_nil _ _ _ _), Lib.hid (WayI.start HO.out HT.out HE.out HS.out HTL.out HDP.out), Below.refl _ _⟩
        case round =>
          obtain ⟨pre, at', rfl, hpl, HOW, HWI, hB⟩ := hrel
          have hsz := hB.size
          by_cases hn0 : 0 < n
          · have hn0b : decide ((0 : Int) < (n : Int)) = true := by simp; omega
            obtain ⟨j, hjn, HLJ, HPJ⟩ := HWI.out.ex hn0
            obtain ⟨W, hW⟩ : ∃ W, W = wr := ⟨_, rfl⟩
            subst hW
            obtain ⟨gq, rfl⟩ : ∃ q, q = gk := ⟨_, rfl⟩
            obtain ⟨t1, t2⟩ := lawP_tight HPJ.out
            obtain ⟨ej0, ej1⟩ := fine_early HF.out HE.out j hjn
            have hat0 : 0 ≤ at' ∧ at' ≤ 60000000000 := by omega
            clear t1 t2 ej0 ej1
            obtain ⟨a4, c4, rfl, j4⟩ := IsVals.own HOW.out
            obtain ⟨pn, hpn⟩ : ∃ p, pre.length = p := ⟨_, rfl⟩
            rw [nats_length, hpn] at HOW ⊢
            have HPN := Lib.hid hpn
            have HJ4 := Lib.hid j4
            rw [hpn] at hpl
            clear hpn j4
            have hqb : qm E T ≤ n := by have := Gr.yes_length (fun i => E i == T i) n; rw [HQM.out E T] at this; exact this
            go_wp2_with fail
            go_loopw [19, 135] (fun v x wx => ∃ q : Nat, q ≤ qm E T ∧ v = .int .i64 (-1) ∧ x = .int .i64 q ∧ Hid (∀ (r i : Nat), r < q → (Gr.yes (fun i => E i == T i) n)[r]? = some i → lawP L E T pre at' i = false) ∧ Below W.heap.size W wx) (fun _ x _ => qm E T - (intOf x).toNat)
            case atStart => exact ⟨0, by omega, rfl, rfl, Lib.hid (fun r i h => absurd h (by omega)), Below.refl _ _⟩
            case round =>
              obtain ⟨q, hq, rfl, rfl, HNO, hB2⟩ := hrel
              have hsz2 := hB2.size
              have hB7 := hB.trans (hB2.mono hsz)
              have hsz7 := hB7.size
              by_cases hqq : q < qm E T
              · obtain ⟨k, hk⟩ : ∃ k, (Gr.yes (fun i => E i == T i) n)[q]? = some k := ⟨_, List.getElem?_eq_getElem (by rw [HQM.out E T]; exact hqq)⟩
                have hkn := (Gr.mem_yes.1 (List.mem_of_getElem? hk)).1
                have HKT : Hid ((E k == T k) = true) := Lib.hid (Gr.mem_yes.1 (List.mem_of_getElem? hk)).2
                have HK := Lib.hid hk
                obtain ⟨b3, o3, rfl, hb3, hat3⟩ := HJ37.out (by rw [nats_length, HQM.out E T]; omega)
                have c3 := (hB7.cell (p := ⟨b3, o3 + q, none⟩) hb3).trans (hat3 q (nat1 k) (by simp [nats, hk]))
                unfold nat1 at c3
                have hb3r : b3 < wr.heap.size := by omega
                have e1 := (rowIs_below HE7.out hB7 HE7.out.lt).cell hkn
                unfold i64s at e1
                have hgel := (rowIs_below HE7.out hB7 HE7.out.lt).lt
                have hP7 := rowIs_below HP7.out hB7 HP7.out.lt
                have p0 : wr.cell? ⟨w5.heap.size, 0, none⟩ = some (.slice (some ⟨ge2, 0, none⟩) n n) := hP7.cell (i := 0) (by omega)
                have hgpl := hP7.lt
                have hk1 : (0 : Int) ≤ (k : Int) := by omega
                have hk2 : (k : Int) < (n : Int) := by omega
                clear hat3 hk hP7
                cases hea : (E k == at') with
                | false =>
                  have HNO2 : Hid (∀ (r i : Nat), r < q + 1 → (Gr.yes (fun i => E i == T i) n)[r]? = some i → lawP L E T pre at' i = false) := Lib.hid fun r i hr hi => by
                    by_cases e : r = q
                    · subst e
                      rw [HK.out] at hi
                      obtain rfl := Option.some.inj hi
                      exact lawP_off hea
                    · exact HNO.out r i (by omega) hi
                  go_wp2_with fail
                  go_roundw
                  case rel => exact ⟨q + 1, by omega, rfl, rfl, HNO2, hB2⟩
                  case measure => simp [intOf]; omega
                | true =>
                  have HEA := Lib.hid hea
                  obtain ⟨bd, od, rfl, hbd, hatd⟩ := HD7.out (by simp [ints]; have := HM.out; have := HF.out.len; omega)
                  have d7 := hatd k (.int .i64 (dur D k)) (by simp [ints, dur, List.getElem?_eq_getElem (show k < D.length by have := HF.out.len; omega)])
                  have hkm : (k : Int) < (m : Int) := by have := HM.out; have := HF.out.len; omega
                  have hkm2 : k < m := by omega
                  obtain ⟨dk0, dk1⟩ := HDP.out k hkn
                  have hw1 : IntKind.i64.wrap (at' + dur D k) = at' + dur D k := IntWalk.i64_in _ (by omega)
                  clear hatd
                  rcases List.eq_nil_or_concat pre with rfl | ⟨pr, c, hpc⟩
                  · have HJK : Hid (j = k) := Lib.hid (by
                      have := first_yes (p := lawP L E T [] at') (fun i h => lawP_same i h) HK.out (lawP_nil_on HKT.out HEA.out) HNO.out
                      have h2 := HLJ.out
                      omega)
                    have hBF := hB7
                    obtain rfl : pn = 0 := by have := HPN.out; simpa using this.symm
                    have HOWF := Lib.hid (ownsRow_below HOW.out hB2)
                    have HJK2 := HJK.out
                    subst HJK2
                    have HPUSH := HOWF
                    have HTL2 := Lib.hid (lawP_tight HPJ.out)
                    by_cases hS : E j + dur D j = S
                    · have HPR := Lib.hid (HWI.out.last HLJ.out hS HWR.out)
                      have hat : at' + dur D j = S := by have := HTL2.out.1; omega
                      have hatb : (at' + dur D j == S) = true := by simp [hat]
                      have HRL2 := Lib.hid (show 0 + 1 = rl from by have h := HPR.out; have h2 := HRL.out; have h3 := HPN.out; rw [← h2, ← h]; simp at h3 ⊢ <;> omega)
                      clear hS
                      go_wp2_with (first
                        | (at_builtin; refine wpList_push _ (by rfl) _ _ 58 (by rfl) w7.heap.size 3 (.int .i64 0) 8 Try.underlying58 infoInt (by rfl) (.slice a4 0 c4) 0 _ (nat1 j) _ rfl (by rfl) HOWF.out (by rfl) (by rfl) (by unfold maxLen; omega) (by omega) (by omega) ?_; intro gg cap3 w9 hown1 hgrow1 hgb hgl; have HPU : Hid (Vals w9 (some ⟨gg, 0, none⟩) (nats row)) := Lib.hid (by rw [← HPR.out]; exact vals_own (by rw [nats_snoc]; simpa using hown1)); have hB9 := hBF.grown hgrow1 hBF.size (ownBlock_ge HOWF.out (Nat.le_refl _)); clear hown1 hgrow1 hgb; have hs9 := hB9.size; have d9 := (hB9.cell (p := ⟨bd, od + j, none⟩) hbd).trans d7; have hbd9 : bd < w9.heap.size := Nat.lt_of_lt_of_le hbd hs9; have p9 := (rowIs_below HP7.out hB9 HP7.out.lt).cell (i := 2) (by omega); have l9 := (rowIs_below HP7.out hB9 HP7.out.lt).lt; unfold planF at p9; simp only [if_false, Nat.reduceEqDiff] at p9; have HJ29 := Lib.hid (HJ27.out.below hB9 (Nat.le_refl _)))
                        | (go_at_call 34; refine Calls.mono (eqNats row a2 _ _ _ _ _ _ HRL.out.symm (HRL2.out.trans HRL.out.symm) (by have := HRL.out; have := HRL2.out; omega) HJ29.out HPU.out) ?_; rintro e w10 ⟨rfl, hC10⟩))
                      go_ret
                      exact ⟨rfl, HA7.out.trans ((hB9.trans (hC10.mono hB9.size)).mono HA7.out.size)⟩
                    · have HST := Lib.hid (HWI.out.step HO.out HT.out HE.out HS.out HTL.out hjn HLJ.out HPJ.out hS)
                      have hat : at' + dur D j ≠ S := by have := HTL2.out.1; omega
                      have hatb : (at' + dur D j == S) = false := by simp [hat]
                      clear hS hat
                      go_wp2_with (first
                        | (at_builtin; refine wpList_push _ (by rfl) _ _ 58 (by rfl) w7.heap.size 3 (.int .i64 0) 8 Try.underlying58 infoInt (by rfl) (.slice a4 0 c4) 0 _ (nat1 j) _ rfl (by rfl) HOWF.out (by rfl) (by rfl) (by unfold maxLen; omega) (by omega) (by omega) ?_; intro gg cap3 w9 hown1 hgrow1 hgb hgl; have HPU := Lib.hid hown1; have hB9 := hBF.grown hgrow1 hBF.size (ownBlock_ge HOWF.out (Nat.le_refl _)); clear hown1 hgrow1 hgb; have hs9 := hB9.size; have d9 := (hB9.cell (p := ⟨bd, od + j, none⟩) hbd).trans d7; have hbd9 : bd < w9.heap.size := Nat.lt_of_lt_of_le hbd hs9; have p9 := (rowIs_below HP7.out hB9 HP7.out.lt).cell (i := 2) (by omega); have l9 := (rowIs_below HP7.out hB9 HP7.out.lt).lt; unfold planF at p9; simp only [if_false, Nat.reduceEqDiff] at p9))
                      go_roundg (gq - 1)
                      case measure => exact Nat.sub_lt HST.out.1 (by omega)
                      case rel => exact ⟨[] ++ [j], at' + dur D j, rfl, by have h := HPN.out; have := HST.out.1; simp at h ⊢; omega, Lib.hid (by rw [nats_snoc, List.length_append, HPN.out]; simpa using HPU.out), HST.out.2, hB9⟩
                  · rw [List.concat_eq_append] at hpc
                    subst hpc
                    obtain ⟨pl, rfl⟩ : ∃ pl, pn = pl + 1 := ⟨pr.length, by have := HPN.out; simp at this; omega⟩
                    have HOWF := Lib.hid (ownsRow_below HOW.out hB2)
                    obtain ⟨b4, o4, rfl, hb4, hat4⟩ := (HJ4.out.below hB2 (Nat.le_refl _)) (by rw [nats_length, HPN.out]; omega)
                    have q4 := hat4 pl (nat1 c) (by have h := HPN.out; simp at h; simp [nats, ← h])
                    unfold nat1 at q4
                    clear hat4
                    have hpi1 : IntKind.i64.wrap (((pl + 1 : Nat) : Int) - 1) = (pl : Int) := by rw [IntWalk.i64_in _ (by omega)]; omega
                    have hpi2 : (0 : Int) ≤ (pl : Int) := by omega
                    have HL8 := Lib.hid (HL7.out.below hB7 (Nat.le_refl _))
                    have HLP := Lib.hid (lawP_snoc_on (L := L) (pre := pr) (c := c) HKT.out HEA.out)
                    cases hct : (L.any fun z => z.1 == (c : Int) && z.2 == (k : Int)) with
                    | true =>
                      have HCT := Lib.hid hct
                      have HJK : Hid (j = k) := Lib.hid (by
                        have := first_yes (p := lawP L E T (pr ++ [c]) at') (fun i h => lawP_same i h) HK.out (by rw [HLP.out]; exact HCT.out) HNO.out
                        have h2 := HLJ.out
                        omega)
                      clear hct
                      have HJK2 := HJK.out
                      subst HJK2
                      have HPUSH := HOWF
                      have HTL2 := Lib.hid (lawP_tight HPJ.out)
                      by_cases hS : E j + dur D j = S
                      · have HPR := Lib.hid (HWI.out.last HLJ.out hS HWR.out)
                        have hat : at' + dur D j = S := by have := HTL2.out.1; omega
                        have hatb : (at' + dur D j == S) = true := by simp [hat]
                        have HRL2 := Lib.hid (show pl + 1 + 1 = rl from by have h := HPR.out; have h2 := HRL.out; have h3 := HPN.out; rw [← h2, ← h]; simp at h3 ⊢ <;> omega)
                        clear hS
                        go_wp2_with (first
                          | (go_at_call 35; refine Calls.mono (contains_any L c j _ _ _ _ HN.out hmax HL8.out) ?_; rintro e w8 ⟨rfl, hC8⟩; rw [HCT.out]; have hBF := hB7.trans (hC8.mono hsz7); have hsF := hBF.size; replace HOWF := Lib.hid (ownsRow_below HOWF.out hC8))
                          | (at_builtin; refine wpList_push _ (by rfl) _ _ 58 (by rfl) w7.heap.size 3 (.int .i64 0) 8 Try.underlying58 infoInt (by rfl) (.slice (some ⟨b4, o4, none⟩) (pl + 1) c4) (pl + 1) _ (nat1 j) _ rfl (by rfl) HOWF.out (by rfl) (by rfl) (by unfold maxLen; omega) (by omega) (by omega) ?_; intro gg cap3 w9 hown1 hgrow1 hgb hgl; have HPU : Hid (Vals w9 (some ⟨gg, 0, none⟩) (nats row)) := Lib.hid (by rw [← HPR.out]; exact vals_own (by rw [nats_snoc]; simpa using hown1)); have hB9 := hBF.grown hgrow1 hBF.size (ownBlock_ge HOWF.out (Nat.le_refl _)); clear hown1 hgrow1 hgb; have hs9 := hB9.size; have d9 := (hB9.cell (p := ⟨bd, od + j, none⟩) hbd).trans d7; have hbd9 : bd < w9.heap.size := Nat.lt_of_lt_of_le hbd hs9; have p9 := (rowIs_below HP7.out hB9 HP7.out.lt).cell (i := 2) (by omega); have l9 := (rowIs_below HP7.out hB9 HP7.out.lt).lt; unfold planF at p9; simp only [if_false, Nat.reduceEqDiff] at p9; have HJ29 := Lib.hid (HJ27.out.below hB9 (Nat.le_refl _)))
                          | (go_at_call 34; refine Calls.mono (eqNats row a2 _ _ _ _ _ _ HRL.out.symm (HRL2.out.trans HRL.out.symm) (by have := HRL.out; have := HRL2.out; omega) HJ29.out HPU.out) ?_; rintro e w10 ⟨rfl, hC10⟩))
                        go_ret
                        exact ⟨rfl, HA7.out.trans ((hB9.trans (hC10.mono hB9.size)).mono HA7.out.size)⟩
                      · have HST := Lib.hid (HWI.out.step HO.out HT.out HE.out HS.out HTL.out hjn HLJ.out HPJ.out hS)
                        have hat : at' + dur D j ≠ S := by have := HTL2.out.1; omega
                        have hatb : (at' + dur D j == S) = false := by simp [hat]
                        clear hS hat
                        go_wp2_with (first
                          | (go_at_call 35; refine Calls.mono (contains_any L c j _ _ _ _ HN.out hmax HL8.out) ?_; rintro e w8 ⟨rfl, hC8⟩; rw [HCT.out]; have hBF := hB7.trans (hC8.mono hsz7); have hsF := hBF.size; replace HOWF := Lib.hid (ownsRow_below HOWF.out hC8))
                          | (at_builtin; refine wpList_push _ (by rfl) _ _ 58 (by rfl) w7.heap.size 3 (.int .i64 0) 8 Try.underlying58 infoInt (by rfl) (.slice (some ⟨b4, o4, none⟩) (pl + 1) c4) (pl + 1) _ (nat1 j) _ rfl (by rfl) HOWF.out (by rfl) (by rfl) (by unfold maxLen; omega) (by omega) (by omega) ?_; intro gg cap3 w9 hown1 hgrow1 hgb hgl; have HPU := Lib.hid hown1; have hB9 := hBF.grown hgrow1 hBF.size (ownBlock_ge HOWF.out (Nat.le_refl _)); clear hown1 hgrow1 hgb; have hs9 := hB9.size; have d9 := (hB9.cell (p := ⟨bd, od + j, none⟩) hbd).trans d7; have hbd9 : bd < w9.heap.size := Nat.lt_of_lt_of_le hbd hs9; have p9 := (rowIs_below HP7.out hB9 HP7.out.lt).cell (i := 2) (by omega); have l9 := (rowIs_below HP7.out hB9 HP7.out.lt).lt; unfold planF at p9; simp only [if_false, Nat.reduceEqDiff] at p9))
                        go_roundg (gq - 1)
                        case measure => exact Nat.sub_lt HST.out.1 (by omega)
                        case rel => exact ⟨(pr ++ [c]) ++ [j], at' + dur D j, rfl, by have h := HPN.out; have := HST.out.1; simp at h ⊢; omega, Lib.hid (by rw [nats_snoc, List.length_append, HPN.out]; simpa using HPU.out), HST.out.2, hB9⟩
                    | false =>
                      have HCT := Lib.hid hct
                      have HNO2 : Hid (∀ (r i : Nat), r < q + 1 → (Gr.yes (fun i => E i == T i) n)[r]? = some i → lawP L E T (pr ++ [c]) at' i = false) := Lib.hid fun r i hr hi => by
                        by_cases e : r = q
                        · subst e
                          rw [HK.out] at hi
                          obtain rfl := Option.some.inj hi
                          rw [HLP.out]; exact HCT.out
                        · exact HNO.out r i (by omega) hi
                      clear hct
                      go_wp2_with (go_at_call 35; refine Calls.mono (contains_any L c k _ _ _ _ HN.out hmax HL8.out) ?_; rintro e w8 ⟨rfl, hC8⟩; rw [HCT.out]; have hBF := hB2.trans (hC8.mono hsz2))
                      go_roundw
                      case rel => exact ⟨q + 1, by omega, rfl, rfl, HNO2, hBF⟩
                      case measure => simp [intOf]; omega
              · exfalso
                have h1 := last_yes (f := fun i => E i == T i) (p := lawP L E T pre at') (n := n) (fun i h => lawP_same i h) (by rw [HQM.out E T, ← show q = qm E T by omega]; exact HNO.out)
                have h2 := HLJ.out
                omega
          · have hn0b : decide ((0 : Int) < (n : Int)) = false := by simp; omega
            obtain ⟨a4, c4, rfl, j4⟩ := IsVals.own HOW.out
            have HPR := Lib.hid (HWI.out.done hn0 HWR.out)
            have HJ4 := Lib.hid j4
            rw [nats_length, HPR.out, HRL.out]
            rw [HPR.out] at HJ4
            clear j4 HOW
            have HJ2b := Lib.hid (HJ27.out.below hB (Nat.le_refl _))
            have hrm : rl ≤ 61 := by have := HPR.out; have := HRL.out; subst row; omega
            go_wp2_with (go_at_call 34; refine Calls.mono (eqNats row a2 a4 _ _ _ _ _ HRL.out.symm HRL.out.symm (by rw [HRL.out]; omega) HJ2b.out HJ4.out) ?_; rintro e w8 ⟨rfl, hC8⟩)
            go_ret
            exact ⟨rfl, HA7.out.trans ((hB.trans (hC8.mono hsz)).mono HA7.out.size)⟩
end Go.Proofs.Ytfjoakhcgpckgaa
