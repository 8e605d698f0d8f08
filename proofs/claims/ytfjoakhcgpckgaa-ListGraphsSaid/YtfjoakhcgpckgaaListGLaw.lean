/- The walk of the law ListGraphs: for all numbers of hands, things, edges and lengths it answers true. -/
import Derived.Test.YtfjoakhcgpckgaaListRun
import Derived.Test.YtfjoakhcgpckgaaPathRef
namespace Go.Proofs.Ytfjoakhcgpckgaa
open Go.ChangeShapes Go.WideShapes Go.ChangeAt Go.RowKit
set_option linter.unusedVariables false
set_option linter.unusedSimpArgs false
open Gr (El Tm)
open Ls
theorem sameTurns_yes (n gu gu2 c1 c2 : Nat) (f g : Tm) (w : World) (hn : n ≤ 60) (hA : w.rowIs gu 169 (2 * n) (turnsF f g)) (hB : w.rowIs gu2 169 (2 * n) (turnsF f g)) :
    Calls Try.prog 20 #[.slice (some ⟨gu, 0, none⟩) n c1, .slice (some ⟨gu2, 0, none⟩) n c2] w fun e w' => e = .returned (.bool true) ∧ Below w.heap.size w w' := by
  have HA := Lib.hid hA
  have HB := Lib.hid hB
  clear hA hB
  have hnb : ((n : Int) != n) = false := by simp
  go_enter Try.func20, Try.ntmps20
  go_wp2_with fail
  go_loopw [13] (fun x wr => ∃ i : Nat, i ≤ n ∧ x = .int .i64 i ∧ Below w.heap.size w wr) (fun x _ => n - (intOf x).toNat)
  case atStart => exact ⟨0, by omega, rfl, Below.refl _ _⟩
  case round =>
    obtain ⟨i, hi, rfl, hW⟩ := hrel
    by_cases hin : i < n
    · have HA2 := Lib.hid (rowIs_below HA.out hW HA.out.lt)
      have HB2 := Lib.hid (rowIs_below HB.out hW HB.out.lt)
      obtain ⟨q1, q2⟩ := turns_at HA2.out hin
      obtain ⟨q3, q4⟩ := turns_at HB2.out hin
      have h2i : i * 2 = 2 * i := by omega
      have l1 := HA2.out.lt
      have l2 := HB2.out.lt
      have hi1 : (0 : Int) ≤ (i : Int) := by omega
      have hi2 : (i : Int) < (n : Int) := by omega
      have hx1 : (f i == f i) = true := by simp
      have hy1 : (g i == g i) = true := by simp
      go_wp2_with fail
      go_quiet (fail)
      go_wp2_with fail
      go_roundw
      case rel => exact ⟨i + 1, by omega, rfl, by refine below_drewN ?_ _; exact hW⟩
      case measure => simp [intOf]; omega
    · go_wp2_with fail
      go_ret
      exact ⟨rfl, hW⟩
set_option maxHeartbeats 4000000 in
theorem listLaw_few (z y : Int) (L : El) (D : List Int) (a b : Option Addr) (l cap k cap2 : Nat) (w : World) (h : z < 1 ∨ 20 < z) (hn : l = L.length) (hmax : l ≤ 9223372036854775807) (hL : Edges w a L) (hm : k = D.length) (hmax2 : k ≤ 9223372036854775807) (hD : Vals w b (ints D)) :
    Calls Try.prog 4 #[.int .i64 z, .int .i64 y, .slice a l cap, .slice b k cap2] w fun e w' => e = .returned (.bool true) ∧ Below w.heap.size w w' := by
  have HL := Lib.hid hL
  have HN := Lib.hid hn
  have HD := Lib.hid hD
  have HM := Lib.hid hm
  have HH := Lib.hid h
  clear hL hn hD hm
  by_cases h1 : z < 1
  · have h1b : decide (z < 1) = true := by simp [h1]
    clear h
    go_enter Try.func4, Try.ntmps4
    go_wp2_with (first
      | (go_at_call 17; refine Calls.mono (Graph_few z y a b l cap k cap2 _ HH.out) ?_; rintro e w1 ⟨rfl, hB1⟩; have HA := Lib.hid hB1)
      | (go_at_call 18; refine Calls.mono (tFault_any y L D _ _ _ _ _ _ _ HN.out hmax (HL.out.below HA.out (Nat.le_refl _)) HM.out hmax2 (HD.out.below HA.out (Nat.le_refl _))) ?_; rintro e w4 ⟨rfl, hC⟩; replace HA := Lib.hid (HA.out.trans (hC.mono HA.out.size))))
    go_ret
    exact ⟨rfl, HA.out⟩
  · have h1b : decide (z < 1) = false := by simp [h1]
    have h2b : decide (z > 20) = true := by simp; omega
    clear h
    go_enter Try.func4, Try.ntmps4
    go_wp2_with (first
      | (go_at_call 17; refine Calls.mono (Graph_few z y a b l cap k cap2 _ HH.out) ?_; rintro e w1 ⟨rfl, hB1⟩; have HA := Lib.hid hB1)
      | (go_at_call 18; refine Calls.mono (tFault_any y L D _ _ _ _ _ _ _ HN.out hmax (HL.out.below HA.out (Nat.le_refl _)) HM.out hmax2 (HD.out.below HA.out (Nat.le_refl _))) ?_; rintro e w4 ⟨rfl, hC⟩; replace HA := Lib.hid (HA.out.trans (hC.mono HA.out.size))))
    go_ret
    exact ⟨rfl, HA.out⟩
set_option maxHeartbeats 4000000 in
theorem listLaw_bad (m : Nat) (z : Int) (L : El) (D : List Int) (a b : Option Addr) (l cap k cap2 : Nat) (w : World) (h1 : 1 ≤ m) (h2 : m ≤ 20) (hn : l = L.length) (hmax : l ≤ 9223372036854775807) (hL : Edges w a L) (hm : k = D.length) (hmax2 : k ≤ 9223372036854775807) (hD : Vals w b (ints D)) (hb : timesE z L D ≠ 0) :
    Calls Try.prog 4 #[.int .i64 m, .int .i64 z, .slice a l cap, .slice b k cap2] w fun e w' => e = .returned (.bool true) ∧ Below w.heap.size w w' := by
  have HL := Lib.hid hL
  have HN := Lib.hid hn
  have HD := Lib.hid hD
  have HM := Lib.hid hm
  have HB := Lib.hid hb
  have hbb : (timesE z L D != 0) = true := by simp [hb]
  have hee : (timesE z L D == timesE z L D) = true := by simp
  have h1b : decide ((m : Int) < 1) = false := by simp; omega
  have h2b : decide ((m : Int) > 20) = false := by simp; omega
  clear hL hn hD hm hb
  go_enter Try.func4, Try.ntmps4
  go_wp2_with (first
    | (go_at_call 17; refine Calls.mono (Graph_bad m z L D a b l cap k cap2 _ h1 h2 HN.out hmax HL.out HM.out hmax2 HD.out HB.out) ?_; rintro e w1 ⟨rfl, hB1⟩; have HA := Lib.hid hB1)
    | (go_at_call 18; refine Calls.mono (tFault_any z L D _ _ _ _ _ _ _ HN.out hmax (HL.out.below HA.out (Nat.le_refl _)) HM.out hmax2 (HD.out.below HA.out (Nat.le_refl _))) ?_; rintro e w4 ⟨rfl, hC⟩; replace HA := Lib.hid (HA.out.trans (hC.mono HA.out.size))))
  go_ret
  exact ⟨rfl, HA.out⟩
theorem turns_same {n gu : Nat} {r : St} {w : World} (h : leftN n r = 0) (hr : w.rowIs gu 169 (2 * n) (turnsF r.at_ (handZ r.hand))) : w.rowIs gu 169 (2 * n) (turnsF (atZ r) (hdZ r)) :=
  hr.congr fun c hc => by
    have hb : r.beg (c / 2) = true := by
      have := Gr.many_zero h (c / 2) (by omega)
      unfold not' at this
      simpa using this
    unfold turnsF
    rw [atZ_on hb, hdZ_on hb]
    rfl
set_option maxHeartbeats 4000000 in
theorem listLaw_good (m n : Nat) (L : El) (D : List Int) (a b : Option Addr) (l cap k cap2 : Nat) (w : World) (h1 : 1 ≤ m) (h2 : m ≤ 20) (hn : l = L.length) (hmax : l ≤ 9223372036854775807) (hL : Edges w a L) (hm : k = D.length) (hmax2 : k ≤ 9223372036854775807) (hD : Vals w b (ints D)) (hF : Fine n L D) :
    Calls Try.prog 4 #[.int .i64 m, .int .i64 n, .slice a l cap, .slice b k cap2] w fun e w' => e = .returned (.bool true) ∧ Below w.heap.size w w' := by
  have HL := Lib.hid hL
  have HN := Lib.hid hn
  have HD := Lib.hid hD
  have HM := Lib.hid hm
  have HF := Lib.hid hF
  have HTE := Lib.hid (timesE_ok hF.g hF.len hF.d hF.k)
  have h60 : n ≤ 60 := by obtain ⟨_, z1, _⟩ := graphE_good hF.g; omega
  have h1b : decide ((m : Int) < 1) = false := by simp; omega
  have h2b : decide ((m : Int) > 20) = false := by simp; omega
  clear hL hn hD hm hF
  by_cases h20 : 20 < n
  · have h20b : decide ((n : Int) > 20) = true := by simp; omega
    go_enter Try.func4, Try.ntmps4
    go_wp2_with (first
      | (go_at_call 17; refine Calls.mono (Graph_good m n L D a b l cap k cap2 _ h1 h2 HN.out HL.out HM.out HD.out HF.out) ?_; rintro e w1 ⟨gu, r, rfl, -, -, -, -, hB1⟩; have HA := Lib.hid hB1)
      | (go_at_call 18; refine Calls.mono (tFault_any n L D _ _ _ _ _ _ _ HN.out hmax (HL.out.below HA.out (Nat.le_refl _)) HM.out hmax2 (HD.out.below HA.out (Nat.le_refl _))) ?_; rintro e w4 ⟨rfl, hC⟩; rw [HTE.out]; replace HA := Lib.hid (HA.out.trans (hC.mono HA.out.size))))
    go_ret
    exact ⟨rfl, HA.out⟩
  · have h20b : decide ((n : Int) > 20) = false := by simp; omega
    go_enter Try.func4, Try.ntmps4
    go_wp2_with (first
      | (go_at_call 17; refine Calls.mono (Graph_good m n L D a b l cap k cap2 _ h1 h2 HN.out HL.out HM.out HD.out HF.out) ?_; rintro e w1 ⟨gu, r, rfl, hrun, hl0, -, hrow, hB1⟩; have HA := Lib.hid hB1; have HRUN := Lib.hid hrun; have HROW := Lib.hid (turns_same hl0 hrow); have hff : (r.fin == r.fin) = true := (by simp); clear hrun hl0 hrow)
      | (go_at_call 18; refine Calls.mono (tFault_any n L D _ _ _ _ _ _ _ HN.out hmax (HL.out.below HA.out (Nat.le_refl _)) HM.out hmax2 (HD.out.below HA.out (Nat.le_refl _))) ?_; rintro e w4 ⟨rfl, hC⟩; rw [HTE.out]; replace HA := Lib.hid (HA.out.trans (hC.mono HA.out.size)); replace HROW := Lib.hid (rowIs_below HROW.out hC HROW.out.lt))
      | (go_at_call 19; refine Calls.mono (GraphRun_good m n L D a b l cap k cap2 _ h1 h2 HN.out (HL.out.below HA.out (Nat.le_refl _)) HM.out (HD.out.below HA.out (Nat.le_refl _)) HF.out) ?_; rintro e w5 ⟨gu2, r2, rfl, hrun2, hrow2, hC⟩; obtain rfl := HRUN.out.uniq hrun2; have HROW2 := Lib.hid hrow2; clear hrun2 hrow2; replace HA := Lib.hid (HA.out.trans (hC.mono HA.out.size)); replace HROW := Lib.hid (rowIs_below HROW.out hC HROW.out.lt))
      | (go_at_call 20; refine Calls.mono (sameTurns_yes n gu gu2 _ _ _ _ _ h60 HROW.out HROW2.out) ?_; rintro e w6 ⟨rfl, hC⟩; replace HA := Lib.hid (HA.out.trans (hC.mono HA.out.size))))
    go_ret
    exact ⟨rfl, HA.out⟩
end Go.Proofs.Ytfjoakhcgpckgaa
