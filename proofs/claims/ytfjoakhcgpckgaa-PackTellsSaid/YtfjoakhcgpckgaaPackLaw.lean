/- The walk of the law PackTells: for all things, sizes and ways it answers true. -/
import Derived.Test.YtfjoakhcgpckgaaPackDown
import Derived.Test.YtfjoakhcgpckgaaPackRef
import Derived.Test.YtfjoakhcgpckgaaPackLeast
import Derived.Test.YtfjoakhcgpckgaaPackFew
import Derived.Test.YtfjoakhcgpckgaaPackBox
namespace Go.Proofs.Ytfjoakhcgpckgaa
open Go.ChangeShapes Go.WideShapes Go.ChangeAt Go.RowKit
set_option linter.unusedVariables false
open Wk St
set_option maxHeartbeats 1600000 in
theorem eqNumP (L : List Int) (v1 v2 : Value) (w : World) (hm : L.length ≤ 1000) (h1 : IsVals w v1 (ints64 L)) (h2 : IsVals w v2 (ints64 L)) :
    Calls Try.prog 34 #[v1, v2] w fun e w' => e = .returned (.bool true) ∧ Below w.heap.size w w' := by
  obtain ⟨a1, c1, rfl, hA⟩ := h1
  obtain ⟨a2, c2, rfl, hB⟩ := h2
  have HA := Lib.hid hA
  have HB := Lib.hid hB
  rw [i64len]
  obtain ⟨n, hn⟩ : ∃ n, L.length = n := ⟨_, rfl⟩
  have HN := Lib.hid hn
  rw [hn] at hm ⊢
  clear hA hB hn
  have hnb : ((n : Int) != n) = false := by simp
  go_enter Try.func34, Try.ntmps34
  go_wp2_with fail
  go_loopw [13] (fun x wr => ∃ i : Nat, i ≤ n ∧ x = .int .i64 i ∧ Below w.heap.size w wr) (fun x _ => n - (intOf x).toNat)
  case atStart => exact ⟨0, by omega, rfl, Below.refl _ _⟩
  case round =>
    obtain ⟨i, hi, rfl, hW⟩ := hrel
    by_cases hin : i < n
    · obtain ⟨x, hx⟩ : ∃ p, L[i]? = some p := ⟨_, List.getElem?_eq_getElem (by have := HN.out; omega)⟩
      obtain ⟨b1, o1, rfl, hb1, hc1⟩ := i64at HA.out hx
      obtain ⟨b2, o2, rfl, hb2, hc2⟩ := i64at HB.out hx
      have q1 := (hW.cell (p := ⟨b1, o1 + i, none⟩) hb1).trans hc1
      have q2 := (hW.cell (p := ⟨b2, o2 + i, none⟩) hb2).trans hc2
      have hi1 : (0 : Int) ≤ (i : Int) := by omega
      have hi2 : (i : Int) < (n : Int) := by omega
      have hx1 : (x == x) = true := by simp
      clear hc1 hc2 hx
      go_wp2_with fail
      go_quiet (fail)
      go_wp2_with fail
      go_roundw
      case rel => exact ⟨i + 1, by omega, rfl, by refine below_drewN ?_ _; exact hW⟩
      case measure => simp [intOf]; omega
    · go_wp2_with fail
      go_ret
      exact ⟨rfl, hW⟩
set_option maxRecDepth 20000 in
set_option maxHeartbeats 1600000 in
theorem packLaw_bad (D : List Int) (size : Int) (a a3 : Option Addr) (n cap n3 cap3 : Nat) (w : World) (hn : n = D.length) (hmax : n ≤ 9223372036854775807) (hD : Vals w a (ints64 D)) (hb : packE D size ≠ 0) :
    Calls Try.prog 7 #[.slice a n cap, .int .i64 size, .slice a3 n3 cap3] w fun e w' => e = .returned (.bool true) ∧ Below w.heap.size w w' := by
  have HAB : Hid (∀ w1, Below w.heap.size w w1 → Vals w1 a (ints64 D)) := Lib.hid fun w1 h => hD.below h (Nat.le_refl _)
  have C1 := Lib.hid (pFirst_bad D size a n cap w hn hmax hD hb)
  have C2 := Lib.hid (pDown_bad D size a n cap w hn hmax hD hb)
  have C3 := Lib.hid (fun w1 h => pLeast_bad D size a n cap w1 hn hmax (HAB.out w1 h) hb)
  have C4 := Lib.hid (fun w1 h => boxes_bad D size a a3 n cap n3 cap3 w1 hn hmax (HAB.out w1 h) hb)
  have C5 := Lib.hid (fun w1 h => pFault_any D size a n cap w1 hn hmax (HAB.out w1 h))
  have C6 := Lib.hid (fun w1 h => pCheck_any D size a n cap w1 hn hmax (HAB.out w1 h))
  obtain ⟨z, hz⟩ : ∃ z, packE D size = z := ⟨_, rfl⟩
  rw [hz] at C1 C2 C3 C4 C5 C6 hb
  have hb2 : (z != 0) = true := by simpa using hb
  have hb3 : (z == z) = true := by simp
  have hb4 : (z != z) = false := by simp
  clear hD hn hz
  go_enter Try.func7, Try.ntmps7
  go_wp2_with (first
    | (go_at_call 36; refine Calls.mono C1.out ?_; rintro e w1 ⟨rfl, h1⟩; obtain rfl := h1.symm)
    | (go_at_call 37; refine Calls.mono C2.out ?_; rintro e w2 ⟨rfl, h1⟩; have HB2 := Lib.hid h1; clear h1)
    | (go_at_call 38; refine Calls.mono (C3.out _ HB2.out) ?_; rintro e w1 ⟨rfl, h1⟩; obtain rfl := h1.symm)
    | (go_at_call 39; refine Calls.mono (C4.out _ HB2.out) ?_; rintro e w1 ⟨rfl, h1⟩; obtain rfl := h1.symm)
    | (go_at_call 40; refine Calls.mono (C5.out _ HB2.out) ?_; rintro e w1 ⟨rfl, h1⟩; obtain rfl := h1.symm)
    | (go_at_call 41; refine Calls.mono (C6.out _ HB2.out) ?_; rintro e w1 ⟨rfl, h1⟩; obtain rfl := h1.symm))
  go_ret
  exact ⟨rfl, HB2.out⟩
theorem pin_length (n : Nat) (z : Int) (s : (Nat → Option Nat) × Nat) : (pin n z s).length = n := by simp [pin]
set_option maxRecDepth 20000 in
set_option maxHeartbeats 6400000 in
theorem packLaw_so (D O : List Int) (size : Int) (a a3 : Option Addr) (n cap n3 cap3 : Nat) (w : World) (hn : n = D.length) (hmax : n ≤ 9223372036854775807) (hc : n ≤ cap) (hD : Vals w a (ints64 D)) (hn3 : n3 = O.length) (hO : Vals w a3 (ints64 O)) (hwf : ∀ o, o ∈ O → (Lit.int .i64 o).wf = true) (hb : packE D size = 0) (h9 : n ≤ 9) (hh : O.length = D.length ∧ gR D O size n) :
    Calls Try.prog 7 #[.slice a n cap, .int .i64 size, .slice a3 n3 cap3] w fun e w' => e = .returned (.bool true) ∧ Below w.heap.size w w' := by
  obtain ⟨g1, g2, g3, g4⟩ := packE_good hb
  have h100 : n ≤ 100 := by omega
  have HAB : Hid (∀ w1, Below w.heap.size w w1 → Vals w1 a (ints64 D)) := Lib.hid fun w1 h => hD.below h (Nat.le_refl _)
  have HAO : Hid (∀ w1, Below w.heap.size w w1 → Vals w1 a3 (ints64 O)) := Lib.hid fun w1 h => hO.below h (Nat.le_refl _)
  have HN := Lib.hid hn
  have HOK := Lib.hid g4
  have C1 := Lib.hid (fun w1 h => pFirst_good D size a n cap w1 hn hmax (HAB.out w1 h) hb)
  have C2 := Lib.hid (fun w1 h => pDown_good D size a n cap w1 hn hmax (HAB.out w1 h) hb)
  have HPS : Hid (∀ os : List Int, os.Perm (upn n) → pin n (-1) (ps n D size os) = pin n 0 (ps n D size os)) := Lib.hid (fun os hp => pin_same (by omega) (fun x hx => (g4 x hx).2) hp hn)
  have hgg := gP_gR (D := D) (O := O) (size := size) (n := n) (fun x hx => by have := g4 x hx; omega)
  have C3 := Lib.hid (fun w1 h => pLeast_good D size a n cap w1 hn hmax hc (HAB.out w1 h) hb h9)
  have C6 := Lib.hid (fun w1 h => few_any size g2 g3 D a n cap w1 hn h9 hc (VB.of (HAB.out w1 h) (Nat.le_refl _)) g4)
  have h9b : ¬ (n : Int) > 9 := by omega
  obtain ⟨c, hcn⟩ : ∃ c, bc O n = c := ⟨_, rfl⟩
  have C4 : Hid (∀ w1, Below w.heap.size w w1 → Calls Try.prog 39 #[.slice a n cap, .int .i64 size, .slice a3 n3 cap3] w1 fun e w' => e = .returned (.tuple #[.int .i64 (c : Int), .int .i64 0]) ∧ Below w1.heap.size w1 w') := Lib.hid (fun w1 h => (boxes_good D O size a a3 n cap n3 cap3 w1 hn hmax (HAB.out w1 h) hn3 (HAO.out w1 h) hwf hb).mono fun e w' h => by
    rw [← hcn]; exact ⟨h.1 ⟨hh.1, hgg.2 hh.2⟩, h.2.2⟩)
  have C7 : Hid (∀ w1, Below w.heap.size w w1 → Calls Try.prog 46 #[.slice a n cap, .int .i64 size, .slice a3 n3 cap3] w1 fun e w' => e = .returned (.int .i64 (c : Int)) ∧ w' = w1) := Lib.hid (fun w1 h => (bof_any D O size a a3 n cap n3 cap3 w1 hn h100 (HAB.out w1 h) hn3 (HAO.out w1 h) g2 g3 (fun x hx => by have := g4 x hx; omega)).mono fun e w' h => by
    rw [← hcn]; exact ⟨h.1 hh, h.2.2⟩)
  have hc0 : (c : Int) ≥ 0 := by omega
  have hc1 : decide ((0 : Int) ≤ (c : Int)) = true := by simp
  have hcc : ((c : Int) == (c : Int)) = true := by simp
  have C5 : Hid (∀ w1, Below w.heap.size w w1 → Calls Try.prog 40 #[.slice a n cap, .int .i64 size] w1 fun e w' => e = .returned (.int .i64 0) ∧ w' = w1) := Lib.hid (fun w1 h => by
    have := pFault_any D size a n cap w1 hn hmax (HAB.out w1 h); rwa [hb] at this)
  have C8 : Hid (∀ w1, Below w.heap.size w w1 → Calls Try.prog 41 #[.slice a n cap, .int .i64 size] w1 fun e w' => e = .returned (.int .i64 0) ∧ w' = w1) := Lib.hid (fun w1 h => by
    have := pCheck_any D size a n cap w1 hn hmax (HAB.out w1 h); rwa [hb] at this)
  obtain ⟨k1, hk1⟩ : ∃ k1, (ps n D size (upn n)).2 = k1 := ⟨_, rfl⟩
  have HK1 := Lib.hid hk1
  have hk1n : ((k1 : Int) != (k1 : Int)) = false := by simp
  have HB0 : Hid (Below w.heap.size w w) := Lib.hid (Below.refl _ _)
  have HLN : Hid (∀ os, (pin n 0 (ps n D size os)).length ≤ 1000) := Lib.hid (fun os => by rw [pin_length]; omega)
  clear hD hn hn3 hO hb g1 g4 hh hk1 hgg hwf hcn
  go_enter Try.func7, Try.ntmps7
  go_wp2_with (first
    | (go_at_call 36; refine Calls.mono (C1.out _ HB0.out) ?_; rintro e w1 ⟨v1, rfl, hi1, hb1⟩; rw [HK1.out]; have HI1 := Lib.hid hi1; have HB1 := Lib.hid (HB0.out.trans hb1); clear hi1 hb1)
    | (go_at_call 37; refine Calls.mono (C2.out _ HB1.out) ?_; rintro e w2 ⟨os, v2, rfl, hi2, hpm, hst, hb2⟩; obtain ⟨k2, hk2⟩ : ∃ k2, (ps n D size os).2 = k2 := ⟨_, rfl⟩; rw [hk2]; have HK2 := Lib.hid hk2; have hk2n : ((k2 : Int) != (k2 : Int)) = false := (by simp); have HI2 := Lib.hid hi2; have HP2 := Lib.hid hpm; have HS2 := Lib.hid hst; have HI12 := Lib.hid (HI1.out.below hb2 (Nat.le_refl _)); have HB2 := Lib.hid (HB1.out.trans (hb2.mono HB1.out.size)); clear hi2 hb2 hpm hst hk2)
    | (go_at_call 38; refine Calls.mono (C3.out _ HB2.out) ?_; rintro e w3 ⟨r, rfl, hr, hb3⟩; have hrn : ((r : Int) != (r : Int)) = false := (by simp); have HR3 := Lib.hid hr; have HI13 := Lib.hid (HI12.out.below hb3 (Nat.le_refl _)); have HI23 := Lib.hid (HI2.out.below hb3 (Nat.le_refl _)); have HB3 := Lib.hid (HB2.out.trans (hb3.mono HB2.out.size)); clear hr hb3)
    | (go_at_call 39; refine Calls.mono (C4.out _ HB3.out) ?_; rintro e w4 ⟨rfl, hb4⟩; have HI14 := Lib.hid (HI13.out.below hb4 (Nat.le_refl _)); have HI24 := Lib.hid (HI23.out.below hb4 (Nat.le_refl _)); have HB4 := Lib.hid (HB3.out.trans (hb4.mono HB3.out.size)); clear hb4)
    | (go_at_call 40; refine Calls.mono (C5.out _ HB4.out) ?_; rintro e w5 ⟨rfl, hw5⟩; obtain rfl := hw5.symm)
    | (go_at_call 41; refine Calls.mono (C8.out _ HB4.out) ?_; rintro e w5 ⟨rfl, hw5⟩; obtain rfl := hw5.symm)
    | (go_at_call 43; refine Calls.mono (upTo_nums n _ (by omega)) ?_; rintro e w6 ⟨v, rfl, hv, hb6⟩; obtain ⟨a6, c6, rfl, hv6⟩ := hv; rw [i64len, upn_length]; have HV6 := Lib.hid hv6; have HI16 := Lib.hid (HI14.out.below hb6 (Nat.le_refl _)); have HI26 := Lib.hid (HI24.out.below hb6 (Nat.le_refl _)); have HB6 := Lib.hid (HB4.out.trans (hb6.mono HB4.out.size)); clear hv6 hb6)
    | (go_at_call 42; (with_reducible refine Calls.mono (packed_any n n D (upn n) size a a6 cap c6 w6 HN.out h100 g2 g3 (HAB.out _ HB6.out) HOK.out (upn_length n).symm HV6.out (fun o ho => upn_mem.1 ho) (upn_nodup n) h100) ?_); rintro e w7 ⟨v7, rfl, hi7, hb7⟩; rw [HK1.out]; rw [HPS.out _ (List.Perm.refl _)] at hi7; have HI7 := Lib.hid hi7; have HI17 := Lib.hid (HI16.out.below hb7 (Nat.le_refl _)); have HI27 := Lib.hid (HI26.out.below hb7 (Nat.le_refl _)); have HB7 := Lib.hid (HB6.out.trans (hb7.mono HB6.out.size)); clear hi7 hb7)
    | (go_at_call 44; refine Calls.mono (Down_any D a n cap w7 HN.out (by omega) (HAB.out _ HB7.out)) ?_; rintro e w8 ⟨os8, v8, rfl, hv8, hp8, hs8, hb8, _⟩; obtain rfl := sorted_uniq (hp8.trans HP2.out.symm) hs8 HS2.out; obtain ⟨a8, c8, rfl, hv8⟩ := hv8; have HL8 := Lib.hid (show os8.length = n from (by rw [hp8.length_eq, upn_length])); rw [i64len, HL8.out]; have HV8 := Lib.hid hv8; have HI78 := Lib.hid (HI7.out.below hb8 (Nat.le_refl _)); have HI18 := Lib.hid (HI17.out.below hb8 (Nat.le_refl _)); have HI28 := Lib.hid (HI27.out.below hb8 (Nat.le_refl _)); have HB8 := Lib.hid (HB7.out.trans (hb8.mono HB7.out.size)); clear hv8 hb8 hp8 hs8)
    | (go_at_call 42; (with_reducible refine Calls.mono (packed_any n n D os8 size a a8 cap c8 w8 HN.out h100 g2 g3 (HAB.out _ HB8.out) HOK.out HL8.out.symm HV8.out (fun o ho => upn_mem.1 (HP2.out.mem_iff.1 ho)) (HP2.out.nodup_iff.2 (upn_nodup n)) h100) ?_); rintro e w9 ⟨v9, rfl, hi9, hb9⟩; rw [HK2.out]; rw [HPS.out _ HP2.out] at hi9; have HI9 := Lib.hid hi9; have HI79 := Lib.hid (HI78.out.below hb9 (Nat.le_refl _)); have HI19 := Lib.hid (HI18.out.below hb9 (Nat.le_refl _)); have HI29 := Lib.hid (HI28.out.below hb9 (Nat.le_refl _)); have HB9 := Lib.hid (HB8.out.trans (hb9.mono HB8.out.size)); clear hi9 hb9)
    | (go_at_call 34; (with_reducible refine Calls.mono (eqNumP _ v1 v7 _ (HLN.out _) HI19.out HI79.out) ?_); rintro e w10 ⟨rfl, hb10⟩; have HI210 := Lib.hid (HI29.out.below hb10 (Nat.le_refl _)); have HI910 := Lib.hid (HI9.out.below hb10 (Nat.le_refl _)); have HB10 := Lib.hid (HB9.out.trans (hb10.mono HB9.out.size)); clear hb10)
    | (go_at_call 34; (with_reducible refine Calls.mono (eqNumP _ v2 v9 _ (HLN.out _) HI210.out HI910.out) ?_); rintro e w11 ⟨rfl, hb11⟩; have HB11 := Lib.hid (HB10.out.trans (hb11.mono HB10.out.size)); clear hb11)
    | (go_at_call 45; refine Calls.mono (C6.out _ HB11.out) ?_; rintro e w12 ⟨r2, rfl, hr2, hb12⟩; obtain rfl := hr2.uniq HR3.out; have HB12 := Lib.hid (HB11.out.trans (hb12.mono HB11.out.size)); clear hr2 hb12)
    | (go_at_call 46; refine Calls.mono (C7.out _ HB12.out) ?_; rintro e w13 ⟨rfl, hw13⟩; obtain rfl := hw13.symm))
  go_ret
  exact ⟨rfl, HB12.out⟩
set_option maxRecDepth 20000 in
set_option maxHeartbeats 6400000 in
theorem packLaw_sn (D O : List Int) (size : Int) (a a3 : Option Addr) (n cap n3 cap3 : Nat) (w : World) (hn : n = D.length) (hmax : n ≤ 9223372036854775807) (hc : n ≤ cap) (hD : Vals w a (ints64 D)) (hn3 : n3 = O.length) (hO : Vals w a3 (ints64 O)) (hwf : ∀ o, o ∈ O → (Lit.int .i64 o).wf = true) (hb : packE D size = 0) (h9 : n ≤ 9) (hh : ¬ (O.length = D.length ∧ gR D O size n)) :
    Calls Try.prog 7 #[.slice a n cap, .int .i64 size, .slice a3 n3 cap3] w fun e w' => e = .returned (.bool true) ∧ Below w.heap.size w w' := by
  obtain ⟨g1, g2, g3, g4⟩ := packE_good hb
  have h100 : n ≤ 100 := by omega
  have HAB : Hid (∀ w1, Below w.heap.size w w1 → Vals w1 a (ints64 D)) := Lib.hid fun w1 h => hD.below h (Nat.le_refl _)
  have HAO : Hid (∀ w1, Below w.heap.size w w1 → Vals w1 a3 (ints64 O)) := Lib.hid fun w1 h => hO.below h (Nat.le_refl _)
  have HN := Lib.hid hn
  have HOK := Lib.hid g4
  have C1 := Lib.hid (fun w1 h => pFirst_good D size a n cap w1 hn hmax (HAB.out w1 h) hb)
  have C2 := Lib.hid (fun w1 h => pDown_good D size a n cap w1 hn hmax (HAB.out w1 h) hb)
  have HPS : Hid (∀ os : List Int, os.Perm (upn n) → pin n (-1) (ps n D size os) = pin n 0 (ps n D size os)) := Lib.hid (fun os hp => pin_same (by omega) (fun x hx => (g4 x hx).2) hp hn)
  have hgg := gP_gR (D := D) (O := O) (size := size) (n := n) (fun x hx => by have := g4 x hx; omega)
  have C3 := Lib.hid (fun w1 h => pLeast_good D size a n cap w1 hn hmax hc (HAB.out w1 h) hb h9)
  have C6 := Lib.hid (fun w1 h => few_any size g2 g3 D a n cap w1 hn h9 hc (VB.of (HAB.out w1 h) (Nat.le_refl _)) g4)
  have h9b : ¬ (n : Int) > 9 := by omega
  have C4 : Hid (∀ w1, Below w.heap.size w w1 → Calls Try.prog 39 #[.slice a n cap, .int .i64 size, .slice a3 n3 cap3] w1 fun e w' => e = .returned (.tuple #[.int .i64 0, .int .i64 1]) ∧ Below w1.heap.size w1 w') := Lib.hid (fun w1 h => (boxes_good D O size a a3 n cap n3 cap3 w1 hn hmax (HAB.out w1 h) hn3 (HAO.out w1 h) hwf hb).mono fun e w' h => 
    ⟨h.2.1 (fun h2 => hh ⟨h2.1, hgg.1 h2.2⟩), h.2.2⟩)
  have C7 : Hid (∀ w1, Below w.heap.size w w1 → Calls Try.prog 46 #[.slice a n cap, .int .i64 size, .slice a3 n3 cap3] w1 fun e w' => e = .returned (.int .i64 (-1)) ∧ w' = w1) := Lib.hid (fun w1 h => (bof_any D O size a a3 n cap n3 cap3 w1 hn h100 (HAB.out w1 h) hn3 (HAO.out w1 h) g2 g3 (fun x hx => by have := g4 x hx; omega)).mono fun e w' h =>
    ⟨h.2.1 hh, h.2.2⟩)
  have C5 : Hid (∀ w1, Below w.heap.size w w1 → Calls Try.prog 40 #[.slice a n cap, .int .i64 size] w1 fun e w' => e = .returned (.int .i64 0) ∧ w' = w1) := Lib.hid (fun w1 h => by
    have := pFault_any D size a n cap w1 hn hmax (HAB.out w1 h); rwa [hb] at this)
  have C8 : Hid (∀ w1, Below w.heap.size w w1 → Calls Try.prog 41 #[.slice a n cap, .int .i64 size] w1 fun e w' => e = .returned (.int .i64 0) ∧ w' = w1) := Lib.hid (fun w1 h => by
    have := pCheck_any D size a n cap w1 hn hmax (HAB.out w1 h); rwa [hb] at this)
  obtain ⟨k1, hk1⟩ : ∃ k1, (ps n D size (upn n)).2 = k1 := ⟨_, rfl⟩
  have HK1 := Lib.hid hk1
  have hk1n : ((k1 : Int) != (k1 : Int)) = false := by simp
  have HB0 : Hid (Below w.heap.size w w) := Lib.hid (Below.refl _ _)
  have HLN : Hid (∀ os, (pin n 0 (ps n D size os)).length ≤ 1000) := Lib.hid (fun os => by rw [pin_length]; omega)
  clear hD hn hn3 hO hb g1 g4 hh hk1 hgg hwf 
  go_enter Try.func7, Try.ntmps7
  go_wp2_with (first
    | (go_at_call 36; refine Calls.mono (C1.out _ HB0.out) ?_; rintro e w1 ⟨v1, rfl, hi1, hb1⟩; rw [HK1.out]; have HI1 := Lib.hid hi1; have HB1 := Lib.hid (HB0.out.trans hb1); clear hi1 hb1)
    | (go_at_call 37; refine Calls.mono (C2.out _ HB1.out) ?_; rintro e w2 ⟨os, v2, rfl, hi2, hpm, hst, hb2⟩; obtain ⟨k2, hk2⟩ : ∃ k2, (ps n D size os).2 = k2 := ⟨_, rfl⟩; rw [hk2]; have HK2 := Lib.hid hk2; have hk2n : ((k2 : Int) != (k2 : Int)) = false := (by simp); have HI2 := Lib.hid hi2; have HP2 := Lib.hid hpm; have HS2 := Lib.hid hst; have HI12 := Lib.hid (HI1.out.below hb2 (Nat.le_refl _)); have HB2 := Lib.hid (HB1.out.trans (hb2.mono HB1.out.size)); clear hi2 hb2 hpm hst hk2)
    | (go_at_call 38; refine Calls.mono (C3.out _ HB2.out) ?_; rintro e w3 ⟨r, rfl, hr, hb3⟩; have hrn : ((r : Int) != (r : Int)) = false := (by simp); have HR3 := Lib.hid hr; have HI13 := Lib.hid (HI12.out.below hb3 (Nat.le_refl _)); have HI23 := Lib.hid (HI2.out.below hb3 (Nat.le_refl _)); have HB3 := Lib.hid (HB2.out.trans (hb3.mono HB2.out.size)); clear hr hb3)
    | (go_at_call 39; refine Calls.mono (C4.out _ HB3.out) ?_; rintro e w4 ⟨rfl, hb4⟩; have HI14 := Lib.hid (HI13.out.below hb4 (Nat.le_refl _)); have HI24 := Lib.hid (HI23.out.below hb4 (Nat.le_refl _)); have HB4 := Lib.hid (HB3.out.trans (hb4.mono HB3.out.size)); clear hb4)
    | (go_at_call 40; refine Calls.mono (C5.out _ HB4.out) ?_; rintro e w5 ⟨rfl, hw5⟩; obtain rfl := hw5.symm)
    | (go_at_call 41; refine Calls.mono (C8.out _ HB4.out) ?_; rintro e w5 ⟨rfl, hw5⟩; obtain rfl := hw5.symm)
    | (go_at_call 43; refine Calls.mono (upTo_nums n _ (by omega)) ?_; rintro e w6 ⟨v, rfl, hv, hb6⟩; obtain ⟨a6, c6, rfl, hv6⟩ := hv; rw [i64len, upn_length]; have HV6 := Lib.hid hv6; have HI16 := Lib.hid (HI14.out.below hb6 (Nat.le_refl _)); have HI26 := Lib.hid (HI24.out.below hb6 (Nat.le_refl _)); have HB6 := Lib.hid (HB4.out.trans (hb6.mono HB4.out.size)); clear hv6 hb6)
    | (go_at_call 42; (with_reducible refine Calls.mono (packed_any n n D (upn n) size a a6 cap c6 w6 HN.out h100 g2 g3 (HAB.out _ HB6.out) HOK.out (upn_length n).symm HV6.out (fun o ho => upn_mem.1 ho) (upn_nodup n) h100) ?_); rintro e w7 ⟨v7, rfl, hi7, hb7⟩; rw [HK1.out]; rw [HPS.out _ (List.Perm.refl _)] at hi7; have HI7 := Lib.hid hi7; have HI17 := Lib.hid (HI16.out.below hb7 (Nat.le_refl _)); have HI27 := Lib.hid (HI26.out.below hb7 (Nat.le_refl _)); have HB7 := Lib.hid (HB6.out.trans (hb7.mono HB6.out.size)); clear hi7 hb7)
    | (go_at_call 44; refine Calls.mono (Down_any D a n cap w7 HN.out (by omega) (HAB.out _ HB7.out)) ?_; rintro e w8 ⟨os8, v8, rfl, hv8, hp8, hs8, hb8, _⟩; obtain rfl := sorted_uniq (hp8.trans HP2.out.symm) hs8 HS2.out; obtain ⟨a8, c8, rfl, hv8⟩ := hv8; have HL8 := Lib.hid (show os8.length = n from (by rw [hp8.length_eq, upn_length])); rw [i64len, HL8.out]; have HV8 := Lib.hid hv8; have HI78 := Lib.hid (HI7.out.below hb8 (Nat.le_refl _)); have HI18 := Lib.hid (HI17.out.below hb8 (Nat.le_refl _)); have HI28 := Lib.hid (HI27.out.below hb8 (Nat.le_refl _)); have HB8 := Lib.hid (HB7.out.trans (hb8.mono HB7.out.size)); clear hv8 hb8 hp8 hs8)
    | (go_at_call 42; (with_reducible refine Calls.mono (packed_any n n D os8 size a a8 cap c8 w8 HN.out h100 g2 g3 (HAB.out _ HB8.out) HOK.out HL8.out.symm HV8.out (fun o ho => upn_mem.1 (HP2.out.mem_iff.1 ho)) (HP2.out.nodup_iff.2 (upn_nodup n)) h100) ?_); rintro e w9 ⟨v9, rfl, hi9, hb9⟩; rw [HK2.out]; rw [HPS.out _ HP2.out] at hi9; have HI9 := Lib.hid hi9; have HI79 := Lib.hid (HI78.out.below hb9 (Nat.le_refl _)); have HI19 := Lib.hid (HI18.out.below hb9 (Nat.le_refl _)); have HI29 := Lib.hid (HI28.out.below hb9 (Nat.le_refl _)); have HB9 := Lib.hid (HB8.out.trans (hb9.mono HB8.out.size)); clear hi9 hb9)
    | (go_at_call 34; (with_reducible refine Calls.mono (eqNumP _ v1 v7 _ (HLN.out _) HI19.out HI79.out) ?_); rintro e w10 ⟨rfl, hb10⟩; have HI210 := Lib.hid (HI29.out.below hb10 (Nat.le_refl _)); have HI910 := Lib.hid (HI9.out.below hb10 (Nat.le_refl _)); have HB10 := Lib.hid (HB9.out.trans (hb10.mono HB9.out.size)); clear hb10)
    | (go_at_call 34; (with_reducible refine Calls.mono (eqNumP _ v2 v9 _ (HLN.out _) HI210.out HI910.out) ?_); rintro e w11 ⟨rfl, hb11⟩; have HB11 := Lib.hid (HB10.out.trans (hb11.mono HB10.out.size)); clear hb11)
    | (go_at_call 45; refine Calls.mono (C6.out _ HB11.out) ?_; rintro e w12 ⟨r2, rfl, hr2, hb12⟩; obtain rfl := hr2.uniq HR3.out; have HB12 := Lib.hid (HB11.out.trans (hb12.mono HB11.out.size)); clear hr2 hb12)
    | (go_at_call 46; refine Calls.mono (C7.out _ HB12.out) ?_; rintro e w13 ⟨rfl, hw13⟩; obtain rfl := hw13.symm))
  go_ret
  exact ⟨rfl, HB12.out⟩
set_option maxRecDepth 20000 in
set_option maxHeartbeats 6400000 in
theorem packLaw_lo (D O : List Int) (size : Int) (a a3 : Option Addr) (n cap n3 cap3 : Nat) (w : World) (hn : n = D.length) (hmax : n ≤ 9223372036854775807) (hc : n ≤ cap) (hD : Vals w a (ints64 D)) (hn3 : n3 = O.length) (hO : Vals w a3 (ints64 O)) (hwf : ∀ o, o ∈ O → (Lit.int .i64 o).wf = true) (hb : packE D size = 0) (h9 : 9 < n) (hh : O.length = D.length ∧ gR D O size n) :
    Calls Try.prog 7 #[.slice a n cap, .int .i64 size, .slice a3 n3 cap3] w fun e w' => e = .returned (.bool true) ∧ Below w.heap.size w w' := by
  obtain ⟨g1, g2, g3, g4⟩ := packE_good hb
  have h100 : n ≤ 100 := by omega
  have HAB : Hid (∀ w1, Below w.heap.size w w1 → Vals w1 a (ints64 D)) := Lib.hid fun w1 h => hD.below h (Nat.le_refl _)
  have HAO : Hid (∀ w1, Below w.heap.size w w1 → Vals w1 a3 (ints64 O)) := Lib.hid fun w1 h => hO.below h (Nat.le_refl _)
  have HN := Lib.hid hn
  have HOK := Lib.hid g4
  have C1 := Lib.hid (fun w1 h => pFirst_good D size a n cap w1 hn hmax (HAB.out w1 h) hb)
  have C2 := Lib.hid (fun w1 h => pDown_good D size a n cap w1 hn hmax (HAB.out w1 h) hb)
  have HPS : Hid (∀ os : List Int, os.Perm (upn n) → pin n (-1) (ps n D size os) = pin n 0 (ps n D size os)) := Lib.hid (fun os hp => pin_same (by omega) (fun x hx => (g4 x hx).2) hp hn)
  have hgg := gP_gR (D := D) (O := O) (size := size) (n := n) (fun x hx => by have := g4 x hx; omega)
  have C3 := Lib.hid (fun w1 h => pLeast_large D size a n cap w1 hn hmax (HAB.out w1 h) hb h9)
  have h9b : (n : Int) > 9 := by omega
  obtain ⟨c, hcn⟩ : ∃ c, bc O n = c := ⟨_, rfl⟩
  have C4 : Hid (∀ w1, Below w.heap.size w w1 → Calls Try.prog 39 #[.slice a n cap, .int .i64 size, .slice a3 n3 cap3] w1 fun e w' => e = .returned (.tuple #[.int .i64 (c : Int), .int .i64 0]) ∧ Below w1.heap.size w1 w') := Lib.hid (fun w1 h => (boxes_good D O size a a3 n cap n3 cap3 w1 hn hmax (HAB.out w1 h) hn3 (HAO.out w1 h) hwf hb).mono fun e w' h => by
    rw [← hcn]; exact ⟨h.1 ⟨hh.1, hgg.2 hh.2⟩, h.2.2⟩)
  have C7 : Hid (∀ w1, Below w.heap.size w w1 → Calls Try.prog 46 #[.slice a n cap, .int .i64 size, .slice a3 n3 cap3] w1 fun e w' => e = .returned (.int .i64 (c : Int)) ∧ w' = w1) := Lib.hid (fun w1 h => (bof_any D O size a a3 n cap n3 cap3 w1 hn h100 (HAB.out w1 h) hn3 (HAO.out w1 h) g2 g3 (fun x hx => by have := g4 x hx; omega)).mono fun e w' h => by
    rw [← hcn]; exact ⟨h.1 hh, h.2.2⟩)
  have hc0 : (c : Int) ≥ 0 := by omega
  have hc1 : decide ((0 : Int) ≤ (c : Int)) = true := by simp
  have hcc : ((c : Int) == (c : Int)) = true := by simp
  have C5 : Hid (∀ w1, Below w.heap.size w w1 → Calls Try.prog 40 #[.slice a n cap, .int .i64 size] w1 fun e w' => e = .returned (.int .i64 0) ∧ w' = w1) := Lib.hid (fun w1 h => by
    have := pFault_any D size a n cap w1 hn hmax (HAB.out w1 h); rwa [hb] at this)
  have C8 : Hid (∀ w1, Below w.heap.size w w1 → Calls Try.prog 41 #[.slice a n cap, .int .i64 size] w1 fun e w' => e = .returned (.int .i64 0) ∧ w' = w1) := Lib.hid (fun w1 h => by
    have := pCheck_any D size a n cap w1 hn hmax (HAB.out w1 h); rwa [hb] at this)
  obtain ⟨k1, hk1⟩ : ∃ k1, (ps n D size (upn n)).2 = k1 := ⟨_, rfl⟩
  have HK1 := Lib.hid hk1
  have hk1n : ((k1 : Int) != (k1 : Int)) = false := by simp
  have HB0 : Hid (Below w.heap.size w w) := Lib.hid (Below.refl _ _)
  have HLN : Hid (∀ os, (pin n 0 (ps n D size os)).length ≤ 1000) := Lib.hid (fun os => by rw [pin_length]; omega)
  clear hD hn hn3 hO hb g1 g4 hh hk1 hgg hwf hcn
  go_enter Try.func7, Try.ntmps7
  go_wp2_with (first
    | (go_at_call 36; refine Calls.mono (C1.out _ HB0.out) ?_; rintro e w1 ⟨v1, rfl, hi1, hb1⟩; rw [HK1.out]; have HI1 := Lib.hid hi1; have HB1 := Lib.hid (HB0.out.trans hb1); clear hi1 hb1)
    | (go_at_call 37; refine Calls.mono (C2.out _ HB1.out) ?_; rintro e w2 ⟨os, v2, rfl, hi2, hpm, hst, hb2⟩; obtain ⟨k2, hk2⟩ : ∃ k2, (ps n D size os).2 = k2 := ⟨_, rfl⟩; rw [hk2]; have HK2 := Lib.hid hk2; have hk2n : ((k2 : Int) != (k2 : Int)) = false := (by simp); have HI2 := Lib.hid hi2; have HP2 := Lib.hid hpm; have HS2 := Lib.hid hst; have HI12 := Lib.hid (HI1.out.below hb2 (Nat.le_refl _)); have HB2 := Lib.hid (HB1.out.trans (hb2.mono HB1.out.size)); clear hi2 hb2 hpm hst hk2)
    | (go_at_call 38; refine Calls.mono (C3.out _ HB2.out) ?_; rintro e w3 ⟨rfl, hw3⟩; obtain rfl := hw3.symm; have HI13 := Lib.hid HI12.out; have HI23 := Lib.hid HI2.out; have HB3 := Lib.hid HB2.out)
    | (go_at_call 39; refine Calls.mono (C4.out _ HB3.out) ?_; rintro e w4 ⟨rfl, hb4⟩; have HI14 := Lib.hid (HI13.out.below hb4 (Nat.le_refl _)); have HI24 := Lib.hid (HI23.out.below hb4 (Nat.le_refl _)); have HB4 := Lib.hid (HB3.out.trans (hb4.mono HB3.out.size)); clear hb4)
    | (go_at_call 40; refine Calls.mono (C5.out _ HB4.out) ?_; rintro e w5 ⟨rfl, hw5⟩; obtain rfl := hw5.symm)
    | (go_at_call 41; refine Calls.mono (C8.out _ HB4.out) ?_; rintro e w5 ⟨rfl, hw5⟩; obtain rfl := hw5.symm)
    | (go_at_call 43; refine Calls.mono (upTo_nums n _ (by omega)) ?_; rintro e w6 ⟨v, rfl, hv, hb6⟩; obtain ⟨a6, c6, rfl, hv6⟩ := hv; rw [i64len, upn_length]; have HV6 := Lib.hid hv6; have HI16 := Lib.hid (HI14.out.below hb6 (Nat.le_refl _)); have HI26 := Lib.hid (HI24.out.below hb6 (Nat.le_refl _)); have HB6 := Lib.hid (HB4.out.trans (hb6.mono HB4.out.size)); clear hv6 hb6)
    | (go_at_call 42; (with_reducible refine Calls.mono (packed_any n n D (upn n) size a a6 cap c6 w6 HN.out h100 g2 g3 (HAB.out _ HB6.out) HOK.out (upn_length n).symm HV6.out (fun o ho => upn_mem.1 ho) (upn_nodup n) h100) ?_); rintro e w7 ⟨v7, rfl, hi7, hb7⟩; rw [HK1.out]; rw [HPS.out _ (List.Perm.refl _)] at hi7; have HI7 := Lib.hid hi7; have HI17 := Lib.hid (HI16.out.below hb7 (Nat.le_refl _)); have HI27 := Lib.hid (HI26.out.below hb7 (Nat.le_refl _)); have HB7 := Lib.hid (HB6.out.trans (hb7.mono HB6.out.size)); clear hi7 hb7)
    | (go_at_call 44; refine Calls.mono (Down_any D a n cap w7 HN.out (by omega) (HAB.out _ HB7.out)) ?_; rintro e w8 ⟨os8, v8, rfl, hv8, hp8, hs8, hb8, _⟩; obtain rfl := sorted_uniq (hp8.trans HP2.out.symm) hs8 HS2.out; obtain ⟨a8, c8, rfl, hv8⟩ := hv8; have HL8 := Lib.hid (show os8.length = n from (by rw [hp8.length_eq, upn_length])); rw [i64len, HL8.out]; have HV8 := Lib.hid hv8; have HI78 := Lib.hid (HI7.out.below hb8 (Nat.le_refl _)); have HI18 := Lib.hid (HI17.out.below hb8 (Nat.le_refl _)); have HI28 := Lib.hid (HI27.out.below hb8 (Nat.le_refl _)); have HB8 := Lib.hid (HB7.out.trans (hb8.mono HB7.out.size)); clear hv8 hb8 hp8 hs8)
    | (go_at_call 42; (with_reducible refine Calls.mono (packed_any n n D os8 size a a8 cap c8 w8 HN.out h100 g2 g3 (HAB.out _ HB8.out) HOK.out HL8.out.symm HV8.out (fun o ho => upn_mem.1 (HP2.out.mem_iff.1 ho)) (HP2.out.nodup_iff.2 (upn_nodup n)) h100) ?_); rintro e w9 ⟨v9, rfl, hi9, hb9⟩; rw [HK2.out]; rw [HPS.out _ HP2.out] at hi9; have HI9 := Lib.hid hi9; have HI79 := Lib.hid (HI78.out.below hb9 (Nat.le_refl _)); have HI19 := Lib.hid (HI18.out.below hb9 (Nat.le_refl _)); have HI29 := Lib.hid (HI28.out.below hb9 (Nat.le_refl _)); have HB9 := Lib.hid (HB8.out.trans (hb9.mono HB8.out.size)); clear hi9 hb9)
    | (go_at_call 34; (with_reducible refine Calls.mono (eqNumP _ v1 v7 _ (HLN.out _) HI19.out HI79.out) ?_); rintro e w10 ⟨rfl, hb10⟩; have HI210 := Lib.hid (HI29.out.below hb10 (Nat.le_refl _)); have HI910 := Lib.hid (HI9.out.below hb10 (Nat.le_refl _)); have HB10 := Lib.hid (HB9.out.trans (hb10.mono HB9.out.size)); clear hb10)
    | (go_at_call 34; (with_reducible refine Calls.mono (eqNumP _ v2 v9 _ (HLN.out _) HI210.out HI910.out) ?_); rintro e w11 ⟨rfl, hb11⟩; have HB11 := Lib.hid (HB10.out.trans (hb11.mono HB10.out.size)); clear hb11)
    | (go_at_call 46; refine Calls.mono (C7.out _ HB11.out) ?_; rintro e w13 ⟨rfl, hw13⟩; obtain rfl := hw13.symm))
  go_ret
  exact ⟨rfl, HB11.out⟩
set_option maxRecDepth 20000 in
set_option maxHeartbeats 6400000 in
theorem packLaw_ln (D O : List Int) (size : Int) (a a3 : Option Addr) (n cap n3 cap3 : Nat) (w : World) (hn : n = D.length) (hmax : n ≤ 9223372036854775807) (hc : n ≤ cap) (hD : Vals w a (ints64 D)) (hn3 : n3 = O.length) (hO : Vals w a3 (ints64 O)) (hwf : ∀ o, o ∈ O → (Lit.int .i64 o).wf = true) (hb : packE D size = 0) (h9 : 9 < n) (hh : ¬ (O.length = D.length ∧ gR D O size n)) :
    Calls Try.prog 7 #[.slice a n cap, .int .i64 size, .slice a3 n3 cap3] w fun e w' => e = .returned (.bool true) ∧ Below w.heap.size w w' := by
  obtain ⟨g1, g2, g3, g4⟩ := packE_good hb
  have h100 : n ≤ 100 := by omega
  have HAB : Hid (∀ w1, Below w.heap.size w w1 → Vals w1 a (ints64 D)) := Lib.hid fun w1 h => hD.below h (Nat.le_refl _)
  have HAO : Hid (∀ w1, Below w.heap.size w w1 → Vals w1 a3 (ints64 O)) := Lib.hid fun w1 h => hO.below h (Nat.le_refl _)
  have HN := Lib.hid hn
  have HOK := Lib.hid g4
  have C1 := Lib.hid (fun w1 h => pFirst_good D size a n cap w1 hn hmax (HAB.out w1 h) hb)
  have C2 := Lib.hid (fun w1 h => pDown_good D size a n cap w1 hn hmax (HAB.out w1 h) hb)
  have HPS : Hid (∀ os : List Int, os.Perm (upn n) → pin n (-1) (ps n D size os) = pin n 0 (ps n D size os)) := Lib.hid (fun os hp => pin_same (by omega) (fun x hx => (g4 x hx).2) hp hn)
  have hgg := gP_gR (D := D) (O := O) (size := size) (n := n) (fun x hx => by have := g4 x hx; omega)
  have C3 := Lib.hid (fun w1 h => pLeast_large D size a n cap w1 hn hmax (HAB.out w1 h) hb h9)
  have h9b : (n : Int) > 9 := by omega
  have C4 : Hid (∀ w1, Below w.heap.size w w1 → Calls Try.prog 39 #[.slice a n cap, .int .i64 size, .slice a3 n3 cap3] w1 fun e w' => e = .returned (.tuple #[.int .i64 0, .int .i64 1]) ∧ Below w1.heap.size w1 w') := Lib.hid (fun w1 h => (boxes_good D O size a a3 n cap n3 cap3 w1 hn hmax (HAB.out w1 h) hn3 (HAO.out w1 h) hwf hb).mono fun e w' h => 
    ⟨h.2.1 (fun h2 => hh ⟨h2.1, hgg.1 h2.2⟩), h.2.2⟩)
  have C7 : Hid (∀ w1, Below w.heap.size w w1 → Calls Try.prog 46 #[.slice a n cap, .int .i64 size, .slice a3 n3 cap3] w1 fun e w' => e = .returned (.int .i64 (-1)) ∧ w' = w1) := Lib.hid (fun w1 h => (bof_any D O size a a3 n cap n3 cap3 w1 hn h100 (HAB.out w1 h) hn3 (HAO.out w1 h) g2 g3 (fun x hx => by have := g4 x hx; omega)).mono fun e w' h =>
    ⟨h.2.1 hh, h.2.2⟩)
  have C5 : Hid (∀ w1, Below w.heap.size w w1 → Calls Try.prog 40 #[.slice a n cap, .int .i64 size] w1 fun e w' => e = .returned (.int .i64 0) ∧ w' = w1) := Lib.hid (fun w1 h => by
    have := pFault_any D size a n cap w1 hn hmax (HAB.out w1 h); rwa [hb] at this)
  have C8 : Hid (∀ w1, Below w.heap.size w w1 → Calls Try.prog 41 #[.slice a n cap, .int .i64 size] w1 fun e w' => e = .returned (.int .i64 0) ∧ w' = w1) := Lib.hid (fun w1 h => by
    have := pCheck_any D size a n cap w1 hn hmax (HAB.out w1 h); rwa [hb] at this)
  obtain ⟨k1, hk1⟩ : ∃ k1, (ps n D size (upn n)).2 = k1 := ⟨_, rfl⟩
  have HK1 := Lib.hid hk1
  have hk1n : ((k1 : Int) != (k1 : Int)) = false := by simp
  have HB0 : Hid (Below w.heap.size w w) := Lib.hid (Below.refl _ _)
  have HLN : Hid (∀ os, (pin n 0 (ps n D size os)).length ≤ 1000) := Lib.hid (fun os => by rw [pin_length]; omega)
  clear hD hn hn3 hO hb g1 g4 hh hk1 hgg hwf 
  go_enter Try.func7, Try.ntmps7
  go_wp2_with (first
    | (go_at_call 36; refine Calls.mono (C1.out _ HB0.out) ?_; rintro e w1 ⟨v1, rfl, hi1, hb1⟩; rw [HK1.out]; have HI1 := Lib.hid hi1; have HB1 := Lib.hid (HB0.out.trans hb1); clear hi1 hb1)
    | (go_at_call 37; refine Calls.mono (C2.out _ HB1.out) ?_; rintro e w2 ⟨os, v2, rfl, hi2, hpm, hst, hb2⟩; obtain ⟨k2, hk2⟩ : ∃ k2, (ps n D size os).2 = k2 := ⟨_, rfl⟩; rw [hk2]; have HK2 := Lib.hid hk2; have hk2n : ((k2 : Int) != (k2 : Int)) = false := (by simp); have HI2 := Lib.hid hi2; have HP2 := Lib.hid hpm; have HS2 := Lib.hid hst; have HI12 := Lib.hid (HI1.out.below hb2 (Nat.le_refl _)); have HB2 := Lib.hid (HB1.out.trans (hb2.mono HB1.out.size)); clear hi2 hb2 hpm hst hk2)
    | (go_at_call 38; refine Calls.mono (C3.out _ HB2.out) ?_; rintro e w3 ⟨rfl, hw3⟩; obtain rfl := hw3.symm; have HI13 := Lib.hid HI12.out; have HI23 := Lib.hid HI2.out; have HB3 := Lib.hid HB2.out)
    | (go_at_call 39; refine Calls.mono (C4.out _ HB3.out) ?_; rintro e w4 ⟨rfl, hb4⟩; have HI14 := Lib.hid (HI13.out.below hb4 (Nat.le_refl _)); have HI24 := Lib.hid (HI23.out.below hb4 (Nat.le_refl _)); have HB4 := Lib.hid (HB3.out.trans (hb4.mono HB3.out.size)); clear hb4)
    | (go_at_call 40; refine Calls.mono (C5.out _ HB4.out) ?_; rintro e w5 ⟨rfl, hw5⟩; obtain rfl := hw5.symm)
    | (go_at_call 41; refine Calls.mono (C8.out _ HB4.out) ?_; rintro e w5 ⟨rfl, hw5⟩; obtain rfl := hw5.symm)
    | (go_at_call 43; refine Calls.mono (upTo_nums n _ (by omega)) ?_; rintro e w6 ⟨v, rfl, hv, hb6⟩; obtain ⟨a6, c6, rfl, hv6⟩ := hv; rw [i64len, upn_length]; have HV6 := Lib.hid hv6; have HI16 := Lib.hid (HI14.out.below hb6 (Nat.le_refl _)); have HI26 := Lib.hid (HI24.out.below hb6 (Nat.le_refl _)); have HB6 := Lib.hid (HB4.out.trans (hb6.mono HB4.out.size)); clear hv6 hb6)
    | (go_at_call 42; (with_reducible refine Calls.mono (packed_any n n D (upn n) size a a6 cap c6 w6 HN.out h100 g2 g3 (HAB.out _ HB6.out) HOK.out (upn_length n).symm HV6.out (fun o ho => upn_mem.1 ho) (upn_nodup n) h100) ?_); rintro e w7 ⟨v7, rfl, hi7, hb7⟩; rw [HK1.out]; rw [HPS.out _ (List.Perm.refl _)] at hi7; have HI7 := Lib.hid hi7; have HI17 := Lib.hid (HI16.out.below hb7 (Nat.le_refl _)); have HI27 := Lib.hid (HI26.out.below hb7 (Nat.le_refl _)); have HB7 := Lib.hid (HB6.out.trans (hb7.mono HB6.out.size)); clear hi7 hb7)
    | (go_at_call 44; refine Calls.mono (Down_any D a n cap w7 HN.out (by omega) (HAB.out _ HB7.out)) ?_; rintro e w8 ⟨os8, v8, rfl, hv8, hp8, hs8, hb8, _⟩; obtain rfl := sorted_uniq (hp8.trans HP2.out.symm) hs8 HS2.out; obtain ⟨a8, c8, rfl, hv8⟩ := hv8; have HL8 := Lib.hid (show os8.length = n from (by rw [hp8.length_eq, upn_length])); rw [i64len, HL8.out]; have HV8 := Lib.hid hv8; have HI78 := Lib.hid (HI7.out.below hb8 (Nat.le_refl _)); have HI18 := Lib.hid (HI17.out.below hb8 (Nat.le_refl _)); have HI28 := Lib.hid (HI27.out.below hb8 (Nat.le_refl _)); have HB8 := Lib.hid (HB7.out.trans (hb8.mono HB7.out.size)); clear hv8 hb8 hp8 hs8)
    | (go_at_call 42; (with_reducible refine Calls.mono (packed_any n n D os8 size a a8 cap c8 w8 HN.out h100 g2 g3 (HAB.out _ HB8.out) HOK.out HL8.out.symm HV8.out (fun o ho => upn_mem.1 (HP2.out.mem_iff.1 ho)) (HP2.out.nodup_iff.2 (upn_nodup n)) h100) ?_); rintro e w9 ⟨v9, rfl, hi9, hb9⟩; rw [HK2.out]; rw [HPS.out _ HP2.out] at hi9; have HI9 := Lib.hid hi9; have HI79 := Lib.hid (HI78.out.below hb9 (Nat.le_refl _)); have HI19 := Lib.hid (HI18.out.below hb9 (Nat.le_refl _)); have HI29 := Lib.hid (HI28.out.below hb9 (Nat.le_refl _)); have HB9 := Lib.hid (HB8.out.trans (hb9.mono HB8.out.size)); clear hi9 hb9)
    | (go_at_call 34; (with_reducible refine Calls.mono (eqNumP _ v1 v7 _ (HLN.out _) HI19.out HI79.out) ?_); rintro e w10 ⟨rfl, hb10⟩; have HI210 := Lib.hid (HI29.out.below hb10 (Nat.le_refl _)); have HI910 := Lib.hid (HI9.out.below hb10 (Nat.le_refl _)); have HB10 := Lib.hid (HB9.out.trans (hb10.mono HB9.out.size)); clear hb10)
    | (go_at_call 34; (with_reducible refine Calls.mono (eqNumP _ v2 v9 _ (HLN.out _) HI210.out HI910.out) ?_); rintro e w11 ⟨rfl, hb11⟩; have HB11 := Lib.hid (HB10.out.trans (hb11.mono HB10.out.size)); clear hb11)
    | (go_at_call 46; refine Calls.mono (C7.out _ HB11.out) ?_; rintro e w13 ⟨rfl, hw13⟩; obtain rfl := hw13.symm))
  go_ret
  exact ⟨rfl, HB11.out⟩
theorem packLaw (D O : List Int) (size : Int) (a a3 : Option Addr) (n cap n3 cap3 : Nat) (w : World) (hn : n = D.length) (hmax : n ≤ 9223372036854775807) (hc : n ≤ cap) (hD : Vals w a (ints64 D)) (hn3 : n3 = O.length) (hO : Vals w a3 (ints64 O)) (hwf : ∀ o, o ∈ O → (Lit.int .i64 o).wf = true) :
    Calls Try.prog 7 #[.slice a n cap, .int .i64 size, .slice a3 n3 cap3] w fun e w' => e = .returned (.bool true) ∧ Below w.heap.size w w' := by
  by_cases hb : packE D size = 0
  · by_cases h9 : n ≤ 9
    · by_cases hh : O.length = D.length ∧ gR D O size n
      · exact packLaw_so D O size a a3 n cap n3 cap3 w hn hmax hc hD hn3 hO hwf hb h9 hh
      · exact packLaw_sn D O size a a3 n cap n3 cap3 w hn hmax hc hD hn3 hO hwf hb h9 hh
    · by_cases hh : O.length = D.length ∧ gR D O size n
      · exact packLaw_lo D O size a a3 n cap n3 cap3 w hn hmax hc hD hn3 hO hwf hb (by omega) hh
      · exact packLaw_ln D O size a a3 n cap n3 cap3 w hn hmax hc hD hn3 hO hwf hb (by omega) hh
  · exact packLaw_bad D size a a3 n cap n3 cap3 w hn hmax hD hb
end Go.Proofs.Ytfjoakhcgpckgaa
