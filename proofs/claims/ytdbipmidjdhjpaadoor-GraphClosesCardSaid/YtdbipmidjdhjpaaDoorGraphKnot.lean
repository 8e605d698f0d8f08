/- Contracts: Knot and Reach; the program's; Which and Knotted; the document's. -/
import Derived.Test.YtdbipmidjdhjpaaDoorGraphBeh
namespace Go.Proofs.YtdbipmidjdhjpaaDoor
open Go.ChangeShapes Go.WideShapes Go.ChangeAt Go.RowKit
set_option linter.unusedVariables false
open Gr (El)
theorem rowN_lt60 {n : Nat} {L : El} (hO : Gr.Ok n L) (h60 : n ≤ 60) (i : Nat) : Gr.rowN L i < 2 ^ 60 := Nat.lt_of_lt_of_le (Gr.rowK_lt hO i _ (Nat.le_refl _)) (Nat.pow_le_pow_right (by decide) h60)
theorem cl_lt {n : Nat} {L : El} (hO : Gr.Ok n L) (i : Nat) : Gr.cl n L i < 2 ^ n := Gr.wOut_lt (fun i => Gr.rowK_lt hO i _ (Nat.le_refl _)) n i
theorem cl_lt64 {n : Nat} {L : El} (hO : Gr.Ok n L) (h60 : n ≤ 60) (i : Nat) : Gr.cl n L i < 18446744073709551616 := Gr.lt64 h60 (cl_lt hO i)
theorem bits_list {n : Nat} {s : Nat} (h60 : n ≤ 60) (hs : s < 2 ^ n) : Gr.yes s.testBit 64 = Gr.yes s.testBit n := Gr.yes_skip (by omega) fun i h1 _ => Nat.testBit_lt_two_pow (Nat.lt_of_lt_of_le hs (Nat.pow_le_pow_right (by decide) h1))
theorem cl_list {n : Nat} {L : El} (hO : Gr.Ok n L) (h60 : n ≤ 60) (i : Nat) : Gr.yes (Gr.cl n L i).testBit 64 = Gr.yes (Gr.rb n L i) n := bits_list h60 (cl_lt hO i)
/-- two results: a list of things and no fault -/
def Nats2 (l : List Nat) (w : World) (e : Ending) (w' : World) : Prop := ∃ v, e = .returned (.tuple #[v, .int .i64 0]) ∧ IsVals w' v (nats l) ∧ Below w.heap.size w w'
def Nats1 (l : List Nat) (w : World) (e : Ending) (w' : World) : Prop := ∃ v, e = .returned v ∧ IsVals w' v (nats l) ∧ Below w.heap.size w w'
theorem yes_go (f : Nat → Bool) (k : Nat) : Gr.yes f (k + 1) = if f k then Gr.yes f k ++ [k] else Gr.yes f k := rfl
theorem Knot_bad (z : Int) (L : El) (a : Option Addr) (n cap : Nat) (w : World) (hn : n = L.length) (hmax : n ≤ 9223372036854775807) (hL : Edges w a L) (hb : (graphE z z L != 0) = true) :
    Calls Tryd.prog 23 #[.int .i64 z, .slice a n cap] w fun e w' => e = .returned (.tuple #[.slice none 0 0, .int .i64 (graphE z z L)]) ∧ Below w.heap.size w w' := by
  have HL := Lib.hid hL
  have HN := Lib.hid hn
  clear hL hn
  go_enter Tryd.func23, Tryd.ntmps23
  go_wp2_with (go_at_call 26; refine Calls.mono (gCheck_any z L _ _ _ _ HN.out hmax HL.out) ?_; rintro e w1 ⟨rfl, hB1⟩)
  go_ret2
  exact ⟨rfl, hB1⟩
set_option maxRecDepth 20000 in
set_option maxHeartbeats 2000000 in
theorem Knot_good (n : Nat) (L : El) (a : Option Addr) (l cap : Nat) (w : World) (hn : l = L.length) (hL : Edges w a L) (hE : graphE n n L = 0) :
    Calls Tryd.prog 23 #[.int .i64 n, .slice a l cap] w (Nats2 (Gr.knot n L) w) := by
  obtain ⟨_, g1, _, _, g2, g3⟩ := graphE_good hE
  have h60 : n ≤ 60 := by omega
  have hl4 : l ≤ 400 := by omega
  have HL := Lib.hid hL
  have HN := Lib.hid hn
  have HO := Lib.hid (okG g3)
  have HE := Lib.hid hE
  clear hL hn hE g1 g2 g3
  go_enter Tryd.func23, Tryd.ntmps23
  go_wp2_with (first
    | (go_at_call 26; refine Calls.mono (gCheck_any n L _ _ _ _ HN.out (by omega) HL.out) ?_; rintro e w1 ⟨rfl, hB1⟩; rw [HE.out])
    | (go_at_call 49; refine Calls.mono (rows_any n L _ _ _ _ HN.out hl4 h60 (HL.out.below hB1 (Nat.le_refl _)) HO.out) ?_; rintro e w2 ⟨g, c, rfl, hg, hr, hB2⟩; have HR := Lib.hid hr; clear hr)
    | (go_at_call 48; refine Calls.mono (closed_any n _ _ _ _ h60 HR.out (rowN_lt60 HO.out h60)) ?_; rintro e w3 ⟨v, rfl, i3, hB3⟩; obtain ⟨a3, c3, rfl, j3⟩ := i3; have HJ := Lib.hid j3; clear j3; simp only [List.length_map, List.length_range]))
  have hB : Below w.heap.size w w3 := (hB1.trans (hB2.mono hB1.size)).trans (hB3.mono (by have := hB1.size; have := hB2.size; omega))
  have hs3 := hB.size
  clear hB1 hB2 hB3 HR
  go_loopw [7, 21] (fun v x wr => ∃ k : Nat, k ≤ n ∧ x = .int .i64 k ∧ Hid (wr.ownsRow w3.heap.size 3 1 v (Gr.yes (fun i => Gr.rb n L i i) k).length (nats (Gr.yes (fun i => Gr.rb n L i i) k))) ∧ Below w3.heap.size w3 wr) (fun _ x _ => n - (intOf x).toNat)
  case atStart => exact ⟨0, by omega, rfl, Lib.hid (World.ownsRow_nil _ _ _ _), Below.refl _ _⟩
  case round =>
    obtain ⟨k, hk, rfl, HOW, hB2⟩ := hrel
    have hsz := hB2.size
    by_cases hkn : k < n
    · obtain ⟨b, off, rfl, hb, hat⟩ := HJ.out (by simp; omega)
      have c0 := (hB2.cell (p := ⟨b, off + k, none⟩) hb).trans (hat k (u64s (Gr.cl n L) k) (by rw [List.getElem?_map, List.getElem?_range hkn]; rfl))
      unfold u64s at c0
      have hbr : b < wr.heap.size := by omega
      have htst := Gr.test_one (n := k) (cl_lt64 HO.out h60 k)
      have HGO := Lib.hid (yes_go (fun i => Gr.rb n L i i) k)
      have hlen := Gr.yes_length (fun i => Gr.rb n L i i) k
      have hrb : Gr.rb n L k k = (Gr.cl n L k).testBit k := rfl
      rw [← hrb] at htst
      clear hat hrb
      generalize Gr.cl n L k = z at *
      cases hb2 : Gr.rb n L k k with
      | true =>
        rw [hb2] at htst
        have HS := Lib.hid (HGO.out.trans (if_pos hb2))
        clear hb2
        go_wp2_with ((at_builtin; refine wpList_push _ (by rfl) _ _ 37 (by rfl) w3.heap.size 3 (.int .i64 0) 8 Tryd.underlying37 infoInt (by rfl) u7 (Gr.yes (fun i => Gr.rb n L i i) k).length _ (nat1 k) _ rfl (by rfl) HOW.out (by rfl) (by rfl) (by unfold maxLen; omega) (by omega) (by omega) ?_; intro gg cap2 w4 hown1 hgrow1 hgb hgl; have HP := Lib.hid hown1; have hB3 := hB2.grown hgrow1 hsz (ownBlock_ge HOW.out (Nat.le_refl _)); clear hown1 hgrow1 hgb))
        have HO2 : Hid (w4.ownsRow w3.heap.size 3 1 (.slice (some ⟨gg, 0, none⟩) ((Gr.yes (fun i => Gr.rb n L i i) k).length + 1) cap2) (Gr.yes (fun i => Gr.rb n L i i) (k + 1)).length (nats (Gr.yes (fun i => Gr.rb n L i i) (k + 1)))) := Lib.hid (by rw [HS.out, nats_snoc]; simpa using HP.out)
        go_roundw
        case rel => exact ⟨k + 1, by omega, rfl, HO2, hB3⟩
        case measure => simp [intOf]; omega
      | false =>
        rw [hb2] at htst
        have HS := Lib.hid (HGO.out.trans (if_neg (by simp [hb2])))
        have HO2 : Hid (wr.ownsRow w3.heap.size 3 1 u7 (Gr.yes (fun i => Gr.rb n L i i) (k + 1)).length (nats (Gr.yes (fun i => Gr.rb n L i i) (k + 1)))) := Lib.hid (by rw [HS.out]; exact HOW.out)
        clear hb2
        go_wp2_with fail
        go_roundw
        case rel => exact ⟨k + 1, by omega, rfl, HO2, hB2⟩
        case measure => simp [intOf]; omega
    · obtain rfl : k = n := by omega
      have HV := Lib.hid (IsVals.own HOW.out)
      go_wp2_with fail
      go_ret2
      exact ⟨_, rfl, HV.out, hB.trans (hB2.mono hs3)⟩
theorem Reach_bad (z f : Int) (L : El) (a : Option Addr) (n cap : Nat) (w : World) (hn : n = L.length) (hmax : n ≤ 9223372036854775807) (hL : Edges w a L) (hb : (graphE z z L != 0) = true) :
    Calls Tryd.prog 24 #[.int .i64 z, .slice a n cap, .int .i64 f] w fun e w' => e = .returned (.tuple #[.slice none 0 0, .int .i64 (graphE z z L)]) ∧ Below w.heap.size w w' := by
  have HL := Lib.hid hL
  have HN := Lib.hid hn
  clear hL hn
  go_enter Tryd.func24, Tryd.ntmps24
  go_wp2_with (go_at_call 26; refine Calls.mono (gCheck_any z L _ _ _ _ HN.out hmax HL.out) ?_; rintro e w1 ⟨rfl, hB1⟩)
  go_ret2
  exact ⟨rfl, hB1⟩
theorem Reach_out (n : Nat) (f : Int) (L : El) (a : Option Addr) (l cap : Nat) (w : World) (hn : l = L.length) (hL : Edges w a L) (hE : graphE n n L = 0) (hf : f < 0 ∨ (n : Int) ≤ f) :
    Calls Tryd.prog 24 #[.int .i64 n, .slice a l cap, .int .i64 f] w fun e w' => e = .returned (.tuple #[.slice none 0 0, .int .i64 4]) ∧ Below w.heap.size w w' := by
  obtain ⟨_, g1, _, _, g2, g3⟩ := graphE_good hE
  have hl4 : l ≤ 400 := by omega
  have HL := Lib.hid hL
  have HN := Lib.hid hn
  have HE := Lib.hid hE
  clear hL hn hE g3
  have hcase : f < 0 ∨ (0 ≤ f ∧ (n : Int) ≤ f) := by omega
  clear hf
  rcases hcase with h1 | ⟨h1, h2⟩
  all_goals
    go_enter Tryd.func24, Tryd.ntmps24
    go_wp2_with (go_at_call 26; refine Calls.mono (gCheck_any n L _ _ _ _ HN.out (by omega) HL.out) ?_; rintro e w1 ⟨rfl, hB1⟩; rw [HE.out])
    go_ret2
    exact ⟨rfl, hB1⟩
set_option maxRecDepth 20000 in
set_option maxHeartbeats 2000000 in
theorem Reach_good (n f : Nat) (L : El) (a : Option Addr) (l cap : Nat) (w : World) (hn : l = L.length) (hL : Edges w a L) (hE : graphE n n L = 0) (hf : f < n) (hT : Gr.Bru w) (hG : 1 < w.heap.size) :
    Calls Tryd.prog 24 #[.int .i64 n, .slice a l cap, .int .i64 f] w (Nats2 (Gr.yes (Gr.rb n L f) n) w) := by
  obtain ⟨_, g1, _, _, g2, g3⟩ := graphE_good hE
  have h60 : n ≤ 60 := by omega
  have hl4 : l ≤ 400 := by omega
  have HL := Lib.hid hL
  have HN := Lib.hid hn
  have HO := Lib.hid (okG g3)
  have HE := Lib.hid hE
  have HT := Lib.hid hT
  have hf2 : (f : Int) < n := by omega
  clear hL hn hE g1 g2 g3 hT
  have HZ := Lib.hid (cl_lt64 HO.out h60 f)
  go_enter Tryd.func24, Tryd.ntmps24
  go_wp2_with (first
    | (go_at_call 26; refine Calls.mono (gCheck_any n L _ _ _ _ HN.out (by omega) HL.out) ?_; rintro e w1 ⟨rfl, hB1⟩; rw [HE.out])
    | (go_at_call 49; refine Calls.mono (rows_any n L _ _ _ _ HN.out hl4 h60 (HL.out.below hB1 (Nat.le_refl _)) HO.out) ?_; rintro e w2 ⟨g, c, rfl, hg, hr, hB2⟩; have HR := Lib.hid hr; clear hr)
    | (go_at_call 48; refine Calls.mono (closed_any n _ _ _ _ h60 HR.out (rowN_lt60 HO.out h60)) ?_; rintro e w3 ⟨v, rfl, i3, hB3⟩; obtain ⟨a3, c3, rfl, j3⟩ := i3; obtain ⟨b, off, rfl, hb, hat⟩ := j3 (by simp; omega); have c0 : w3.cell? ⟨b, off + f, none⟩ = some (.int .u64 (Gr.cl n L f : Nat)) := hat f (u64s (Gr.cl n L) f) (by rw [List.getElem?_map, List.getElem?_range hf]; rfl); clear hat j3; simp only [List.length_map, List.length_range]; have HB := Lib.hid ((hB1.trans (hB2.mono hB1.size)).trans (hB3.mono (by have := hB1.size; have := hB2.size; omega))); clear hB1 hB2 hB3 HR)
    | (go_at_call 50; refine Calls.mono (list_any (Gr.cl n L f) _ HZ.out (HT.out.below HB.out hG) (by have := HB.out.size; omega)) ?_; rintro e w4 ⟨v4, rfl, i4, hB4⟩))
  go_ret2
  exact ⟨_, rfl, by rw [← cl_list HO.out h60]; exact IsVals.own i4, HB.out.trans (hB4.mono HB.out.size)⟩
set_option maxHeartbeats 2000000 in
theorem Which_any (n : Nat) (f : Nat → Bool) (a : Option Addr) (c : Nat) (w : World) (h60 : n ≤ 60) (hr : Vals w a ((List.range n).map (bools f))) :
    Calls Tryd.prog 30 #[.slice a n c] w (Nats1 (Gr.yes f n) w) := by
  have HJ := Lib.hid hr
  clear hr
  go_enter Tryd.func30, Tryd.ntmps30
  go_wp2_with fail
  go_loopw [3, 8] (fun v x wr => ∃ k : Nat, k ≤ n ∧ x = .int .i64 k ∧ Hid (wr.ownsRow w.heap.size 3 1 v (Gr.yes f k).length (nats (Gr.yes f k))) ∧ Below w.heap.size w wr) (fun _ x _ => n - (intOf x).toNat)
  case atStart => exact ⟨0, by omega, rfl, Lib.hid (World.ownsRow_nil _ _ _ _), Below.refl _ _⟩
  case round =>
    obtain ⟨k, hk, rfl, HOW, hB2⟩ := hrel
    have hsz := hB2.size
    by_cases hkn : k < n
    · obtain ⟨b, off, rfl, hb, hat⟩ := HJ.out (by simp; omega)
      have c0 := (hB2.cell (p := ⟨b, off + k, none⟩) hb).trans (hat k (bools f k) (by rw [List.getElem?_map, List.getElem?_range hkn]; rfl))
      unfold bools at c0
      have hbr : b < wr.heap.size := by omega
      have HGO := Lib.hid (yes_go f k)
      have hlen := Gr.yes_length f k
      clear hat
      cases hb2 : f k with
      | true =>
        rw [hb2] at c0
        have HS := Lib.hid (HGO.out.trans (if_pos hb2))
        clear hb2
        go_wp2_with ((at_builtin; refine wpList_push _ (by rfl) _ _ 37 (by rfl) w.heap.size 3 (.int .i64 0) 8 Tryd.underlying37 infoInt (by rfl) u3 (Gr.yes f k).length _ (nat1 k) _ rfl (by rfl) HOW.out (by rfl) (by rfl) (by unfold maxLen; omega) (by omega) (by omega) ?_; intro gg cap2 w4 hown1 hgrow1 hgb hgl; have HP := Lib.hid hown1; have hB3 := hB2.grown hgrow1 hsz (ownBlock_ge HOW.out (Nat.le_refl _)); clear hown1 hgrow1 hgb))
        have HO2 : Hid (w4.ownsRow w.heap.size 3 1 (.slice (some ⟨gg, 0, none⟩) ((Gr.yes f k).length + 1) cap2) (Gr.yes f (k + 1)).length (nats (Gr.yes f (k + 1)))) := Lib.hid (by rw [HS.out, nats_snoc]; simpa using HP.out)
        go_roundw
        case rel => exact ⟨k + 1, by omega, rfl, HO2, hB3⟩
        case measure => simp [intOf]; omega
      | false =>
        rw [hb2] at c0
        have HS := Lib.hid (HGO.out.trans (if_neg (by simp [hb2])))
        have HO2 : Hid (wr.ownsRow w.heap.size 3 1 u3 (Gr.yes f (k + 1)).length (nats (Gr.yes f (k + 1)))) := Lib.hid (by rw [HS.out]; exact HOW.out)
        clear hb2
        go_wp2_with fail
        go_roundw
        case rel => exact ⟨k + 1, by omega, rfl, HO2, hB2⟩
        case measure => simp [intOf]; omega
    · obtain rfl : k = n := by omega
      have HV := Lib.hid (IsVals.own HOW.out)
      go_wp2_with fail
      go_ret
      exact ⟨_, rfl, HV.out, hB2⟩
set_option maxRecDepth 20000 in
set_option maxHeartbeats 2000000 in
theorem Knotted_any (n : Nat) (L : El) (a : Option Addr) (l cap : Nat) (w : World) (hn : l = L.length) (hmax : l ≤ 400) (h60 : n ≤ 60) (hL : Edges w a L) (hO : Gr.Ok n L) :
    Calls Tryd.prog 27 #[.int .i64 n, .slice a l cap] w (Nats1 (Gr.knot n L) w) := by
  have HL := Lib.hid hL
  have HN := Lib.hid hn
  have HO := Lib.hid hO
  clear hL hn hO
  go_enter Tryd.func27, Tryd.ntmps27
  go_wp2_with fail
  go_loopw [5, 8] (fun v x wr => ∃ k : Nat, k ≤ n ∧ x = .int .i64 k ∧ Hid (wr.ownsRow w.heap.size 3 1 v (Gr.yes (fun i => Gr.rb n L i i) k).length (nats (Gr.yes (fun i => Gr.rb n L i i) k))) ∧ Below w.heap.size w wr) (fun _ x _ => n - (intOf x).toNat)
  case atStart => exact ⟨0, by omega, rfl, Lib.hid (World.ownsRow_nil _ _ _ _), Below.refl _ _⟩
  case round =>
    obtain ⟨k, hk, rfl, HOW, hB2⟩ := hrel
    have hsz := hB2.size
    by_cases hkn : k < n
    · have HGO := Lib.hid (yes_go (fun i => Gr.rb n L i i) k)
      have hlen := Gr.yes_length (fun i => Gr.rb n L i i) k
      have HLB := Lib.hid (HL.out.below hB2 (Nat.le_refl _))
      cases hb2 : Gr.rb n L k k with
      | true =>
        have HB2 := Lib.hid hb2
        have HS := Lib.hid (HGO.out.trans (if_pos hb2))
        clear hb2
        go_wp2_with (first
          | (go_at_call 31; refine Calls.mono (beh_any n k L _ _ _ _ HN.out hmax h60 hkn HLB.out HO.out) ?_; rintro e w3 ⟨rfl, hr, hB3⟩; have c0 := hr.cell hkn; unfold bools at c0; rw [HB2.out] at c0; have hl0 := hr.lt; have HOW2 := Lib.hid (ownsRow_below HOW.out hB3); have hB4 := hB2.trans (hB3.mono hsz); have hs4 := hB4.size; clear hr hB3)
          | (at_builtin; refine wpList_push _ (by rfl) _ _ 37 (by rfl) w.heap.size 3 (.int .i64 0) 8 Tryd.underlying37 infoInt (by rfl) u5 (Gr.yes (fun i => Gr.rb n L i i) k).length _ (nat1 k) _ rfl (by rfl) HOW2.out (by rfl) (by rfl) (by unfold maxLen; omega) (by omega) (by omega) ?_; intro gg cap2 w4 hown1 hgrow1 hgb hgl; have HP := Lib.hid hown1; have hB5 := hB4.grown hgrow1 hs4 (ownBlock_ge HOW2.out (Nat.le_refl _)); clear hown1 hgrow1 hgb))
        have HO2 : Hid (w4.ownsRow w.heap.size 3 1 (.slice (some ⟨gg, 0, none⟩) ((Gr.yes (fun i => Gr.rb n L i i) k).length + 1) cap2) (Gr.yes (fun i => Gr.rb n L i i) (k + 1)).length (nats (Gr.yes (fun i => Gr.rb n L i i) (k + 1)))) := Lib.hid (by rw [HS.out, nats_snoc]; simpa using HP.out)
        go_roundw
        case rel => exact ⟨k + 1, by omega, rfl, HO2, hB5⟩
        case measure => simp [intOf]; omega
      | false =>
        have HB2 := Lib.hid hb2
        have HS := Lib.hid (HGO.out.trans (if_neg (by simp [hb2])))
        clear hb2
        go_wp2_with (go_at_call 31; refine Calls.mono (beh_any n k L _ _ _ _ HN.out hmax h60 hkn HLB.out HO.out) ?_; rintro e w3 ⟨rfl, hr, hB3⟩; have c0 := hr.cell hkn; unfold bools at c0; rw [HB2.out] at c0; have hl0 := hr.lt; have HOW2 := Lib.hid (ownsRow_below HOW.out hB3); have hB4 := hB2.trans (hB3.mono hsz); have hs4 := hB4.size; clear hr hB3)
        have HO2 : Hid (w3.ownsRow w.heap.size 3 1 u5 (Gr.yes (fun i => Gr.rb n L i i) (k + 1)).length (nats (Gr.yes (fun i => Gr.rb n L i i) (k + 1)))) := Lib.hid (by rw [HS.out]; exact HOW2.out)
        go_roundw
        case rel => exact ⟨k + 1, by omega, rfl, HO2, hB4⟩
        case measure => simp [intOf]; omega
    · obtain rfl : k = n := by omega
      have HV := Lib.hid (IsVals.own HOW.out)
      go_wp2_with fail
      go_ret
      exact ⟨_, rfl, HV.out, hB2⟩
end Go.Proofs.YtdbipmidjdhjpaaDoor
