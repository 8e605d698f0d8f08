/- Contract: Knotted; the document's. -/
import Derived.Test.YtfjoakhcgpckgaaGraphBeh
namespace Go.Proofs.Ytfjoakhcgpckgaa
open Go.ChangeShapes Go.WideShapes Go.ChangeAt Go.RowKit
set_option linter.unusedVariables false
open Gr (El)
theorem rowN_lt60 {n : Nat} {L : El} (hO : Gr.Ok n L) (h60 : n ≤ 60) (i : Nat) : Gr.rowN L i < 2 ^ 60 := Nat.lt_of_lt_of_le (Gr.rowK_lt hO i _ (Nat.le_refl _)) (Nat.pow_le_pow_right (by decide) h60)
theorem cl_lt {n : Nat} {L : El} (hO : Gr.Ok n L) (i : Nat) : Gr.cl n L i < 2 ^ n := Gr.wOut_lt (fun i => Gr.rowK_lt hO i _ (Nat.le_refl _)) n i
theorem cl_lt64 {n : Nat} {L : El} (hO : Gr.Ok n L) (h60 : n ≤ 60) (i : Nat) : Gr.cl n L i < 18446744073709551616 := Gr.lt64 h60 (cl_lt hO i)
theorem bits_list {n : Nat} {s : Nat} (h60 : n ≤ 60) (hs : s < 2 ^ n) : Gr.yes s.testBit 64 = Gr.yes s.testBit n := Gr.yes_skip (by omega) fun i h1 _ => Nat.testBit_lt_two_pow (Nat.lt_of_lt_of_le hs (Nat.pow_le_pow_right (by decide) h1))
theorem cl_list {n : Nat} {L : El} (hO : Gr.Ok n L) (h60 : n ≤ 60) (i : Nat) : Gr.yes (Gr.cl n L i).testBit 64 = Gr.yes (Gr.rb n L i) n := bits_list h60 (cl_lt hO i)
/-- two results: a list of things and no fault -/
def Nats2 (l : List Nat) (w : World) (e : Ending) (w' : World) : Prop := ∃ v, e = .returned (.tuple #[v, .int .i64 0]) ∧ IsVals w' v (nats l) ∧ Below w.heap.size w w'
def Nats1 (l : List Nat) (w : World) (e : Ending) (w' : World) : Prop := ∃ v, e = .returned v ∧ IsVals w' v (nats l) ∧ Below w.heap.size w w'
theorem yes_go (f : Nat → Bool) (k : Nat) : Gr.yes f (k + 1) = if f k then Gr.yes f k ++ [k] else Gr.yes f k := rfl
set_option maxRecDepth 20000 in
set_option maxHeartbeats 2000000 in
theorem Knotted_any (n : Nat) (L : El) (a : Option Addr) (l cap : Nat) (w : World) (hn : l = L.length) (hmax : l ≤ 400) (h60 : n ≤ 60) (hL : Edges w a L) (hO : Gr.Ok n L) :
    Calls Try.prog 109 #[.int .i64 n, .slice a l cap] w (Nats1 (Gr.knot n L) w) := by
  have HL := Lib.hid hL
  have HN := Lib.hid hn
  have HO := Lib.hid hO
  clear hL hn hO
  go_enter Try.func109, Try.ntmps109
  go_wp2_with fail
  go_loopw [5, 8] (fun v x wr => ∃ k : Nat, k ≤ n ∧ x = .int .i64 k ∧ Hid (wr.ownsRow w.heap.size 3 1 v (Gr.yes (fun i => Gr.rb n L i i) k).length (nats (Gr.yes (fun i => Gr.rb n L i i) k))) ∧ Below w.heap.size w wr) (fun _ x _ => n - (intOf x).toNat)
  case atStart => exact ⟨0, by omega, rfl, Lib.hid (World.ownsRow_nil _ _ _ _), Below.refl _ _⟩
  case round =>
    obtain ⟨k, hk, rfl, HOW, hB2⟩ := hrel
    have hsz := hB2.size
    by_cases hkn : k < n
    · have HGO := Lib.hid (yes_go (fun i => Gr.rb n L i i) k)
      have hlen := Gr.yes_length (fun i => Gr.rb n L i i) k
      have HLB := Lib.hid (HL.out.below hB2 (Nat.le_refl _))
      cases hb2 : Gr.rb n L k k with
      | true =>
        have HB2 := Lib.hid hb2
        have HS := Lib.hid (HGO.out.trans (if_pos hb2))
        clear hb2
        go_wp2_with (first
          | (go_at_call 180; refine Calls.mono (beh_any n k L _ _ _ _ HN.out hmax h60 hkn HLB.out HO.out) ?_; rintro e w3 ⟨rfl, hr, hB3⟩; have c0 := hr.cell hkn; unfold bools at c0; rw [HB2.out] at c0; have hl0 := hr.lt; have HOW2 := Lib.hid (ownsRow_below HOW.out hB3); have hB4 := hB2.trans (hB3.mono hsz); have hs4 := hB4.size; clear hr hB3)
          | (at_builtin; refine wpList_push _ (by rfl) _ _ 58 (by rfl) w.heap.size 3 (.int .i64 0) 8 Try.underlying58 infoInt (by rfl) u5 (Gr.yes (fun i => Gr.rb n L i i) k).length _ (nat1 k) _ rfl (by rfl) HOW2.out (by rfl) (by rfl) (by unfold maxLen; omega) (by omega) (by omega) ?_; intro gg cap2 w4 hown1 hgrow1 hgb hgl; have HP := Lib.hid hown1; have hB5 := hB4.grown hgrow1 hs4 (ownBlock_ge HOW2.out (Nat.le_refl _)); clear hown1 hgrow1 hgb))
        have HO2 : Hid (w4.ownsRow w.heap.size 3 1 (.slice (some ⟨gg, 0, none⟩) ((Gr.yes (fun i => Gr.rb n L i i) k).length + 1) cap2) (Gr.yes (fun i => Gr.rb n L i i) (k + 1)).length (nats (Gr.yes (fun i => Gr.rb n L i i) (k + 1)))) := Lib.hid (by rw [HS.out, nats_snoc]; simpa using HP.out)
        go_roundw
        case rel => exact ⟨k + 1, by omega, rfl, HO2, hB5⟩
        case measure => simp [intOf]; omega
      | false =>
        have HB2 := Lib.hid hb2
        have HS := Lib.hid (HGO.out.trans (if_neg (by simp [hb2])))
        clear hb2
        go_wp2_with (go_at_call 180; refine Calls.mono (beh_any n k L _ _ _ _ HN.out hmax h60 hkn HLB.out HO.out) ?_; rintro e w3 ⟨rfl, hr, hB3⟩; have c0 := hr.cell hkn; unfold bools at c0; rw [HB2.out] at c0; have hl0 := hr.lt; have HOW2 := Lib.hid (ownsRow_below HOW.out hB3); have hB4 := hB2.trans (hB3.mono hsz); have hs4 := hB4.size; clear hr hB3)
        have HO2 : Hid (w3.ownsRow w.heap.size 3 1 u5 (Gr.yes (fun i => Gr.rb n L i i) (k + 1)).length (nats (Gr.yes (fun i => Gr.rb n L i i) (k + 1)))) := Lib.hid (by rw [HS.out]; exact HOW2.out)
        go_roundw
        case rel => exact ⟨k + 1, by omega, rfl, HO2, hB4⟩
        case measure => simp [intOf]; omega
    · obtain rfl : k = n := by omega
      have HV := Lib.hid (IsVals.own HOW.out)
      go_wp2_with fail
      go_ret
      exact ⟨_, rfl, HV.out, hB2⟩
end Go.Proofs.Ytfjoakhcgpckgaa
