/- Contracts: Take, Give: the hosts with an amount more, or less, in use at one of them. -/
import Derived.Test.YtnfmopmcckgfdaaHostChange
namespace Go.Proofs.Ytnfmopmcckgfdaa
open Go.ChangeShapes Go.WideShapes Go.ChangeAt Go.RowKit
set_option linter.unusedVariables false
open Tp
theorem OwnR.mono {B B' : Nat} {w : World} {v : Value} {L : List Hst} (h : OwnR B w v L) (hB : B' ≤ B) : OwnR B' w v L := by
  obtain ⟨a, cp, h1, h2, h3, h4⟩ := h
  refine ⟨a, cp, h1, h2, h3, fun hp => ?_⟩
  obtain ⟨g, e, hO⟩ := h4 hp
  exact ⟨g, e, ⟨Nat.le_trans hB hO.lo, hO.lt, hO.frz, hO.row⟩⟩
theorem amtBox {W0 w : World} {A : Amt} {ca : Nat} (hca : ca = w.heap.size) (hW : W0 = w.alloc (.cells #[.int .i64 A.cpu, .int .i64 A.mem, .int .i64 A.gpu] 27)) : AmtAt W0 ca A := by
  subst hW
  exact ⟨(top_cell _ _ _ _ _ hca).trans rfl, (top_cell _ _ _ _ _ hca).trans rfl, (top_cell _ _ _ _ _ hca).trans rfl, by rw [hca]; exact top_lt _ _⟩
set_option maxRecDepth 20000 in
set_option maxHeartbeats 4000000 in
theorem Take_any (L : List Hst) (a : Option Addr) (n cap : Nat) (i : Int) (A : Amt) (w : World) (hn : n = L.length) (hmax : n ≤ 9223372036854775807) (hi : -9223372036854775808 ≤ i ∧ i ≤ 9223372036854775807) (hL : Hosts w a L) :
    Calls Try.prog 7 #[.slice a n cap, .int .i64 i, A.v] w fun e w' => ∃ v, e = .returned (.tuple #[v, .int .i64 (chE (takeF A) L i)]) ∧ OwnR w.heap.size w' v (chL (takeF A) L i) ∧ Below w.heap.size w w' := by
  obtain ⟨W0, hW0⟩ : ∃ W, W = w.alloc (.cells #[.int .i64 A.cpu, .int .i64 A.mem, .int .i64 A.gpu] 27) := ⟨_, rfl⟩
  obtain ⟨ca, hca⟩ : ∃ c, c = w.heap.size := ⟨_, rfl⟩
  have HA := Lib.hid (amtBox hca hW0)
  have hb : Below w.heap.size w W0 := by rw [hW0]; exact (Below.refl _ _).alloc (Nat.le_refl _) _
  have HB := Lib.hid hb
  have HC := Lib.hid (change_any 24 enTake #[.pointer (some ⟨ca, 0, none⟩)] (takeF A) (fun W => AmtAt W ca A) (fun _ _ h hb => h.below hb) (fun h v W hA hv => take_any A ca h v W hv hA) L a n cap i W0 hn hmax hi (hL.below hb) HA.out)
  obtain ⟨V, hV⟩ : ∃ V, chE (takeF A) L i = V := ⟨_, rfl⟩
  rw [hV] at HC ⊢
  clear hn hi hL hb hV
  unfold Amt.v
  go_enter Try.func7, Try.ntmps7
  go_upto_region 1 with fail
  rw [← hW0, ← hca]
  clear hW0 hca
  go_wp2_with fail
  refine Calls.mono HC.out ?_
  rintro e' W1 ⟨v, rfl, hO, hl⟩
  have HB1 := Lib.hid (HB.out.trans (hl.mono HB.out.size))
  have HO := Lib.hid (hO.mono HB.out.size)
  clear hl hO
  go_wp2_with fail
  go_ret2
  exact ⟨v, rfl, HO.out, HB1.out⟩
set_option maxRecDepth 20000 in
set_option maxHeartbeats 4000000 in
theorem Give_any (L : List Hst) (a : Option Addr) (n cap : Nat) (i : Int) (A : Amt) (w : World) (hn : n = L.length) (hmax : n ≤ 9223372036854775807) (hi : -9223372036854775808 ≤ i ∧ i ≤ 9223372036854775807) (hL : Hosts w a L) :
    Calls Try.prog 8 #[.slice a n cap, .int .i64 i, A.v] w fun e w' => ∃ v, e = .returned (.tuple #[v, .int .i64 (chE (giveF A) L i)]) ∧ OwnR w.heap.size w' v (chL (giveF A) L i) ∧ Below w.heap.size w w' := by
  obtain ⟨W0, hW0⟩ : ∃ W, W = w.alloc (.cells #[.int .i64 A.cpu, .int .i64 A.mem, .int .i64 A.gpu] 27) := ⟨_, rfl⟩
  obtain ⟨ca, hca⟩ : ∃ c, c = w.heap.size := ⟨_, rfl⟩
  have HA := Lib.hid (amtBox hca hW0)
  have hb : Below w.heap.size w W0 := by rw [hW0]; exact (Below.refl _ _).alloc (Nat.le_refl _) _
  have HB := Lib.hid hb
  have HC := Lib.hid (change_any 26 enGive #[.pointer (some ⟨ca, 0, none⟩)] (giveF A) (fun W => AmtAt W ca A) (fun _ _ h hb => h.below hb) (fun h v W hA hv => give_any A ca h v W hv hA) L a n cap i W0 hn hmax hi (hL.below hb) HA.out)
  obtain ⟨V, hV⟩ : ∃ V, chE (giveF A) L i = V := ⟨_, rfl⟩
  rw [hV] at HC ⊢
  clear hn hi hL hb hV
  unfold Amt.v
  go_enter Try.func8, Try.ntmps8
  go_upto_region 1 with fail
  rw [← hW0, ← hca]
  clear hW0 hca
  go_wp2_with fail
  refine Calls.mono HC.out ?_
  rintro e' W1 ⟨v, rfl, hO, hl⟩
  have HB1 := Lib.hid (HB.out.trans (hl.mono HB.out.size))
  have HO := Lib.hid (hO.mono HB.out.size)
  clear hl hO
  go_wp2_with fail
  go_ret2
  exact ⟨v, rfl, HO.out, HB1.out⟩
end Go.Proofs.Ytnfmopmcckgfdaa
