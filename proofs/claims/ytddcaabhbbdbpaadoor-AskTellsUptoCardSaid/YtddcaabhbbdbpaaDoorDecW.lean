/- Contract: the document's Decimal, of any number. -/
import Derived.Test.YtddcaabhbbdbpaaDoorAskDec
import Derived.Test.YtddcaabhbbdbpaaDoorNeedTxtM
namespace Go.Proofs.YtddcaabhbbdbpaaDoor
open Go.ChangeShapes Go.WideShapes Go.ChangeAt Go.RowKit
set_option linter.unusedVariables false
open Tp
theorem nt_dec (u : Nat) : Nt.dec u = dec u := rfl
set_option maxRecDepth 20000 in
set_option maxHeartbeats 4000000 in
theorem DecimalW_any (n : Int) (w : World) (h1 : -9223372036854775808 ≤ n) (h2 : n ≤ 9223372036854775807) : Calls Tryd.prog 17 #[.int .i64 n] w fun e w' => e = .returned (.string (bts (Nt.decI n))) ∧ Below w.heap.size w w' := by
  by_cases hn : n < 0
  · obtain ⟨u, hu⟩ : ∃ u : Nat, n = -((u : Nat) : Int) - 1 := ⟨(-n - 1).toNat, by omega⟩
    have HC := Lib.hid (plain_all (u + 2) (u + 1) w (by omega) (by omega))
    obtain ⟨V, hV⟩ : ∃ V, bts (dec (u + 1)) = V := ⟨_, rfl⟩
    have hVs : V.size ≤ 20 := by rw [← hV, bts_size]; exact Nat.le_trans (dec_len 18 (u + 1) (by omega)) (by decide)
    have HR : Hid ((⟨#[45]⟩ : ByteArray) ++ V = bts (Nt.decI n)) := Lib.hid (by
      unfold Nt.decI
      rw [if_pos hn, show n.natAbs = u + 1 from by omega, nt_dec, ← hV]
      exact bts_append [45] _)
    obtain ⟨R, hR⟩ : ∃ R, bts (Nt.decI n) = R := ⟨_, rfl⟩
    rw [hR] at HR ⊢
    rw [hV] at HC
    have hw1 : IntKind.i64.wrap (n + 1) = n + 1 := IntWalk.i64_in _ (by omega)
    have hneg : -(n + 1) = (u : Int) := by omega
    have hw2 : IntKind.i64.wrap (u : Int) = (u : Int) := IntWalk.i64_in _ (by omega)
    have hw3 : IntKind.u64.wrap (u : Int) = (u : Int) := IntWalk.u64_in _ (by omega)
    have hw4 : IntKind.u64.wrap ((u : Int) + 1) = ((u + 1 : Nat) : Int) := IntWalk.u64_in _ (by omega)
    clear hV hR hu
    go_enter Tryd.func17, Tryd.ntmps17
    go_wp2_with fail
    refine Calls.mono HC.out ?_
    rintro e' W ⟨rfl, hb⟩
    go_wp2_with fail
    go_ret
    exact ⟨by rw [← HR.out]; rfl, hb⟩
  · obtain ⟨u, rfl⟩ : ∃ u : Nat, n = (u : Int) := ⟨n.toNat, by omega⟩
    have HC := Lib.hid (plain_all (u + 1) u w (by omega) (by omega))
    have HV : Hid (Nt.decI (u : Int) = dec u) := Lib.hid (by unfold Nt.decI; rw [if_neg (by omega), Int.toNat_natCast]; rfl)
    rw [HV.out]
    obtain ⟨V, hV⟩ : ∃ V, bts (dec u) = V := ⟨_, rfl⟩
    rw [hV] at HC ⊢
    have h0 : ¬ ((u : Int) < 0) := by omega
    have hw2 : IntKind.u64.wrap (u : Int) = (u : Int) := IntWalk.u64_in _ (by omega)
    clear hV
    go_enter Tryd.func17, Tryd.ntmps17
    go_wp2_with fail
    refine Calls.mono HC.out ?_
    rintro e' W ⟨rfl, h1⟩
    go_wp2_with fail
    go_ret
    exact ⟨rfl, h1⟩
end Go.Proofs.YtddcaabhbbdbpaaDoor
