/- Contract: the least thing of which a test says yes; the program's (Way$2), for each of its two tests. -/
import Derived.Test.YtfjoakhcgpckgaaPathOk
namespace Go.Proofs.Ytfjoakhcgpckgaa
open Go.ChangeShapes Go.WideShapes Go.ChangeAt Go.RowKit
open Gr (El Tm)
set_option linter.unusedVariables false
set_option maxRecDepth 100000
/-- the least thing under n of which p says yes; -1 -/
def leastI (p : Nat → Bool) (n : Nat) : Int := match (List.range n).find? p with | some i => (i : Int) | none => -1
theorem leastI_some {p : Nat → Bool} {n i : Nat} (hi : i < n) (hp : p i = true) (hb : ∀ j, j < i → p j = false) : leastI p n = i := by
  have h : (List.range n).find? p = some i := by
    rw [List.find?_range_eq_some]
    exact ⟨hp, List.mem_range.2 hi, fun j hj => by simp [hb j hj]⟩
  unfold leastI
  rw [h]
theorem leastI_none {p : Nat → Bool} {n : Nat} (hb : ∀ j, j < n → p j = false) : leastI p n = -1 := by
  have h : (List.range n).find? p = none := by
    rw [List.find?_eq_none]
    intro x hx
    rw [hb x (List.mem_range.1 hx)]
    simp
  unfold leastI
  rw [h]
set_option maxHeartbeats 4000000 in
theorem least3 (n : Nat) (p : Nat → Bool) (gn : Nat) (gt : Nat) (w : World) (h60 : n ≤ 60) (hv : w.cell? ⟨gn, 0, none⟩ = some (.int .i64 n))
    (hok : ∀ W', Below w.heap.size w W' → ∀ i, i < n → Calls Try.prog 117 #[.int .i64 i, .pointer (some ⟨gt, 0, none⟩)] W' fun e w' => e = .returned (.bool (p i)) ∧ Below W'.heap.size W' w') :
    Calls Try.prog 116 #[.func (.func 117) #[] #[.pointer (some ⟨gt, 0, none⟩)], .pointer (some ⟨gn, 0, none⟩)] w fun e w' => e = .returned (.int .i64 (leastI p n)) ∧ Below w.heap.size w w' := by
  have HOK := Lib.hid hok
  clear hok
  go_enter Try.func116, Try.ntmps116
  go_wp2_with fail
  go_loopw [6] (fun x wr => ∃ i : Nat, i ≤ n ∧ x = .int .i64 i ∧ Hid (∀ j, j < i → p j = false) ∧ Below w.heap.size w wr) (fun x _ => n - (intOf x).toNat)
  case atStart => exact ⟨0, by omega, rfl, Lib.hid (fun j hj => absurd hj (by omega)), Below.refl _ _⟩
  case round =>
    obtain ⟨i, hi, rfl, HP, hB⟩ := hrel
    have hsz := hB.size
    by_cases hin : i < n
    · cases hp : p i with
      | true =>
        have HPI := Lib.hid hp
        have HV := Lib.hid (leastI_some hin hp HP.out)
        clear hp
        go_wp2_with (go_at_call 117; refine Calls.mono (HOK.out _ hB i hin) ?_; rintro e w3 ⟨rfl, hB4⟩; rw [HPI.out]; have hB5 := hB.trans (hB4.mono hsz))
        go_ret
        exact ⟨by rw [HV.out]; rfl, hB5⟩
      | false =>
        have HPI := Lib.hid hp
        have HP2 : Hid (∀ j, j < i + 1 → p j = false) := Lib.hid fun j hj => by
          by_cases e : j = i
          · rw [e]; exact HPI.out
          · exact HP.out j (by omega)
        clear hp
        go_wp2_with (go_at_call 117; refine Calls.mono (HOK.out _ hB i hin) ?_; rintro e w3 ⟨rfl, hB4⟩; rw [HPI.out]; have hB5 := hB.trans (hB4.mono hsz))
        go_roundw
        case rel => exact ⟨i + 1, by omega, rfl, HP2, hB5⟩
        case measure => simp [intOf]; omega
    · obtain rfl : i = n := by omega
      have HV := Lib.hid (leastI_none HP.out)
      go_wp2_with fail
      go_ret
      exact ⟨by rw [HV.out]; rfl, hB⟩
set_option maxHeartbeats 4000000 in
theorem least4 (n : Nat) (p : Nat → Bool) (gn : Nat) (ga gw gt gd : Nat) (w : World) (h60 : n ≤ 60) (hv : w.cell? ⟨gn, 0, none⟩ = some (.int .i64 n))
    (hok : ∀ W', Below w.heap.size w W' → ∀ i, i < n → Calls Try.prog 118 #[.int .i64 i, .pointer (some ⟨ga, 0, none⟩), .pointer (some ⟨gw, 0, none⟩), .pointer (some ⟨gt, 0, none⟩), .pointer (some ⟨gd, 0, none⟩)] W' fun e w' => e = .returned (.bool (p i)) ∧ Below W'.heap.size W' w') :
    Calls Try.prog 116 #[.func (.func 118) #[] #[.pointer (some ⟨ga, 0, none⟩), .pointer (some ⟨gw, 0, none⟩), .pointer (some ⟨gt, 0, none⟩), .pointer (some ⟨gd, 0, none⟩)], .pointer (some ⟨gn, 0, none⟩)] w fun e w' => e = .returned (.int .i64 (leastI p n)) ∧ Below w.heap.size w w' := by
  have HOK := Lib.hid hok
  clear hok
  go_enter Try.func116, Try.ntmps116
  go_wp2_with fail
  go_loopw [6] (fun x wr => ∃ i : Nat, i ≤ n ∧ x = .int .i64 i ∧ Hid (∀ j, j < i → p j = false) ∧ Below w.heap.size w wr) (fun x _ => n - (intOf x).toNat)
  case atStart => exact ⟨0, by omega, rfl, Lib.hid (fun j hj => absurd hj (by omega)), Below.refl _ _⟩
  case round =>
    obtain ⟨i, hi, rfl, HP, hB⟩ := hrel
    have hsz := hB.size
    by_cases hin : i < n
    · cases hp : p i with
      | true =>
        have HPI := Lib.hid hp
        have HV := Lib.hid (leastI_some hin hp HP.out)
        clear hp
        go_wp2_with (go_at_call 118; refine Calls.mono (HOK.out _ hB i hin) ?_; rintro e w3 ⟨rfl, hB4⟩; rw [HPI.out]; have hB5 := hB.trans (hB4.mono hsz))
        go_ret
        exact ⟨by rw [HV.out]; rfl, hB5⟩
      | false =>
        have HPI := Lib.hid hp
        have HP2 : Hid (∀ j, j < i + 1 → p j = false) := Lib.hid fun j hj => by
          by_cases e : j = i
          · rw [e]; exact HPI.out
          · exact HP.out j (by omega)
        clear hp
        go_wp2_with (go_at_call 118; refine Calls.mono (HOK.out _ hB i hin) ?_; rintro e w3 ⟨rfl, hB4⟩; rw [HPI.out]; have hB5 := hB.trans (hB4.mono hsz))
        go_roundw
        case rel => exact ⟨i + 1, by omega, rfl, HP2, hB5⟩
        case measure => simp [intOf]; omega
    · obtain rfl : i = n := by omega
      have HV := Lib.hid (leastI_none HP.out)
      go_wp2_with fail
      go_ret
      exact ⟨by rw [HV.out]; rfl, hB⟩
end Go.Proofs.Ytfjoakhcgpckgaa
