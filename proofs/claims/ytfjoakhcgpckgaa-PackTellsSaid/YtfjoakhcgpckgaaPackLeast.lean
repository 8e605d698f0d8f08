/- Contract: pack.Least. -/
import Derived.Test.YtfjoakhcgpckgaaPackLst
import Derived.Test.YtfjoakhcgpckgaaPackCheck
namespace Go.Proofs.Ytfjoakhcgpckgaa
open Go.ChangeShapes Go.WideShapes Go.ChangeAt Go.RowKit
set_option linter.unusedVariables false
open Wk St
set_option maxHeartbeats 1600000 in
theorem pLeast_bad (D : List Int) (size : Int) (a : Option Addr) (n cap : Nat) (w : World) (hn : n = D.length) (hmax : n ≤ 9223372036854775807) (hD : Vals w a (ints64 D)) (hb : packE D size ≠ 0) :
    Calls Try.prog 38 #[.slice a n cap, .int .i64 size] w fun e w' => e = .returned (.tuple #[.int .i64 0, .int .i64 (packE D size)]) ∧ w' = w := by
  have C := Lib.hid (pCheck_any D size a n cap w hn hmax hD)
  obtain ⟨z, hz⟩ : ∃ z, packE D size = z := ⟨_, rfl⟩
  rw [hz] at C hb ⊢
  have hb2 : (z != 0) = true := by simpa using hb
  clear hD hn hz
  go_enter Try.func38, Try.ntmps38
  go_wp2_with (go_at_call 41; refine Calls.mono C.out ?_; rintro e w1 ⟨rfl, h1⟩; obtain rfl := h1.symm)
  go_ret2
  exact ⟨rfl, rfl⟩
set_option maxHeartbeats 1600000 in
theorem pLeast_large (D : List Int) (size : Int) (a : Option Addr) (n cap : Nat) (w : World) (hn : n = D.length) (hmax : n ≤ 9223372036854775807) (hD : Vals w a (ints64 D)) (hb : packE D size = 0) (h9 : 9 < n) :
    Calls Try.prog 38 #[.slice a n cap, .int .i64 size] w fun e w' => e = .returned (.tuple #[.int .i64 0, .int .i64 2]) ∧ w' = w := by
  have C : Hid (Calls Try.prog 41 #[.slice a n cap, .int .i64 size] w fun e w' => e = .returned (.int .i64 0) ∧ w' = w) := Lib.hid (by have := pCheck_any D size a n cap w hn hmax hD; rwa [hb] at this)
  have h9b : (n : Int) > 9 := by omega
  clear hD hn hb
  go_enter Try.func38, Try.ntmps38
  go_wp2_with (go_at_call 41; refine Calls.mono C.out ?_; rintro e w1 ⟨rfl, h1⟩; obtain rfl := h1.symm)
  go_ret2
  exact ⟨rfl, rfl⟩
def PLeastPost (size : Int) (D : List Int) (w : World) (e : Ending) (w' : World) : Prop := ∃ r : Nat, e = .returned (.tuple #[.int .i64 (r : Int), .int .i64 0]) ∧ Few size D r ∧ Below w.heap.size w w'
set_option maxRecDepth 20000 in
set_option maxHeartbeats 1600000 in
theorem pLeast_good (D : List Int) (size : Int) (a : Option Addr) (n cap : Nat) (w : World) (hn : n = D.length) (hmax : n ≤ 9223372036854775807) (hc : n ≤ cap) (hD : Vals w a (ints64 D)) (hb : packE D size = 0) (h9 : n ≤ 9) :
    Calls Try.prog 38 #[.slice a n cap, .int .i64 size] w fun e w' => PLeastPost size D w e w' := by
  obtain ⟨g1, g2, g3, g4⟩ := packE_good hb
  have C : Hid (Calls Try.prog 41 #[.slice a n cap, .int .i64 size] w fun e w' => e = .returned (.int .i64 0) ∧ w' = w) := Lib.hid (by have := pCheck_any D size a n cap w hn hmax hD; rwa [hb] at this)
  have HC : Hid (Calls Try.prog 126 #[.slice a n cap, .int .i64 size, .slice none 0 0, .int .i64 ((n : Int) + 1)] w fun e w' => ∃ r : Nat, e = .returned (.int .i64 (r : Int)) ∧ Few size D r ∧ Below w.heap.size w w') := Lib.hid (by
    have h := plst_any size g2 g3 D g4 (fun _ => 0) (n + 1) w.heap.size 0 (.slice none 0 0) a n cap w hn hc (VB.of hD (Nat.le_refl _)) (World.ownsRow_nil _ _ _ _) (fun _ => rfl) (fun b => by omega) (fun b _ => rfl) (by omega) (Nat.le_refl _)
    rw [show (((n + 1 : Nat)) : Int) = (n : Int) + 1 from by omega] at h
    refine h.mono ?_
    rintro e w' ⟨r, rfl, h1, _, h2⟩
    exact ⟨r, rfl, Lst.few (by omega) (fun x hx => (g4 x hx).2) (by rw [← hn]; exact h1), h2⟩)
  have h9b : ¬ (n : Int) > 9 := by omega
  clear hD hn hb g1 g4
  go_enter Try.func38, Try.ntmps38
  go_wp2_with (first
    | (go_at_call 41; refine Calls.mono C.out ?_; rintro e w1 ⟨rfl, h1⟩; obtain rfl := h1.symm)
    | (go_at_call 126; refine Calls.mono HC.out ?_; rintro e w2 ⟨r, rfl, h1, h2⟩; have HR := Lib.hid h1; have HB := Lib.hid h2; clear h1 h2))
  go_ret2
  exact ⟨r, rfl, HR.out, HB.out⟩
end Go.Proofs.Ytfjoakhcgpckgaa
