/- Contracts: does an atom hold of a host? The program's closures. -/
import Derived.Test.YtnfmopmcckgfdaaAskVal
import Derived.Deep.RegionHeld3
namespace Go.Proofs.Ytnfmopmcckgfdaa
open Go.ChangeShapes Go.WideShapes Go.ChangeAt Go.RowKit
set_option linter.unusedVariables false
open Tp
/-- three amounts -/
structure Amt where
  cpu : Int
  mem : Int
  gpu : Int
def Amt.get (a : Amt) (k : Bs) : Int := if k = Ask.cpu then a.cpu else if k = Ask.mem then a.mem else a.gpu
def Amt.val (a : Amt) : Value := .agg #[.int .i64 a.cpu, .int .i64 a.mem, .int .i64 a.gpu]
set_option maxRecDepth 20000 in
set_option maxHeartbeats 4000000 in
theorem amount_any (a : Amt) (k : Bs) (w : World) : Calls Try.prog 49 #[.agg #[.int .i64 a.cpu, .int .i64 a.mem, .int .i64 a.gpu], .string (bts k)] w fun e w' => e = .returned (.int .i64 (a.get k)) ∧ Below w.heap.size w w' := by
  have HB : Hid (Below w.heap.size w (w.alloc (.cells #[.int .i64 a.cpu, .int .i64 a.mem, .int .i64 a.gpu] 27))) := Lib.hid ((Below.refl _ _).alloc (Nat.le_refl _) _)
  obtain ⟨s, hs⟩ : ∃ s, bts k = s := ⟨_, rfl⟩
  have HS := Lib.hid hs
  rw [hs]
  clear hs
  by_cases h1 : k = Ask.cpu
  · have HV : Hid (a.cpu = a.get k) := Lib.hid (by rw [Amt.get, if_pos h1])
    have e1 : s.toList = [99, 112, 117] := (bts_is HS.out _).2 h1
    clear h1
    go_enter Try.func49, Try.ntmps49
    go_wp2_with fail
    go_ret
    exact ⟨ret_int HV.out, HB.out⟩
  have e1 : ¬ s.toList = [99, 112, 117] := fun h => h1 ((bts_is HS.out _).1 h)
  by_cases h2 : k = Ask.mem
  · have HV : Hid (a.mem = a.get k) := Lib.hid (by rw [Amt.get, if_neg h1, if_pos h2])
    have e2 : s.toList = [109, 101, 109] := (bts_is HS.out _).2 h2
    clear h1 h2 e1
    go_enter Try.func49, Try.ntmps49
    go_wp2_with fail
    go_ret
    exact ⟨ret_int HV.out, HB.out⟩
  · have HV : Hid (a.gpu = a.get k) := Lib.hid (by rw [Amt.get, if_neg h1, if_neg h2])
    have e2 : ¬ s.toList = [109, 101, 109] := fun h => h2 ((bts_is HS.out _).1 h)
    have e1' : (s.toList == [99, 112, 117]) = false := by simpa using e1
    have e2' : (s.toList == [109, 101, 109]) = false := by simpa using e2
    clear h1 h2
    go_enter Try.func49, Try.ntmps49
    go_wp2_with fail
    go_ret
    exact ⟨ret_int HV.out, HB.out⟩
/-- does a label fit an atom? -/
def labFit (k : Int) (a b : Bs) (l : Lab) : Bool := decide (l.1 = a) && (decide (k = 1) || decide (l.2 = b))
/-- an atom's cells, boxed -/
structure AtomAt (w : World) (c : Nat) (k : Int) (a b : Bs) (n : Int) : Prop where
  c0 : w.cell? ⟨c, 0, none⟩ = some (.int .i64 k)
  c1 : w.cell? ⟨c, 1, none⟩ = some (.string (bts a))
  c2 : w.cell? ⟨c, 2, none⟩ = some (.string (bts b))
  c3 : w.cell? ⟨c, 3, none⟩ = some (.int .i64 n)
  lt : c < w.heap.size
theorem AtomAt.below {w w' : World} {c : Nat} {k : Int} {a b : Bs} {n : Int} (h : AtomAt w c k a b n) (hb : Below w.heap.size w w') : AtomAt w' c k a b n :=
  ⟨(hb.cell (p := ⟨c, _, none⟩) h.lt).trans h.c0, (hb.cell (p := ⟨c, _, none⟩) h.lt).trans h.c1, (hb.cell (p := ⟨c, _, none⟩) h.lt).trans h.c2, (hb.cell (p := ⟨c, _, none⟩) h.lt).trans h.c3, Nat.lt_of_lt_of_le h.lt hb.size⟩
set_option maxRecDepth 20000 in
set_option maxHeartbeats 4000000 in
theorem fit_any (c : Nat) (k : Int) (a b : Bs) (n : Int) (l : Lab) (w : World) (hA : AtomAt w c k a b n) : Calls Try.prog 51 #[.agg #[.string (bts l.1), .string (bts l.2)], .pointer (some ⟨c, 0, none⟩)] w fun e w' => e = .returned (.bool (labFit k a b l)) ∧ Below w.heap.size w w' := by
  have HB : Hid (Below w.heap.size w (w.alloc (.cells #[.string (bts l.1), .string (bts l.2)] 56))) := Lib.hid ((Below.refl _ _).alloc (Nat.le_refl _) _)
  have h0 := hA.c0
  have h1 := hA.c1
  have h2 := hA.c2
  have hlt := hA.lt
  have E1 := Lib.hid (bts_eq l.1 a)
  have E2 := Lib.hid (bts_eq l.2 b)
  obtain ⟨a1, ha1⟩ : ∃ s, bts l.1 = s := ⟨_, rfl⟩
  obtain ⟨a2, ha2⟩ : ∃ s, bts l.2 = s := ⟨_, rfl⟩
  obtain ⟨b1, hb1⟩ : ∃ s, bts a = s := ⟨_, rfl⟩
  obtain ⟨b2, hb2⟩ : ∃ s, bts b = s := ⟨_, rfl⟩
  rw [ha1] at HB E1 ⊢
  rw [ha2] at HB E2 ⊢
  rw [hb1] at h1 E1
  rw [hb2] at h2 E2
  clear hA ha1 ha2 hb1 hb2
  cases hc1 : decide (l.1 = a) with
  | false =>
    have HV : Hid (labFit k a b l = false) := Lib.hid (by rw [labFit, hc1]; rfl)
    have e1 : (a1.toList == b1.toList) = false := by rw [E1.out, hc1]
    clear hc1
    go_enter Try.func51, Try.ntmps51
    go_wp2_with fail
    go_ret
    exact ⟨ret_bool HV.out.symm, HB.out⟩
  | true =>
    have e1 : (a1.toList == b1.toList) = true := by rw [E1.out, hc1]
    by_cases hk : k = 1
    · have HV : Hid (labFit k a b l = true) := Lib.hid (by rw [labFit, hc1, hk]; rfl)
      subst hk
      clear hc1
      go_enter Try.func51, Try.ntmps51
      go_wp2_with fail
      go_ret
      exact ⟨ret_bool HV.out.symm, HB.out⟩
    · have HV : Hid (labFit k a b l = decide (l.2 = b)) := Lib.hid (by rw [labFit, hc1, decide_eq_false hk]; rfl)
      have ek : (k == 1) = false := by simpa using hk
      cases hc2 : decide (l.2 = b) with
      | false =>
        rw [hc2] at HV
        have e2 : (a2.toList == b2.toList) = false := by rw [E2.out, hc2]
        clear hc1 hc2
        go_enter Try.func51, Try.ntmps51
        go_wp2_with fail
        go_ret
        exact ⟨ret_bool HV.out.symm, HB.out⟩
      | true =>
        rw [hc2] at HV
        have e2 : (a2.toList == b2.toList) = true := by rw [E2.out, hc2]
        clear hc1 hc2
        go_enter Try.func51, Try.ntmps51
        go_wp2_with fail
        go_ret
        exact ⟨ret_bool HV.out.symm, HB.out⟩
theorem enFit : Enters 51 := fun args w => by kernel_rfl
end Go.Proofs.Ytnfmopmcckgfdaa
