/- Contracts: the document's wheel: the first of those that wait; Next; Add. -/
import Derived.Test.YtjoejdpoehpkiaaWheelRow
import Derived.Deep.CutBlock
import Derived.Deep.DeepCutAuto
import Derived.BigQuiet
import Derived.Maps.AppendAt
import Derived.Deep.RegionLaw
namespace Go.Proofs.Ytjoejdpoehpkiaa
open Go.ChangeShapes Go.WideShapes Go.ChangeAt Go.RowKit
set_option linter.unusedVariables false
open Wh
def FirstZ (qs : List Tm) (z : Int) : Prop := (qs = [] ∧ z = -1) ∨ ∃ (b : Nat) (x : Tm), Frst qs qs.length b x ∧ z = (b : Int)
set_option maxRecDepth 20000 in
set_option maxHeartbeats 4000000 in
theorem first_any (G : Nat → Prop) (gr : Nat) (now : Int) (v : Value) (qs : List Tm) (w : World) (h : RWh G gr now v qs w) (hl : qs.length ≤ 200) :
    Calls Try.prog 23 #[.pointer (some ⟨gr, 0, none⟩)] w fun e w' => ∃ z : Int, e = .returned (.int .i64 z) ∧ FirstZ qs z ∧ Below w.heap.size w w' := by
  obtain ⟨a, cap, rfl, hW⟩ := h.row.fw
  have c1 := h.c1
  have lr := h.var.lt
  have HW := Lib.hid hW
  have HH := Lib.hid h
  obtain ⟨n, hn⟩ : ∃ n, qs.length = n := ⟨_, rfl⟩
  have HN := Lib.hid hn
  rw [hn] at c1 hl
  clear h hW hn
  go_enter Try.func23, Try.ntmps23
  go_wp2_with fail
  go_loopw [3, 11] (fun y x wr => ∃ (q : Nat) (z : Int), q ≤ n ∧ x = .int .i64 q ∧ y = .int .i64 z ∧ Hid ((q = 0 ∧ z = -1) ∨ ∃ (b : Nat) (t : Tm), Frst qs q b t ∧ z = (b : Int)) ∧ Below w.heap.size w wr) (fun _ v _ => n - (intOf v).toNat)
  case atStart => exact ⟨0, -1, by omega, rfl, rfl, Lib.hid (.inl ⟨rfl, rfl⟩), Below.refl _ _⟩
  case round =>
    obtain ⟨q, z, hq, rfl, rfl, HQ, hB⟩ := hrel
    have hsz := hB.size
    by_cases hql : q < n
    · obtain ⟨t, ht⟩ : ∃ t, qs[q]? = some t := ⟨_, List.getElem?_eq_getElem (by have := HN.out; omega)⟩
      obtain ⟨b, off, rfl, hb, q0, q1⟩ := fireCells ((HW.out.below hB (Nat.le_refl _)).vals) ht
      have d1 : wr.cell? ⟨gr, 1, none⟩ = some (.slice (some ⟨b, off, none⟩) n cap) := (hB.cell (p := ⟨gr, 1, none⟩) lr).trans c1
      have lr2 := Nat.lt_of_lt_of_le lr hsz
      have HT := Lib.hid ht
      have HB3 := Lib.hid (hB.alloc hsz (.cells #[.int .i64 t.at', .int .i64 t.id] 38))
      by_cases hz : z < 0
      · have HX : Hid (Frst qs (q + 1) q t) := Lib.hid (by
          rcases HQ.out with ⟨rfl, _⟩ | ⟨b, x, _, h2⟩
          · exact Frst.start HT.out
          · omega)
        clear ht
        go_wp2_with fail
        go_quiet (fail)
        go_wp2_with fail
        go_roundw
        case rel => exact ⟨q + 1, (q : Int), by omega, rfl, rfl, Lib.hid (.inr ⟨q, t, HX.out, rfl⟩), by refine below_drewN ?_ _; exact HB3.out⟩
        case measure => simp [intOf]; omega
      · obtain ⟨k, x, hf, rfl⟩ : ∃ (b : Nat) (t : Tm), Frst qs q b t ∧ z = (b : Int) := by
          rcases HQ.out with ⟨_, h2⟩ | h2
          · omega
          · exact h2
        have HF := Lib.hid hf
        obtain ⟨b', off', e', hb', x0, x1⟩ := fireCells ((HW.out.below hB (Nat.le_refl _)).vals) hf.at'
        simp only [Option.some.injEq, Addr.mk.injEq, and_true] at e'
        obtain ⟨rfl, rfl⟩ := e'
        have hkq := hf.le'
        have k1 : (0 : Int) ≤ (k : Int) := by omega
        have k2 : (k : Int) < (n : Int) := by omega
        have k3 : ¬ (k : Int) < 0 := by omega
        clear ht hf hz
        cases hc : decide (t.at' < x.at') with
        | true =>
          have HX : Hid (Frst qs (q + 1) q t) := Lib.hid (HF.out.next HT.out (by simpa using hc))
          go_wp2_with fail
          go_quiet (fail)
          go_wp2_with fail
          go_roundw
          case rel => exact ⟨q + 1, (q : Int), by omega, rfl, rfl, Lib.hid (.inr ⟨q, t, HX.out, rfl⟩), by refine below_drewN ?_ _; exact HB3.out⟩
          case measure => simp [intOf]; omega
        | false =>
          have HX : Hid (Frst qs (q + 1) k x) := Lib.hid (HF.out.keep HT.out (by simpa using hc))
          go_wp2_with fail
          go_quiet (fail)
          go_wp2_with fail
          go_roundw
          case rel => exact ⟨q + 1, (k : Int), by omega, rfl, rfl, Lib.hid (.inr ⟨k, x, HX.out, rfl⟩), by refine below_drewN ?_ _; exact HB3.out⟩
          case measure => simp [intOf]; omega
    · have HY : Hid (FirstZ qs z) := Lib.hid (by
        have h1 := HN.out
        rcases HQ.out with ⟨h2, h3⟩ | ⟨b, x, h2, h3⟩
        · exact .inl ⟨List.eq_nil_of_length_eq_zero (by omega), h3⟩
        · exact .inr ⟨b, x, by rw [h1, show n = q from by omega]; exact h2, h3⟩)
      go_wp2_with fail
      go_ret
      exact ⟨z, rfl, HY.out, hB⟩
/-- the least time of those that wait -/
def NextZ (qs : List Tm) (z : Int) (is : Bool) : Prop := (qs = [] ∧ z = 0 ∧ is = false) ∨ (is = true ∧ (∃ t, t ∈ qs ∧ t.at' = z) ∧ ∀ t, t ∈ qs → z ≤ t.at')
theorem NextZ.uniq {qs : List Tm} {z y : Int} {a b : Bool} (h1 : NextZ qs z a) (h2 : NextZ qs y b) : z = y ∧ a = b := by
  rcases h1 with ⟨rfl, rfl, rfl⟩ | ⟨rfl, ⟨t, ht, rfl⟩, h⟩ <;> rcases h2 with ⟨h3, rfl, rfl⟩ | ⟨rfl, ⟨u, hu, rfl⟩, h3⟩
  · exact ⟨rfl, rfl⟩
  · simp at hu
  · subst h3; simp at ht
  · have e1 := h u hu
    have e2 := h3 t ht
    exact ⟨by omega, rfl⟩
set_option maxRecDepth 20000 in
set_option maxHeartbeats 4000000 in
theorem rNext_any (G : Nat → Prop) (gr : Nat) (now : Int) (v : Value) (qs : List Tm) (w : World) (h : RWh G gr now v qs w) (hl : qs.length ≤ 200) :
    Calls Try.prog 13 #[.pointer (some ⟨gr, 0, none⟩)] w fun e w' => ∃ z is, e = .returned (.tuple #[.int .i64 z, .bool is]) ∧ NextZ qs z is ∧ Below w.heap.size w w' := by
  obtain ⟨a, cap, rfl, hW⟩ := h.row.fw
  have c1 := h.c1
  have lr := h.var.lt
  have HW := Lib.hid hW
  have HH := Lib.hid h
  obtain ⟨n, hn⟩ : ∃ n, qs.length = n := ⟨_, rfl⟩
  have HN := Lib.hid hn
  rw [hn] at c1 hl
  have HL := Lib.hid hl
  clear h hW hn
  go_enter Try.func13, Try.ntmps13
  go_wp2_with fail
  refine Calls.mono (first_any G gr now _ qs _ (by have := HH.out; rw [HN.out] at this; exact this) (by rw [HN.out]; exact HL.out)) ?_
  rintro e w2 ⟨z, rfl, hz, hb⟩
  have HB := Lib.hid hb
  rcases hz with ⟨hq, rfl⟩ | ⟨k, x, hf, rfl⟩
  · have HQ := Lib.hid hq
    clear hq hb
    go_wp2_with fail
    go_ret2
    exact ⟨_, _, rfl, .inl ⟨HQ.out, rfl, rfl⟩, HB.out⟩
  · obtain ⟨b, off, rfl, hb', x0, x1⟩ := fireCells ((HW.out.below hb (Nat.le_refl _)).vals) hf.at'
    have d1 : w2.cell? ⟨gr, 1, none⟩ = some (.slice (some ⟨b, off, none⟩) n cap) := (hb.cell (p := ⟨gr, 1, none⟩) lr).trans c1
    have lr2 := Nat.lt_of_lt_of_le lr hb.size
    have hkq := hf.le'
    rw [HN.out] at hkq
    have k1 : (0 : Int) ≤ (k : Int) := by omega
    have k2 : (k : Int) < (n : Int) := by omega
    have HF := Lib.hid hf
    clear hf hb
    go_wp2_with fail
    go_ret2
    refine ⟨_, _, rfl, .inr ⟨rfl, ⟨x, List.mem_of_getElem? HF.out.at', rfl⟩, fun t ht => ?_⟩, HB.out⟩
    obtain ⟨i, hi, rfl⟩ := List.getElem_of_mem ht
    exact (HF.out.least i _ hi (List.getElem?_eq_getElem hi)).1
end Go.Proofs.Ytjoejdpoehpkiaa
