/- Rows of bits and of yes and no; what an element's type is. -/
import Derived.Test.YtfjoakhcgpckgaaDoorMatchG
import Derived.Test.YtfjoakhcgpckgaaDoorGraphBits
import Derived.Test.YtfjoakhcgpckgaaDoorNats
import Derived.Test.YtfjoakhcgpckgaaDoorTz
import Derived.RegionTactic
namespace Go.Proofs.YtfjoakhcgpckgaaDoor
open Go.ChangeShapes Go.WideShapes Go.ChangeAt Go.RowKit
set_option linter.unusedVariables false
open Gr (El)
theorem infoU64 : (Tryd.prog.info? 60).map (fun i => (i.zero, i.size, i.bytes)) = some (some (.int .u64 0), 1, 8) := by kernel_rfl
theorem infoInt : (Tryd.prog.info? 3).map (fun i => (i.zero, i.size, i.bytes)) = some (some (.int .i64 0), 1, 8) := by kernel_rfl
theorem infoBool : (Tryd.prog.info? 4).map (fun i => (i.zero, i.size, i.bytes)) = some (some (.bool false), 1, 1) := by kernel_rfl
def u64s (f : Nat → Nat) (i : Nat) : Value := .int .u64 (f i : Nat)
theorem rowK_go {L : El} {k : Nat} {x y : Int} (h : L[k]? = some (x, y)) (i : Nat) : Gr.rowK L (k + 1) i = if x = (i : Int) then Gr.rowK L k i ||| 2 ^ y.toNat else Gr.rowK L k i := by simp [Gr.rowK, h]
/-- what is left of the bits of s when those below m are done -/
def Rest (s z m : Nat) : Prop := ∀ i, z.testBit i = (s.testBit i && decide (m ≤ i))
theorem Rest.step {s z m p : Nat} (h : Rest s z m) (hp : z.testBit p = true) (hl : ∀ j, j < p → z.testBit j = false) : Rest s (z &&& (z - 1)) (p + 1) ∧ Gr.yes s.testBit (p + 1) = Gr.yes s.testBit m ++ [p] := by
  have h1 := h p
  rw [hp] at h1
  simp only [Bool.true_eq, Bool.and_eq_true, decide_eq_true_eq] at h1
  refine ⟨fun i => ?_, Gr.yes_more h1.2 (fun i a b => ?_) h1.1⟩
  · rw [Gr.bit_low hp hl i, h i, Bool.eq_iff_iff]
    simp only [Bool.and_eq_true, decide_eq_true_eq]
    constructor
    · rintro ⟨⟨a, b⟩, c⟩
      refine ⟨a, ?_⟩
      refine Decidable.byContradiction fun hc => ?_
      have := hl i (by omega)
      rw [h i, a] at this
      simp at this; omega
    · rintro ⟨a, b⟩
      exact ⟨⟨a, by omega⟩, by omega⟩
  · have := hl i b
    rw [h i] at this
    simpa [a] using this
theorem Rest.done {s m : Nat} (h : Rest s 0 m) (hm : m ≤ 64) : Gr.yes s.testBit 64 = Gr.yes s.testBit m := Gr.yes_skip hm fun i a b => by
  have := h i
  simp only [Nat.zero_testBit] at this
  simpa [a] using this.symm
def ListPost (s : Nat) (w : World) (e : Ending) (w' : World) : Prop := ∃ v, e = .returned v ∧ w'.ownsRow w.heap.size 3 1 v (Gr.yes s.testBit 64).length (nats (Gr.yes s.testBit 64)) ∧ Below w.heap.size w w'
set_option maxHeartbeats 2000000 in
theorem list_any (s : Nat) (w : World) (hs : s < 18446744073709551616) (hT : Gr.Bru w) (hG : 0 < w.heap.size) :
    Calls Tryd.prog 26 #[.int .u64 s] w (ListPost s w) := by
  have HT := Lib.hid hT
  clear hT
  go_enter Tryd.func26, Tryd.ntmps26
  go_wp2_with fail
  go_loopw [0, 3] (fun x v wr => ∃ z m : Nat, x = .int .u64 z ∧ z ≤ s ∧ m ≤ 64 ∧ Hid (Rest s z m) ∧ Hid (wr.ownsRow w.heap.size 3 1 v (Gr.yes s.testBit m).length (nats (Gr.yes s.testBit m))) ∧ Below w.heap.size w wr) (fun x _ _ => (intOf x).toNat)
  case atStart => exact ⟨s, 0, rfl, by omega, by omega, Lib.hid fun i => by simp, Lib.hid (World.ownsRow_nil _ _ _ _), Below.refl _ _⟩
  case round =>
    obtain ⟨z, m, rfl, hzs, hm, HR, HO, hB⟩ := hrel
    have hsz := hB.size
    by_cases hz : z = 0
    · subst hz
      have HV := Lib.hid (HR.out.done hm)
      go_wp2_with fail
      go_ret
      exact ⟨_, rfl, by rw [HV.out]; exact HO.out, hB⟩
    · have hzb : ((z : Int) != 0) = true := by simp; omega
      have hlen := Gr.yes_length s.testBit m
      have HZ := Lib.hid hz
      have hz1 : 1 ≤ z := by omega
      have hz2 : z < 18446744073709551616 := by omega
      have hzu : IntKind.u64.wrap ((z : Int) - 1) = ((z - 1 : Nat) : Int) := by
        rw [show (z : Int) - 1 = ((z - 1 : Nat) : Int) from by omega]
        exact IntWalk.u64_in _ ⟨by omega, by omega⟩
      have HAND := Lib.hid (u64_and_nat z (z - 1) hz2 (by omega))
      have HZU := Lib.hid hzu
      have HTT := Lib.hid (HT.out.below hB hG)
      clear hz hzu
      go_wp2_with (first
        | (go_at_call 48; refine Calls.mono (Gr.tz_low z _ hz2 HZ.out HTT.out) ?_; rintro e w1 ⟨⟨p, rfl, hp1, hp2, hp3⟩, rfl⟩; have HP := Lib.hid (HR.out.step hp1 hp3); clear hp1 hp3)
        | (at_builtin; refine wpList_push _ (by rfl) _ _ 23 (by rfl) w.heap.size 3 (.int .i64 0) 8 Tryd.underlying23 infoInt (by rfl) u3 (Gr.yes s.testBit m).length _ (nat1 p) _ rfl (by rfl) HO.out (by rfl) (by rfl) (by unfold maxLen; omega) (by omega) (by omega) ?_; intro gg cap2 w1 hown1 hgrow1 hgb hgl; have HP2 := Lib.hid hown1; have hB1 := hB.grown hgrow1 hsz (ownBlock_ge HO.out (Nat.le_refl _)); clear hown1 hgrow1))
      have hlt : z &&& (z - 1) < z := Nat.lt_of_le_of_lt Nat.and_le_right (by omega)
      have HO2 := Lib.hid (show w1.ownsRow w.heap.size 3 1 (.slice (some ⟨gg, 0, none⟩) ((Gr.yes s.testBit m).length + 1) cap2) (Gr.yes s.testBit (p + 1)).length (nats (Gr.yes s.testBit (p + 1))) from by
        rw [HP.out.2, nats_snoc]; simpa using HP2.out)
      have HR2 := Lib.hid HP.out.1
      rw [show (z : Int) - 1 = ((z - 1 : Nat) : Int) from by omega, HAND.out]
      go_roundw
      case rel => exact ⟨z &&& (z - 1), p + 1, rfl, by omega, by omega, HR2, HO2, hB1⟩
      case measure => simp [intOf]; omega
end Go.Proofs.YtfjoakhcgpckgaaDoor
