/- A region in whatever order: what is held of the operations that are done and of those that are not. -/
import Derived.StillTail
import Derived.Test.YtfjoakhcgpckgaaBase
namespace Go.Proofs.Ytfjoakhcgpckgaa
open Go.ChangeShapes Go.WideShapes Go.ChangeAt Go.RowKit
set_option linter.unusedVariables false
/-- how many of the first n are not done -/
def undone (n : Nat) (listed : Array Bool) : Nat := ((List.range n).filter fun j => !listed.getD j true).length
theorem undone_set {n : Nat} {listed : Array Bool} {i : Nat} (hi : i < n) (hl : listed.getD i true = false) : undone n (listed.setIfInBounds i true) + 1 = undone n listed := by
  have hsz : i < listed.size := by
    rcases Nat.lt_or_ge i listed.size with h | h
    · exact h
    · rw [Array.getD_eq_getD_getElem?, Array.getElem?_eq_none h] at hl; cases hl
  unfold undone
  have e : (List.range n).filter (fun j => !(listed.setIfInBounds i true).getD j true) = ((List.range n).filter fun j => !listed.getD j true).erase i := by
    rw [List.Nodup.erase_eq_filter ((List.nodup_range).filter _), List.filter_filter]
    apply List.filter_congr
    intro j _
    by_cases h : j = i
    · subst h; simp [Array.getD_eq_getD_getElem?, hsz]
    · have h2 : ¬ i = j := fun e => h e.symm
      simp [Array.getD_eq_getD_getElem?, h, h2]
  have hm : i ∈ (List.range n).filter fun j => !listed.getD j true := List.mem_filter.2 ⟨List.mem_range.2 hi, by rw [hl]; rfl⟩
  rw [e, List.length_erase_of_mem hm]
  have := List.length_pos_of_mem hm
  omega
/-- the rule: J holds of what is done and of the state; each of the first n that may come up keeps it; behind them the tail goes -/
theorem wpAny_rule {P : Program} {md : Region.Mode} {ops : Array Oper} {Q : Exit → Act → World → Prop} (n k : Nat) (J : Array Bool → Act → World → Prop)
    (hstep : ∀ listed a w i, J listed a w → i < n → i ∈ Region.ready md ops listed → wpOp P ops Q i (J (listed.setIfInBounds i true)) a w)
    (hwait : ∀ listed i, i ∈ Region.ready md ops listed → ¬ i < n → undone n listed = 0)
    (hgo : ∀ listed a w, J listed a w → undone n listed ≠ 0 → Region.ready md ops listed ≠ [])
    (hend : ∀ listed a w, J listed a w → undone n listed = 0 → wpAny P md ops Q k listed a w) :
    ∀ (m : Nat) (listed : Array Bool) (a : Act) (w : World), undone n listed = m → J listed a w → wpAny P md ops Q (m + k) listed a w
  | 0, listed, a, w, hm, hJ => by rw [Nat.zero_add]; exact hend listed a w hJ hm
  | m + 1, listed, a, w, hm, hJ => by
    rw [show m + 1 + k = (m + k) + 1 from by omega]
    refine ⟨fun h => absurd h (hgo listed a w hJ (by omega)), fun i hi => ?_⟩
    by_cases hin : i < n
    · have hl := (mem_ready.1 hi).1
      exact wpOp_mono (fun a' w' h => wpAny_rule n k J hstep hwait hgo hend m _ a' w' (by have := undone_set hin hl; omega) h) (hstep listed a w i hJ hin hi)
    · exact absurd (hwait listed i hi hin) (by omega)
/-- each of the first n waits for earlier ones alone -/
def ordB (md : Region.Mode) (ops : Array Oper) (n : Nat) : Bool := (List.range n).all fun j => ((ops[j]?).map fun o => o.after.all fun e => !Region.binds md e || decide (e.on < j)).getD false
/-- each behind them waits for all of them -/
def waitB (md : Region.Mode) (ops : Array Oper) (n : Nat) : Bool := (List.range ops.size).all fun i => decide (i < n) || ((ops[i]?).map fun o => (List.range n).all fun j => o.after.any fun e => Region.binds md e && e.on == j).getD false
theorem undone_zero {n : Nat} {listed : Array Bool} (h : undone n listed = 0) (j : Nat) (hj : j < n) : listed.getD j true = true := by
  cases hl : listed.getD j true with
  | true => rfl
  | false =>
    have hm : j ∈ (List.range n).filter fun j => !listed.getD j true := List.mem_filter.2 ⟨List.mem_range.2 hj, by rw [hl]; rfl⟩
    rw [List.eq_nil_of_length_eq_zero h] at hm
    cases hm
theorem undone_of {n : Nat} {listed : Array Bool} (h : ∀ j, j < n → listed.getD j true = true) : undone n listed = 0 := by
  unfold undone
  rw [List.length_eq_zero_iff, List.filter_eq_nil_iff]
  intro j hj
  rw [h j (List.mem_range.1 hj)]
  simp
theorem ready_some {md : Region.Mode} {ops : Array Oper} {n : Nat} {listed : Array Bool} (hB : ordB md ops n = true) (hs : n ≤ listed.size) (h : undone n listed ≠ 0) : Region.ready md ops listed ≠ [] := by
  intro h0
  have hall : ∀ m j, j < m → j < n → listed.getD j true = true := by
    intro m
    induction m with
    | zero => intro j hj; omega
    | succ m ih =>
      intro j hj hn
      rcases Nat.lt_or_ge j m with h1 | h1
      · exact ih j h1 hn
      · obtain rfl : j = m := by omega
        cases hl : listed.getD j true with
        | true => rfl
        | false =>
          have h2 := (List.all_eq_true.1 hB) j (List.mem_range.2 hn)
          cases ho : ops[j]? with
          | none => rw [ho] at h2; simp at h2
          | some o =>
            rw [ho] at h2
            simp only [Option.map_some, Option.getD_some] at h2
            have hr : j ∈ Region.ready md ops listed := mem_ready.2 ⟨hl, o, ho, fun e he hb => by
              have h3 := (Array.all_eq_true'.1 h2) e he
              rw [hb] at h3
              simp only [Bool.not_true, Bool.false_or, decide_eq_true_eq] at h3
              have h4 := ih e.on h3 (by omega)
              have h5 : e.on < listed.size := by omega
              rw [Array.getD_eq_getD_getElem?, Array.getElem?_eq_getElem h5] at h4 ⊢
              exact h4⟩
            rw [h0] at hr
            cases hr
  exact h (undone_of fun j hj => hall n j hj hj)
theorem wait_all {md : Region.Mode} {ops : Array Oper} {n : Nat} {listed : Array Bool} (hB : waitB md ops n = true) (i : Nat) (hi : i ∈ Region.ready md ops listed) (hn : ¬ i < n) : undone n listed = 0 := by
  obtain ⟨hl, o, ho, hall⟩ := mem_ready.1 hi
  have hsz : i < ops.size := (Array.getElem?_eq_some_iff.1 ho).1
  have h2 := (List.all_eq_true.1 hB) i (List.mem_range.2 hsz)
  rw [ho] at h2
  simp only [Option.map_some, Option.getD_some, Bool.or_eq_true, decide_eq_true_eq] at h2
  rcases h2 with h2 | h2
  · exact absurd h2 hn
  · refine undone_of fun j hj => ?_
    have h3 := (List.all_eq_true.1 h2) j (List.mem_range.2 hj)
    obtain ⟨e, he, h4⟩ := Array.any_eq_true'.1 h3
    simp only [Bool.and_eq_true, beq_iff_eq] at h4
    have h5 := hall e he h4.1
    rw [h4.2] at h5
    rw [Array.getD_eq_getD_getElem?] at h5 ⊢
    cases hx : listed[j]? with
    | none => rfl
    | some b => rw [hx] at h5; exact h5
/-- what is done is closed, and nothing of the tail is done -/
def headB (md : Region.Mode) (ops : Array Oper) (n : Nat) (listed : Array Bool) : Bool :=
  decide (listed.size = ops.size) && ((List.range ops.size).all fun j => !listed.getD j false || ((ops[j]?).map fun o => o.after.all fun e => !Region.binds md e || listed.getD e.on false).getD false) && (List.range ops.size).all fun t => decide (t < n) || !listed.getD t true
theorem headB_inv {md : Region.Mode} {ops : Array Oper} {n : Nat} {listed : Array Bool} (h : headB md ops n listed = true) : HeadInv md ops n listed := by
  simp only [headB, Bool.and_eq_true, decide_eq_true_eq] at h
  obtain ⟨⟨h1, h2⟩, h3⟩ := h
  refine ⟨h1, fun j oj hj hl e he hb => ?_, fun t ht hts => ?_⟩
  · have h4 := List.all_eq_true.1 h2 j (List.mem_range.2 (Array.getElem?_eq_some_iff.1 hj).1)
    rw [hl, hj] at h4
    simp only [Bool.not_true, Bool.false_or, Option.map_some, Option.getD_some] at h4
    have h5 := (Array.all_eq_true'.1 h4) e he
    rw [hb] at h5
    simpa using h5
  · have h4 := List.all_eq_true.1 h3 t (List.mem_range.2 hts)
    simp only [Bool.or_eq_true, decide_eq_true_eq, Bool.not_eq_true'] at h4
    rcases h4 with h4 | h4
    · omega
    · exact h4
/-- the tail goes in a row behind all of the first n -/
def tailB (md : Region.Mode) (ops : Array Oper) (n : Nat) : Bool := Region.sinkB md ops n && Region.chainB md ops n && decide (n < ops.size)
/-- the rule, where the tail waits through others -/
theorem wpAny_rule2 {P : Program} {md : Region.Mode} {ops : Array Oper} {Q : Exit → Act → World → Prop} (n k : Nat) (J : Array Bool → Act → World → Prop)
    (hstep : ∀ listed a w i, J listed a w → i < n → i ∈ Region.ready md ops listed → wpOp P ops Q i (J (listed.setIfInBounds i true)) a w)
    (hT : tailB md ops n = true)
    (hgo : ∀ listed a w, J listed a w → undone n listed ≠ 0 → Region.ready md ops listed ≠ [])
    (hend : ∀ listed a w, J listed a w → undone n listed = 0 → wpAny P md ops Q k listed a w) :
    ∀ (m : Nat) (listed : Array Bool) (a : Act) (w : World), undone n listed = m → HeadInv md ops n listed → J listed a w → wpAny P md ops Q (m + k) listed a w
  | 0, listed, a, w, hm, _, hJ => by rw [Nat.zero_add]; exact hend listed a w hJ hm
  | m + 1, listed, a, w, hm, inv, hJ => by
    rw [show m + 1 + k = (m + k) + 1 from by omega]
    refine ⟨fun h => absurd h (hgo listed a w hJ (by omega)), fun i hi => ?_⟩
    by_cases hin : i < n
    · have hl := (mem_ready.1 hi).1
      exact wpOp_mono (fun a' w' h => wpAny_rule2 n k J hstep hT hgo hend m _ a' w' (by have := undone_set hin hl; omega) (inv.set hi hin) h) (hstep listed a w i hJ hin hi)
    · exfalso
      simp only [tailB, Bool.and_eq_true, decide_eq_true_eq] at hT
      have hall : ∀ j, j < n → listed.getD j true = true := fun j hj => by
        cases hl : listed.getD j true with
        | true => rfl
        | false => exact absurd hi (tail_waits hT.1.1 hT.1.2 hT.2 inv _ j rfl hj hl i (by omega))
      have := undone_of hall
      omega
end Go.Proofs.Ytfjoakhcgpckgaa
