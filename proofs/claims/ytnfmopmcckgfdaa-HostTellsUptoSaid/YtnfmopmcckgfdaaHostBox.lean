/- A set of texts that the call makes (a map of truths by texts): what it reads as. -/
import Derived.Test.YtnfmopmcckgfdaaBts
import Derived.Maps.OwnSet
import Derived.Maps.OwnOps
import Derived.Maps.StringElems
import Derived.StringKeys
namespace Go.Proofs.Ytnfmopmcckgfdaa
open Go.ChangeShapes Go.WideShapes Go.ChangeAt Go.RowKit
open Go.Maps (Keyed)
set_option linter.unusedVariables false
open Tp
theorem keyStr : Keyed Try.prog 9 := Maps.string_keyed Try.underlying9
theorem plain_bool_inv {H : Type} {P : Program} {e : TypeId} (he : P.underlying e = some .bool) {v : Value} {z : DataW H × List MemPlace} (h : plainElem P e v = some z) : ∃ x, v = .bool x ∧ z = (.lit (.bool x), []) := by
  unfold plainElem at h
  rw [he] at h
  cases v <;> simp at h
  exact ⟨_, rfl, h.symm⟩
/-- block gm is a map that reads as a set of texts -/
def SetB (gm q : Nat) (S : List Bs) (w : World) : Prop :=
  ∃ D : DataW Unit, w.ownsMap Try.prog 9 (plainElem Try.prog 4) gm q D ∧ Maps.Tidy D ∧ (∀ k : Bs, D.atKey (.string k) (.lit (.bool false)) = .lit (.bool (decide (k ∈ S))))
theorem zeroBool (w : World) : (zeroValue 4).run Try.prog w = .ok (.bool false) w := by kernel_rfl
theorem SetB.get {gm q : Nat} {S : List Bs} {w : World} (hM : SetB gm q S w) {k : Bs} (hk : k.length ≤ maxLen) : (Instr.lookup 66 (.map (some gm)) (.string (bts k)) false).run Try.prog w = .ok (.bool (decide (k ∈ S))) w := by
  obtain ⟨D, ho, hm, hd⟩ := hM
  have hs : (bts k).size ≤ maxLen := by rw [bts_size]; exact hk
  obtain ⟨v, ps, hr, hv⟩ := ho.lookup keyStr Try.underlying66 (zeroBool w) (plainElem_bool Try.underlying4 false) (WideMaps.keyOf_string_mk Try.underlying9 hs)
  obtain ⟨c, rfl, hc⟩ := plain_bool_inv Try.underlying4 hv
  have e : D.atKey (.string (bts k).data.toList) (.lit (.bool false)) = .lit (.bool (decide (k ∈ S))) := hd k
  rw [e] at hc
  simp only [Prod.mk.injEq, DataW.lit.injEq, Lit.bool.injEq] at hc
  rw [hr, hc.1]
theorem SetB.made (w : World) : SetB w.heap.size 0 [] (w.alloc (.map #[] 0)) :=
  ⟨_, World.ownsMap_made _ _ _ _, Maps.tidy_empty, fun k => by simp only [List.not_mem_nil, decide_false]; rfl⟩
theorem SetB.lt {gm q : Nat} {S : List Bs} {w : World} (hM : SetB gm q S w) : gm < w.heap.size := by
  obtain ⟨D, ho, _⟩ := hM
  exact ho.lt
theorem SetB.kept {gm q : Nat} {S : List Bs} {w w' : World} (hM : SetB gm q S w) (e : w'.heap[gm]? = w.heap[gm]?) : SetB gm q S w' := by
  obtain ⟨D, ⟨es, clock, e1, e2⟩, h2⟩ := hM
  exact ⟨D, ⟨es, clock, e.trans e1, e2⟩, h2⟩
theorem SetB.below {gm q : Nat} {S : List Bs} {w w' : World} (hM : SetB gm q S w) (hb : Below w.heap.size w w') : SetB gm q S w' := hM.kept (hb.block _ hM.lt)
theorem SetB.upd {gm q : Nat} {S : List Bs} {w : World} (hM : SetB gm q S w) (hq : q < maxLen) {k : Bs} (hk : k.length ≤ maxLen) :
    ∃ w', (Instr.mapUpdate 66 (.map (some gm)) (.string (bts k)) (.bool true)).run Try.prog w = .ok () w' ∧ SetB gm (q + 1) (S ++ [k]) w' ∧ w.grownBy w' (some gm) := by
  obtain ⟨D, ho, hD, hd⟩ := hM
  obtain ⟨w', hrun, r1, r2⟩ := ho.update keyStr Try.underlying66 hq (WideMaps.keyOf_string_mk Try.underlying9 (by rw [bts_size]; exact hk)) (plainElem_bool Try.underlying4 true)
  have hkl : WideAt.IsKeyLit (.string k) := trivial
  refine ⟨w', hrun, ⟨_, r1, hD.put hkl _, fun x => ?_⟩, r2⟩
  show (D.put (.string k) (.lit (.bool true))).atKey (.string x) (.lit (.bool false)) = _
  by_cases e : x = k
  · subst e
    rw [show decide (x ∈ S ++ [x]) = true from by simp]
    exact Maps.atKey_put_same hD.isMap (k := .string x) trivial _ _
  · rw [Maps.atKey_put_other (by simpa using e), hd x]
    simp [e]
end Go.Proofs.Ytnfmopmcckgfdaa
