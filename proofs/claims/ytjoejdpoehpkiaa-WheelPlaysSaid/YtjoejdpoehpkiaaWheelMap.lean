/- A map of numbers that the call makes: looked at, written, struck. -/
import Derived.Test.YtjoejdpoehpkiaaKept
import Derived.Maps.OwnSet
import Derived.Maps.OwnOps
import Derived.Maps.RangeWalk
namespace Go.Proofs.Ytjoejdpoehpkiaa
open Go.ChangeShapes Go.WideShapes Go.ChangeAt Go.RowKit
open Go.Maps (Keyed)
set_option linter.unusedVariables false
theorem keyInt : Keyed Try.prog 3 := Maps.int_keyed Try.underlying3
/-- block gm is a map that reads as f, with keys h, c of them -/
def BoxM (gm q : Nat) (f : Int → Int) (h : Int → Bool) (c : Nat) (w : World) : Prop :=
  ∃ D : DataW Unit, w.ownsMap Try.prog 3 (plainElem Try.prog 2) gm q D ∧ Maps.Tidy D ∧ (∀ id : Int, D.atKey (.int .i64 id) (.lit (.int .i64 0)) = .lit (.int .i64 (f id))) ∧ (∀ id : Int, Maps.has D (.int .i64 id) = h id) ∧ Maps.size D = c
theorem zeroI64 (w : World) : (zeroValue 2).run Try.prog w = .ok (.int .i64 0) w := by kernel_rfl
theorem BoxM.look {gm q c : Nat} {f : Int → Int} {h : Int → Bool} {w : World} (hM : BoxM gm q f h c w) {id : Int} (hw : (Lit.int .i64 id).wf = true) : (Instr.lookup 43 (.map (some gm)) (.int .i64 id) true).run Try.prog w = .ok (.tuple #[.int .i64 (f id), .bool (h id)]) w := by
  obtain ⟨D, ho, hm, hd, hh, _⟩ := hM
  obtain ⟨v, ps, hr, hv⟩ := ho.look_ok keyInt Try.underlying43 (zeroI64 w) (plainElem_int Try.underlying2 (by decide)) (Maps.keyOf_int_mk Try.underlying3 hw)
  obtain ⟨c, rfl, hc, _⟩ := plainElem_int_inv Try.underlying2 hv
  rw [hd id] at hc
  simp only [Prod.mk.injEq, DataW.lit.injEq, Lit.int.injEq, true_and] at hc
  rw [hr, hh id, hc.1]
def setI (f : Int → Int) (id v : Int) : Int → Int := fun x => if x = id then v else f x
def setB (h : Int → Bool) (id : Int) : Int → Bool := fun x => h x || decide (id = x)
def delI (f : Int → Int) (id : Int) : Int → Int := fun x => if x = id then 0 else f x
def delB (h : Int → Bool) (id : Int) : Int → Bool := fun x => h x && !decide (id = x)
theorem BoxM.made (w : World) : BoxM w.heap.size 0 (fun _ => 0) (fun _ => false) 0 (w.alloc (.map #[] 0)) :=
  ⟨_, World.ownsMap_made _ _ _ _, Maps.tidy_empty, fun _ => rfl, fun _ => rfl, rfl⟩
theorem BoxM.lt {gm q c : Nat} {f : Int → Int} {h : Int → Bool} {w : World} (hM : BoxM gm q f h c w) : gm < w.heap.size := by
  obtain ⟨D, ho, _⟩ := hM
  exact ho.lt
theorem BoxM.kept {gm q c : Nat} {f : Int → Int} {h : Int → Bool} {w w' : World} (hM : BoxM gm q f h c w) (e : w'.heap[gm]? = w.heap[gm]?) : BoxM gm q f h c w' := by
  obtain ⟨D, ⟨es, clock, e1, e2⟩, h2⟩ := hM
  exact ⟨D, ⟨es, clock, e.trans e1, e2⟩, h2⟩
theorem BoxM.below {gm q c : Nat} {f : Int → Int} {h : Int → Bool} {w w' : World} (hM : BoxM gm q f h c w) (hb : Below w.heap.size w w') : BoxM gm q f h c w' := hM.kept (hb.block gm hM.lt)
theorem BoxM.put {f : Int → Int} {h : Int → Bool} {c : Nat} {D : DataW Unit} {id v : Int} (hm : Maps.Tidy D) (hd : ∀ id : Int, D.atKey (.int .i64 id) (.lit (.int .i64 0)) = .lit (.int .i64 (f id))) (hh : ∀ id : Int, Maps.has D (.int .i64 id) = h id) (hc : Maps.size D = c) :
    Maps.Tidy (D.put (.int .i64 id) (.lit (.int .i64 v))) ∧ (∀ x : Int, (D.put (.int .i64 id) (.lit (.int .i64 v))).atKey (.int .i64 x) (.lit (.int .i64 0)) = .lit (.int .i64 (setI f id v x))) ∧ (∀ x : Int, Maps.has (D.put (.int .i64 id) (.lit (.int .i64 v))) (.int .i64 x) = setB h id x) ∧ Maps.size (D.put (.int .i64 id) (.lit (.int .i64 v))) = if h id then c else c + 1 := by
  have hk : WideAt.IsKeyLit (.int .i64 id) := trivial
  refine ⟨hm.put hk _, fun x => ?_, fun x => ?_, ?_⟩
  · unfold setI
    by_cases e : x = id
    · subst e
      rw [Maps.atKey_put_same hm.isMap (k := .int .i64 x) trivial, if_pos rfl]
    · rw [Maps.atKey_put_other (by simpa using e), hd x, if_neg e]
  · unfold setB
    by_cases e : x = id
    · subst e
      rw [Maps.has_put_same hm.isMap (k := .int .i64 x) trivial]
      simp
    · rw [Maps.has_put_other (by simpa using e), hh x]
      have : ¬ id = x := fun e2 => e e2.symm
      simp [this]
  · rw [Maps.size_put hm, hh id, hc]
theorem BoxM.upd {gm q c : Nat} {f : Int → Int} {h : Int → Bool} {w : World} (hM : BoxM gm q f h c w) (hq : q < maxLen) {id u : Int} (hw : (Lit.int .i64 id).wf = true) (hwu : (Lit.int .i64 u).wf = true) :
    ∃ w', (Instr.mapUpdate 43 (.map (some gm)) (.int .i64 id) (.int .i64 u)).run Try.prog w = .ok () w' ∧ BoxM gm (q + 1) (setI f id u) (setB h id) (if h id then c else c + 1) w' ∧ w.grownBy w' (some gm) := by
  obtain ⟨D, ho, hD, hd, hh, hc⟩ := hM
  obtain ⟨w', hrun, r1, r2⟩ := ho.update keyInt Try.underlying43 hq (Maps.keyOf_int_mk Try.underlying3 hw) (plainElem_int Try.underlying2 hwu)
  exact ⟨w', hrun, ⟨_, r1, BoxM.put hD hd hh hc⟩, r2⟩
theorem BoxM.del {f : Int → Int} {h : Int → Bool} {c : Nat} {D : DataW Unit} {id : Int} (hm : Maps.Tidy D) (hd : ∀ id : Int, D.atKey (.int .i64 id) (.lit (.int .i64 0)) = .lit (.int .i64 (f id))) (hh : ∀ id : Int, Maps.has D (.int .i64 id) = h id) (hc : Maps.size D = c) :
    Maps.Tidy (D.del (.int .i64 id)) ∧ (∀ x : Int, (D.del (.int .i64 id)).atKey (.int .i64 x) (.lit (.int .i64 0)) = .lit (.int .i64 (delI f id x))) ∧ (∀ x : Int, Maps.has (D.del (.int .i64 id)) (.int .i64 x) = delB h id x) ∧ Maps.size (D.del (.int .i64 id)) = if h id then c - 1 else c := by
  refine ⟨hm.del _, fun x => ?_, fun x => ?_, ?_⟩
  · unfold delI
    by_cases e : x = id
    · subst e
      rw [Maps.atKey_del_same, if_pos rfl]
    · rw [Maps.atKey_del_other (by simpa using e), hd x, if_neg e]
  · unfold delB
    by_cases e : x = id
    · subst e
      rw [Maps.has_del_same]
      simp
    · rw [Maps.has_del_other (by simpa using e), hh x]
      have : ¬ id = x := fun e2 => e e2.symm
      simp [this]
  · have h1 := Maps.size_del (k := .int .i64 id) hm
    rw [hh id, hc] at h1
    cases hb : h id with
    | true => rw [hb] at h1; simp at h1 ⊢; omega
    | false => rw [hb] at h1; simpa using h1
/-- a strike, for the walk -/
theorem BoxM.strike {gm q c : Nat} {f : Int → Int} {h : Int → Bool} {w : World} (hM : BoxM gm q f h c w) {id : Int} (hw : (Lit.int .i64 id).wf = true) (ty : TypeId) :
    ∃ w', (Builtin.delete_ #[43, 3] ty #[.map (some gm), .int .i64 id]).run Try.prog w = .ok (.tuple #[]) w' ∧ BoxM gm q (delI f id) (delB h id) (if h id then c - 1 else c) w' ∧ w.mapTurned w' gm := by
  obtain ⟨D, ho, hD, hd, hh, hc⟩ := hM
  obtain ⟨w', hrun, r1, r2⟩ := ho.drop keyInt Try.underlying43 (Maps.keyOf_int_mk Try.underlying3 hw) ty
  exact ⟨w', hrun, ⟨_, r1, BoxM.del hD hd hh hc⟩, r2⟩
end Go.Proofs.Ytjoejdpoehpkiaa
