/- The map of boxes: what lies in each. -/
import Derived.Test.YtfjoakhcgpckgaaPackBoxM
import Derived.Test.YtfjoakhcgpckgaaPackFirst
import Derived.Maps.OwnSet
import Derived.Maps.OwnOps
namespace Go.Proofs.Ytfjoakhcgpckgaa
open Go.ChangeShapes Go.WideShapes Go.ChangeAt Go.RowKit
open Go.Maps (Keyed)
set_option linter.unusedVariables false
open Wk St
theorem keyInt : Keyed Try.prog 3 := Maps.int_keyed Try.underlying3
/-- block gm is a map that reads as f, with keys h, c of them -/
def BoxM (gm q : Nat) (f : Int → Int) (h : Int → Bool) (c : Nat) (w : World) : Prop :=
  ∃ D : DataW Unit, w.ownsMap Try.prog 3 (plainElem Try.prog 2) gm q D ∧ Maps.Tidy D ∧ (∀ id : Int, D.atKey (.int .i64 id) (.lit (.int .i64 0)) = .lit (.int .i64 (f id))) ∧ (∀ id : Int, Maps.has D (.int .i64 id) = h id) ∧ Maps.size D = c
theorem zeroI64 (w : World) : (zeroValue 2).run Try.prog w = .ok (.int .i64 0) w := by kernel_rfl
theorem BoxM.look {gm q c : Nat} {f : Int → Int} {h : Int → Bool} {w : World} (hM : BoxM gm q f h c w) {id : Int} (hw : (Lit.int .i64 id).wf = true) : (Instr.lookup 193 (.map (some gm)) (.int .i64 id) false).run Try.prog w = .ok (.int .i64 (f id)) w := by
  obtain ⟨D, ho, hm, hd, _⟩ := hM
  obtain ⟨v, hr, hv, _⟩ := ho.lookup_int keyInt Try.underlying193 Try.underlying2 (zeroI64 w) (Maps.keyOf_int_mk Try.underlying3 hw)
  rw [hd id] at hv
  simp only [DataW.lit.injEq, Lit.int.injEq, true_and] at hv
  rw [hr, hv]
def setI (f : Int → Int) (id v : Int) : Int → Int := fun x => if x = id then v else f x
def setB (h : Int → Bool) (id : Int) : Int → Bool := fun x => h x || decide (id = x)
theorem BoxM.made (w : World) : BoxM w.heap.size 0 (fun _ => 0) (fun _ => false) 0 (w.alloc (.map #[] 0)) :=
  ⟨_, World.ownsMap_made _ _ _ _, Maps.tidy_empty, fun _ => rfl, fun _ => rfl, rfl⟩
theorem BoxM.lt {gm q c : Nat} {f : Int → Int} {h : Int → Bool} {w : World} (hM : BoxM gm q f h c w) : gm < w.heap.size := by
  obtain ⟨D, ho, _⟩ := hM
  exact ho.lt
theorem BoxM.drewN {gm q c : Nat} {f : Int → Int} {h : Int → Bool} {w : World} (hM : BoxM gm q f h c w) (z : Nat) : BoxM gm q f h c (w.drewN z) := by
  obtain ⟨D, ⟨es, clock, e1, e2⟩, h2⟩ := hM
  exact ⟨D, ⟨es, clock, (((Drawn.drewN w z).below (w.heap.size)).block gm (Array.getElem?_eq_some_iff.1 e1).1).trans e1, e2⟩, h2⟩
theorem BoxM.put {gm q c : Nat} {f : Int → Int} {h : Int → Bool} {D : DataW Unit} {id v : Int} (hm : Maps.Tidy D) (hd : ∀ id : Int, D.atKey (.int .i64 id) (.lit (.int .i64 0)) = .lit (.int .i64 (f id))) (hh : ∀ id : Int, Maps.has D (.int .i64 id) = h id) (hc : Maps.size D = c) :
    Maps.Tidy (D.put (.int .i64 id) (.lit (.int .i64 v))) ∧ (∀ x : Int, (D.put (.int .i64 id) (.lit (.int .i64 v))).atKey (.int .i64 x) (.lit (.int .i64 0)) = .lit (.int .i64 (setI f id v x))) ∧ (∀ x : Int, Maps.has (D.put (.int .i64 id) (.lit (.int .i64 v))) (.int .i64 x) = setB h id x) ∧ Maps.size (D.put (.int .i64 id) (.lit (.int .i64 v))) = if h id then c else c + 1 := by
  have hk : WideAt.IsKeyLit (.int .i64 id) := trivial
  refine ⟨hm.put hk _, fun x => ?_, fun x => ?_, ?_⟩
  · unfold setI
    by_cases e : x = id
    · subst e
      rw [Maps.atKey_put_same hm.isMap (k := .int .i64 x) trivial, if_pos rfl]
    · rw [Maps.atKey_put_other (by simpa using e), hd x, if_neg e]
  · unfold setB
    by_cases e : x = id
    · subst e
      rw [Maps.has_put_same hm.isMap (k := .int .i64 x) trivial]
      simp
    · rw [Maps.has_put_other (by simpa using e), hh x]
      have : ¬ id = x := fun e2 => e e2.symm
      simp [this]
  · rw [Maps.size_put hm, hh id, hc]
/-- a store into the map, for the walk -/
theorem wpList_boxPut (w : World) {ops : Array Oper} {rest : List Oper} {o : Oper} {a : Act} {Q : Exit → Act → World → Prop} (hg : o.guard = none) (m x v : Operand) (hop : o.op = Op.mapUpdate 193 m x v)
    (gm q c : Nat) (f : Int → Int) (h : Int → Bool) (id u : Int) (hm : a.eval m = .map (some gm)) (hown : BoxM gm q f h c w) (hq : q < maxLen) (hw : (Lit.int .i64 id).wf = true) (hwu : (Lit.int .i64 u).wf = true) (hx : a.eval x = .int .i64 id) (hv : a.eval v = .int .i64 u)
    (hK : ∀ w', BoxM gm (q + 1) (setI f id u) (setB h id) (if h id then c else c + 1) w' → w.grownBy w' (some gm) → wpList Try.prog ops Q rest (a.put o.dst undef) w') :
    wpList Try.prog ops Q (o :: rest) a w := by
  obtain ⟨D, ho, hD, hd, hh, hc⟩ := hown
  exact wpList_mapUpdate_own w hg m x v _ hop 3 2 keyInt Try.underlying193 (plainElem Try.prog 2) gm q D hm ho hq _ _ (.int .i64 id) hx hv (Maps.keyOf_int_mk Try.underlying3 hw) _ [] (plainElem_int Try.underlying2 hwu) fun w' h1 h2 => hK w' ⟨_, h1, BoxM.put (gm := gm) (q := q) hD hd hh hc⟩ h2
theorem BoxM.upd {gm q c : Nat} {f : Int → Int} {h : Int → Bool} {w : World} (hM : BoxM gm q f h c w) (hq : q < maxLen) {id u : Int} (hw : (Lit.int .i64 id).wf = true) (hwu : (Lit.int .i64 u).wf = true) :
    ∃ w', (Instr.mapUpdate 193 (.map (some gm)) (.int .i64 id) (.int .i64 u)).run Try.prog w = .ok () w' ∧ BoxM gm (q + 1) (setI f id u) (setB h id) (if h id then c else c + 1) w' ∧ w.grownBy w' (some gm) := by
  obtain ⟨D, ho, hD, hd, hh, hc⟩ := hM
  obtain ⟨w', hrun, r1, r2⟩ := ho.update keyInt Try.underlying193 hq (Maps.keyOf_int_mk Try.underlying3 hw) (plainElem_int Try.underlying2 hwu)
  exact ⟨w', hrun, ⟨_, r1, BoxM.put (gm := gm) (q := q) hD hd hh hc⟩, r2⟩
theorem BoxM.lenRun {gm q c : Nat} {f : Int → Int} {h : Int → Bool} {w : World} (hM : BoxM gm q f h c w) (ty : TypeId) : (Builtin.len_ #[193] ty #[.map (some gm)]).run Try.prog w = .ok (.int .i64 (c : Int)) w := by
  obtain ⟨D, ho, hm, hd, hh, hc⟩ := hM
  rw [ho.len Try.underlying193 ty, hc]
end Go.Proofs.Ytfjoakhcgpckgaa
