/- The map of a queue: which thing has a number. -/
import Derived.Test.YtfjoakhcgpckgaaHeapPop
import Derived.Maps.OwnSet
import Derived.Maps.OwnOps
namespace Go.Proofs.Ytfjoakhcgpckgaa
open Go.ChangeShapes Go.WideShapes Go.ChangeAt Go.RowKit
open Go.Maps (Keyed)
set_option linter.unusedVariables false
/-- how an element of the map reads: its block, as a number -/
def thR (v : Value) : Option (DataW Unit × List MemPlace) := match v with
  | .pointer (some ⟨b, 0, none⟩) => some (.lit (.int .i64 (b : Int)), [])
  | .pointer none => some (.lit (.int .i64 (-1)), [])
  | _ => none
theorem thR_some (b : Nat) : thR (.pointer (some ⟨b, 0, none⟩)) = some (.lit (.int .i64 (b : Int)), []) := rfl
theorem thR_none : thR (.pointer none) = some (.lit (.int .i64 (-1)), []) := rfl
def numOf (o : Option Nat) : Int := match o with | some b => (b : Int) | none => -1
def ptrOf (o : Option Nat) : Value := match o with | some b => .pointer (some ⟨b, 0, none⟩) | none => .pointer none
theorem thR_inv {v : Value} {o : Option Nat} {ps : List MemPlace} (h : thR v = some (.lit (.int .i64 (numOf o)), ps)) : v = ptrOf o := by
  unfold thR at h
  split at h
  · simp only [Option.some.injEq, Prod.mk.injEq, DataW.lit.injEq, Lit.int.injEq, true_and] at h
    cases o with
    | none => simp [numOf] at h
    | some b => simp only [numOf] at h; rw [ptrOf, Int.ofNat_inj.1 h.1]
  · simp only [Option.some.injEq, Prod.mk.injEq, DataW.lit.injEq, Lit.int.injEq, true_and] at h
    cases o with
    | none => rfl
    | some b => simp only [numOf] at h; omega
  · cases h
theorem keyLaw : Keyed Try.prog 3 := Maps.int_keyed Try.underlying3
/-- block gm is a map of at most q entries that reads as M -/
def MapW (gm : Nat) (M : Int → Option Nat) (q : Nat) (w : World) : Prop :=
  ∃ D : DataW Unit, w.ownsMap Try.prog 3 thR gm q D ∧ Maps.IsMap D ∧ ∀ id : Int, D.atKey (.int .i64 id) (.lit (.int .i64 (-1))) = .lit (.int .i64 (numOf (M id)))
theorem zeroThing (w : World) : (zeroValue 177).run Try.prog w = .ok (.pointer none) w := by kernel_rfl
theorem MapW.look {gm q : Nat} {M : Int → Option Nat} {w : World} (h : MapW gm M q w) {id : Int} (hw : (Lit.int .i64 id).wf = true) : (Instr.lookup 172 (.map (some gm)) (.int .i64 id) false).run Try.prog w = .ok (ptrOf (M id)) w := by
  obtain ⟨D, ho, hm, hd⟩ := h
  obtain ⟨v, ps, hr, hv⟩ := ho.lookup keyLaw Try.underlying172 (zeroThing w) thR_none (Maps.keyOf_int_mk Try.underlying3 hw)
  rw [hd id] at hv
  rw [hr, thR_inv hv]
def setM (M : Int → Option Nat) (id : Int) (o : Option Nat) : Int → Option Nat := fun x => if x = id then o else M x
theorem keyLit (id : Int) : WideAt.IsKeyLit (.int .i64 id) := trivial
theorem MapW.put {gm q : Nat} {M : Int → Option Nat} {D : DataW Unit} {id : Int} {b : Nat} (hm : Maps.IsMap D) (hd : ∀ id : Int, D.atKey (.int .i64 id) (.lit (.int .i64 (-1))) = .lit (.int .i64 (numOf (M id)))) : Maps.IsMap (D.put (.int .i64 id) (.lit (.int .i64 (b : Int)))) ∧ ∀ x : Int, (D.put (.int .i64 id) (.lit (.int .i64 (b : Int)))).atKey (.int .i64 x) (.lit (.int .i64 (-1))) = .lit (.int .i64 (numOf (setM M id (some b) x))) := by
  refine ⟨hm.put _ _, fun x => ?_⟩
  unfold setM
  by_cases e : x = id
  · subst e
    rw [Maps.atKey_put_same hm (keyLit x), if_pos rfl]
    rfl
  · rw [Maps.atKey_put_other (by simpa using e), hd x, if_neg e]
theorem MapW.del {gm q : Nat} {M : Int → Option Nat} {D : DataW Unit} {id : Int} (hm : Maps.IsMap D) (hd : ∀ id : Int, D.atKey (.int .i64 id) (.lit (.int .i64 (-1))) = .lit (.int .i64 (numOf (M id)))) : Maps.IsMap (D.del (.int .i64 id)) ∧ ∀ x : Int, (D.del (.int .i64 id)).atKey (.int .i64 x) (.lit (.int .i64 (-1))) = .lit (.int .i64 (numOf (setM M id none x))) := by
  refine ⟨hm.del _, fun x => ?_⟩
  unfold setM
  by_cases e : x = id
  · subst e
    rw [Maps.atKey_del_same, if_pos rfl]
    rfl
  · rw [Maps.atKey_del_other (by simpa using e), hd x, if_neg e]
theorem MapW.made (w : World) : MapW w.heap.size (fun _ => none) 0 (w.alloc (.map #[] 0)) :=
  ⟨_, World.ownsMap_made _ _ _ _, Maps.isMap_empty, fun _ => rfl⟩
theorem MapW.lt {gm q : Nat} {M : Int → Option Nat} {w : World} (h : MapW gm M q w) : gm < w.heap.size := by
  obtain ⟨D, ho, _⟩ := h
  exact ho.lt
theorem MapW.block {gm q : Nat} {M : Int → Option Nat} {w w' : World} (h : MapW gm M q w) (hb : w'.heap[gm]? = w.heap[gm]?) : MapW gm M q w' := by
  obtain ⟨D, ⟨es, clock, e1, e2⟩, h2⟩ := h
  exact ⟨D, ⟨es, clock, hb.trans e1, e2⟩, h2⟩
theorem MapW.below {gm q : Nat} {M : Int → Option Nat} {w w' : World} (h : MapW gm M q w) (hb : Below w.heap.size w w') : MapW gm M q w' := h.block (hb.block gm h.lt)
theorem MapW.kept {F : Nat → Prop} {gm q : Nat} {M : Int → Option Nat} {w w' : World} (h : MapW gm M q w) (hb : Kept F w w') (hn : ¬ F gm) : MapW gm M q w' := h.block (hb.block gm h.lt hn)
/-- a store into the map, for the walk -/
theorem wpList_mapPut (w : World) {ops : Array Oper} {rest : List Oper} {o : Oper} {a : Act} {Q : Exit → Act → World → Prop} (hg : o.guard = none) (m x v : Operand) (hop : o.op = Op.mapUpdate 172 m x v)
    (gm q : Nat) (M : Int → Option Nat) (id : Int) (b : Nat) (hm : a.eval m = .map (some gm)) (hown : MapW gm M q w) (hq : q < maxLen) (hw : (Lit.int .i64 id).wf = true) (hx : a.eval x = .int .i64 id) (hv : a.eval v = .pointer (some ⟨b, 0, none⟩))
    (hK : ∀ w', MapW gm (setM M id (some b)) (q + 1) w' → w.grownBy w' (some gm) → wpList Try.prog ops Q rest (a.put o.dst undef) w') :
    wpList Try.prog ops Q (o :: rest) a w := by
  obtain ⟨D, ho, hD, hd⟩ := hown
  exact wpList_mapUpdate_own w hg m x v _ hop 3 177 keyLaw Try.underlying172 thR gm q D hm ho hq _ _ (.int .i64 id) hx hv (Maps.keyOf_int_mk Try.underlying3 hw) _ [] (thR_some b) fun w' h1 h2 => hK w' ⟨_, h1, MapW.put (gm := gm) (q := q) hD hd⟩ h2
/-- .. and a strike -/
theorem wpList_mapDel (w : World) {ops : Array Oper} {rest : List Oper} {o : Oper} {a : Act} {Q : Exit → Act → World → Prop} (hg : o.guard = none) (m x : Operand) (hop : o.op = Op.call { callee := Callee.builtin Builtin.delete, args := #[m, x], argTypes := #[172, 3] })
    (gm q : Nat) (M : Int → Option Nat) (id : Int) (hm : a.eval m = .map (some gm)) (hown : MapW gm M q w) (hw : (Lit.int .i64 id).wf = true) (hx : a.eval x = .int .i64 id)
    (hK : ∀ w', MapW gm (setM M id none) q w' → w.mapTurned w' gm → wpList Try.prog ops Q rest (a.put o.dst (.tuple #[])) w') :
    wpList Try.prog ops Q (o :: rest) a w := by
  obtain ⟨D, ho, hD, hd⟩ := hown
  exact wpList_delete_own (w := w) hg m x _ _ hop 177 keyLaw Try.underlying172 thR gm q D hm ho _ (.int .i64 id) hx (Maps.keyOf_int_mk Try.underlying3 hw) fun w' h1 h2 => hK w' ⟨_, h1, MapW.del (gm := gm) (q := q) hD hd⟩ h2
end Go.Proofs.Ytfjoakhcgpckgaa
