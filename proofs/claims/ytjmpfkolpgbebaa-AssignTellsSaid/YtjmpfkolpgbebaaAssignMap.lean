/- A map of numbers that the call makes; plain: the table of sets, row by row. -/
import Derived.Test.YtjmpfkolpgbebaaAssignCheck
import Derived.Maps.OwnSet
import Derived.Maps.OwnOps
import Derived.Maps.RangeWalk
namespace Go.Proofs.Ytjmpfkolpgbebaa
open Go.ChangeShapes Go.WideShapes Go.ChangeAt Go.RowKit
open Go.Maps (Keyed)
set_option linter.unusedVariables false
open As
theorem keyInt : Keyed Try.prog 3 := Maps.int_keyed Try.underlying3
/-- block gm is a map that reads as f, with keys h, c of them -/
def BoxM (gm q : Nat) (f : Int → Int) (h : Int → Bool) (c : Nat) (w : World) : Prop :=
  ∃ D : DataW Unit, w.ownsMap Try.prog 3 (plainElem Try.prog 2) gm q D ∧ Maps.Tidy D ∧ (∀ id : Int, D.atKey (.int .i64 id) (.lit (.int .i64 0)) = .lit (.int .i64 (f id))) ∧ (∀ id : Int, Maps.has D (.int .i64 id) = h id) ∧ Maps.size D = c
theorem zeroI64 (w : World) : (zeroValue 2).run Try.prog w = .ok (.int .i64 0) w := by kernel_rfl
theorem BoxM.look {gm q c : Nat} {f : Int → Int} {h : Int → Bool} {w : World} (hM : BoxM gm q f h c w) {id : Int} (hw : (Lit.int .i64 id).wf = true) : (Instr.lookup 47 (.map (some gm)) (.int .i64 id) true).run Try.prog w = .ok (.tuple #[.int .i64 (f id), .bool (h id)]) w := by
  obtain ⟨D, ho, hm, hd, hh, _⟩ := hM
  obtain ⟨v, ps, hr, hv⟩ := ho.look_ok keyInt Try.underlying47 (zeroI64 w) (plainElem_int Try.underlying2 (by decide)) (Maps.keyOf_int_mk Try.underlying3 hw)
  obtain ⟨c, rfl, hc, _⟩ := plainElem_int_inv Try.underlying2 hv
  rw [hd id] at hc
  simp only [Prod.mk.injEq, DataW.lit.injEq, Lit.int.injEq, true_and] at hc
  rw [hr, hh id, hc.1]
def setI (f : Int → Int) (id v : Int) : Int → Int := fun x => if x = id then v else f x
def setB (h : Int → Bool) (id : Int) : Int → Bool := fun x => h x || decide (id = x)
theorem BoxM.made (w : World) : BoxM w.heap.size 0 (fun _ => 0) (fun _ => false) 0 (w.alloc (.map #[] 0)) :=
  ⟨_, World.ownsMap_made _ _ _ _, Maps.tidy_empty, fun _ => rfl, fun _ => rfl, rfl⟩
theorem BoxM.lt {gm q c : Nat} {f : Int → Int} {h : Int → Bool} {w : World} (hM : BoxM gm q f h c w) : gm < w.heap.size := by
  obtain ⟨D, ho, _⟩ := hM
  exact ho.lt
theorem BoxM.kept {gm q c : Nat} {f : Int → Int} {h : Int → Bool} {w w' : World} (hM : BoxM gm q f h c w) (e : w'.heap[gm]? = w.heap[gm]?) : BoxM gm q f h c w' := by
  obtain ⟨D, ⟨es, clock, e1, e2⟩, h2⟩ := hM
  exact ⟨D, ⟨es, clock, e.trans e1, e2⟩, h2⟩
theorem BoxM.put {f : Int → Int} {h : Int → Bool} {c : Nat} {D : DataW Unit} {id v : Int} (hm : Maps.Tidy D) (hd : ∀ id : Int, D.atKey (.int .i64 id) (.lit (.int .i64 0)) = .lit (.int .i64 (f id))) (hh : ∀ id : Int, Maps.has D (.int .i64 id) = h id) (hc : Maps.size D = c) :
    Maps.Tidy (D.put (.int .i64 id) (.lit (.int .i64 v))) ∧ (∀ x : Int, (D.put (.int .i64 id) (.lit (.int .i64 v))).atKey (.int .i64 x) (.lit (.int .i64 0)) = .lit (.int .i64 (setI f id v x))) ∧ (∀ x : Int, Maps.has (D.put (.int .i64 id) (.lit (.int .i64 v))) (.int .i64 x) = setB h id x) ∧ Maps.size (D.put (.int .i64 id) (.lit (.int .i64 v))) = if h id then c else c + 1 := by
  have hk : WideAt.IsKeyLit (.int .i64 id) := trivial
  refine ⟨hm.put hk _, fun x => ?_, fun x => ?_, ?_⟩
  · unfold setI
    by_cases e : x = id
    · subst e
      rw [Maps.atKey_put_same hm.isMap (k := .int .i64 x) trivial, if_pos rfl]
    · rw [Maps.atKey_put_other (by simpa using e), hd x, if_neg e]
  · unfold setB
    by_cases e : x = id
    · subst e
      rw [Maps.has_put_same hm.isMap (k := .int .i64 x) trivial]
      simp
    · rw [Maps.has_put_other (by simpa using e), hh x]
      have : ¬ id = x := fun e2 => e e2.symm
      simp [this]
  · rw [Maps.size_put hm, hh id, hc]
theorem BoxM.upd {gm q c : Nat} {f : Int → Int} {h : Int → Bool} {w : World} (hM : BoxM gm q f h c w) (hq : q < maxLen) {id u : Int} (hw : (Lit.int .i64 id).wf = true) (hwu : (Lit.int .i64 u).wf = true) :
    ∃ w', (Instr.mapUpdate 47 (.map (some gm)) (.int .i64 id) (.int .i64 u)).run Try.prog w = .ok () w' ∧ BoxM gm (q + 1) (setI f id u) (setB h id) (if h id then c else c + 1) w' ∧ w.grownBy w' (some gm) := by
  obtain ⟨D, ho, hD, hd, hh, hc⟩ := hM
  obtain ⟨w', hrun, r1, r2⟩ := ho.update keyInt Try.underlying47 hq (Maps.keyOf_int_mk Try.underlying3 hw) (plainElem_int Try.underlying2 hwu)
  exact ⟨w', hrun, ⟨_, r1, BoxM.put hD hd hh hc⟩, r2⟩
namespace As
/-- the table of sets behind i rows, as the map has it -/
structure BestZ (n : Nat) (C : Nat → Nat → Int) (i : Nat) (f : Int → Int) (h : Int → Bool) : Prop where
  has : ∀ z, h z = true → 0 ≤ z ∧ Way n C i z.toNat (f z)
  all : ∀ (s : Nat) x, Way n C i s x → h s = true ∧ f s ≤ x
theorem BestZ.zero (n : Nat) (C : Nat → Nat → Int) : BestZ n C 0 (setI (fun _ => 0) 0 0) (setB (fun _ => false) 0) := ⟨fun z hz => by
  have : z = 0 := by simpa [setB, eq_comm] using hz
  subst this
  exact ⟨Int.le_refl _, by simpa [setI] using Way.zero⟩, fun s x hw => by
  cases hw
  simp [setI, setB]⟩
theorem BestZ.best {n i : Nat} {C : Nat → Nat → Int} {f : Int → Int} {h : Int → Bool} (hb : BestZ n C i f h) : Best n C i (fun s => if h s then some (f s) else none) := by
  refine ⟨fun s m hs => ?_, fun s hs x hx => ?_⟩
  · split at hs
    · rename_i hh
      have : f s = m := Option.some.inj hs
      have h1 := (hb.has s hh).2
      rw [Int.toNat_natCast, this] at h1
      exact ⟨h1, fun x hx => by rw [← this]; exact (hb.all s x hx).2⟩
    · cases hs
  · rw [if_pos (hb.all s x hx).1] at hs
    cases hs
/-- the next table, while the entries of the last one come by: those that 'dn' names have been seen with the jobs below -/
structure NextZ (n : Nat) (C : Nat → Nat → Int) (i : Nat) (f : Int → Int) (dn : Int → Nat → Prop) (g : Int → Int) (h' : Int → Bool) : Prop where
  has : ∀ z, h' z = true → 0 ≤ z ∧ Way n C (i + 1) z.toNat (g z)
  all : ∀ (s k : Nat), dn s k → s.testBit k = false → h' ((s + 2 ^ k : Nat) : Int) = true ∧ g ((s + 2 ^ k : Nat) : Int) ≤ f s + C i k
theorem NextZ.zero (n : Nat) (C : Nat → Nat → Int) (i : Nat) (f : Int → Int) : NextZ n C i f (fun _ _ => False) (fun _ => 0) (fun _ => false) := ⟨fun z h => (by cases h), fun s k h => absurd h id⟩
variable {n i : Nat} {C : Nat → Nat → Int} {f : Int → Int} {h : Int → Bool} {dn : Int → Nat → Prop} {g : Int → Int} {h' : Int → Bool}
/-- one more is done, and nothing turns -/
theorem NextZ.skip {dn' : Int → Nat → Prop} (hN : NextZ n C i f dn g h') (s k : Nat) (hd : ∀ z q, dn' z q → dn z q ∨ (z = s ∧ q = k)) (hs : s.testBit k = true ∨ (h' ((s + 2 ^ k : Nat) : Int) = true ∧ g ((s + 2 ^ k : Nat) : Int) ≤ f s + C i k)) : NextZ n C i f dn' g h' := by
  refine ⟨hN.has, fun s' k' hd' hb => ?_⟩
  rcases hd s' k' hd' with h1 | ⟨h1, h2⟩
  · exact hN.all s' k' h1 hb
  · have h3 : s' = s := by omega
    subst h3 h2
    rcases hs with h4 | h4
    · rw [hb] at h4; cases h4
    · exact h4
/-- one more is done, and lays its cost -/
theorem NextZ.put {dn' : Int → Nat → Prop} (hN : NextZ n C i f dn g h') (s k : Nat) (hd : ∀ z q, dn' z q → dn z q ∨ (z = s ∧ q = k)) (hw : Way n C i s (f s)) (hk : k < n) (hb : s.testBit k = false) (hless : h' ((s + 2 ^ k : Nat) : Int) = false ∨ f s + C i k < g ((s + 2 ^ k : Nat) : Int)) :
    NextZ n C i f dn' (setI g ((s + 2 ^ k : Nat) : Int) (f s + C i k)) (setB h' ((s + 2 ^ k : Nat) : Int)) := by
  obtain ⟨tt, htt⟩ : ∃ t, s + 2 ^ k = t := ⟨_, rfl⟩
  have hst := hw.step hk hb
  rw [htt] at hless hst ⊢
  refine ⟨fun z hz => ?_, fun s' k' hd' hb' => ?_⟩
  · unfold setI
    by_cases e : z = (tt : Int)
    · rw [if_pos e, e, Int.toNat_natCast]
      exact ⟨by omega, hst⟩
    · rw [if_neg e]
      refine hN.has z ?_
      unfold setB at hz
      have : ¬ (tt : Int) = z := fun e2 => e e2.symm
      simpa only [this, decide_false, Bool.or_false] using hz
  · unfold setI setB
    rcases hd s' k' hd' with h1 | ⟨h1, h2⟩
    · obtain ⟨a1, a2⟩ := hN.all s' k' h1 hb'
      refine ⟨by rw [a1]; rfl, ?_⟩
      by_cases e : ((s' + 2 ^ k' : Nat) : Int) = (tt : Int)
      · rw [if_pos e]
        rw [e] at a1 a2
        rcases hless with h3 | h3
        · rw [a1] at h3; cases h3
        · omega
      · rw [if_neg e]; exact a2
    · have h3 : s' = s := by omega
      subst h3 h2
      rw [htt]
      simp
theorem NextZ.mono {dn' : Int → Nat → Prop} (hN : NextZ n C i f dn g h') (hd : ∀ z q, dn' z q → dn z q) : NextZ n C i f dn' g h' := ⟨hN.has, fun s k h1 => hN.all s k (hd _ _ h1)⟩
theorem NextZ.fin (hN : NextZ n C i f dn g h') (hB : BestZ n C i f h) (hall : ∀ (s k : Nat), h s = true → k < n → dn s k) : BestZ n C (i + 1) g h' := by
  refine ⟨hN.has, fun s x hw => ?_⟩
  cases hw with
  | @step _ s0 x0 k hw hk hb =>
    obtain ⟨a1, a2⟩ := hB.all s0 x0 hw
    obtain ⟨b1, b2⟩ := hN.all s0 k (hall s0 k a1 hk) hb
    exact ⟨b1, by omega⟩
end As
end Go.Proofs.Ytjmpfkolpgbebaa
