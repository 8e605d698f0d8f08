/- The table of who goes with whom: how it lies in memory; plain facts on its bits. -/
import Derived.Test.YtfjoakhcgpckgaaDoorMatchU
import Derived.Test.YtfjoakhcgpckgaaDoorMatchM
namespace Go.Proofs.YtfjoakhcgpckgaaDoor
open Go.ChangeShapes Go.WideShapes Go.ChangeAt Go.RowKit
set_option linter.unusedVariables false
open Gr (El)
open Mt
def Ed (may : Nat → Nat) (i k : Nat) : Prop := (may i).testBit k = true
def tabF (gm gh n m : Nat) (seen : Nat) (i : Nat) : Value := if i = 0 then .slice (some ⟨gm, 0, none⟩) n n else if i = 1 then .slice (some ⟨gh, 0, none⟩) m m else .int .u64 (seen : Int)
def hsF (h : Hs) (k : Nat) : Value := .int .i64 (h k)
structure TabW (gt gm gh n m : Nat) (may : Nat → Nat) (h : Hs) (seen : Nat) (w : World) : Prop where
  tab : w.rowIs gt 86 3 (tabF gm gh n m seen)
  row : w.rowIs gm 60 n (u64s may)
  has : w.rowIs gh 3 m (hsF h)
  ne1 : gt ≠ gm
  ne2 : gt ≠ gh
  ne3 : gm ≠ gh
theorem TabW.c0 {gt gm gh n m seen : Nat} {may : Nat → Nat} {h : Hs} {w : World} (t : TabW gt gm gh n m may h seen w) : w.cell? ⟨gt, 0, none⟩ = some (.slice (some ⟨gm, 0, none⟩) n n) := World.rowIs.cell t.tab (by omega)
theorem TabW.c1 {gt gm gh n m seen : Nat} {may : Nat → Nat} {h : Hs} {w : World} (t : TabW gt gm gh n m may h seen w) : w.cell? ⟨gt, 1, none⟩ = some (.slice (some ⟨gh, 0, none⟩) m m) := World.rowIs.cell t.tab (by omega)
theorem TabW.c2 {gt gm gh n m seen : Nat} {may : Nat → Nat} {h : Hs} {w : World} (t : TabW gt gm gh n m may h seen w) : w.cell? ⟨gt, 2, none⟩ = some (.int .u64 (seen : Int)) := World.rowIs.cell t.tab (by omega)
theorem TabW.below {gt gm gh n m seen : Nat} {may : Nat → Nat} {h : Hs} {w w' : World} (t : TabW gt gm gh n m may h seen w) (hb : Below w.heap.size w w') : TabW gt gm gh n m may h seen w' :=
  ⟨rowIs_below t.tab hb t.tab.lt, rowIs_below t.row hb t.row.lt, rowIs_below t.has hb t.has.lt, t.ne1, t.ne2, t.ne3⟩
theorem TabW.mark {gt gm gh n m seen : Nat} {may : Nat → Nat} {h : Hs} {w : World} (t : TabW gt gm gh n m may h seen w) (s : Nat) : TabW gt gm gh n m may h s (w.setCell ⟨gt, 2, none⟩ (.int .u64 (s : Int))) :=
  ⟨(World.rowIs.set t.tab 2 (.int .u64 (s : Int))).congr fun j hj => (by
      unfold tabF
      by_cases e : j = 2
      · subst e; simp
      · have h1 : j = 0 ∨ j = 1 := by omega
        rcases h1 with rfl | rfl <;> simp),
    World.rowIs.setOther t.row t.ne1.symm _, World.rowIs.setOther t.has t.ne2.symm _, t.ne1, t.ne2, t.ne3⟩
theorem TabW.give {gt gm gh n m seen : Nat} {may : Nat → Nat} {h : Hs} {w : World} (t : TabW gt gm gh n m may h seen w) (k i : Nat) : TabW gt gm gh n m may (updH h k i) seen (w.setCell ⟨gh, k, none⟩ (.int .i64 (i : Int))) :=
  ⟨World.rowIs.setOther t.tab t.ne2 _, World.rowIs.setOther t.row t.ne3 _, (World.rowIs.set t.has k (.int .i64 (i : Int))).congr fun j hj => (by
      unfold hsF updH
      by_cases e : j = k
      · subst e; simp
      · simp [e]), t.ne1, t.ne2, t.ne3⟩
theorem TabW.drew {gt gm gh n m seen : Nat} {may : Nat → Nat} {h : Hs} {w : World} (t : TabW gt gm gh n m may h seen w) : TabW gt gm gh n m may h seen w.drew := ⟨t.tab, t.row, t.has, t.ne1, t.ne2, t.ne3⟩
/-- how many are not seen yet -/
def un (seen : Nat) : Nat → Nat
  | 0 => 0
  | m + 1 => un seen m + (if seen.testBit m then 0 else 1)
theorem un_mono {s s' : Nat} (h : ∀ k, s.testBit k = true → s'.testBit k = true) : ∀ m, un s' m ≤ un s m
  | 0 => Nat.le_refl _
  | m + 1 => by
    have ih := un_mono h m
    unfold un
    by_cases h1 : s.testBit m = true
    · rw [if_pos h1, if_pos (h m h1)]; omega
    · rw [if_neg h1]; split <;> omega
theorem un_mark {s k : Nat} (hs : s.testBit k = false) : ∀ m, k < m → un (s ||| 2 ^ k) m + 1 = un s m
  | m + 1, hk => by
    unfold un
    rw [Gr.bit_set]
    by_cases e : k = m
    · subst e
      have h2 : ∀ j, j ≤ k → un (s ||| 2 ^ k) j = un s j := by
        intro j
        induction j with
        | zero => intro _; rfl
        | succ j ih =>
          intro hj
          unfold un
          rw [ih (by omega), Gr.bit_set]
          have : ¬ k = j := by omega
          simp [this]
      rw [h2 k (Nat.le_refl _), hs]
      simp
    · have ih := un_mark hs m (by omega)
      simp only [e, decide_false, Bool.or_false]
      omega
/-- what the search from i has seen: those are paired, with such who see no others -/
structure Seen (may : Nat → Nat) (h : Hs) (s0 s : Nat) : Prop where
  sub : ∀ k, s0.testBit k = true → s.testBit k = true
  shut : ∀ k, s.testBit k = true → s0.testBit k = false → ∃ j : Nat, h k = (j : Int) ∧ ∀ k', Ed may j k' → s.testBit k' = true
theorem Seen.refl (may : Nat → Nat) (h : Hs) (s : Nat) : Seen may h s s := ⟨fun _ h => h, fun k h1 h2 => by rw [h1] at h2; cases h2⟩
theorem Seen.more {may : Nat → Nat} {h : Hs} {s0 s s2 k j : Nat} (a : Seen may h s0 s) (hk : h k = (j : Int)) (b : Seen may h (s ||| 2 ^ k) s2) (hj : ∀ k', Ed may j k' → s2.testBit k' = true) : Seen may h s0 s2 := by
  have hsub : ∀ x, s.testBit x = true → s2.testBit x = true := fun x hx => b.sub x (by rw [Gr.bit_set, hx]; rfl)
  refine ⟨fun x hx => hsub x (a.sub x hx), fun x hx h0 => ?_⟩
  by_cases e1 : s.testBit x = true
  · obtain ⟨j', h1, h2⟩ := a.shut x e1 h0
    exact ⟨j', h1, fun k' e => hsub k' (h2 k' e)⟩
  · by_cases e2 : x = k
    · subst e2; exact ⟨j, hk, hj⟩
    · exact b.shut x hx (by
        rw [Gr.bit_set]
        have : ¬ k = x := fun e => e2 e.symm
        simp [e1, this])
/-- the lowest that i may and that is not seen -/
def Low (may : Nat → Nat) (s i k : Nat) : Prop := Ed may i k ∧ s.testBit k = false ∧ ∀ j, j < k → ¬ (Ed may i j ∧ s.testBit j = false)
theorem Low.uniq {may : Nat → Nat} {s i k k' : Nat} (a : Low may s i k) (b : Low may s i k') : k = k' := by
  rcases Nat.lt_trichotomy k k' with h | h | h
  · exact (b.2.2 k h ⟨a.1, a.2.1⟩).elim
  · exact h
  · exact (a.2.2 k' h ⟨b.1, b.2.1⟩).elim
/-- what comes of a search, step by step -/
inductive FindR (may : Nat → Nat) : Hs → Nat → Nat → Bool → Hs → Nat → Prop
  | none {h : Hs} {s i : Nat} : (∀ k, Ed may i k → s.testBit k = true) → FindR may h s i false h s
  | free {h : Hs} {s i k : Nat} : Low may s i k → h k = -1 → FindR may h s i true (updH h k i) (s ||| 2 ^ k)
  | yes {h h' : Hs} {s i k j s' : Nat} : Low may s i k → h k = (j : Int) → FindR may h (s ||| 2 ^ k) j true h' s' → FindR may h s i true (updH h' k i) s'
  | no {h h' h2 : Hs} {s i k j s' s2 : Nat} {r : Bool} : Low may s i k → h k = (j : Int) → FindR may h (s ||| 2 ^ k) j false h' s' → FindR may h' s' i r h2 s2 → FindR may h s i r h2 s2
theorem FindR.uniq {may : Nat → Nat} {h h1 h2 : Hs} {s i s1 s2 : Nat} {r1 r2 : Bool} (a : FindR may h s i r1 h1 s1) (b : FindR may h s i r2 h2 s2) : r1 = r2 ∧ h1 = h2 ∧ s1 = s2 := by
  induction a generalizing r2 h2 s2 with
  | none f =>
    cases b with
    | none _ => exact ⟨rfl, rfl, rfl⟩
    | free l _ => have := f _ l.1; rw [l.2.1] at this; cases this
    | yes l _ _ => have := f _ l.1; rw [l.2.1] at this; cases this
    | no l _ _ _ => have := f _ l.1; rw [l.2.1] at this; cases this
  | free l f =>
    cases b with
    | none g => have := g _ l.1; rw [l.2.1] at this; cases this
    | free l2 _ => obtain rfl := l.uniq l2; exact ⟨rfl, rfl, rfl⟩
    | yes l2 f2 _ => obtain rfl := l.uniq l2; rw [f] at f2; omega
    | no l2 f2 _ _ => obtain rfl := l.uniq l2; rw [f] at f2; omega
  | yes l f _ ih =>
    cases b with
    | none g => have := g _ l.1; rw [l.2.1] at this; cases this
    | free l2 f2 => obtain rfl := l.uniq l2; rw [f] at f2; omega
    | yes l2 f2 b2 =>
      obtain rfl := l.uniq l2
      rw [f] at f2
      have e := Int.ofNat_inj.1 f2
      subst e
      obtain ⟨_, rfl, rfl⟩ := ih b2
      exact ⟨rfl, rfl, rfl⟩
    | no l2 f2 b2 _ =>
      obtain rfl := l.uniq l2
      rw [f] at f2
      have e := Int.ofNat_inj.1 f2
      subst e
      have := (ih b2).1; cases this
  | no l f _ _ ih1 ih2 =>
    cases b with
    | none g => have := g _ l.1; rw [l.2.1] at this; cases this
    | free l2 f2 => obtain rfl := l.uniq l2; rw [f] at f2; omega
    | yes l2 f2 b2 =>
      obtain rfl := l.uniq l2
      rw [f] at f2
      have e := Int.ofNat_inj.1 f2
      subst e
      have := (ih1 b2).1; cases this
    | no l2 f2 b2 b3 =>
      obtain rfl := l.uniq l2
      rw [f] at f2
      have e := Int.ofNat_inj.1 f2
      subst e
      obtain ⟨_, rfl, rfl⟩ := ih1 b2
      exact ih2 b3
/-- what comes of the searches of the first q -/
inductive AllR (may : Nat → Nat) : Nat → Hs → Prop
  | start : AllR may 0 (fun _ => -1)
  | next {q : Nat} {h h' : Hs} {r : Bool} {s' : Nat} : AllR may q h → FindR may h 0 q r h' s' → AllR may (q + 1) h'
theorem AllR.uniq {may : Nat → Nat} : ∀ {q : Nat} {h h' : Hs}, AllR may q h → AllR may q h' → h = h'
  | 0, _, _, .start, .start => rfl
  | q + 1, _, _, .next a f, .next b g => by
    obtain rfl := AllR.uniq a b
    exact (f.uniq g).2.1
/-- what find tells -/
def FindPost (gt gm gh n m : Nat) (may : Nat → Nat) (h : Hs) (seen i : Nat) (w0 : World) (B : Nat) (e : Ending) (w' : World) : Prop :=
  ∃ (r : Bool) (h' : Hs) (s' : Nat), e = .returned (.bool r) ∧ TabW gt gm gh n m may h' s' w' ∧ s' < 2 ^ 60 ∧ Below B w0 w' ∧ FindR may h seen i r h' s' ∧ (r = true → Aug (Ed may) h (fun k => k < m ∧ seen.testBit k = false) i h') ∧ (r = false → h' = h ∧ Seen may h seen s' ∧ ∀ k, Ed may i k → s'.testBit k = true)
end Go.Proofs.YtfjoakhcgpckgaaDoor
