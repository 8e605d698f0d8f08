/- The program's queue as a whole; contract: a new one. -/
import Derived.Test.YtfjoakhcgpckgaaHeapMap
namespace Go.Proofs.Ytfjoakhcgpckgaa
open Go.ChangeShapes Go.WideShapes Go.ChangeAt Go.RowKit
set_option linter.unusedVariables false
open Hp
structure QW (F : Nat → Prop) (gq gm : Nat) (born : Int) (M : Int → Option Nat) (q : Nat) (v : Value) (ts : List Th) (w : World) : Prop where
  hw : HW F gq gm born v ts w
  map : MapW gm M q w
  fm : F gm
  heap : Heap ts ts.length
  ids : ∀ (id : Int) (b : Nat), M id = some b ↔ ∃ t, t ∈ ts ∧ t.id = id ∧ t.blk = b
  old : ∀ t, t ∈ ts → t.born ≤ born
  dif : (ts.map Th.born).Nodup
theorem queue_new (w : World) : QW (fun k => w.heap.size ≤ k) (w.heap.size + 1) w.heap.size 0 (fun _ => none) 0 (.slice none 0 0) [] ((w.alloc (.map #[] 0)).alloc (.cells #[.slice none 0 0, .map (some w.heap.size), .int .i64 0] 176)) := by
  have hs : (w.alloc (.map #[] 0)).heap.size = w.heap.size + 1 := by simp
  have hv := World.rowIs_alloc (w.alloc (.map #[] 0)) #[.slice none 0 0, .map (some w.heap.size), .int .i64 0] 176 (qF (.slice none 0 0) w.heap.size 0) (fun i hi => by
    have hi : i < 3 := hi
    have : i = 0 ∨ i = 1 ∨ i = 2 := by omega
    rcases this with rfl | rfl | rfl <;> rfl)
  rw [hs] at hv
  refine ⟨⟨hv, by show w.heap.size ≤ w.heap.size + 1; omega, ⟨rfl, .inl ⟨rfl, rfl⟩⟩, fun k hk => by simp [Value.ownBlock] at hk, fun j t hj => (by simp at hj), fun i j a b ha => (by simp at ha)⟩, ?_, Nat.le_refl _, fun i a b _ hi => absurd hi (by simp), fun id b => (by simp), fun t ht => (by simp at ht), List.Pairwise.nil⟩
  exact (MapW.made w).below ((Below.refl _ _).alloc (Nat.le_refl _) _)
theorem New_any (w : World) : Calls Try.prog 21 #[] w fun e w' => ∃ gq gm, e = .returned (.pointer (some ⟨gq, 0, none⟩)) ∧ QW (fun k => w.heap.size ≤ k) gq gm 0 (fun _ => none) 0 (.slice none 0 0) [] w' ∧ Below w.heap.size w w' := by
  have hmm := @run_makeMap Try.prog
  have HQ := Lib.hid (queue_new w)
  go_enter Try.func21, Try.ntmps21
  go_wp2_with fail
  go_ret
  exact ⟨_, _, rfl, HQ.out, ((Below.refl _ _).alloc (Nat.le_refl _) _).alloc (by simp) _⟩
end Go.Proofs.Ytfjoakhcgpckgaa
