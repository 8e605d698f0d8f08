/- JournalPlays: Sync, Crash and Bytes of the program's disk; Crash of the document's. -/
import Derived.Test.YtdbipmidjdhjpaaDiskRef
import Derived.StillTailTactics
namespace Go.Proofs.Ytdbipmidjdhjpaa
open Go.ChangeShapes Go.WideShapes Go.ChangeAt Go.RowKit
set_option linter.unusedVariables false

theorem new_any (w : World) :
    Calls Try.prog 10 #[] w fun e w' => e = .returned (.pointer (some ⟨w.heap.size, 0, none⟩)) ∧ w.alloc (.cells #[.slice none 0 0, .int .i64 0] 109) = w' := by
  go_enter Try.func10, Try.ntmps10
  go_wp2
  go_ret
  exact ⟨rfl, rfl⟩

theorem sync_any (w : World) (base B : Nat) (v : Value) (L : List Int) (s : Nat) (hd : DiskAt w base B v L s) :
    Calls Try.prog 13 #[.pointer (some ⟨B, 0, none⟩)] w fun e w' => e = .returned (.tuple #[]) ∧ w.setCell ⟨B, 1, none⟩ (.int .i64 L.length) = w' := by
  obtain ⟨c0, c1, f0, f1, hown, hl, hs⟩ := hd
  obtain ⟨va, vc, rfl, hvc⟩ := slice_shape hown
  clear hown
  go_enter Try.func13, Try.ntmps13
  go_wp2
  go_end0
  exact ⟨rfl, rfl⟩
theorem disk_sync {w : World} {base B : Nat} {v : Value} {L : List Int} {s : Nat} (hd : DiskAt w base B v L s) (hB : B < base) (s' : Nat) (hs' : s' ≤ L.length) : DiskAt (w.setCell ⟨B, 1, none⟩ (.int .i64 s')) base B v L s' := by
  obtain ⟨c0, c1, f0, f1, hown, hl, hs⟩ := hd
  refine ⟨?_, World.cell?_setCell_same w _ _ c1, ?_, ?_, ownsRow_set hown hB _, hl, hs'⟩
  · rw [World.cell?_setCell_other _ _ _ _ (by simp)]; exact c0
  · rw [World.frozen?_setCell]; exact f0
  · rw [World.frozen?_setCell]; exact f1

theorem crash_low (w : World) (base B : Nat) (v : Value) (L : List Int) (s : Nat) (k : Int) (hd : DiskAt w base B v L s) (hk : k < 0) :
    Calls Try.prog 14 #[.pointer (some ⟨B, 0, none⟩), .int .i64 k] w fun e w' => e = .returned (.int .i64 1) ∧ Below w.heap.size w w' := by
  obtain ⟨c0, c1, f0, f1, hown, hl, hs⟩ := hd
  obtain ⟨va, vc, rfl, hvc⟩ := slice_shape hown
  clear hown
  go_enter Try.func14, Try.ntmps14
  go_wp2
  go_quiet (fail)
  go_wp2
  go_ret
  exact ⟨rfl, below_drewN (Below.refl _ _) _⟩
theorem crash_high (w : World) (base B : Nat) (v : Value) (L : List Int) (s : Nat) (k : Int) (hd : DiskAt w base B v L s) (hk : 0 ≤ k) (hk2 : (L.length : Int) - s < k) :
    Calls Try.prog 14 #[.pointer (some ⟨B, 0, none⟩), .int .i64 k] w fun e w' => e = .returned (.int .i64 1) ∧ Below w.heap.size w w' := by
  obtain ⟨c0, c1, f0, f1, hown, hl, hs⟩ := hd
  obtain ⟨va, vc, rfl, hvc⟩ := slice_shape hown
  clear hown
  have hw : IntKind.i64.wrap ((L.length : Int) - (s : Int)) = (L.length : Int) - (s : Int) := IntWalk.i64_in _ (by omega)
  go_enter Try.func14, Try.ntmps14
  go_wp2
  go_quiet (fail)
  go_wp2
  go_ret
  exact ⟨rfl, below_drewN (Below.refl _ _) _⟩

theorem crashR_low (w : World) (base B : Nat) (v : Value) (L : List Int) (s : Nat) (k : Int) (hd : DiskAt w base B v L s) (hk : k < 0) :
    Calls Try.prog 15 #[.pointer (some ⟨B, 0, none⟩), .int .i64 k] w fun e w' => e = .returned (.int .i64 1) ∧ Below w.heap.size w w' := by
  obtain ⟨c0, c1, f0, f1, hown, hl, hs⟩ := hd
  obtain ⟨va, vc, rfl, hvc⟩ := slice_shape hown
  clear hown
  go_enter Try.func15, Try.ntmps15
  go_wp2
  go_quiet (fail)
  go_wp2
  go_ret
  exact ⟨rfl, below_drewN (Below.refl _ _) _⟩
theorem crashR_high (w : World) (base B : Nat) (v : Value) (L : List Int) (s : Nat) (k : Int) (hd : DiskAt w base B v L s) (hk : 0 ≤ k) (hk2 : (L.length : Int) - s < k) :
    Calls Try.prog 15 #[.pointer (some ⟨B, 0, none⟩), .int .i64 k] w fun e w' => e = .returned (.int .i64 1) ∧ Below w.heap.size w w' := by
  obtain ⟨c0, c1, f0, f1, hown, hl, hs⟩ := hd
  obtain ⟨va, vc, rfl, hvc⟩ := slice_shape hown
  clear hown
  have hw : IntKind.i64.wrap ((L.length : Int) - (s : Int)) = (L.length : Int) - (s : Int) := IntWalk.i64_in _ (by omega)
  go_enter Try.func15, Try.ntmps15
  go_wp2
  go_quiet (fail)
  go_wp2
  go_ret
  exact ⟨rfl, below_drewN (Below.refl _ _) _⟩

theorem slice_shape2 {w : World} {base : Nat} {v : Value} {n : Nat} {xs : List Value} (h : w.ownsRow base 5 1 v n xs) : (v = .slice none 0 0 ∧ n = 0) ∨ ∃ g c, v = .slice (some ⟨g, 0, none⟩) n c ∧ n ≤ c := by
  rcases h.2 with h | ⟨g, cap, cur, rfl, _, _, hc, _⟩
  · exact .inl h
  · exact .inr ⟨_, _, rfl, hc⟩


theorem sync_low (w : World) (B n s c : Nat) (a : Option Addr) (c0 : w.cell? ⟨B, 0, none⟩ = some (.slice a n c)) (c1 : w.cell? ⟨B, 1, none⟩ = some (.int .i64 s)) (f1 : w.frozen? ⟨B, 1, none⟩ = false) :
    Calls Try.prog 13 #[.pointer (some ⟨B, 0, none⟩)] w fun e w' => e = .returned (.tuple #[]) ∧ w.setCell ⟨B, 1, none⟩ (.int .i64 n) = w' := by
  go_enter Try.func13, Try.ntmps13
  go_wp2
  go_end0
  exact ⟨rfl, rfl⟩

/-- what a crash leaves: the slice cut, so many safe; draws apart -/
def CrashEnd (w : World) (B : Nat) (a : Option Addr) (n c : Nat) (e : Ending) (w' : World) : Prop :=
  e = .returned (.int .i64 0) ∧ ∃ q, ((w.drewN q).setCell ⟨B, 0, none⟩ (.slice a n c)).setCell ⟨B, 1, none⟩ (.int .i64 (n : Int)) = w'

set_option maxRecDepth 100000 in
theorem crash_some (w : World) (B g c n s k : Nat) (c0 : w.cell? ⟨B, 0, none⟩ = some (.slice (some ⟨g, 0, none⟩) n c)) (c1 : w.cell? ⟨B, 1, none⟩ = some (.int .i64 s)) (f0 : w.frozen? ⟨B, 0, none⟩ = false) (f1 : w.frozen? ⟨B, 1, none⟩ = false)
    (hn : n ≤ 100000) (hc : n ≤ c) (hs : s ≤ n) (hk2 : (k : Int) ≤ (n : Int) - s) :
    Calls Try.prog 14 #[.pointer (some ⟨B, 0, none⟩), .int .i64 k] w (CrashEnd w B (some ⟨g, 0, none⟩) (s + k) c) := by
  have h1 : IntKind.i64.wrap ((n : Int) - (s : Int)) = (n : Int) - (s : Int) := IntWalk.i64_in _ (by omega)
  have h2 : IntKind.i64.wrap ((s : Int) + k) = (s : Int) + k := IntWalk.i64_in _ (by omega)
  have h3 : (0 : Int) ≤ s + k := by omega
  have h4 : (s : Int) + k ≤ c := by omega
  go_enter Try.func14, Try.ntmps14
  go_wp2
  go_quiet (fail)
  go_wp2
  go_region
  go_wp2_with fail
  refine (sync_low _ _ (s + k) s _ _ (by exact World.cell?_setCell_same _ _ _ c0) (by exact (World.cell?_setCell_other _ _ _ _ (by simp)).trans c1) (by exact (World.frozen?_setCell _ _ _ _).trans f1)).mono ?_
  rintro e w' ⟨rfl, rfl⟩
  go_wp2
  go_ret
  exact ⟨rfl, _, rfl⟩
set_option maxRecDepth 100000 in
theorem crash_nil (w : World) (B : Nat) (c0 : w.cell? ⟨B, 0, none⟩ = some (.slice none 0 0)) (c1 : w.cell? ⟨B, 1, none⟩ = some (.int .i64 0)) (f0 : w.frozen? ⟨B, 0, none⟩ = false) (f1 : w.frozen? ⟨B, 1, none⟩ = false)
     :
    Calls Try.prog 14 #[.pointer (some ⟨B, 0, none⟩), .int .i64 0] w (CrashEnd w B none 0 0) := by
  go_enter Try.func14, Try.ntmps14
  go_wp2
  go_quiet (fail)
  go_wp2
  go_region
  go_wp2_with fail
  refine (sync_low _ _ 0 0 _ _ (by exact World.cell?_setCell_same _ _ _ c0) (by exact (World.cell?_setCell_other _ _ _ _ (by simp)).trans c1) (by exact (World.frozen?_setCell _ _ _ _).trans f1)).mono ?_
  rintro e w' ⟨rfl, rfl⟩
  go_wp2
  go_ret
  exact ⟨rfl, _, rfl⟩
set_option maxRecDepth 100000 in
theorem crashR_some (w : World) (B g c n s k : Nat) (c0 : w.cell? ⟨B, 0, none⟩ = some (.slice (some ⟨g, 0, none⟩) n c)) (c1 : w.cell? ⟨B, 1, none⟩ = some (.int .i64 s)) (f0 : w.frozen? ⟨B, 0, none⟩ = false) (f1 : w.frozen? ⟨B, 1, none⟩ = false)
    (hn : n ≤ 100000) (hc : n ≤ c) (hs : s ≤ n) (hk2 : (k : Int) ≤ (n : Int) - s) :
    Calls Try.prog 15 #[.pointer (some ⟨B, 0, none⟩), .int .i64 k] w (CrashEnd w B (some ⟨g, 0, none⟩) (s + k) c) := by
  have h1 : IntKind.i64.wrap ((n : Int) - (s : Int)) = (n : Int) - (s : Int) := IntWalk.i64_in _ (by omega)
  have h2 : IntKind.i64.wrap ((s : Int) + k) = (s : Int) + k := IntWalk.i64_in _ (by omega)
  have h3 : (0 : Int) ≤ s + k := by omega
  have h4 : (s : Int) + k ≤ c := by omega
  go_enter Try.func15, Try.ntmps15
  go_wp2
  go_quiet (fail)
  go_wp2
  go_region
  go_wp2
  go_ret
  exact ⟨rfl, _, rfl⟩
set_option maxRecDepth 100000 in
theorem crashR_nil (w : World) (B : Nat) (c0 : w.cell? ⟨B, 0, none⟩ = some (.slice none 0 0)) (c1 : w.cell? ⟨B, 1, none⟩ = some (.int .i64 0)) (f0 : w.frozen? ⟨B, 0, none⟩ = false) (f1 : w.frozen? ⟨B, 1, none⟩ = false)
     :
    Calls Try.prog 15 #[.pointer (some ⟨B, 0, none⟩), .int .i64 0] w (CrashEnd w B none 0 0) := by
  go_enter Try.func15, Try.ntmps15
  go_wp2
  go_quiet (fail)
  go_wp2
  go_region
  go_wp2
  go_ret
  exact ⟨rfl, _, rfl⟩
end Go.Proofs.Ytdbipmidjdhjpaa
