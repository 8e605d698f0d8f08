/- Contract: a new wheel. -/
import Derived.Test.YtjoejdpoehpkiaaWheelPut
namespace Go.Proofs.Ytjoejdpoehpkiaa
open Go.ChangeShapes Go.WideShapes Go.ChangeAt Go.RowKit
set_option linter.unusedVariables false
open Wh
def zW : Array Value := #[.int .i64 0, .int .i64 0, .map none] ++ Array.replicate 320 (.slice none 0 0)
theorem zeroWheel (w : World) : (zeroValue 48).run Try.prog w = .ok (.agg zW) w := by kernel_rfl
theorem zW_size : zW.size = 323 := by simp [zW]
theorem zW_at (i : Nat) (hi : 3 ≤ i) (h : i < 323) : zW[i]? = some (.slice none 0 0) := by
  unfold zW
  rw [Array.getElem?_append_right (by simpa using hi)]
  have h2 : i - 3 < 320 := by omega
  simp [h2]
theorem wheel_new (w : World) (Z : Array Value) (hs : Z.size = 323) (h0 : Z[0]? = some (.int .i64 0)) (h1 : Z[1]? = some (.int .i64 0)) (h2 : Z[2]? = some (.map (some w.heap.size))) (h3 : ∀ i, 3 ≤ i → i < 323 → Z[i]? = some (.slice none 0 0)) :
    WW (fun k => w.heap.size ≤ k) (w.heap.size + 1) w.heap.size 0 0 (fun _ => .slice none 0 0) (fun _ => []) ((w.alloc (.map #[] 0)).alloc (.cells Z 48)) := by
  have hsz : (w.alloc (.map #[] 0)).heap.size = w.heap.size + 1 := by simp
  have hv := World.rowIs_alloc (w.alloc (.map #[] 0)) Z 48 (wF 0 0 w.heap.size fun _ => .slice none 0 0) (fun i hi => by
    unfold wF
    by_cases e0 : i = 0
    · subst e0; exact h0
    · by_cases e1 : i = 1
      · subst e1; exact h1
      · by_cases e2 : i = 2
        · subst e2; exact h2
        · rw [if_neg e0, if_neg e1, if_neg e2]
          exact h3 i (by omega) (by omega))
  rw [hsz, hs] at hv
  exact ⟨hv, by show w.heap.size ≤ w.heap.size + 1; omega, fun i hi => ⟨rfl, .inl ⟨rfl, rfl⟩⟩, fun i k hi hk => by simp [Value.ownBlock] at hk, fun i j k hi hj h => by simp [Value.ownBlock] at h⟩
set_option maxRecDepth 20000 in
set_option maxHeartbeats 4000000 in
theorem New_any (w : World) : Calls Try.prog 4 #[] w fun e w' => ∃ gw gm : Nat, e = .returned (.pointer (some ⟨gw, 0, none⟩)) ∧ WW (fun k => w.heap.size ≤ k) gw gm 0 0 (fun _ => .slice none 0 0) (fun _ => []) w' ∧ BoxM gm 0 (fun _ => 0) (fun _ => false) 0 w' ∧ w.heap.size ≤ gm ∧ Below w.heap.size w w' := by
  have hmm := @run_makeMap Try.prog
  have HZ := Lib.hid zW_at
  obtain ⟨Z, hZ⟩ : ∃ Z, zW = Z := ⟨_, rfl⟩
  have hz : ∀ W, (zeroValue 48).run Try.prog W = .ok (.agg Z) W := fun W => by rw [← hZ]; exact zeroWheel W
  have hs : Z.size = 323 := by rw [← hZ]; exact zW_size
  have h0 : Z[0]? = some (.int .i64 0) := by rw [← hZ]; rfl
  have h1 : Z[1]? = some (.int .i64 0) := by rw [← hZ]; rfl
  rw [hZ] at HZ
  have HQ := Lib.hid (wheel_new w (Z.setIfInBounds 2 (.map (some w.heap.size))) (by simpa using hs) (by rw [Array.getElem?_setIfInBounds_ne (by omega)]; exact h0) (by rw [Array.getElem?_setIfInBounds_ne (by omega)]; exact h1) (by rw [Array.getElem?_setIfInBounds_self_of_lt (by omega)]) (fun i h3 hi => by rw [Array.getElem?_setIfInBounds_ne (by omega)]; exact HZ.out i h3 hi))
  have HB : Hid (BoxM w.heap.size 0 (fun _ => 0) (fun _ => false) 0 ((w.alloc (.map #[] 0)).alloc (.cells (Z.setIfInBounds 2 (.map (some w.heap.size))) 48))) := Lib.hid ((BoxM.made w).below ((Below.refl _ _).alloc (Nat.le_refl _) _))
  clear h0 h1 hZ
  go_enter Try.func4, Try.ntmps4
  go_wp2_with fail
  go_ret
  exact ⟨_, _, rfl, HQ.out, HB.out, Nat.le_refl _, ((Below.refl _ _).alloc (Nat.le_refl _) _).alloc (by simp) _⟩
end Go.Proofs.Ytjoejdpoehpkiaa
