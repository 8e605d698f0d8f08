/- The statement Names: the closed function Names returns true; no condition. The text proves Rows.NamesSaid. -/
import Derived.Test.YtdbipmidjdhjpaaRows
import Derived.WalkKit
import Derived.ProofKit
import Derived.OpenShut
import Derived.Handy
import Derived.BigQuiet
import Derived.Lib.Hide
import Derived.Deep.QuietTactic
namespace Go.Proofs.Ytdbipmidjdhjpaa.names
open Go.ChangeShapes Go.WideShapes Go.ChangeAt Go.RowKit
set_option linter.unusedVariables false      -- a walk need not use every 'w<i>' (that an integer argument fits its kind)

theorem own : ownKnob Try.prog.godebug = none := by kernel_rfl

def L : List Int := [9999, 3652058, 120000, 5258964959, 200, 16777216, 200, 60, 400, 1000000000, 200, 1099511627776, 60, 12, 2000, 30, 8, 100, 9, 20, 20, 200, 12, 100, 1000000, 50, 8, 60, 3000, 100000, 100, 16, 60]
theorem Lat (f : Nat → Option Value) (h : ∀ i : Fin 33, f i.1 = some (.int .i64 (L.getD i.1 0))) : ∀ k, k < 33 → f k = some (.int .i64 (L.getD k 0)) := fun k hk => h ⟨k, hk⟩
theorem Lcells (W : World) (T : TypeId) (n : Nat) (hn : n = W.heap.size) : ∀ k, k < 33 → (W.alloc (.cells #[.int .i64 9999, .int .i64 3652058, .int .i64 120000, .int .i64 5258964959, .int .i64 200, .int .i64 16777216, .int .i64 200, .int .i64 60, .int .i64 400, .int .i64 1000000000, .int .i64 200, .int .i64 1099511627776, .int .i64 60, .int .i64 12, .int .i64 2000, .int .i64 30, .int .i64 8, .int .i64 100, .int .i64 9, .int .i64 20, .int .i64 20, .int .i64 200, .int .i64 12, .int .i64 100, .int .i64 1000000, .int .i64 50, .int .i64 8, .int .i64 60, .int .i64 3000, .int .i64 100000, .int .i64 100, .int .i64 16, .int .i64 60] T)).cell? ⟨n, k, none⟩ = some (.int .i64 (L.getD k 0)) := by
  intro k hk
  subst hn
  have h : ∀ k : Fin 33, (#[Value.int .i64 9999, .int .i64 3652058, .int .i64 120000, .int .i64 5258964959, .int .i64 200, .int .i64 16777216, .int .i64 200, .int .i64 60, .int .i64 400, .int .i64 1000000000, .int .i64 200, .int .i64 1099511627776, .int .i64 60, .int .i64 12, .int .i64 2000, .int .i64 30, .int .i64 8, .int .i64 100, .int .i64 9, .int .i64 20, .int .i64 20, .int .i64 200, .int .i64 12, .int .i64 100, .int .i64 1000000, .int .i64 50, .int .i64 8, .int .i64 60, .int .i64 3000, .int .i64 100000, .int .i64 100, .int .i64 16, .int .i64 60])[k.1]? = some (.int .i64 (L.getD k.1 0)) := by
    intro k
    rcases k with ⟨k, hk⟩
    simp only [L]
    iterate 33 (cases k with | zero => rfl | succ k => ?_)
    omega
  have := h ⟨k, hk⟩
  simp [World.cell?_alloc_new] 
  simpa using this
set_option maxHeartbeats 4000000 in
theorem walk  (w : World) :
    Calls Try.prog 3 #[] w fun e w' => e = .returned (.bool true) ∧ Grown w w' := by
  go_enter Try.func3, Try.ntmps3
  go_wp2
  go_rounds 17
  refine wp_loop_rounds 4 ?_
  rw [rounds_succ]; go_wp2
  go_rounds 7
  go_rounds 6
  go_rounds 6
  go_loopw [8, 49] (fun _ i wr => ∃ k : Nat, k ≤ 33 ∧ i = .int .i64 k ∧ Grown w wr ∧ (∀ j, j < 33 → wr.cell? ⟨w.heap.size + 1 + 1 + 1 + 1 + 1, j, none⟩ = some (.int .i64 (L.getD j 0))) ∧ (∀ j, j < 33 → wr.cell? ⟨w.heap.size + 1 + 1 + 1 + 1 + 1 + 1, j, none⟩ = some (.int .i64 (L.getD j 0)))) (fun _ i _ => 33 - (intOf i).toNat)
  case atStart =>
    refine ⟨0, by omega, rfl, by repeat (first | exact Grown.refl _ | apply Grown.drew | apply Grown.alloc), ?_, ?_⟩
    · exact Lat _ (fun i => by
        rcases i with ⟨i, hi⟩
        refine (World.cell?_alloc_past _ _ _ ?_).trans (Lcells _ 3 _ ?_ i hi) <;> simp)
    · exact Lat _ (fun i => by
        rcases i with ⟨i, hi⟩
        refine Lcells _ 3 _ ?_ i hi
        simp)
  case round =>
    obtain ⟨k, hk, rfl, hg, hA, hB⟩ := hrel
    by_cases hlt : k < 33
    · have hA' := hA k hlt
      have hB' := hB k hlt
      have HA := Lib.hid hA
      have HB := Lib.hid hB
      clear hA hB
      go_wp2
      go_quiet (fail)
      go_wp2
      go_roundw
      case rel => exact ⟨k + 1, by omega, by go_num, (by repeat (first | exact hg | apply Grown.drew)), HA.out, HB.out⟩
      case measure => simp [intOf]; omega
    · go_wp2
      go_ret
      exact ⟨rfl, hg⟩
set_option maxRecDepth 100000 in
theorem lifted (os : Os) (started : os.Started) (H : Type) (enc : TypeId × Value → H) :
    ReturnsInHanded {} Try.checked os 3 .any (Rows.namesSpec.pre6 enc Try.prog Try.f3 Rows.namesRow.domain false) (Rows.namesSpec.post enc Try.prog Try.f3 false true false false) := by
  refine returnsInHanded_of_change (C := Try.checked) own started (by kernel_rfl) Try.func3
    (ChangeSpec.witness6 (enc := enc) (C := Try.checked) false ⟨#[], #[], []⟩ 8 (by kernel_rfl) (by kernel_rfl) (by kernel_rfl) (by kernel_rfl)) ?_
  intro W base args ds gs before hval0 hW hcnd _
  have hval : ∀ (j : Nat) t v, Try.f3.params[j]? = some t → args[j]? = some v → Value.okWide Try.prog W .any base t v := hval0
  have hW' := hW
  obtain ⟨p, q, hA0, hV, rfl, hfz, hnd⟩ := hW
  have hA : DataW.TrodAll enc Try.prog W 0 (fun _ => true) true Try.f3.params.toList args.toList ds p := hA0
  rw [Try.params3] at hA hval
  obtain ⟨rfl, rfl, rfl⟩ := trodAll_none hA
  obtain ⟨rfl, rfl⟩ := trodVars_none hV
  clear hA0 hval0
  simp only [List.append_nil] at hW'
  refine (walk  W).mono fun e W' ⟨he, hg⟩ => ?_
  subst he
  exact ⟨_, rfl, post_of_same (pa := []) (pv := []) hW' (fun _ _ _ => (trodAll_cons_mk (shut_bool Try.underlying4 _) trodAll_mk0)) (fun sp _ => rfl) (fun _ _ => rfl) rfl
    (hg.frame _) hg.2.1 (ok_one (by kernel_rfl) rfl (okWide_bool_mk Try.underlying4 _))⟩

theorem over : Rows.namesRow.holds Try.pinned (OpenSpec.ofChange Rows.namesSpec) :=
  OpenClaim.holds_of_wide 3 Try.f3 rfl rfl rfl rfl rfl rfl rfl ⟨rfl, rfl, rfl, rfl, rfl⟩ rfl rfl rfl rfl rfl (by kernel_rfl) Try.func3 (by kernel_rfl)
    (of_decide_eq_true (by kernel_rfl)) (by unfold Func.isWrapper; first | (rw [if_pos (by decide +kernel)]; kernel_rfl) | (rw [if_neg (by decide +kernel)]; exact ⟨rfl, rfl⟩))
    (fun os started H enc _ => lifted os started H enc)

theorem proved : Rows.NamesSaid :=
  over
end Go.Proofs.Ytdbipmidjdhjpaa.names
