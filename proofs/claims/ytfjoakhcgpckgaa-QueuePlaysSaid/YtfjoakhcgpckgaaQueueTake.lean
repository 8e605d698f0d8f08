/- Contract: the first thing of the queue is taken. -/
import Derived.Test.YtfjoakhcgpckgaaQueuePut
namespace Go.Proofs.Ytfjoakhcgpckgaa
open Go.ChangeShapes Go.WideShapes Go.ChangeAt Go.RowKit
set_option linter.unusedVariables false
open Hp
theorem HW.item {F : Nat → Prop} {gq gm : Nat} {born : Int} {v : Value} {ts : List Th} {w : World} (h : HW F gq gm born v ts w) {b : Nat} {f : Nat → Value} (hi : w.rowIs b 30 2 f) (i : Nat) (u : Value) : HW F gq gm born v ts (w.setCell ⟨b, i, none⟩ u) :=
  ⟨h.var.setOther (a := ⟨b, i, none⟩) (row_ne h.var hi (by decide)) _, h.fq, own_setOther h.row (own_ne h.row hi (by decide)) _, h.rowF, fun j t hj => ⟨(h.th j t hj).1, (h.th j t hj).2.setOther (a := ⟨b, i, none⟩) (row_ne (h.th j t hj).2 hi (by decide)) _⟩, h.inj⟩
theorem HW.small {F : Nat → Prop} {gq gm : Nat} {born : Int} {v : Value} {ts : List Th} {w : World} (h : HW F gq gm born v ts w) : HW (fun k => F k ∧ k < w.heap.size) gq gm born v ts w :=
  ⟨h.var, ⟨h.fq, h.var.lt⟩, h.row, fun k hk => ⟨h.rowF k hk, (by
    rcases h.row.2 with ⟨rfl, _⟩ | ⟨g, cap, cur, rfl, _, hg, _⟩
    · cases hk
    · obtain rfl : g = k := by simpa [Value.ownBlock] using hk
      exact (Array.getElem?_eq_some_iff.1 hg).1)⟩, fun j t hj => ⟨⟨(h.th j t hj).1, (h.th j t hj).2.lt⟩, (h.th j t hj).2⟩, h.inj⟩
set_option maxRecDepth 20000 in
set_option maxHeartbeats 1600000 in
theorem Take_none (F : Nat → Prop) (gq gm : Nat) (born : Int) (v : Value) (w : World) (h : HW F gq gm born v [] w) :
    Calls Try.prog 27 #[.pointer (some ⟨gq, 0, none⟩)] w fun e w' => e = .returned (.tuple #[.agg #[.int .i64 0, .int .i64 0], .bool false]) ∧ Below w.heap.size w w' := by
  have hB : Below w.heap.size w (w.alloc (.cells #[.int .i64 0, .int .i64 0] 30)) := (Below.refl _ _).alloc (Nat.le_refl _) _
  have h2 := h.below hB
  have c0 := h2.cell
  have lq := h2.var.lt
  have hsl : ∃ a cap, v = .slice a 0 cap := by
    rcases h.row.2 with ⟨e, h0⟩ | ⟨g, cap, cur, e, _⟩
    · exact ⟨none, 0, e⟩
    · exact ⟨_, cap, e⟩
  obtain ⟨va, vc, rfl⟩ := hsl
  clear h h2
  go_enter Try.func27, Try.ntmps27
  go_wp2_with fail
  refine bodyPost_ret (v := .tuple #[.agg #[.int .i64 0, .int .i64 0], .bool false]) (by simp [results, Try.results27, go_sem]) rfl ⟨rfl, ?_⟩
  first
    | exact hB
    | exact (hB.setCell (p := ⟨w.heap.size, 0, none⟩) (Nat.le_refl _) _).setCell (p := ⟨w.heap.size, 1, none⟩) (Nat.le_refl _) _
set_option maxRecDepth 20000 in
set_option maxHeartbeats 1600000 in
theorem Take_some (F : Nat → Prop) (gq gm : Nat) (born : Int) (M : Int → Option Nat) (q : Nat) (v : Value) (ts : List Th) (a : Th) (w : World) (h : HW F gq gm born v ts w) (hm : MapW gm M q w) (hFm : F gm) (hh : Heap ts ts.length) (ha : ts[0]? = some a) (h4 : ts.length ≤ 900) (hid : (Lit.int .i64 a.id).wf = true) :
    Calls Try.prog 27 #[.pointer (some ⟨gq, 0, none⟩)] w fun e w' => e = .returned (.tuple #[.agg #[.int .i64 a.prio, .int .i64 a.id], .bool true]) ∧ ∃ v' us, (us ++ [a]).Perm ts ∧ Heap us us.length ∧ HW F gq gm born v' us w' ∧ MapW gm (setM M a.id none) q w' ∧ Kept F w w' := by
  have hB : Below w.heap.size w (w.alloc (.cells #[.int .i64 0, .int .i64 0] 30)) := (Below.refl _ _).alloc (Nat.le_refl _) _
  obtain ⟨W1, hW1⟩ : ∃ W, W = w.alloc (.cells #[.int .i64 0, .int .i64 0] 30) := ⟨_, rfl⟩
  have HW1 := Lib.hid (show HW F gq gm born v ts W1 from by rw [hW1]; exact h.below hB)
  have HWS := Lib.hid (show HW (fun k => F k ∧ k < w.heap.size) gq gm born v ts W1 from by rw [hW1]; exact h.small.below hB)
  have HI1 := Lib.hid (show W1.rowIs w.heap.size 30 2 (fun _ => .int .i64 0) from by
    rw [hW1]
    refine World.rowIs_alloc w _ _ _ fun i hi => ?_
    have hi : i < 2 := hi
    have : i = 0 ∨ i = 1 := by omega
    rcases this with rfl | rfl <;> rfl)
  have HK1 := Lib.hid (show Kept F w W1 from by rw [hW1]; exact Kept.below hB)
  have HM1 := Lib.hid (show MapW gm M q W1 from by rw [hW1]; exact hm.below hB)
  have HWE := Lib.hid hW1
  have c0 := HW1.out.cell
  have lq := HW1.out.var.lt
  obtain ⟨n, hn⟩ : ∃ n, ts.length = n := ⟨_, rfl⟩
  have hpos := (List.getElem?_eq_some_iff.1 ha).1
  obtain ⟨g, cap, hv, _, _⟩ := h.slice hpos
  rw [hn] at hv hpos
  subst hv
  have hne : ((n : Int) == 0) = false := by simp; omega
  have HH := Lib.hid hh
  have HA := Lib.hid ha
  have H4 := Lib.hid h4
  have ta := asThing
  clear h hm hB hh ha h4 hW1 hn
  go_enter Try.func27, Try.ntmps27
  go_upto_region 1 with fail
  rw [← HWE.out]
  go_wp2_with (go_at_call 113; refine Calls.mono (hPop_any (fun k => (F k ∧ k < w.heap.size) ∧ k ≠ gm) gq gm born (.slice (some ⟨g, 0, none⟩) n cap) ts a _ (HWS.out.without HM1.out) HH.out HA.out H4.out) ?_; rintro e w2 ⟨rfl, v', us, j, hp, hhe, hw2, hr2, hk2⟩; have HP := Lib.hid hp; have HHE := Lib.hid hhe; have HW2 := Lib.hid hw2; have HR2 := Lib.hid hr2; have HI2 := Lib.hid (rowIs_kept HI1.out hk2 (fun hf => absurd hf.1.2 (by omega))); have HK2 := Lib.hid (HK1.out.trans hk2 (fun x hx => .inl hx.1.1)); have HM2 := Lib.hid (HM1.out.kept hk2 (fun hf => hf.2 rfl)); have d1 : w2.cell? ⟨gq, 1, none⟩ = some (.map (some gm)) := hw2.var.cell (i := 1) (by omega); have d2 := hw2.var.lt; have a0 : w2.cell? ⟨a.blk, 0, none⟩ = some (.int .i64 a.prio) := hr2.cell (i := 0) (by omega); have a1 : w2.cell? ⟨a.blk, 1, none⟩ = some (.int .i64 a.id) := hr2.cell (i := 1) (by omega); have a2 := hr2.lt; unfold ptr1; clear hp hhe hw2 hr2 hk2 c0)
  go_still_tail 9, (by kernel_rfl)
  change wpList _ _ _ _ _ w2.drew
  go_wp2_with (at_delete; refine wpList_mapDel _ (by rfl) _ _ (by rfl) gm q M a.id (by rfl) (HM2.out.below (Below.refl _ _).drew) hid (by rfl) ?_; intro w3 hm3 ht3; have HM3 := Lib.hid hm3; have hg3 := ht3.grown; have HW3 := Lib.hid ((HW2.out.drew).mapped (HM2.out.below (Below.refl _ _).drew) hg3); have hr3 := rowIs_grown (HR2.out.drew) hg3 (fun e => map_ne HM2.out HR2.out (Option.some.inj e)); have HI3 := Lib.hid (rowIs_grown (HI2.out.drew) hg3 (fun e => map_ne HM2.out HI2.out (Option.some.inj e))); have b0 : w3.cell? ⟨a.blk, 0, none⟩ = some (.int .i64 a.prio) := hr3.cell (i := 0) (by omega); have b1 : w3.cell? ⟨a.blk, 1, none⟩ = some (.int .i64 a.id) := hr3.cell (i := 1) (by omega); have b2 := hr3.lt; have i0 := HI3.out.cell (i := 0) (by omega); have i1 := HI3.out.cell (i := 1) (by omega); have i2 := HI3.out.frozen 0; have i3 := HI3.out.frozen 1; have i4 := HI3.out.lt; have HK3 := Lib.hid ((HK2.out.drew).grown (F := fun k => F k) hg3 (fun k hk => .inl (by cases hk; exact hFm))); clear a0 a1 a2 hr3 d1 d2)
  have hR := (HI3.out.set 0 (.int .i64 a.prio)).set 1 (.int .i64 a.id)
  have r0 := hR.cell (i := 0) (by omega)
  have r1 := hR.cell (i := 1) (by omega)
  simp only [if_true, if_false, Nat.reduceEqDiff] at r0 r1
  have hI2 := HI3.out.set 0 (.int .i64 a.prio)
  refine bodyPost_ret (v := .tuple #[.agg #[.int .i64 a.prio, .int .i64 a.id], .bool true]) (by simp [results, Try.results27, go_sem, r0, r1]) rfl ⟨rfl, v', us, HP.out, HHE.out, ((HW3.out.item HI3.out 0 _).item hI2 1 _).wide (fun k hk => hk.1.1), ?_, (HK3.out.setCell (p := ⟨w.heap.size, 0, none⟩) (.inr (Nat.le_refl _)) _).setCell (p := ⟨w.heap.size, 1, none⟩) (.inr (Nat.le_refl _)) _⟩
  have hne2 := map_ne HM3.out HI3.out
  exact (HM3.out.block (Below.heap_setCell w3 _ _ gm (fun e => hne2 e.symm))).block (Below.heap_setCell _ _ _ gm (fun e => hne2 e.symm))
end Go.Proofs.Ytfjoakhcgpckgaa
