/- Contracts: the document's queue: where a number waits; Put. -/
import Derived.Test.YtfjoakhcgpckgaaQueueRow
import Derived.Test.YtfjoakhcgpckgaaSpanRow
namespace Go.Proofs.Ytfjoakhcgpckgaa
open Go.ChangeShapes Go.WideShapes Go.ChangeAt Go.RowKit
set_option linter.unusedVariables false
open Hp
/-- where a number waits -/
def AtEnd (qs : List Th) (id z : Int) : Prop := (∃ (i : Nat) (t : Th), qs[i]? = some t ∧ t.id = id ∧ z = (i : Int)) ∨ (z = -1 ∧ ∀ t, t ∈ qs → t.id ≠ id)
theorem spanRow.waits {w : World} {base : Nat} {e : TypeId} {v : Value} {qs : List Th} (h : spanRow w base e 2 v qs.length (items qs)) : ∃ a cap, v = .slice a qs.length cap ∧ Waits w a cap qs := by
  obtain ⟨a, cap, e, h1, h2, h3, h4, h5⟩ := h.form
  exact ⟨a, cap, e, ⟨h1, by unfold maxLen at h2; omega⟩, h3, h4, h5⟩
set_option maxRecDepth 20000 in
set_option maxHeartbeats 4000000 in
theorem rAt_any (gr : Nat) (qs : List Th) (id : Int) (a : Option Addr) (l cap : Nat) (w : World) (hc : w.cell? ⟨gr, 0, none⟩ = some (.slice a l cap)) (lr : gr < w.heap.size) (hn : l = qs.length) (hmax : l ≤ 1000) (hW : Waits w a cap qs) :
    Calls Try.prog 103 #[.pointer (some ⟨gr, 0, none⟩), .int .i64 id] w fun e w' => ∃ z : Int, e = .returned (.int .i64 z) ∧ AtEnd qs id z ∧ Below w.heap.size w w' := by
  have HW := Lib.hid hW
  have HN := Lib.hid hn
  clear hW hn
  go_enter Try.func103, Try.ntmps103
  go_wp2_with fail
  go_loopw [12] (fun v wr => ∃ q : Nat, q ≤ l ∧ v = .int .i64 q ∧ Hid (∀ j t, j < q → qs[j]? = some t → t.id ≠ id) ∧ Below w.heap.size w wr) (fun v _ => l - (intOf v).toNat)
  case atStart => exact ⟨0, by omega, rfl, Lib.hid (fun j t h => absurd h (by omega)), Below.refl _ _⟩
  case round =>
    obtain ⟨q, hq, rfl, HQ, hB⟩ := hrel
    have hsz := hB.size
    by_cases hql : q < l
    · obtain ⟨t, ht⟩ : ∃ t, qs[q]? = some t := ⟨_, List.getElem?_eq_getElem (by have := HN.out; omega)⟩
      obtain ⟨b, off, rfl, hb, q0, q1⟩ := (HW.out.below hB (Nat.le_refl _)).cells ht
      have HT := Lib.hid ht
      have HB3 := Lib.hid (hB.alloc hsz (.cells #[.int .i64 t.prio, .int .i64 t.id] 30))
      clear ht
      cases hye : (t.id == id) with
      | true =>
        have HY : Hid (AtEnd qs id (q : Int)) := Lib.hid (.inl ⟨q, t, HT.out, by simpa using hye, rfl⟩)
        go_wp2_with fail
        go_ret
        exact ⟨(q : Int), rfl, HY.out, HB3.out⟩
      | false =>
        have HQ2 : Hid (∀ j t, j < q + 1 → qs[j]? = some t → t.id ≠ id) := Lib.hid (fun j u hj hu => by
          by_cases e : j = q
          · subst e
            rw [HT.out] at hu
            cases hu
            simpa using hye
          · exact HQ.out j u (by omega) hu)
        go_wp2_with fail
        go_roundw
        case rel => exact ⟨q + 1, by omega, rfl, HQ2, HB3.out⟩
        case measure => simp [intOf]; omega
    · have HY : Hid (AtEnd qs id (-1)) := Lib.hid (.inr ⟨rfl, fun t ht => by
        obtain ⟨j, hj, rfl⟩ := List.getElem_of_mem ht
        exact HQ.out j _ (by have := HN.out; omega) (List.getElem?_eq_getElem hj)⟩)
      go_wp2_with fail
      go_ret
      exact ⟨-1, rfl, HY.out, hB⟩
/-- the document's queue: its struct and its row; all in G -/
structure RQ (G : Nat → Prop) (gr : Nat) (v : Value) (qs : List Th) (w : World) : Prop where
  var : w.rowIs gr 28 1 (fun _ => v)
  fr : G gr
  row : spanRow w 0 30 2 v qs.length (items qs)
  rowF : ∀ k, v.ownBlock = some k → G k
theorem RQ.kept_all {G : Nat → Prop} {gr : Nat} {v : Value} {qs : List Th} {w w' : World} (h : RQ G gr v qs w) (hb : ∀ k, G k → k < w.heap.size → w'.heap[k]? = w.heap[k]?) : RQ G gr v qs w' :=
  ⟨h.var.of_block (hb _ h.fr h.var.lt), h.fr, h.row.block fun k hk => hb k (h.rowF k hk) (h.row.lt k hk).2, h.rowF⟩
theorem RQ.below {G : Nat → Prop} {gr : Nat} {v : Value} {qs : List Th} {w w' : World} (h : RQ G gr v qs w) (hb : Below w.heap.size w w') : RQ G gr v qs w' := h.kept_all fun k _ hk => hb.block k hk
theorem RQ.wide {G H : Nat → Prop} {gr : Nat} {v : Value} {qs : List Th} {w : World} (h : RQ G gr v qs w) (hG : ∀ k, G k → H k) : RQ H gr v qs w := ⟨h.var, hG _ h.fr, h.row, fun k hk => hG k (h.rowF k hk)⟩
theorem RQ.small {G : Nat → Prop} {gr : Nat} {v : Value} {qs : List Th} {w : World} (h : RQ G gr v qs w) : RQ (fun k => G k ∧ k < w.heap.size) gr v qs w := ⟨h.var, ⟨h.fr, h.var.lt⟩, h.row, fun k hk => ⟨h.rowF k hk, (h.row.lt k hk).2⟩⟩
set_option maxRecDepth 20000 in
set_option maxHeartbeats 1600000 in
theorem rPut_there (G : Nat → Prop) (gr : Nat) (v : Value) (qs : List Th) (w : World) (prio id : Int) (h : RQ G gr v qs w) (hl : qs.length ≤ 200) {t : Th} (ht : t ∈ qs) (hti : t.id = id) :
    Calls Try.prog 14 #[.pointer (some ⟨gr, 0, none⟩), .int .i64 prio, .int .i64 id] w fun e w' => e = .returned (.int .i64 6) ∧ Below w.heap.size w w' := by
  obtain ⟨a, cap, rfl, hW⟩ := h.row.waits
  have c0 : w.cell? ⟨gr, 0, none⟩ = some (.slice a qs.length cap) := h.var.cell (i := 0) (by omega)
  have lr := h.var.lt
  have HT : Hid (∀ z, AtEnd qs id z → (decide (z ≥ 0)) = true) := Lib.hid (fun z hz => by
    rcases hz with ⟨i, t, _, _, rfl⟩ | ⟨_, h2⟩
    · simp
    · exact (h2 t ht hti).elim)
  have HC := Lib.hid c0
  have HW := Lib.hid hW
  obtain ⟨n, hn⟩ : ∃ n, qs.length = n := ⟨_, rfl⟩
  have HN := Lib.hid hn
  rw [hn] at HC
  clear h ht hti hW c0 hn
  go_enter Try.func14, Try.ntmps14
  go_wp2_with (go_at_call 103; refine Calls.mono (rAt_any gr qs id a n cap _ HC.out lr HN.out.symm (by have := HN.out; omega) HW.out) ?_; rintro e w2 ⟨z, rfl, hz, hb⟩; have HB := Lib.hid hb; have hzz := HT.out z hz; clear hz hb)
  go_ret
  exact ⟨rfl, HB.out⟩
theorem at_none {qs : List Th} {id : Int} (hn : ∀ t, t ∈ qs → t.id ≠ id) {z : Int} (hz : AtEnd qs id z) : (decide (z ≥ 0)) = false := by
  rcases hz with ⟨i, t, h1, h2, _⟩ | ⟨rfl, _⟩
  · exact (hn t (List.mem_of_getElem? h1) h2).elim
  · rfl
set_option maxRecDepth 20000 in
set_option maxHeartbeats 1600000 in
theorem rPut_full (G : Nat → Prop) (gr : Nat) (v : Value) (qs : List Th) (w : World) (prio id : Int) (h : RQ G gr v qs w) (hl : qs.length = 200) (hn : ∀ t, t ∈ qs → t.id ≠ id) :
    Calls Try.prog 14 #[.pointer (some ⟨gr, 0, none⟩), .int .i64 prio, .int .i64 id] w fun e w' => e = .returned (.int .i64 7) ∧ Below w.heap.size w w' := by
  obtain ⟨a, cap, rfl, hW⟩ := h.row.waits
  have c0 : w.cell? ⟨gr, 0, none⟩ = some (.slice a qs.length cap) := h.var.cell (i := 0) (by omega)
  have lr := h.var.lt
  have HC := Lib.hid c0
  have HW := Lib.hid hW
  have HN := Lib.hid hl
  have HE := Lib.hid hn
  rw [hl] at HC
  clear h hn hW c0 hl
  go_enter Try.func14, Try.ntmps14
  go_wp2_with (go_at_call 103; refine Calls.mono (rAt_any gr qs id a 200 cap _ HC.out lr HN.out.symm (by omega) HW.out) ?_; rintro e w2 ⟨z, rfl, hz, hb⟩; have HB := Lib.hid hb; have hzz := at_none HE.out hz; have d0 : w2.cell? ⟨gr, 0, none⟩ = some (.slice a 200 cap) := (hb.cell (p := ⟨gr, 0, none⟩) lr).trans HC.out; have d1 := Nat.lt_of_lt_of_le lr hb.size; clear hz hb)
  go_ret
  exact ⟨rfl, HB.out⟩
set_option maxRecDepth 20000 in
set_option maxHeartbeats 1600000 in
theorem rPut_good (G : Nat → Prop) (gr : Nat) (v : Value) (qs : List Th) (w : World) (t : Th) (h : RQ G gr v qs w) (hl : qs.length < 200) (hn : ∀ u, u ∈ qs → u.id ≠ t.id) :
    Calls Try.prog 14 #[.pointer (some ⟨gr, 0, none⟩), .int .i64 t.prio, .int .i64 t.id] w fun e w' => e = .returned (.int .i64 0) ∧ ∃ v', RQ (fun k => G k ∨ w.heap.size ≤ k) gr v' (qs ++ [t]) w' ∧ Kept G w w' := by
  obtain ⟨a, cap, rfl, hW⟩ := h.row.waits
  have c0 : w.cell? ⟨gr, 0, none⟩ = some (.slice a qs.length cap) := h.var.cell (i := 0) (by omega)
  have lr := h.var.lt
  have HC := Lib.hid c0
  have HW := Lib.hid hW
  have HE := Lib.hid hn
  obtain ⟨n, hn⟩ : ∃ n, qs.length = n := ⟨_, rfl⟩
  have HQ := Lib.hid (show RQ G gr (.slice a n cap) qs w from by rw [← hn]; exact h)
  have HN := Lib.hid hn
  rw [hn] at HC hl
  have h200 : ((n : Int) == 200) = false := by simp; omega
  clear h hW c0 hn
  go_enter Try.func14, Try.ntmps14
  go_wp2_with (first
    | (go_at_call 103; refine Calls.mono (rAt_any gr qs t.id a n cap _ HC.out lr HN.out.symm (by omega) HW.out) ?_; rintro e w2 ⟨z, rfl, hz, hb⟩; have HB := Lib.hid hb; have hzz := at_none HE.out hz; have d0 : w2.cell? ⟨gr, 0, none⟩ = some (.slice a n cap) := (hb.cell (p := ⟨gr, 0, none⟩) lr).trans HC.out; have d1 := Nat.lt_of_lt_of_le lr hb.size; have HQ2 := Lib.hid (HQ.out.below hb); clear hz hb)
    | (at_builtin; go_loud (refine wpList_push_span _ (by rfl) _ _ 22 (by rfl) 0 30 (.agg #[.int .i64 0, .int .i64 0]) 2 16 Try.underlying22 infoItem (by rfl) (.slice a n cap) n _ [.int .i64 t.prio, .int .i64 t.id] _ rfl (by rfl) (by have h := HQ2.out.row; rw [HN.out] at h; exact h) (by rfl) (by rfl) (by intro u hu; simp at hu; rcases hu with rfl | rfl <;> rfl) (by unfold maxLen; omega) (by omega) (Nat.zero_le _) ?_; intro g off cap3 w3 hs3 hg3 hgb; have HS3 := Lib.hid hs3; have HG3 := Lib.hid hg3; have HGB := Lib.hid hgb; have hv3 := rowIs_grown HQ2.out.var hg3 (fun e => span_ne HQ2.out.row HQ2.out.var (by decide) e.symm); have v0 := hv3.cell (i := 0) (by omega); have v1 := hv3.frozen 0; have v2 := hv3.lt; have HV3 := Lib.hid hv3; clear hs3 hg3 hgb hv3)))
  go_ret
  have hne := span_ne HS3.out HV3.out (by decide)
  refine ⟨rfl, .slice (some ⟨g, off, none⟩) (n + 1) cap3, ⟨(HV3.out.set 0 _).congr fun i hi => ?_, .inl HQ.out.fr, ?_, fun k hk => ?_⟩, ?_⟩
  · rw [if_pos (by omega)]
  · rw [List.length_append, HN.out, items_push]
    exact HS3.out.block fun k hk => Below.heap_setCell w3 _ _ k (fun e => hne (by rw [hk, e]))
  · obtain rfl : g = k := by simpa [Value.ownBlock] using hk
    rcases HGB.out with e | e
    · exact .inl (HQ.out.rowF g e)
    · exact .inr (by have := HB.out.size; omega)
  · exact ((Kept.below (F := G) HB.out).grown HG3.out (fun k hk => .inl (HQ.out.rowF k hk))).setCell (p := ⟨gr, 0, none⟩) (.inl HQ.out.fr) _
end Go.Proofs.Ytfjoakhcgpckgaa
