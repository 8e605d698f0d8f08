/- Contracts: the document's wheel: Add. -/
import Derived.Test.YtjoejdpoehpkiaaWheelRef
namespace Go.Proofs.Ytjoejdpoehpkiaa
open Go.ChangeShapes Go.WideShapes Go.ChangeAt Go.RowKit
set_option linter.unusedVariables false
open Wh
def AddS (now : Int) (qs : List Tm) (t : Tm) (z : Int) (qs' : List Tm) : Prop :=
  (t.at' ≤ now ∧ z = 11 ∧ qs' = qs) ∨ (now < t.at' ∧ 16777216 < t.at' - now ∧ z = 4 ∧ qs' = qs) ∨
  (now < t.at' ∧ t.at' - now ≤ 16777216 ∧ (∃ u, u ∈ qs ∧ u.id = t.id) ∧ z = 6 ∧ qs' = qs) ∨
  (now < t.at' ∧ t.at' - now ≤ 16777216 ∧ (∀ u, u ∈ qs → u.id ≠ t.id) ∧ qs.length = 200 ∧ z = 7 ∧ qs' = qs) ∨
  (now < t.at' ∧ t.at' - now ≤ 16777216 ∧ (∀ u, u ∈ qs → u.id ≠ t.id) ∧ qs.length ≠ 200 ∧ z = 0 ∧ qs' = qs ++ [t])
def RAddP (G : Nat → Prop) (gr : Nat) (now : Int) (qs : List Tm) (t : Tm) (w : World) (e : Ending) (w' : World) : Prop :=
  ∃ z qs' v', e = .returned (.int .i64 z) ∧ AddS now qs t z qs' ∧ RWh (fun k => G k ∨ w.heap.size ≤ k) gr now v' qs' w' ∧ Kept G w w'
theorem RAddP.same {G : Nat → Prop} {gr : Nat} {now : Int} {qs : List Tm} {t : Tm} {w w' : World} {v : Value} {z : Int} {e : Ending} (he : e = .returned (.int .i64 z)) (hs : AddS now qs t z qs) (h : RWh G gr now v qs w) (hb : Below w.heap.size w w') : RAddP G gr now qs t w e w' :=
  ⟨z, qs, v, he, hs, (h.below hb).wide fun k hk => .inl hk, Kept.below hb⟩
theorem RWh.pushed {G : Nat → Prop} {gr : Nat} {now : Int} {v : Value} {qs : List Tm} {t : Tm} {w w3 : World} {g off cap : Nat} {B : Nat} (h : RWh G gr now v qs w) (hs : spanRow w3 0 38 2 (.slice (some ⟨g, off, none⟩) (qs.length + 1) cap) (qs.length + 1) (fires qs ++ [.int .i64 t.at', .int .i64 t.id])) (hg : w.grownBy w3 v.ownBlock) (hb : v.ownBlock = some g ∨ w.heap.size ≤ g) (hB : B ≤ w.heap.size) :
    RWh (fun k => G k ∨ B ≤ k) gr now (.slice (some ⟨g, off, none⟩) (qs.length + 1) cap) (qs ++ [t]) (w3.setCell ⟨gr, 1, none⟩ (.slice (some ⟨g, off, none⟩) (qs.length + 1) cap)) ∧ Kept G w (w3.setCell ⟨gr, 1, none⟩ (.slice (some ⟨g, off, none⟩) (qs.length + 1) cap)) := by
  have hv := rowIs_grown h.var hg (fun e => span_ne h.row h.var (by decide) e.symm)
  have hne := span_ne hs hv (by decide)
  refine ⟨⟨(hv.set 1 _).congr fun i hi => ?_, .inl h.fr, ?_, fun k hk => ?_⟩, ((Kept.refl G w).grown hg (fun k hk => .inl (h.rowF k hk))).setCell (p := ⟨gr, 1, none⟩) (.inl h.fr) _⟩
  · have : i = 0 ∨ i = 1 := by omega
    rcases this with rfl | rfl <;> rfl
  · rw [List.length_append, fires_push]
    exact hs.block fun k hk => Below.heap_setCell w3 _ _ k (fun e => hne (by rw [hk, e]))
  · obtain rfl : g = k := by simpa [Value.ownBlock] using hk
    rcases hb with e | e
    · exact .inl (h.rowF g e)
    · exact .inr (by omega)
set_option maxRecDepth 20000 in
set_option maxHeartbeats 4000000 in
theorem rAdd_any (G : Nat → Prop) (gr : Nat) (now : Int) (v : Value) (qs : List Tm) (t : Tm) (w : World) (h : RWh G gr now v qs w) (hl : qs.length ≤ 200) (hn : 0 ≤ now ∧ now ≤ 1099511627776) (ht : -9223372036854775808 ≤ t.at' ∧ t.at' ≤ 9223372036854775807) :
    Calls Try.prog 6 #[.pointer (some ⟨gr, 0, none⟩), .int .i64 t.at', .int .i64 t.id] w fun e w' => RAddP G gr now qs t w e w' := by
  obtain ⟨a, cap, rfl, hW⟩ := h.row.fw
  have c0 := h.c0
  have c1 := h.c1
  have f1 := h.var.frozen 1
  have lr := h.var.lt
  have HW := Lib.hid hW
  have HH := Lib.hid h
  have HS : Hid (∀ z qs', AddS now qs t z qs' → AddS now qs t z qs') := Lib.hid fun _ _ x => x
  obtain ⟨n, hnn⟩ : ∃ n, qs.length = n := ⟨_, rfl⟩
  have HN := Lib.hid hnn
  rw [hnn] at c1 hl
  have HHn : Hid (RWh G gr now (.slice a n cap) qs w) := Lib.hid (by rw [← hnn]; exact h)
  clear h hW hnn
  cases h1 : decide (t.at' ≤ now) with
  | true =>
    have HE : Hid (AddS now qs t 11 qs) := Lib.hid (.inl ⟨by simpa using h1, rfl, rfl⟩)
    go_enter Try.func6, Try.ntmps6
    go_wp2_with fail
    go_ret
    exact .same rfl HE.out HHn.out (Below.refl _ _)
  | false =>
    have hlt : now < t.at' := by simpa using h1
    have hwr : IntKind.i64.wrap (t.at' - now) = t.at' - now := IntWalk.i64_in _ (by omega)
    have HLT := Lib.hid hlt
    cases h2 : decide (t.at' - now > 16777216) with
    | true =>
      have HE : Hid (AddS now qs t 4 qs) := Lib.hid (.inr (.inl ⟨hlt, by simpa using h2, rfl, rfl⟩))
      clear hlt
      go_enter Try.func6, Try.ntmps6
      go_wp2_with fail
      go_ret
      exact .same rfl HE.out HHn.out (Below.refl _ _)
    | false =>
      have HNE : Hid (t.at' - now ≤ 16777216) := Lib.hid (by simpa using h2)
      clear hlt
      go_enter Try.func6, Try.ntmps6
      go_wp2_with fail
      clear h1 h2 hwr
      go_loopw [27] (fun x wr => ∃ q : Nat, q ≤ n ∧ x = .int .i64 q ∧ Hid (∀ j u, j < q → qs[j]? = some u → u.id ≠ t.id) ∧ Below w.heap.size w wr) (fun v _ => n - (intOf v).toNat)
      case atStart => exact ⟨0, by omega, rfl, Lib.hid (fun j u h => absurd h (by omega)), Below.refl _ _⟩
      case round =>
        obtain ⟨q, hq, rfl, HQ, hB⟩ := hrel
        have hsz := hB.size
        by_cases hql : q < n
        · obtain ⟨u, hu⟩ : ∃ u, qs[q]? = some u := ⟨_, List.getElem?_eq_getElem (by have := HN.out; omega)⟩
          obtain ⟨b, off, rfl, hb, q0, q1⟩ := fireCells ((HW.out.below hB (Nat.le_refl _)).vals) hu
          have HT := Lib.hid hu
          have HB3 := Lib.hid (hB.alloc hsz (.cells #[.int .i64 u.at', .int .i64 u.id] 38))
          clear hu
          cases hye : (u.id == t.id) with
          | true =>
            have HE : Hid (AddS now qs t 6 qs) := Lib.hid (.inr (.inr (.inl ⟨HLT.out, HNE.out, ⟨u, List.mem_of_getElem? HT.out, by simpa using hye⟩, rfl, rfl⟩)))
            go_wp2_with fail
            go_ret
            exact .same rfl HE.out HHn.out HB3.out
          | false =>
            have HQ2 : Hid (∀ j u, j < q + 1 → qs[j]? = some u → u.id ≠ t.id) := Lib.hid (fun j x hj hx => by
              by_cases e : j = q
              · subst e
                rw [HT.out] at hx
                cases hx
                simpa using hye
              · exact HQ.out j x (by omega) hx)
            go_wp2_with fail
            go_roundw
            case rel => exact ⟨q + 1, by omega, rfl, HQ2, HB3.out⟩
            case measure => simp [intOf]; omega
        · have HU : Hid (∀ u, u ∈ qs → u.id ≠ t.id) := Lib.hid (fun u hu => by
            obtain ⟨j, hj, rfl⟩ := List.getElem_of_mem hu
            exact HQ.out j _ (by have := HN.out; omega) (List.getElem?_eq_getElem hj))
          have HB := Lib.hid hB
          have d1 : wr.cell? ⟨gr, 1, none⟩ = some (.slice a n cap) := (hB.cell (p := ⟨gr, 1, none⟩) lr).trans c1
          have lr2 := Nat.lt_of_lt_of_le lr hsz
          have HH2 := Lib.hid (HHn.out.below hB)
          by_cases h200 : n = 200
          · have HE : Hid (AddS now qs t 7 qs) := Lib.hid (.inr (.inr (.inr (.inl ⟨HLT.out, HNE.out, HU.out, HN.out.trans h200, rfl, rfl⟩))))
            have h3 : ((n : Int) == 200) = true := by simp; omega
            clear h200 HQ hB
            go_wp2_with fail
            go_ret
            exact .same rfl HE.out HHn.out HB.out
          · have HE : Hid (AddS now qs t 0 (qs ++ [t])) := Lib.hid (.inr (.inr (.inr (.inr ⟨HLT.out, HNE.out, HU.out, by rw [HN.out]; exact h200, rfl, rfl⟩))))
            have h3 : ((n : Int) == 200) = false := by simp; omega
            have HN2 := Lib.hid h200
            clear h200 HQ hB
            go_wp2_with (at_builtin; go_loud (refine wpList_push_span _ (by rfl) _ _ 26 (by rfl) 0 38 (.agg #[.int .i64 0, .int .i64 0]) 2 16 Try.underlying26 infoFire (by rfl) (.slice a n cap) n _ [.int .i64 t.at', .int .i64 t.id] _ rfl (by rfl) (by have h := HH2.out.row; rw [HN.out] at h; exact h) (by rfl) (by rfl) (by intro u hu; simp at hu; rcases hu with rfl | rfl <;> rfl) (by unfold maxLen; omega) (by omega) (Nat.zero_le _) ?_; intro g off cap3 w3 hs3 hg3 hgb; have HS3 := Lib.hid hs3; have HG3 := Lib.hid hg3; have HGB := Lib.hid hgb; have hv3 := rowIs_grown HH2.out.var hg3 (fun e => span_ne HH2.out.row HH2.out.var (by decide) e.symm); have v0 := hv3.cell (i := 1) (by omega); have v1 := hv3.frozen 1; have v2 := hv3.lt; clear hs3 hg3 hgb hv3))
            have hp := HH2.out.pushed (t := t) (B := w.heap.size) (by have := HS3.out; rwa [← HN.out] at this) HG3.out HGB.out HB.out.size
            rw [HN.out] at hp
            go_ret
            exact ⟨0, _, _, rfl, HE.out, hp.1, (Kept.below (F := G) HB.out).trans hp.2 (fun x hx => .inl hx)⟩
end Go.Proofs.Ytjoejdpoehpkiaa
