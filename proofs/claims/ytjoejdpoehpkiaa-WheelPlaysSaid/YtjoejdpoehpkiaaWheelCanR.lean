/- Contracts: the document's wheel: Cancel. -/
import Derived.Test.YtjoejdpoehpkiaaWheelAddR
namespace Go.Proofs.Ytjoejdpoehpkiaa
open Go.ChangeShapes Go.WideShapes Go.ChangeAt Go.RowKit
set_option linter.unusedVariables false
open Wh
def CanS (qs : List Tm) (id : Int) (z : Int) (qs' : List Tm) : Prop :=
  ((∀ t, t ∈ qs → t.id ≠ id) ∧ z = 5 ∧ qs' = qs) ∨ ∃ (i : Nat) (t : Tm), qs[i]? = some t ∧ t.id = id ∧ z = 0 ∧ qs' = qs.take i ++ qs.drop (i + 1)
theorem RWh.stored {G : Nat → Prop} {gr : Nat} {now : Int} {bd : Addr} {n cap B : Nat} {qs qs' : List Tm} {w2 w3 : World} {sp : Addr} {m cap3 : Nat} {xs : List Value} (h : RWh G gr now (.slice (some bd) n cap) qs w2) (hb : Below w2.heap.size w2 w3) (hs : spanRow w3 0 38 2 (.slice (some sp) m cap3) m xs) (hg : sp.block = bd.block ∨ w2.heap.size ≤ sp.block) (hx : fires qs' = xs) (hm : qs'.length = m) (hB : B ≤ w2.heap.size) :
    RWh (fun k => G k ∨ B ≤ k) gr now (.slice (some sp) m cap3) qs' (w3.setCell ⟨gr, 1, none⟩ (.slice (some sp) m cap3)) ∧ Kept G w2 (w3.setCell ⟨gr, 1, none⟩ (.slice (some sp) m cap3)) := by
  have hv := (h.below hb).var
  have hne := span_ne hs hv (by decide)
  refine ⟨⟨(hv.set 1 _).congr fun i hi => ?_, .inl h.fr, ?_, fun k hk => ?_⟩, (Kept.below (F := G) hb).setCell (p := ⟨gr, 1, none⟩) (.inl h.fr) _⟩
  · have : i = 0 ∨ i = 1 := by omega
    rcases this with rfl | rfl <;> rfl
  · rw [hm, hx]
    exact hs.block fun k hk => Below.heap_setCell w3 _ _ k (fun e => hne (by rw [hk, e]))
  · obtain rfl : sp.block = k := by simpa [Value.ownBlock] using hk
    rcases hg with e | e
    · exact .inl (h.rowF _ (by rw [e]; rfl))
    · exact .inr (by omega)
/-- what a walk wants that strikes the i-th of a row -/
structure Strike (G : Nat → Prop) (gr : Nat) (now : Int) (b off n cap i : Nat) (qs : List Tm) (w : World) : Prop where
  wh : RWh G gr now (.slice (some ⟨b, off, none⟩) n cap) qs w
  len : qs.length = n
  lt : i < n
  cap' : n ≤ cap
  span : spanRow w 0 38 2 (.slice (some ⟨b, off, none⟩) i i) i (fires (qs.take i))
  tail : Vals w (some ⟨b, off + (i + 1) * 2, none⟩) (fires (qs.drop (i + 1)))
  tlen : (fires (qs.drop (i + 1))).length = (n - (i + 1)) * 2
  tnil : Vals w (some ⟨b, off, none⟩) (fires (qs.drop (n)))
theorem Vals.drop {w : World} {b off : Nat} {xs ys : List Value} (h : Vals w (some ⟨b, off, none⟩) (xs ++ ys)) : Vals w (some ⟨b, off + xs.length, none⟩) ys := fun hp => by
  obtain ⟨b', off', e, h1, h2⟩ := h (by rw [List.length_append]; omega)
  cases e
  refine ⟨b, off + xs.length, rfl, h1, fun i v hi => ?_⟩
  rw [Nat.add_assoc]
  exact h2 _ _ (by rw [List.getElem?_append_right (by omega), show xs.length + i - xs.length = i from by omega]; exact hi)
theorem RWh.strike {G : Nat → Prop} {gr : Nat} {now : Int} {a : Option Addr} {n cap i : Nat} {qs : List Tm} {t : Tm} {w : World} (h : RWh G gr now (.slice a n cap) qs w) (hn : qs.length = n) (hi : qs[i]? = some t) : ∃ b off, a = some ⟨b, off, none⟩ ∧ Strike G gr now b off n cap i qs w := by
  have hil := (List.getElem?_eq_some_iff.1 hi).1
  have hrow := h.row
  obtain ⟨a', cap', e, hW⟩ := hrow.fw
  simp only [Value.slice.injEq] at e
  obtain ⟨rfl, rfl, rfl⟩ := e
  obtain ⟨b, off, rfl, hb, -, -⟩ := fireCells hW.vals hi
  have hcap := hW.cap'
  have hsp := fires_split qs i t hi
  have hl1 : (fires (qs.take i)).length = i * 2 := by rw [fires_length, List.length_take]; omega
  have hit : fires (qs.take i) = (fires qs).take (i * 2) := by rw [hsp, ← hl1, List.take_left]
  refine ⟨b, off, rfl, ⟨by rw [hn] at h; exact h, hn, by omega, by omega, ?_, ?_, by rw [fires_length, List.length_drop, hn], fun hp => ?_⟩⟩
  · rw [hit]
    exact hrow.head (by omega)
  · have h := hW.vals
    rw [hsp] at h
    have h := h.drop.drop
    rw [hl1] at h
    simpa [show off + i * 2 + 2 = off + (i + 1) * 2 from by omega] using h
  · rw [fires_length, List.length_drop] at hp
    omega
theorem Strike.below {G : Nat → Prop} {gr : Nat} {now : Int} {b off n cap i : Nat} {qs : List Tm} {w w' : World} (h : Strike G gr now b off n cap i qs w) (hb : Below w.heap.size w w') : Strike G gr now b off n cap i qs w' :=
  ⟨h.wh.below hb, h.len, h.lt, h.cap', h.span.below hb, h.tail.below hb (Nat.le_refl _), h.tlen, h.tnil.below hb (Nat.le_refl _)⟩
def RCanP (G : Nat → Prop) (gr : Nat) (now : Int) (qs : List Tm) (id : Int) (w : World) (e : Ending) (w' : World) : Prop :=
  ∃ z qs' v', e = .returned (.int .i64 z) ∧ CanS qs id z qs' ∧ RWh (fun k => G k ∨ w.heap.size ≤ k) gr now v' qs' w' ∧ Kept G w w'
set_option maxRecDepth 20000 in
set_option maxHeartbeats 4000000 in
theorem rCancel_any (G : Nat → Prop) (gr : Nat) (now : Int) (v : Value) (qs : List Tm) (id : Int) (w : World) (h : RWh G gr now v qs w) (hl : qs.length ≤ 200) :
    Calls Try.prog 8 #[.pointer (some ⟨gr, 0, none⟩), .int .i64 id] w fun e w' => RCanP G gr now qs id w e w' := by
  obtain ⟨a, cap, rfl, hW⟩ := h.row.fw
  have c1 := h.c1
  have lr := h.var.lt
  have HW := Lib.hid hW
  obtain ⟨n, hnn⟩ : ∃ n, qs.length = n := ⟨_, rfl⟩
  have HN := Lib.hid hnn
  rw [hnn] at c1 hl
  have HHn : Hid (RWh G gr now (.slice a n cap) qs w) := Lib.hid (by rw [← hnn]; exact h)
  clear h hW hnn
  go_enter Try.func8, Try.ntmps8
  go_wp2_with fail
  go_loopw [12] (fun x wr => ∃ q : Nat, q ≤ n ∧ x = .int .i64 q ∧ Hid (∀ j u, j < q → qs[j]? = some u → u.id ≠ id) ∧ Below w.heap.size w wr) (fun v _ => n - (intOf v).toNat)
  case atStart => exact ⟨0, by omega, rfl, Lib.hid (fun j u h => absurd h (by omega)), Below.refl _ _⟩
  case round =>
    obtain ⟨q, hq, rfl, HQ, hB⟩ := hrel
    have hsz := hB.size
    by_cases hql : q < n
    · obtain ⟨u, hu⟩ : ∃ u, qs[q]? = some u := ⟨_, List.getElem?_eq_getElem (by have := HN.out; omega)⟩
      have hHB := HHn.out.below hB
      obtain ⟨b, off, rfl, hst⟩ := hHB.strike HN.out hu
      obtain ⟨b', off', e', hb, q0, q1⟩ := fireCells ((HW.out.below hB (Nat.le_refl _)).vals) hu
      simp only [Option.some.injEq, Addr.mk.injEq, and_true] at e'
      obtain ⟨rfl, rfl⟩ := e'
      have HT := Lib.hid hu
      have HST := Lib.hid hst
      clear hu hst hHB
      cases hye : (u.id == id) with
      | true =>
        have HE : Hid (CanS qs id 0 (qs.take q ++ qs.drop (q + 1))) := Lib.hid (.inr ⟨q, u, HT.out, by simpa using hye, rfl, rfl⟩)
        obtain ⟨W2, hW2⟩ : ∃ W, W = wr.alloc (.cells #[.int .i64 u.at', .int .i64 u.id] 38) := ⟨_, rfl⟩
        have hb2 : Below wr.heap.size wr W2 := by rw [hW2]; exact (Below.refl _ _).alloc (Nat.le_refl _) _
        have HB2 : Hid (Below w.heap.size w W2) := Lib.hid (hB.trans (hb2.mono hB.size))
        have HS2 := Lib.hid (HST.out.below hb2)
        have HS3 := Lib.hid ((HST.out.below hb2).below (Below.refl W2.heap.size W2).drew)
        have d1 : W2.cell? ⟨gr, 1, none⟩ = some (.slice (some ⟨b, off, none⟩) n cap) := HS2.out.wh.c1
        have lr2 := HS2.out.wh.var.lt
        have f0 := HS2.out.wh.var.frozen 1
        go_upto_region 5 with fail
        rw [← hW2]
        have hwr : IntKind.i64.wrap ((q : Int) + 1) = (q : Int) + 1 := IntWalk.i64_in _ (by omega)
        have i1 : (0 : Int) ≤ (q : Int) := by omega
        have hcap := HS2.out.cap'
        have i2 : (q : Int) ≤ (cap : Int) := by omega
        have i3 : (0 : Int) ≤ (q : Int) + 1 := by omega
        have i4 : (q : Int) + 1 ≤ (n : Int) := by omega
        have i5 : (n : Int) ≤ (cap : Int) := by omega
        clear hW2 hb2 q0 q1 hye hB
        by_cases hc1 : q + 1 = cap
        · have HXV : Hid (Vals W2.drew (some (⟨b, off, none⟩ : Addr)) (fires (qs.drop (q + 1)))) := Lib.hid (by
            have h1 := HS3.out.tlen
            intro hp
            rw [h1] at hp
            omega)
          have HL3 : Hid ((fires (qs.drop (q + 1))).length = 0 * 2) := Lib.hid (by rw [HS3.out.tlen]; omega)
          go_region_law (refine step_append_span _ (by rfl) _ _ 26 (by rfl) 38 (.agg #[.int .i64 0, .int .i64 0]) 2 16 Try.underlying26 infoFire (by rfl) (by decide) ⟨b, off, none⟩ q (fires (qs.take q)) (by rfl) HS3.out.span ⟨b, off, none⟩ 0 _ (fires (qs.drop (q + 1))) (by rfl) rfl HL3.out HXV.out (by unfold maxLen; omega) (by omega) ?_; intro sp cap3 w3 hs3 hb3 hg3; have HS4 := Lib.hid hs3; have HB4 := Lib.hid hb3; have HG4 := Lib.hid hg3; have g0 : w3.cell? ⟨gr, 1, none⟩ = some (.slice (some ⟨b, off, none⟩) n cap) := (hb3.cell (p := ⟨gr, 1, none⟩) lr2).trans d1; have g1 : w3.frozen? ⟨gr, 1, none⟩ = false := (hb3.frozen (p := ⟨gr, 1, none⟩) lr2).trans f0; have g2 : gr < w3.heap.size := Nat.lt_of_lt_of_le lr2 hb3.size; clear hs3 hb3 hg3)
          all_goals
            go_wp2_with fail
            have hr := RWh.stored (B := w.heap.size) (qs' := qs.take q ++ qs.drop (q + 1)) HS3.out.wh HB4.out HS4.out HG4.out (fires_app _ _) (by rw [List.length_append, List.length_take, List.length_drop, HN.out]; omega) HB2.out.size
            simp only [Nat.add_zero, hc1] at hr
            go_ret
            exact ⟨0, _, _, rfl, HE.out, by simp only [hc1]; exact hr.1, ((Kept.below (F := G) HB2.out).drew).trans hr.2 (fun x hx => .inl hx)⟩
        · have hc2 : ¬ cap = q + 1 := fun e => hc1 e.symm
          go_region_law (refine step_append_span _ (by rfl) _ _ 26 (by rfl) 38 (.agg #[.int .i64 0, .int .i64 0]) 2 16 Try.underlying26 infoFire (by rfl) (by decide) ⟨b, off, none⟩ q (fires (qs.take q)) (by rfl) HS3.out.span ⟨b, off + (q + 1) * 2, none⟩ (n - (q + 1)) _ (fires (qs.drop (q + 1))) (by rfl) rfl HS3.out.tlen HS3.out.tail (by unfold maxLen; omega) (by omega) ?_; intro sp cap3 w3 hs3 hb3 hg3; have HS4 := Lib.hid hs3; have HB4 := Lib.hid hb3; have HG4 := Lib.hid hg3; have g0 : w3.cell? ⟨gr, 1, none⟩ = some (.slice (some ⟨b, off, none⟩) n cap) := (hb3.cell (p := ⟨gr, 1, none⟩) lr2).trans d1; have g1 : w3.frozen? ⟨gr, 1, none⟩ = false := (hb3.frozen (p := ⟨gr, 1, none⟩) lr2).trans f0; have g2 : gr < w3.heap.size := Nat.lt_of_lt_of_le lr2 hb3.size; clear hs3 hb3 hg3)
          all_goals
            go_wp2_with fail
            have hr := RWh.stored (B := w.heap.size) (qs' := qs.take q ++ qs.drop (q + 1)) HS3.out.wh HB4.out HS4.out HG4.out (fires_app _ _) (by rw [List.length_append, List.length_take, List.length_drop, HN.out]; omega) HB2.out.size
            go_ret
            exact ⟨0, _, _, rfl, HE.out, hr.1, ((Kept.below (F := G) HB2.out).drew).trans hr.2 (fun x hx => .inl hx)⟩
      | false =>
        have HQ2 : Hid (∀ j u, j < q + 1 → qs[j]? = some u → u.id ≠ id) := Lib.hid (fun j x hj hx => by
          by_cases e : j = q
          · subst e
            rw [HT.out] at hx
            cases hx
            simpa using hye
          · exact HQ.out j x (by omega) hx)
        have HB3 := Lib.hid (hB.alloc hsz (.cells #[.int .i64 u.at', .int .i64 u.id] 38))
        go_wp2_with fail
        go_roundw
        case rel => exact ⟨q + 1, by omega, rfl, HQ2, HB3.out⟩
        case measure => simp [intOf]; omega
    · have HU : Hid (CanS qs id 5 qs) := Lib.hid (.inl ⟨fun u hu => by
        obtain ⟨j, hj, rfl⟩ := List.getElem_of_mem hu
        exact HQ.out j _ (by have := HN.out; omega) (List.getElem?_eq_getElem hj), rfl, rfl⟩)
      go_wp2_with fail
      go_ret
      exact ⟨5, qs, _, rfl, HU.out, (HHn.out.below hB).wide (fun k hk => .inl hk), Kept.below hB⟩
end Go.Proofs.Ytjoejdpoehpkiaa
