/- Whole shares: the memory behind the filling loop. -/
import Derived.Test.YtfjoakhcgpckgaaThreeTail
import Derived.Test.YtfjoakhcgpckgaaShareCmp
namespace Go.Proofs.Ytfjoakhcgpckgaa
open Go.ChangeShapes Go.WideShapes Go.ChangeAt Go.RowKit
set_option linter.unusedVariables false
open Sh St
theorem rsts_snoc (L : List Int) (x : Int) : rsts (L ++ [x]) = rsts L ++ [.int .u64 x] := by simp [rsts]
theorem Tri.next {gb i g1 c1 g2 c2 g3 c3 : Nat} {p : Value} {all s qv rv : Int} {D : List Int} {w0 w : World} (hq : (quos all s D)[i]? = some qv) (hr : (rems all s D)[i]? = some rv)
    (h : Tri gb p w0 (.slice (some ⟨g1, 0, none⟩) (i + 1) c1) (i + 1) (ints64 (upn i) ++ [.int .i64 (i : Int)]) (.slice (some ⟨g2, 0, none⟩) (i + 1) c2) (i + 1) (rsts ((rems all s D).take i) ++ [.int .u64 rv]) (.slice (some ⟨g3, 0, none⟩) (i + 1) c3) (i + 1) (ints64 ((quos all s D).take i) ++ [.int .i64 qv]) w) :
    Tri gb p w0 (.slice (some ⟨g1, 0, none⟩) (i + 1) c1) (i + 1) (ints64 (upn (i + 1))) (.slice (some ⟨g2, 0, none⟩) (i + 1) c2) (i + 1) (rsts ((rems all s D).take (i + 1))) (.slice (some ⟨g3, 0, none⟩) (i + 1) c3) (i + 1) (ints64 ((quos all s D).take (i + 1))) w := by
  rw [← ints64_snoc, ← ints64_snoc, ← rsts_snoc, ← upn_snoc] at h
  rw [List.take_add_one (l := quos all s D), List.take_add_one (l := rems all s D), hq, hr]
  exact h
theorem own_same {w w' : World} {base n size : Nat} {e : TypeId} {v : Value} {xs : List Value} (h : w.ownsRow base e size v n xs) (hn : ∀ k, v.ownBlock = some k → w'.heap[k]? = w.heap[k]?) : w'.ownsRow base e size v n xs := by
  refine ⟨h.1, ?_⟩
  rcases h.2 with h2 | ⟨g, cap, cur, rfl, hbg, hgg, rest⟩
  · exact .inl h2
  · exact .inr ⟨g, cap, cur, rfl, hbg, by rw [hn g rfl]; exact hgg, rest⟩
/-- what is known behind the filling loop -/
structure Filled (gb g1 c1 g3 c3 q : Nat) (R Q : List Int) (w0 w : World) : Prop where
  lt1 : gb < g1
  lt3 : gb < g3
  ne : g1 ≠ g3
  srt : Srt g1 c1 w (upn q) (upn q) w
  cap : q ≤ c1
  cmp : CmpOk 158 (.pointer (some ⟨gb, 0, none⟩)) (wholeC R) g1 w (upn q)
  out : w.ownsRow (gb + 1) 2 1 (.slice (some ⟨g3, 0, none⟩) q c3) q (ints64 Q)
  bel : Below gb w0 w
theorem Tri.fill {gb q : Nat} {R Q : List Int} {vr vs vo : Value} {w0 w : World} (h : Tri gb vs w0 vr q (ints64 (upn q)) vs q (rsts R) vo q (ints64 Q) w) (hR : R.length = q) (hq : 0 < q) :
    ∃ g1 c1 g3 c3, vr = .slice (some ⟨g1, 0, none⟩) q c1 ∧ vo = .slice (some ⟨g3, 0, none⟩) q c3 ∧ Filled gb g1 c1 g3 c3 q R Q w0 w := by
  obtain ⟨g1, c1, rfl, hb1, hl1⟩ := h.r.form hq
  obtain ⟨g2, c2, rfl, hb2, hl2⟩ := h.s.form hq
  obtain ⟨g3, c3, rfl, hb3, hl3⟩ := h.o.form hq
  have n13 : g1 ≠ g3 := fun e => own_ne h.r h.o (by decide) g1 rfl (by rw [e]; rfl)
  have n12 : g1 ≠ g2 := fun e => own_ne h.r h.s (by decide) g1 rfl (by rw [e]; rfl)
  have hcap : q ≤ c1 := by
    rcases h.r.2 with ⟨_, h0⟩ | ⟨g, cap, cur, hv, _, _, hc, _⟩
    · omega
    · simp only [Value.slice.injEq] at hv
      omega
  refine ⟨g1, c1, g3, c3, rfl, rfl, by omega, by omega, n13, ⟨by rw [upn_length]; exact ownsRow_low h.r (Nat.zero_le _), Kept.refl _ _, List.Perm.refl _⟩, hcap, ?_, h.o, h.bel⟩
  intro w2 hk x y hx hy
  have hx2 := upn_mem.1 hx
  have hy2 := upn_mem.1 hy
  have hp : w2.heap[gb]? = w.heap[gb]? := hk.block gb (by omega) (by omega)
  have hs : w2.ownsRow (gb + 1) 214 1 (.slice (some ⟨g2, 0, none⟩) q c2) q (rsts R) := own_same h.s fun k hk2 => by
    have e : g2 = k := by simpa [Value.ownBlock] using hk2
    subst e
    exact hk.block _ hl2 (fun e => n12 e.symm)
  refine whole1_any gb g2 0 q c2 R x y w2 (by omega) (by omega) ⟨?_, hR.symm, fun j z hz => ?_⟩
  · rw [World.cell?, hp, h.ptr]; rfl
  · have := hs.cells (g := g2) rfl j (.int .u64 z) (by unfold rsts; rw [List.getElem?_map, hz]; rfl)
    rwa [show (⟨g2, 0, none⟩ : Addr).add j = ⟨g2, 0 + j, none⟩ from by unfold Addr.add; split <;> simp_all] at this
/-- what the last loop keeps -/
structure WhE (gb g1 c1 g3 c3 q : Nat) (L Q : List Int) (j : Nat) (w0 w : World) : Prop where
  row : w.ownsRow (gb + 1) 3 1 (.slice (some ⟨g1, 0, none⟩) q c1) q (ints64 L)
  out : w.ownsRow (gb + 1) 2 1 (.slice (some ⟨g3, 0, none⟩) q c3) q (ints64 (bump Q (L.take j)))
  bel : Below gb w0 w
theorem WhE.start {gb g1 c1 g3 c3 q : Nat} {R Q L : List Int} {w0 w w2 : World} (h : Filled gb g1 c1 g3 c3 q R Q w0 w) (hs : Srt g1 c1 w (upn q) L w2) : WhE gb g1 c1 g3 c3 q L Q 0 w0 w2 := by
  have hl : L.length = q := by rw [hs.perm.length_eq, upn_length]
  have ho := hs.own
  rw [hl] at ho
  refine ⟨⟨ho.1, ?_⟩, ?_, h.bel.trans (hs.kept.toBelow (by have := h.bel.size; have := h.lt1; have := h.srt.lt; omega) (fun k hk => by have := h.lt1; omega))⟩
  · rcases ho.2 with h0 | ⟨g, cap, cur, e, _, rest⟩
    · exact .inl h0
    · refine .inr ⟨g, cap, cur, e, ?_, rest⟩
      simp only [Value.slice.injEq, Option.some.injEq, Addr.mk.injEq] at e
      have := h.lt1
      omega
  · rw [List.take_zero, bump_nil]
    exact own_same h.out fun k hk => by
      have e : g3 = k := by simpa [Value.ownBlock] using hk
      subst e
      exact hs.kept.block _ (h.out.lt _ rfl).2 (fun e => h.ne e.symm)
section
variable {gb g1 c1 g3 c3 q j : Nat} {L Q : List Int} {w0 w : World}
theorem WhE.ne (h : WhE gb g1 c1 g3 c3 q L Q j w0 w) : g1 ≠ g3 := fun e => own_ne h.row h.out (by decide) g1 rfl (by rw [e]; rfl)
theorem WhE.at (h : WhE gb g1 c1 g3 c3 q L Q j w0 w) {x : Int} (hx : L[j]? = some x) : w.cell? ⟨g1, j, none⟩ = some (.int .i64 x) := by
  have := h.row.cells (g := g1) rfl j (.int .i64 x) (by unfold ints64; rw [List.getElem?_map, hx]; rfl)
  rwa [show (⟨g1, 0, none⟩ : Addr).add j = ⟨g1, j, none⟩ from by unfold Addr.add; split <;> simp_all] at this
theorem WhE.outAt (h : WhE gb g1 c1 g3 c3 q L Q j w0 w) {p : Nat} {y : Int} (hy : (bump Q (L.take j))[p]? = some y) : w.cell? ⟨g3, p, none⟩ = some (.int .i64 y) ∧ w.frozen? ⟨g3, p, none⟩ = false ∧ g3 < w.heap.size := by
  have := h.out.cells (g := g3) rfl p (.int .i64 y) (by unfold ints64; rw [List.getElem?_map, hy]; rfl)
  exact ⟨by rwa [show (⟨g3, 0, none⟩ : Addr).add p = ⟨g3, p, none⟩ from by unfold Addr.add; split <;> simp_all] at this, h.out.frozenAt p, (h.out.lt _ rfl).2⟩
theorem WhE.step (h : WhE gb g1 c1 g3 c3 q L Q j w0 w) {p : Nat} (hx : L[j]? = some (p : Int)) {y : Int} (hy : (bump Q (L.take j))[p]? = some y) : WhE gb g1 c1 g3 c3 q L Q (j + 1) w0 (w.setCell ⟨g3, p, none⟩ (.int .i64 (y + 1))) := by
  refine ⟨own_same h.row fun k hk => ?_, ?_, h.bel.setCell (p := ⟨g3, p, none⟩) (by have := (h.out.lt g3 rfl).1; show gb ≤ g3; omega) _⟩
  · have e : g1 = k := by simpa [Value.ownBlock] using hk
    subst e
    exact Below.heap_setCell _ _ _ _ (fun e => h.ne e)
  · rw [bump_take hx, Int.toNat_natCast, List.getD_eq_getElem?_getD, hy]
    have := (h.out.stored p (.int .i64 (y + 1))).1
    unfold ints64 at this ⊢
    rwa [List.map_set]
end
end Go.Proofs.Ytfjoakhcgpckgaa
