/- Rows that a call makes and grows: what stays of them, how they read, an append of one thing. -/
import Derived.Test.YtdbipmidjdhjpaaBase
import Derived.Deep.AppendLies
import Derived.Deep.OwnRows
import Derived.OwnWalk
namespace Go.Proofs.Ytdbipmidjdhjpaa
open Go.ChangeShapes Go.WideShapes Go.ChangeAt Go.RowKit
set_option linter.unusedVariables false
/-- cells one behind the other, at an address -/
def Vals (w : World) (a : Option Addr) (xs : List Value) : Prop := 0 < xs.length → ∃ b off, a = some ⟨b, off, none⟩ ∧ b < w.heap.size ∧ ∀ i v, xs[i]? = some v → w.cell? ⟨b, off + i, none⟩ = some v
theorem Vals.below {w w' : World} {a : Option Addr} {xs : List Value} (h : Vals w a xs) {B : Nat} (hb : Below B w w') (hB : w.heap.size ≤ B) : Vals w' a xs := fun hl => by
  obtain ⟨b, off, e, h1, h2⟩ := h hl
  exact ⟨b, off, e, Nat.lt_of_lt_of_le h1 hb.size, fun i v hi => (hb.cell (p := ⟨b, _, none⟩) (by show b < B; omega)).trans (h2 i v hi)⟩
theorem Vals.nil (w : World) (a : Option Addr) : Vals w a [] := fun h => absurd h (by simp)
/-- a slice value that reads as a list of cells of one each -/
def IsVals (w : World) (v : Value) (xs : List Value) : Prop := ∃ a cap, v = .slice a xs.length cap ∧ Vals w a xs
theorem IsVals.below {w w' : World} {v : Value} {xs : List Value} (h : IsVals w v xs) {B : Nat} (hb : Below B w w') (hB : w.heap.size ≤ B) : IsVals w' v xs := by
  obtain ⟨a, cap, e, h2⟩ := h
  exact ⟨a, cap, e, h2.below hb hB⟩
theorem IsVals.empty (w : World) : IsVals w (.slice none 0 0) [] := ⟨none, 0, rfl, Vals.nil _ _⟩
theorem IsVals.own {w : World} {base n : Nat} {e : TypeId} {v : Value} {xs : List Value} (h : w.ownsRow base e 1 v n xs) : IsVals w v xs := by
  have hl : xs.length = n := by simpa using h.1
  rcases h.2 with ⟨rfl, rfl⟩ | ⟨g, cap, cur, rfl, hb, hg, hn, hc, hs, ht⟩
  · have : xs = [] := List.eq_nil_of_length_eq_zero hl
    subst this
    exact .empty _
  · refine ⟨_, cap, by rw [hl], fun hp => ⟨g, 0, rfl, (Array.getElem?_eq_some_iff.1 hg).1, fun i x hi => ?_⟩⟩
    have := h.cells (g := g) rfl i x hi
    rw [Nat.zero_add]
    rwa [show (⟨g, 0, none⟩ : Addr).add i = ⟨g, i, none⟩ from by unfold Addr.add; split <;> simp_all] at this
theorem rowIs_lt {w : World} {b : Nat} {t : TypeId} {n : Nat} {f : Nat → Value} (h : w.rowIs b t n f) : b < w.heap.size := h.lt
theorem rowIs_below {w w' : World} {b : Nat} {t : TypeId} {n : Nat} {f : Nat → Value} (h : w.rowIs b t n f) {B : Nat} (hb : Below B w w') (hB : b < B) : w'.rowIs b t n f := h.of_block (hb.block b hB)
theorem rowIs_grown {w w' : World} {b : Nat} {t : TypeId} {n : Nat} {f : Nat → Value} (h : w.rowIs b t n f) {row : Option Nat} (hg : w.grownBy w' row) (hr : some b ≠ row) : w'.rowIs b t n f := h.of_block (hg.block b h.lt hr)
theorem IsVals.row {w : World} {b : Nat} {t : TypeId} {n cap : Nat} {f : Nat → Value} (h : w.rowIs b t n f) : IsVals w (.slice (some ⟨b, 0, none⟩) n cap) ((List.range n).map f) := by
  refine ⟨_, cap, by simp, fun hp => ⟨b, 0, rfl, h.lt, fun i x hi => ?_⟩⟩
  have hi2 : i < n := by
    have := (List.getElem?_eq_some_iff.1 hi).1
    simpa using this
  rw [List.getElem?_map, List.getElem?_range hi2] at hi
  simp only [Option.map_some, Option.some.injEq] at hi
  rw [Nat.zero_add, ← hi]
  exact h.cell hi2
theorem ownsRow_below {w w' : World} {base n size : Nat} {e : TypeId} {v : Value} {xs : List Value} (h : w.ownsRow base e size v n xs) (hb : Below w.heap.size w w') : w'.ownsRow base e size v n xs := by
  refine ⟨h.1, ?_⟩
  rcases h.2 with hn | ⟨g, cap, cur, rfl, hbg, hg, rest⟩
  · exact .inl hn
  · refine .inr ⟨g, cap, cur, rfl, hbg, ?_, rest⟩
    rw [hb.block g (Array.getElem?_eq_some_iff.1 hg).1]
    exact hg
theorem ownsRow_low {w : World} {base n size : Nat} {e : TypeId} {v : Value} {xs : List Value} (h : w.ownsRow base e size v n xs) {base' : Nat} (hb : base' ≤ base) : w.ownsRow base' e size v n xs := by
  refine ⟨h.1, ?_⟩
  rcases h.2 with hn | ⟨g, cap, cur, rfl, hbg, rest⟩
  · exact .inl hn
  · exact .inr ⟨g, cap, cur, rfl, by omega, rest⟩
theorem grownBy_alloc_trans {w w' : World} {o : Obj} {row : Option Nat} (h : (w.alloc o).grownBy w' row) : w.grownBy w' row :=
  ⟨h.os, h.tape, h.output, by have := h.size; simp at this; omega, fun k hk hr => (h.block k (by simp; omega) hr).trans (Below.heap_alloc w o k hk)⟩
theorem ownBlock_ge {w : World} {base n size : Nat} {e : TypeId} {v : Value} {xs : List Value} (h : w.ownsRow base e size v n xs) {B : Nat} (hB : B ≤ base) : ∀ k, v.ownBlock = some k → B ≤ k := fun k hk => by have := (h.lt k hk).1; omega
theorem ownBlock_ne {w : World} {base n size : Nat} {e : TypeId} {v : Value} {xs : List Value} (h : w.ownsRow base e size v n xs) {B : Nat} (hB : B < base) : some B ≠ v.ownBlock := fun hk => by have := (h.lt B hk.symm).1; omega
theorem rowIs_made_at (w : World) (z : Value) (n : Nat) (t : TypeId) {H : Nat} (h : w.heap.size = H) : (w.alloc (.cells (madeCells #[z] n) t)).rowIs H t n (fun _ => z) := h ▸ World.rowIs_made w z n t
/-- 'out = append(out, u)', one cell: u lies in the block that was made last -/
theorem wpList_push {P : Program} (w : World) {ops : Array Oper} {rest : List Oper} {o : Oper} {a : Act} {Q : Exit → Act → World → Prop} (hgd : o.guard = none) (s x : Operand) (t : TypeId)
    (ho : o.op = .call { callee := .builtin .append, args := #[s, x], argTypes := #[t, t] })
    (base : Nat) (e : TypeId) (z : Value) (bytes : Nat) (ht : P.underlying t = some (.slice e)) (hinfo : (P.info? e).map (fun i => (i.zero, i.size, i.bytes)) = some (some z, 1, bytes)) (hz1 : z.cells.size = 1)
    (v : Value) (n : Nat) (xs : List Value) (u : Value) (H : Nat) (hH : w.heap.size = H) (hs : a.eval s = v) (hown : w.ownsRow base e 1 v n xs) (hx : a.eval x = .slice (some ⟨H, 0, none⟩) 1 1) (hu : u.oneCell' = true)
    (h63 : n + 1 ≤ maxLen) (hbytes : (n + 1) * bytes ≤ 140737488355328) (hbase : base ≤ w.heap.size)
    (h : ∀ g cap w', w'.ownsRow base e 1 (.slice (some ⟨g, 0, none⟩) (n + 1) cap) (n + 1) (xs ++ [u]) → w.grownBy w' v.ownBlock → base ≤ g → g < w'.heap.size → wpList P ops Q rest (a.put o.dst (.slice (some ⟨g, 0, none⟩) (n + 1) cap)) w') : wpList P ops Q (o :: rest) a (w.alloc (.cells #[u] e)) := by
  obtain ⟨i, hi, hz0, hzs, hzb⟩ := info_parts hinfo
  subst hH
  refine wpList_append_lies (w.alloc (.cells #[u] e)) hgd s x t ho base e i z 1 bytes ht hi hz0 hzs hzb hz1 (by decide) v n xs hs (hown.alloc _) ⟨w.heap.size, 0, none⟩ 1 1 [u] hx rfl ?_ (by simpa using hu) (by decide) h63 hbytes (by simp; omega) _ rfl ?_
  · have := World.news_of_block (heap_alloc_new w (.cells #[u] e))
    exact this
  · intro g cap w' h1 h2 h3 h4
    have : base ≤ g := by
      obtain ⟨g', cap', e1, e2, _⟩ := h1.form (by omega)
      simp only [Value.slice.injEq, Option.some.injEq, Addr.mk.injEq, and_true, true_and] at e1
      omega
    exact h g cap w' h1 (grownBy_alloc_trans h2) this h4
end Go.Proofs.Ytdbipmidjdhjpaa
