/- Rows that a call makes and grows: what stays of them, how they read, an append of one thing. -/
import Derived.Test.YtjoejdpoehpkiaaBase
import Derived.Deep.AppendLies
import Derived.Deep.OwnRows
import Derived.OwnWalk
namespace Go.Proofs.Ytjoejdpoehpkiaa
open Go.ChangeShapes Go.WideShapes Go.ChangeAt Go.RowKit
set_option linter.unusedVariables false
/-- cells one behind the other, at an address -/
def Vals (w : World) (a : Option Addr) (xs : List Value) : Prop := 0 < xs.length → ∃ b off, a = some ⟨b, off, none⟩ ∧ b < w.heap.size ∧ ∀ i v, xs[i]? = some v → w.cell? ⟨b, off + i, none⟩ = some v
theorem Vals.below {w w' : World} {a : Option Addr} {xs : List Value} (h : Vals w a xs) {B : Nat} (hb : Below B w w') (hB : w.heap.size ≤ B) : Vals w' a xs := fun hl => by
  obtain ⟨b, off, e, h1, h2⟩ := h hl
  exact ⟨b, off, e, Nat.lt_of_lt_of_le h1 hb.size, fun i v hi => (hb.cell (p := ⟨b, _, none⟩) (by show b < B; omega)).trans (h2 i v hi)⟩
theorem Vals.nil (w : World) (a : Option Addr) : Vals w a [] := fun h => absurd h (by simp)
/-- a slice value that reads as a list of cells of one each -/
def IsVals (w : World) (v : Value) (xs : List Value) : Prop := ∃ a cap, v = .slice a xs.length cap ∧ Vals w a xs
theorem IsVals.below {w w' : World} {v : Value} {xs : List Value} (h : IsVals w v xs) {B : Nat} (hb : Below B w w') (hB : w.heap.size ≤ B) : IsVals w' v xs := by
  obtain ⟨a, cap, e, h2⟩ := h
  exact ⟨a, cap, e, h2.below hb hB⟩
theorem IsVals.empty (w : World) : IsVals w (.slice none 0 0) [] := ⟨none, 0, rfl, Vals.nil _ _⟩
theorem IsVals.own {w : World} {base n : Nat} {e : TypeId} {v : Value} {xs : List Value} (h : w.ownsRow base e 1 v n xs) : IsVals w v xs := by
  have hl : xs.length = n := by simpa using h.1
  rcases h.2 with ⟨rfl, rfl⟩ | ⟨g, cap, cur, rfl, hb, hg, hn, hc, hs, ht⟩
  · have : xs = [] := List.eq_nil_of_length_eq_zero hl
    subst this
    exact .empty _
  · refine ⟨_, cap, by rw [hl], fun hp => ⟨g, 0, rfl, (Array.getElem?_eq_some_iff.1 hg).1, fun i x hi => ?_⟩⟩
    have := h.cells (g := g) rfl i x hi
    rw [Nat.zero_add]
    rwa [show (⟨g, 0, none⟩ : Addr).add i = ⟨g, i, none⟩ from by unfold Addr.add; split <;> simp_all] at this
theorem rowIs_lt {w : World} {b : Nat} {t : TypeId} {n : Nat} {f : Nat → Value} (h : w.rowIs b t n f) : b < w.heap.size := h.lt
theorem rowIs_below {w w' : World} {b : Nat} {t : TypeId} {n : Nat} {f : Nat → Value} (h : w.rowIs b t n f) {B : Nat} (hb : Below B w w') (hB : b < B) : w'.rowIs b t n f := h.of_block (hb.block b hB)
theorem rowIs_grown {w w' : World} {b : Nat} {t : TypeId} {n : Nat} {f : Nat → Value} (h : w.rowIs b t n f) {row : Option Nat} (hg : w.grownBy w' row) (hr : some b ≠ row) : w'.rowIs b t n f := h.of_block (hg.block b h.lt hr)
theorem IsVals.row {w : World} {b : Nat} {t : TypeId} {n cap : Nat} {f : Nat → Value} (h : w.rowIs b t n f) : IsVals w (.slice (some ⟨b, 0, none⟩) n cap) ((List.range n).map f) := by
  refine ⟨_, cap, by simp, fun hp => ⟨b, 0, rfl, h.lt, fun i x hi => ?_⟩⟩
  have hi2 : i < n := by
    have := (List.getElem?_eq_some_iff.1 hi).1
    simpa using this
  rw [List.getElem?_map, List.getElem?_range hi2] at hi
  simp only [Option.map_some, Option.some.injEq] at hi
  rw [Nat.zero_add, ← hi]
  exact h.cell hi2
theorem ownsRow_below {w w' : World} {base n size : Nat} {e : TypeId} {v : Value} {xs : List Value} (h : w.ownsRow base e size v n xs) (hb : Below w.heap.size w w') : w'.ownsRow base e size v n xs := by
  refine ⟨h.1, ?_⟩
  rcases h.2 with hn | ⟨g, cap, cur, rfl, hbg, hg, rest⟩
  · exact .inl hn
  · refine .inr ⟨g, cap, cur, rfl, hbg, ?_, rest⟩
    rw [hb.block g (Array.getElem?_eq_some_iff.1 hg).1]
    exact hg
theorem ownsRow_low {w : World} {base n size : Nat} {e : TypeId} {v : Value} {xs : List Value} (h : w.ownsRow base e size v n xs) {base' : Nat} (hb : base' ≤ base) : w.ownsRow base' e size v n xs := by
  refine ⟨h.1, ?_⟩
  rcases h.2 with hn | ⟨g, cap, cur, rfl, hbg, rest⟩
  · exact .inl hn
  · exact .inr ⟨g, cap, cur, rfl, by omega, rest⟩
theorem grownBy_alloc_trans {w w' : World} {o : Obj} {row : Option Nat} (h : (w.alloc o).grownBy w' row) : w.grownBy w' row :=
  ⟨h.os, h.tape, h.output, by have := h.size; simp at this; omega, fun k hk hr => (h.block k (by simp; omega) hr).trans (Below.heap_alloc w o k hk)⟩
theorem ownBlock_ge {w : World} {base n size : Nat} {e : TypeId} {v : Value} {xs : List Value} (h : w.ownsRow base e size v n xs) {B : Nat} (hB : B ≤ base) : ∀ k, v.ownBlock = some k → B ≤ k := fun k hk => by have := (h.lt k hk).1; omega
theorem ownBlock_ne {w : World} {base n size : Nat} {e : TypeId} {v : Value} {xs : List Value} (h : w.ownsRow base e size v n xs) {B : Nat} (hB : B < base) : some B ≠ v.ownBlock := fun hk => by have := (h.lt B hk.symm).1; omega
theorem rowIs_made_at (w : World) (z : Value) (n : Nat) (t : TypeId) {H : Nat} (h : w.heap.size = H) : (w.alloc (.cells (madeCells #[z] n) t)).rowIs H t n (fun _ => z) := h ▸ World.rowIs_made w z n t
/-- 'out = append(out, u)', one cell: u lies in the block that was made last -/
theorem wpList_push {P : Program} (w : World) {ops : Array Oper} {rest : List Oper} {o : Oper} {a : Act} {Q : Exit → Act → World → Prop} (hgd : o.guard = none) (s x : Operand) (t : TypeId)
    (ho : o.op = .call { callee := .builtin .append, args := #[s, x], argTypes := #[t, t] })
    (base : Nat) (e : TypeId) (z : Value) (bytes : Nat) (ht : P.underlying t = some (.slice e)) (hinfo : (P.info? e).map (fun i => (i.zero, i.size, i.bytes)) = some (some z, 1, bytes)) (hz1 : z.cells.size = 1)
    (v : Value) (n : Nat) (xs : List Value) (u : Value) (H : Nat) (hH : w.heap.size = H) (hs : a.eval s = v) (hown : w.ownsRow base e 1 v n xs) (hx : a.eval x = .slice (some ⟨H, 0, none⟩) 1 1) (hu : u.oneCell' = true)
    (h63 : n + 1 ≤ maxLen) (hbytes : (n + 1) * bytes ≤ 140737488355328) (hbase : base ≤ w.heap.size)
    (h : ∀ g cap w', w'.ownsRow base e 1 (.slice (some ⟨g, 0, none⟩) (n + 1) cap) (n + 1) (xs ++ [u]) → w.grownBy w' v.ownBlock → (v.ownBlock = some g ∨ w.heap.size ≤ g) → g < w'.heap.size → wpList P ops Q rest (a.put o.dst (.slice (some ⟨g, 0, none⟩) (n + 1) cap)) w') : wpList P ops Q (o :: rest) a (w.alloc (.cells #[u] e)) := by
  obtain ⟨i, hi, hz0, hzs, hzb⟩ := info_parts hinfo
  subst hH
  refine wpList_append_lies (w.alloc (.cells #[u] e)) hgd s x t ho base e i z 1 bytes ht hi hz0 hzs hzb hz1 (by decide) v n xs hs (hown.alloc _) ⟨w.heap.size, 0, none⟩ 1 1 [u] hx rfl ?_ (by simpa using hu) (by decide) h63 hbytes (by simp; omega) _ rfl ?_
  · have := World.news_of_block (heap_alloc_new w (.cells #[u] e))
    exact this
  · intro g cap w' h1 h2 h3 h4
    exact h g cap w' h1 (grownBy_alloc_trans h2) (h3.imp id fun e => by rw [e]; simp) h4
/-- 'out = append(out, u)', a struct of some cells: they lie in the block that was made last -/
theorem wpList_pushN {P : Program} (w : World) {ops : Array Oper} {rest : List Oper} {o : Oper} {a : Act} {Q : Exit → Act → World → Prop} (hgd : o.guard = none) (s x : Operand) (t : TypeId)
    (ho : o.op = .call { callee := .builtin .append, args := #[s, x], argTypes := #[t, t] })
    (base : Nat) (e : TypeId) (z : Value) (size bytes : Nat) (ht : P.underlying t = some (.slice e)) (hinfo : (P.info? e).map (fun i => (i.zero, i.size, i.bytes)) = some (some z, size, bytes)) (hz1 : z.cells.size = size) (hsz : 0 < size)
    (v : Value) (n : Nat) (xs us : List Value) (H : Nat) (hH : w.heap.size = H) (hs : a.eval s = v) (hown : w.ownsRow base e size v n xs) (hx : a.eval x = .slice (some ⟨H, 0, none⟩) 1 1) (hul : us.length = size) (hu : ∀ u ∈ us, u.oneCell' = true)
    (h63 : n + 1 ≤ maxLen) (hbytes : (n + 1) * bytes ≤ 140737488355328) (hbase : base ≤ w.heap.size)
    (h : ∀ g cap w', w'.ownsRow base e size (.slice (some ⟨g, 0, none⟩) (n + 1) cap) (n + 1) (xs ++ us) → w.grownBy w' v.ownBlock → (v.ownBlock = some g ∨ w.heap.size ≤ g) → g < w'.heap.size → wpList P ops Q rest (a.put o.dst (.slice (some ⟨g, 0, none⟩) (n + 1) cap)) w') : wpList P ops Q (o :: rest) a (w.alloc (.cells us.toArray e)) := by
  obtain ⟨i, hi, hz0, hzs, hzb⟩ := info_parts hinfo
  subst hH
  refine wpList_append_lies (w.alloc (.cells us.toArray e)) hgd s x t ho base e i z size bytes ht hi hz0 hzs hzb hz1 hsz v n xs hs (hown.alloc _) ⟨w.heap.size, 0, none⟩ 1 1 us hx (by omega) ?_ hu (by decide) h63 hbytes (by simp; omega) _ rfl ?_
  · have := World.news_of_block (heap_alloc_new w (.cells us.toArray e))
    exact this
  · intro g cap w' h1 h2 h3 h4
    exact h g cap w' h1 (grownBy_alloc_trans h2) (h3.imp id fun e => by rw [e]; simp) h4
/-- a slice value that reads as a row of structs of some cells each -/
def IsRow (w : World) (v : Value) (n : Nat) (xs : List Value) : Prop := ∃ a cap, v = .slice a n cap ∧ Vals w a xs
theorem IsRow.below {w w' : World} {v : Value} {n : Nat} {xs : List Value} (h : IsRow w v n xs) {B : Nat} (hb : Below B w w') (hB : w.heap.size ≤ B) : IsRow w' v n xs := by
  obtain ⟨a, cap, e, h2⟩ := h
  exact ⟨a, cap, e, h2.below hb hB⟩
theorem IsRow.own {w : World} {base n size : Nat} {e : TypeId} {v : Value} {xs : List Value} (hsz : 0 < size) (h : w.ownsRow base e size v n xs) : IsRow w v n xs := by
  rcases h.2 with ⟨rfl, rfl⟩ | ⟨g, cap, cur, rfl, hb, hg, hn, hc, hs, ht⟩
  · have : xs = [] := List.eq_nil_of_length_eq_zero (by have := h.1; omega)
    subst this
    exact ⟨_, _, rfl, Vals.nil _ _⟩
  · refine ⟨_, cap, rfl, fun hp => ⟨g, 0, rfl, (Array.getElem?_eq_some_iff.1 hg).1, fun i x hi => ?_⟩⟩
    have := h.cells (g := g) rfl i x hi
    rw [Nat.zero_add]
    rwa [show (⟨g, 0, none⟩ : Addr).add i = ⟨g, i, none⟩ from by unfold Addr.add; split <;> simp_all] at this
/-- a grown row of the call's own, by its indices -/
def ownF (w : World) (H g cap n : Nat) (E : TypeId) (f : Nat → Value) : Prop := w.ownsRow H E 1 (.slice (some ⟨g, 0, none⟩) n cap) n ((List.range n).map f)
theorem ownF.cell {w : World} {H g cap n : Nat} {E : TypeId} {f : Nat → Value} (h : ownF w H g cap n E f) {i : Nat} (hi : i < n) : w.cell? ⟨g, i, none⟩ = some (f i) := by
  have := h.cells (g := g) rfl i (f i) (by rw [List.getElem?_map, List.getElem?_range hi]; rfl)
  rwa [show (⟨g, 0, none⟩ : Addr).add i = ⟨g, i, none⟩ from by unfold Addr.add; split <;> simp_all] at this
theorem ownF.frozen {w : World} {H g cap n : Nat} {E : TypeId} {f : Nat → Value} (h : ownF w H g cap n E f) (i : Nat) : w.frozen? ⟨g, i, none⟩ = false := h.frozenAt i
theorem ownF.congr {w : World} {H g cap n : Nat} {E : TypeId} {f f' : Nat → Value} (h : ownF w H g cap n E f) (e : ∀ i, i < n → f i = f' i) : ownF w H g cap n E f' := by
  unfold ownF
  rw [← List.map_congr_left fun i hi => e i (List.mem_range.1 hi)]
  exact h
theorem ownF.set {w : World} {H g cap n : Nat} {E : TypeId} {f : Nat → Value} (h : ownF w H g cap n E f) (i : Nat) (u : Value) : ownF (w.setCell ⟨g, i, none⟩ u) H g cap n E (fun j => if j = i then u else f j) := by
  have := (h.stored i u).1
  unfold ownF
  rwa [show ((List.range n).map f).set i u = (List.range n).map (fun j => if j = i then u else f j) from by
    apply List.ext_getElem?
    intro j
    rw [List.getElem?_set]
    by_cases hj : j < n
    · by_cases e : i = j
      · subst e; simp [hj]
      · have : j ≠ i := fun h => e h.symm
        rw [if_neg e, List.getElem?_map, List.getElem?_map, List.getElem?_range hj]
        simp [this]
    · have hj2 : ¬ i = j ∨ ¬ i < n := by omega
      rw [List.getElem?_eq_none (l := (List.range n).map (fun j => if j = i then u else f j)) (by simp; omega)]
      split
      · split
        · rename_i h1 h2; simp at h2; omega
        · rfl
      · exact List.getElem?_eq_none (by simp; omega)] at this
theorem ownF.below {w w' : World} {H g cap n : Nat} {E : TypeId} {f : Nat → Value} (h : ownF w H g cap n E f) (hb : Below w.heap.size w w') : ownF w' H g cap n E f := ownsRow_below h hb
theorem ownF.drew {w : World} {H g cap n : Nat} {E : TypeId} {f : Nat → Value} (h : ownF w H g cap n E f) : ownF w.drew H g cap n E f := h
theorem ownF.lt {w : World} {H g cap n : Nat} {E : TypeId} {f : Nat → Value} (h : ownF w H g cap n E f) : H ≤ g ∧ g < w.heap.size := World.ownsRow.lt h g rfl
theorem ownF.vals {w : World} {H g cap n : Nat} {E : TypeId} {f : Nat → Value} (h : ownF w H g cap n E f) : IsVals w (.slice (some ⟨g, 0, none⟩) n cap) ((List.range n).map f) := IsVals.own h
end Go.Proofs.Ytjoejdpoehpkiaa
