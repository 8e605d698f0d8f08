/- A row of one cell each that is taken from its front and grows at its end ('todo = todo[1:]', 'append(todo, x)'). -/
import Derived.Test.YtfjoakhcgpckgaaOwn
namespace Go.Proofs.Ytfjoakhcgpckgaa
open Go.ChangeShapes Go.WideShapes Go.ChangeAt Go.RowKit
set_option linter.unusedVariables false
/-- a row of the call's own, from somewhere in its block on -/
def midRow (w : World) (base : Nat) (e : TypeId) (v : Value) (xs : List Value) : Prop :=
  (v = .slice none 0 0 ∧ xs = []) ∨ ∃ g off cap cur, v = .slice (some ⟨g, off, none⟩) xs.length cap ∧ base ≤ g ∧ w.heap[g]? = some (.cells cur e (0, 0)) ∧ xs.length ≤ cap ∧ cap ≤ maxLen ∧ off + cap ≤ cur.size ∧ ∀ i u, xs[i]? = some u → cur[off + i]? = some u
theorem midRow.below {w w' : World} {base : Nat} {e : TypeId} {v : Value} {xs : List Value} (h : midRow w base e v xs) (hb : Below w.heap.size w w') : midRow w' base e v xs := by
  rcases h with h | ⟨g, off, cap, cur, h1, h2, h3, h4⟩
  · exact .inl h
  · exact .inr ⟨g, off, cap, cur, h1, h2, by rw [hb.block g (Array.getElem?_eq_some_iff.1 h3).1]; exact h3, h4⟩
theorem midRow.low {w : World} {base base' : Nat} {e : TypeId} {v : Value} {xs : List Value} (h : midRow w base e v xs) (hb : base' ≤ base) : midRow w base' e v xs := by
  rcases h with h | ⟨g, off, cap, cur, h1, h2, h3⟩
  · exact .inl h
  · exact .inr ⟨g, off, cap, cur, h1, by omega, h3⟩
theorem midRow.setCell {w : World} {base : Nat} {e : TypeId} {v : Value} {xs : List Value} (h : midRow w base e v xs) {a : Addr} (ha : a.block < base) (u : Value) : midRow (w.setCell a u) base e v xs := by
  rcases h with h | ⟨g, off, cap, cur, h1, h2, h3, h4⟩
  · exact .inl h
  · exact .inr ⟨g, off, cap, cur, h1, h2, by rw [Below.heap_setCell w a u g (by omega)]; exact h3, h4⟩
theorem midRow.ownBlock {w : World} {base : Nat} {e : TypeId} {v : Value} {xs : List Value} (h : midRow w base e v xs) : ∀ k, v.ownBlock = some k → base ≤ k ∧ k < w.heap.size := fun k hk => by
  rcases h with ⟨rfl, _⟩ | ⟨g, off, cap, cur, rfl, h2, h3, _⟩
  · simp [Value.ownBlock] at hk
  · simp [Value.ownBlock] at hk
    subst hk
    exact ⟨h2, (Array.getElem?_eq_some_iff.1 h3).1⟩
/-- the first of them -/
theorem midRow.head {w : World} {base : Nat} {e : TypeId} {v : Value} {x : Value} {xs : List Value} (h : midRow w base e v (x :: xs)) :
    ∃ g off cap, v = .slice (some ⟨g, off, none⟩) (xs.length + 1) cap ∧ xs.length + 1 ≤ cap ∧ g < w.heap.size ∧ w.cell? ⟨g, off, none⟩ = some x ∧ midRow w base e (.slice (some (if cap = 1 then ⟨g, off, none⟩ else ⟨g, off + 1, none⟩)) xs.length (cap - 1)) xs := by
  rcases h with ⟨_, h⟩ | ⟨g, off, cap, cur, rfl, h2, h3, h4, h5, h6, h7⟩
  · cases h
  · simp only [List.length_cons] at h4 ⊢
    refine ⟨g, off, cap, rfl, h4, (Array.getElem?_eq_some_iff.1 h3).1, ?_, ?_⟩
    · rw [cell_of_row w g off cur e (0, 0) h3]
      exact h7 0 x rfl
    · by_cases e : cap = 1
      · rw [if_pos e]
        have hx : xs = [] := List.eq_nil_of_length_eq_zero (by omega)
        subst hx
        exact .inr ⟨g, off, cap - 1, cur, rfl, h2, h3, by simp, by omega, by omega, fun i u hu => by simp at hu⟩
      · rw [if_neg e]
        exact .inr ⟨g, off + 1, cap - 1, cur, rfl, h2, h3, by omega, by omega, by omega, fun i u hu => by
          rw [show off + 1 + i = off + (i + 1) from by omega]
          exact h7 (i + 1) u (by simpa using hu)⟩
theorem run_push_mid {P : Program} (w : World) (t ty : TypeId) (base : Nat) (e : TypeId) (i : TypeInfo) (z : Value) (bytes : Nat) (ht : P.underlying t = some (.slice e)) (hi : P.info? e = some i) (hz : i.zero = some z)
    (hsize : i.size = 1) (hby : i.bytes = bytes) (hzs : z.cells.size = 1) (v : Value) (xs : List Value) (hown : midRow w base e v xs)
    (ad : Addr) (u : Value) (hu : w.cell? ad = some u) (hsp : ad.spot = none) (h1 : u.oneCell' = true)
    (h63 : xs.length + 1 ≤ maxLen) (hbytes : (xs.length + 1) * bytes ≤ 140737488355328) (hbase : base ≤ w.heap.size) :
    ∃ g off cap w', (Builtin.append_ #[t, t] ty #[v, .slice (some ad) 1 1]).run P w = .ok (.slice (some ⟨g, off, none⟩) (xs.length + 1) cap) w' ∧ midRow w' base e (.slice (some ⟨g, off, none⟩) (xs.length + 1) cap) (xs ++ [u]) ∧ w.grownBy w' v.ownBlock := by
  have hsmall : xs.length + 1 ≤ 9223372036854775807 := by simp only [maxLen] at h63; omega
  have hnews : ∀ j x, [u][j]? = some x → w.cell? (ad.add j) = some x := fun j x hx => by
    have hj : j = 0 := by have := (List.getElem?_eq_some_iff.1 hx).1; simp at this; omega
    subst hj
    simp at hx
    subst hx
    have : ad.add 0 = ad := by unfold Addr.add; simp
    rw [this]; exact hu
  rcases hown with ⟨rfl, rfl⟩ | ⟨g, off, cap, cur, rfl, h2, h3, h4, h5, h6, h7⟩
  · have hr := run_append_nil (P := P) w t ty e i z ht hi hz ad 1 1 [u] (by rw [hsize]; rfl) hnews (by omega) (by omega) (by have hb := hbytes; simp only [List.length_nil, Nat.zero_add, Nat.one_mul] at hb; rw [hby]; omega)
    have hge := grownCap_ge w 1 0 e
    refine ⟨w.heap.size, 0, _, _, hr, .inr ⟨w.heap.size, 0, _, _, rfl, hbase, heap_alloc_new w.drew _, ?_, grownCap_le_maxLen w 1 0 e (by simp [maxLen]), ?_, ?_⟩, ⟨rfl, rfl, rfl, by simp, fun k hk _ => Below.heap_alloc w.drew _ k hk⟩⟩
    · exact hge
    · simp only [Array.size_append, List.size_toArray, size_zeroCells, hzs, List.length_singleton]; omega
    · intro i x hx
      have hi0 : i = 0 := by have := (List.getElem?_eq_some_iff.1 hx).1; simp at this; omega
      subst hi0
      simp at hx
      subst hx
      rw [Array.getElem?_append_left (by simp)]
      rfl
  · by_cases hroom : xs.length + 1 ≤ cap
    · have hf := run_firstCells_some (P := P) w i.size 1 ad 1 1 [u] (by rw [hsize]; rfl) hnews
      have hst := run_storeCells_at P g (off + xs.length) e [u] 0 cur w h3 (by simp; omega) (by simpa using h1)
      have hrun : (Builtin.append_ #[t, t] ty #[.slice (some ⟨g, off, none⟩) xs.length cap, .slice (some ad) 1 1]).run P w =
          .ok (.slice (some ⟨g, off, none⟩) (xs.length + 1) cap) (w.setRow g (cur.toList.take (off + xs.length + 0) ++ [u] ++ cur.toList.drop (off + xs.length + 0 + [u].length)).toArray) := by
        rw [hsize] at hf
        have hadd : (⟨g, off, none⟩ : Addr).add xs.length = ⟨g, off + xs.length, none⟩ := by unfold Addr.add; split <;> simp_all
        simp [Builtin.append_, run_underlying ht, sizeOf, typeInfo, hi, Builtin.lenOf, hroom, hf, hadd, hsize, hst]
      refine ⟨g, off, cap, _, hrun, .inr ⟨g, off, cap, _, by simp, h2, setRow_heap w g cur _ e _ h3, by simp; omega, h5, ?_, ?_⟩, ⟨rfl, rfl, rfl, by simp, fun k _ hk => setRow_other w g k _ (fun e => hk (by simp [Value.ownBlock, e]))⟩⟩
      · simp; omega
      · intro j x hx
        simp only [Nat.add_zero, List.length_singleton, List.getElem?_toArray]
        by_cases hj : j < xs.length
        · rw [List.getElem?_append_left hj] at hx
          have := h7 j x hx
          rw [List.append_assoc, List.getElem?_append_left (by simp; omega), List.getElem?_take, if_pos (by omega)]
          simpa using this
        · have hje : j = xs.length := by have := (List.getElem?_eq_some_iff.1 hx).1; simp at this; omega
          subst hje
          simp at hx
          subst hx
          have hl : (cur.toList.take (off + xs.length)).length = off + xs.length := by simp; omega
          rw [List.append_assoc, List.getElem?_append_right (by omega), hl]
          simp
    · have holds : ∀ j x, xs[j]? = some x → w.cell? ((⟨g, off, none⟩ : Addr).add j) = some x := fun j x hx => by
        have hadd : (⟨g, off, none⟩ : Addr).add j = ⟨g, off + j, none⟩ := by unfold Addr.add; split <;> simp_all
        rw [hadd, cell_of_row w g (off + j) cur e (0, 0) h3]
        exact h7 j x hx
      have hr := run_append_grow (P := P) w t ty e i z ht hi hz ⟨g, off, none⟩ xs.length cap xs (by rw [hsize]; omega) holds ad 1 1 [u] (by rw [hsize]; rfl) hnews (by omega) (by omega) (growslice_fits (by omega) (by rw [hby]; exact hbytes))
      have hge := grownCap_ge w (xs.length + 1) cap e
      refine ⟨w.heap.size, 0, _, _, hr, .inr ⟨w.heap.size, 0, _, _, by simp, hbase, heap_alloc_new w.drew _, by simp; omega, grownCap_le_maxLen w (xs.length + 1) cap e h63, ?_, ?_⟩, ⟨rfl, rfl, rfl, by simp, fun k hk _ => Below.heap_alloc w.drew _ k hk⟩⟩
      · simp only [Array.size_append, List.size_toArray, size_zeroCells, hzs, List.length_singleton]; omega
      · intro j x hx
        have hj := (List.getElem?_eq_some_iff.1 hx).1
        rw [Nat.zero_add, Array.getElem?_append_left (by simpa using hj)]
        simpa using hx
/-- 'out = append(out, u)' at such a row: u lies in the block that was made last -/
theorem wpList_push_mid {P : Program} (w : World) {ops : Array Oper} {rest : List Oper} {o : Oper} {a : Act} {Q : Exit → Act → World → Prop} (hgd : o.guard = none) (s x : Operand) (t : TypeId)
    (ho : o.op = .call { callee := .builtin .append, args := #[s, x], argTypes := #[t, t] })
    (base : Nat) (e : TypeId) (z : Value) (bytes : Nat) (ht : P.underlying t = some (.slice e)) (hinfo : (P.info? e).map (fun i => (i.zero, i.size, i.bytes)) = some (some z, 1, bytes)) (hz1 : z.cells.size = 1)
    (v : Value) (xs : List Value) (u : Value) (H : Nat) (hH : w.heap.size = H) (hs : a.eval s = v) (hown : midRow w base e v xs) (hx : a.eval x = .slice (some ⟨H, 0, none⟩) 1 1) (hu : u.oneCell' = true)
    (h63 : xs.length + 1 ≤ maxLen) (hbytes : (xs.length + 1) * bytes ≤ 140737488355328) (hbase : base ≤ w.heap.size)
    (h : ∀ g off cap w', midRow w' base e (.slice (some ⟨g, off, none⟩) (xs.length + 1) cap) (xs ++ [u]) → w.grownBy w' v.ownBlock → wpList P ops Q rest (a.put o.dst (.slice (some ⟨g, off, none⟩) (xs.length + 1) cap)) w') : wpList P ops Q (o :: rest) a (w.alloc (.cells #[u] e)) := by
  obtain ⟨i, hi, hz0, hzs, hzb⟩ := info_parts hinfo
  subst hH
  refine wpList_plain hgd fun K hK' => ?_
  have hu' : (w.alloc (.cells #[u] e)).cell? ⟨w.heap.size, 0, none⟩ = some u := by
    rw [cell_of_row _ _ 0 #[u] e (0, 0) (heap_alloc_new w _)]; rfl
  have hown' : midRow (w.alloc (.cells #[u] e)) base e v xs := hown.below ((Below.refl _ _).alloc (Nat.le_refl _) _)
  obtain ⟨g, off, cap, w', hr, h2, h3⟩ := run_push_mid (P := P) (w.alloc (.cells #[u] e)) t o.type base e i z bytes ht hi hz0 hzs hzb hz1 v xs hown' ⟨w.heap.size, 0, none⟩ u hu' rfl hu h63 hbytes (by simp; omega)
  unfold Oper.wp execOp
  simp only [ho, resolve, invoke, builtin, Sem.run_bind, Sem.run_pure, Result.andThen_ok, List.map_toArray, List.map_cons, List.map_nil, hs, hx, hr]
  exact hK' _ _ (h g off cap w' h2 (grownBy_alloc_trans h3))
end Go.Proofs.Ytfjoakhcgpckgaa
