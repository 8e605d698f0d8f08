/- A row of structs of some cells each that lies somewhere in its block and may have room behind it; an append of one struct. -/
import Derived.Test.YtjoejdpoehpkiaaOwn
namespace Go.Proofs.Ytjoejdpoehpkiaa
open Go.ChangeShapes Go.WideShapes Go.ChangeAt Go.RowKit
set_option linter.unusedVariables false
def spanRow (w : World) (base : Nat) (e : TypeId) (size : Nat) (v : Value) (n : Nat) (xs : List Value) : Prop :=
  (v = .slice none 0 0 ∧ n = 0 ∧ xs = []) ∨ ∃ g off cap cur, v = .slice (some ⟨g, off, none⟩) n cap ∧ base ≤ g ∧ w.heap[g]? = some (.cells cur e (0, 0)) ∧ n ≤ cap ∧ cap ≤ maxLen ∧ off + cap * size ≤ cur.size ∧ xs.length = n * size ∧ ∀ i u, xs[i]? = some u → cur[off + i]? = some u
theorem spanRow.nil (w : World) (base : Nat) (e : TypeId) (size : Nat) : spanRow w base e size (.slice none 0 0) 0 [] := .inl ⟨rfl, rfl, rfl⟩
theorem spanRow.len {w : World} {base : Nat} {e : TypeId} {size : Nat} {v : Value} {n : Nat} {xs : List Value} (h : spanRow w base e size v n xs) : xs.length = n * size := by
  rcases h with ⟨_, rfl, rfl⟩ | ⟨g, off, cap, cur, _, _, _, _, _, _, h7, _⟩
  · simp
  · exact h7
theorem spanRow.form {w : World} {base : Nat} {e : TypeId} {size : Nat} {v : Value} {n : Nat} {xs : List Value} (h : spanRow w base e size v n xs) : ∃ a cap, v = .slice a n cap ∧ n ≤ cap ∧ cap ≤ maxLen ∧ (a = none → n = 0 ∧ cap = 0) ∧ (∀ b, a = some b → b.spot = none) ∧ Vals w a xs := by
  rcases h with ⟨rfl, rfl, rfl⟩ | ⟨g, off, cap, cur, rfl, _, h3, h4, h5, h6, h7, h8⟩
  · exact ⟨none, 0, rfl, Nat.le_refl _, Nat.zero_le _, fun _ => ⟨rfl, rfl⟩, fun b e => (by cases e), Vals.nil _ _⟩
  · refine ⟨_, cap, rfl, h4, h5, fun e => (by cases e), fun b e => (by cases e; rfl), fun hp => ⟨g, off, rfl, (Array.getElem?_eq_some_iff.1 h3).1, fun i u hi => ?_⟩⟩
    rw [cell_of_row w g (off + i) cur e (0, 0) h3]
    exact h8 i u hi
theorem spanRow.block {w w' : World} {base : Nat} {e : TypeId} {size : Nat} {v : Value} {n : Nat} {xs : List Value} (h : spanRow w base e size v n xs) (hb : ∀ k, v.ownBlock = some k → w'.heap[k]? = w.heap[k]?) : spanRow w' base e size v n xs := by
  rcases h with h | ⟨g, off, cap, cur, h1, h2, h3, h4⟩
  · exact .inl h
  · exact .inr ⟨g, off, cap, cur, h1, h2, by rw [hb g (by rw [h1]; rfl)]; exact h3, h4⟩
theorem spanRow.lt {w : World} {base : Nat} {e : TypeId} {size : Nat} {v : Value} {n : Nat} {xs : List Value} (h : spanRow w base e size v n xs) : ∀ k, v.ownBlock = some k → base ≤ k ∧ k < w.heap.size := fun k hk => by
  rcases h with ⟨rfl, _⟩ | ⟨g, off, cap, cur, rfl, h2, h3, _⟩
  · simp [Value.ownBlock] at hk
  · simp [Value.ownBlock] at hk
    subst hk
    exact ⟨h2, (Array.getElem?_eq_some_iff.1 h3).1⟩
theorem spanRow.below {w w' : World} {base : Nat} {e : TypeId} {size : Nat} {v : Value} {n : Nat} {xs : List Value} (h : spanRow w base e size v n xs) (hb : Below w.heap.size w w') : spanRow w' base e size v n xs := h.block fun k hk => hb.block k (h.lt k hk).2
theorem spanRow.low {w : World} {base base' : Nat} {e : TypeId} {size : Nat} {v : Value} {n : Nat} {xs : List Value} (h : spanRow w base e size v n xs) (hb : base' ≤ base) : spanRow w base' e size v n xs := by
  rcases h with h | ⟨g, off, cap, cur, h1, h2, h3⟩
  · exact .inl h
  · exact .inr ⟨g, off, cap, cur, h1, by omega, h3⟩
theorem spanRow.own {w : World} {base : Nat} {e : TypeId} {size : Nat} {v : Value} {n : Nat} {xs : List Value} (h : w.ownsRow base e size v n xs) : spanRow w base e size v n xs := by
  rcases h.2 with ⟨rfl, rfl⟩ | ⟨g, cap, cur, rfl, h2, h3, h4, h5, h6, h7⟩
  · have : xs = [] := List.eq_nil_of_length_eq_zero (by have := h.1; omega)
    exact .inl ⟨rfl, rfl, this⟩
  · refine .inr ⟨g, 0, cap, cur, rfl, h2, h3, h4, h5, by omega, h.1, fun i u hi => ?_⟩
    rw [Nat.zero_add]
    have hil := (List.getElem?_eq_some_iff.1 hi).1
    rw [← h7, List.getElem?_take] at hi
    split at hi
    · simpa using hi
    · cases hi
/-- of another kind than a row of this type -/
theorem span_ne {w : World} {base : Nat} {e : TypeId} {size : Nat} {v : Value} {n : Nat} {xs : List Value} (h : spanRow w base e size v n xs) {c : Nat} {t : TypeId} {m : Nat} {f : Nat → Value} (hc : w.rowIs c t m f) (ht : t ≠ e) : v.ownBlock ≠ some c := fun hk => by
  rcases h with ⟨rfl, _⟩ | ⟨g, off, cap, cur, rfl, h2, h3, _⟩
  · simp [Value.ownBlock] at hk
  · obtain rfl : g = c := by simpa [Value.ownBlock] using hk
    obtain ⟨cs, hb, _⟩ := hc
    rw [h3] at hb
    simp only [Option.some.injEq, Obj.cells.injEq] at hb
    exact ht hb.2.1.symm
theorem run_push_span {P : Program} (w : World) (t ty : TypeId) (base : Nat) (e : TypeId) (i : TypeInfo) (z : Value) (size bytes : Nat) (ht : P.underlying t = some (.slice e)) (hi : P.info? e = some i) (hz : i.zero = some z)
    (hsize : i.size = size) (hby : i.bytes = bytes) (hzs : z.cells.size = size) (v : Value) (n : Nat) (xs : List Value) (hown : spanRow w base e size v n xs)
    (ad : Addr) (us : List Value) (hul : us.length = size) (hu : ∀ j u, us[j]? = some u → w.cell? (ad.add j) = some u) (h1 : ∀ u ∈ us, u.oneCell' = true)
    (h63 : n + 1 ≤ maxLen) (hbytes : (n + 1) * bytes ≤ 140737488355328) (hbase : base ≤ w.heap.size) :
    ∃ g off cap w', (Builtin.append_ #[t, t] ty #[v, .slice (some ad) 1 1]).run P w = .ok (.slice (some ⟨g, off, none⟩) (n + 1) cap) w' ∧ spanRow w' base e size (.slice (some ⟨g, off, none⟩) (n + 1) cap) (n + 1) (xs ++ us) ∧ w.grownBy w' v.ownBlock ∧ (v.ownBlock = some g ∨ w.heap.size ≤ g) := by
  have hml : maxLen = 9223372036854775807 := rfl
  rcases hown with ⟨rfl, rfl, rfl⟩ | ⟨g, off, cap, cur, rfl, h2, h3, h4, h5, h6, h7, h8⟩
  · have hr := run_append_nil (P := P) (w := w) t ty e i z ht hi hz ad 1 1 us (by rw [hsize, hul, Nat.one_mul]) hu (by omega) (by omega) (by have hb := hbytes; simp only [Nat.zero_add, Nat.one_mul] at hb; rw [hby]; omega)
    have hge := grownCap_ge w 1 0 e
    refine ⟨w.heap.size, 0, _, _, hr, .inr ⟨w.heap.size, 0, _, _, rfl, hbase, heap_alloc_new w.drew _, hge, grownCap_le_maxLen w 1 0 e (by omega), ?_, ?_, ?_⟩, ⟨rfl, rfl, rfl, by simp, fun k hk _ => Below.heap_alloc w.drew _ k hk⟩, .inr (Nat.le_refl _)⟩
    · simp only [Array.size_append, List.size_toArray, size_zeroCells, hzs, hul, Nat.zero_add]
      rw [Nat.sub_mul, Nat.one_mul]
      have : size ≤ grownCap w 1 0 e * size := Nat.le_mul_of_pos_left _ (by omega)
      omega
    · simp [hul]
    · intro j x hx
      have hj := (List.getElem?_eq_some_iff.1 hx).1
      simp only [List.nil_append] at hx hj
      rw [Nat.zero_add, Array.getElem?_append_left (by simpa using hj)]
      simpa using hx
  · by_cases hroom : n + 1 ≤ cap
    · have hmul : (n + 1) * size ≤ cap * size := Nat.mul_le_mul_right _ hroom
      rw [Nat.add_mul, Nat.one_mul] at hmul
      have hf := run_firstCells_some (P := P) w i.size 1 ad 1 1 us (by rw [hsize, hul, Nat.one_mul]) hu
      have hst := run_storeCells_at P g (off + n * size) e us 0 cur w h3 (by omega) h1
      have hrun : (Builtin.append_ #[t, t] ty #[.slice (some ⟨g, off, none⟩) n cap, .slice (some ad) 1 1]).run P w =
          .ok (.slice (some ⟨g, off, none⟩) (n + 1) cap) (w.setRow g (cur.toList.take (off + n * size + 0) ++ us ++ cur.toList.drop (off + n * size + 0 + us.length)).toArray) := by
        rw [hsize] at hf
        have hadd : (⟨g, off, none⟩ : Addr).add (n * size) = ⟨g, off + n * size, none⟩ := by unfold Addr.add; split <;> simp_all
        simp [Builtin.append_, run_underlying ht, sizeOf, typeInfo, hi, Builtin.lenOf, hroom, hf, hadd, hsize, hst]
      refine ⟨g, off, cap, _, hrun, .inr ⟨g, off, cap, _, rfl, h2, setRow_heap w g cur _ e _ h3, hroom, h5, ?_, ?_, ?_⟩, ⟨rfl, rfl, rfl, by simp, fun k _ hk => setRow_other w g k _ (fun e => hk (by simp [Value.ownBlock, e]))⟩, .inl rfl⟩
      · simp; omega
      · rw [List.length_append, h7, hul, Nat.add_mul, Nat.one_mul]
      · intro j x hx
        simp only [Nat.add_zero, List.getElem?_toArray]
        have hl : (cur.toList.take (off + n * size)).length = off + n * size := by simp; omega
        by_cases hj : j < xs.length
        · rw [List.getElem?_append_left hj] at hx
          have := h8 j x hx
          rw [List.append_assoc, List.getElem?_append_left (by rw [hl]; omega), List.getElem?_take, if_pos (by omega)]
          simpa using this
        · rw [List.getElem?_append_right (by omega)] at hx
          have hjl := (List.getElem?_eq_some_iff.1 hx).1
          rw [List.append_assoc, List.getElem?_append_right (by omega), hl, List.getElem?_append_left (by omega), show off + j - (off + n * size) = j - xs.length from by omega]
          exact hx
    · have holds : ∀ j x, xs[j]? = some x → w.cell? ((⟨g, off, none⟩ : Addr).add j) = some x := fun j x hx => by
        have hadd : (⟨g, off, none⟩ : Addr).add j = ⟨g, off + j, none⟩ := by unfold Addr.add; split <;> simp_all
        rw [hadd, cell_of_row w g (off + j) cur e (0, 0) h3]
        exact h8 j x hx
      have hr := run_append_grow (P := P) (w := w) t ty e i z ht hi hz ⟨g, off, none⟩ n cap xs (by rw [hsize]; omega) holds ad 1 1 us (by rw [hsize, hul, Nat.one_mul]) hu (by omega) (by omega) (growslice_fits (by omega) (by rw [hby]; exact hbytes))
      have hge := grownCap_ge w (n + 1) cap e
      have hmul : (n + 1) * size ≤ grownCap w (n + 1) cap e * size := Nat.mul_le_mul_right _ hge
      refine ⟨w.heap.size, 0, _, _, hr, .inr ⟨w.heap.size, 0, _, _, rfl, hbase, heap_alloc_new w.drew _, hge, grownCap_le_maxLen w (n + 1) cap e h63, ?_, ?_, ?_⟩, ⟨rfl, rfl, rfl, by simp, fun k hk _ => Below.heap_alloc w.drew _ k hk⟩, .inr (Nat.le_refl _)⟩
      · simp only [Array.size_append, List.size_toArray, size_zeroCells, hzs, hul, h7]
        rw [Nat.sub_mul]
        have e1 : (n + 1) * size = n * size + size := by rw [Nat.add_mul, Nat.one_mul]
        omega
      · rw [List.length_append, h7, hul, Nat.add_mul, Nat.one_mul]
      · intro j x hx
        have hj := (List.getElem?_eq_some_iff.1 hx).1
        rw [Nat.zero_add, Array.getElem?_append_left (by simpa using hj)]
        simpa using hx
/-- 'out = append(out, u)' at such a row: u's cells lie in the block that was made last -/
theorem wpList_push_span {P : Program} (w : World) {ops : Array Oper} {rest : List Oper} {o : Oper} {a : Act} {Q : Exit → Act → World → Prop} (hgd : o.guard = none) (s x : Operand) (t : TypeId)
    (ho : o.op = .call { callee := .builtin .append, args := #[s, x], argTypes := #[t, t] })
    (base : Nat) (e : TypeId) (z : Value) (size bytes : Nat) (ht : P.underlying t = some (.slice e)) (hinfo : (P.info? e).map (fun i => (i.zero, i.size, i.bytes)) = some (some z, size, bytes)) (hz1 : z.cells.size = size)
    (v : Value) (n : Nat) (xs us : List Value) (H : Nat) (hH : w.heap.size = H) (hs : a.eval s = v) (hown : spanRow w base e size v n xs) (hx : a.eval x = .slice (some ⟨H, 0, none⟩) 1 1) (hul : us.length = size) (hu : ∀ u ∈ us, u.oneCell' = true)
    (h63 : n + 1 ≤ maxLen) (hbytes : (n + 1) * bytes ≤ 140737488355328) (hbase : base ≤ w.heap.size)
    (h : ∀ g off cap w', spanRow w' base e size (.slice (some ⟨g, off, none⟩) (n + 1) cap) (n + 1) (xs ++ us) → w.grownBy w' v.ownBlock → (v.ownBlock = some g ∨ w.heap.size ≤ g) → wpList P ops Q rest (a.put o.dst (.slice (some ⟨g, off, none⟩) (n + 1) cap)) w') : wpList P ops Q (o :: rest) a (w.alloc (.cells us.toArray e)) := by
  obtain ⟨i, hi, hz0, hzs, hzb⟩ := info_parts hinfo
  subst hH
  refine wpList_plain hgd fun K hK' => ?_
  obtain ⟨g, off, cap, w', hr, h2, h3, h4⟩ := run_push_span (P := P) (w.alloc (.cells us.toArray e)) t o.type base e i z size bytes ht hi hz0 hzs hzb hz1 v n xs (hown.below ((Below.refl _ _).alloc (Nat.le_refl _) _)) ⟨w.heap.size, 0, none⟩ us hul (World.news_of_block (heap_alloc_new w (.cells us.toArray e))) hu h63 hbytes (by simp; omega)
  unfold Oper.wp execOp
  simp only [ho, resolve, invoke, builtin, Sem.run_bind, Sem.run_pure, Result.andThen_ok, List.map_toArray, List.map_cons, List.map_nil, hs, hx, hr]
  exact hK' _ _ (h g off cap w' h2 (grownBy_alloc_trans h3) (h4.imp id fun e => by simp at e; omega))
end Go.Proofs.Ytjoejdpoehpkiaa
