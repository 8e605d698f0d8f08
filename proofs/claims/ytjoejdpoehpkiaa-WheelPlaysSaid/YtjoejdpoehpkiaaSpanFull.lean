/- An append to a span of a row that has no room: made anew, or as it was; a span's head. -/
import Derived.Test.YtjoejdpoehpkiaaSpanRow
import Derived.Test.YtjoejdpoehpkiaaFullRow
namespace Go.Proofs.Ytjoejdpoehpkiaa
open Go.ChangeShapes Go.WideShapes Go.ChangeAt Go.RowKit
set_option linter.unusedVariables false
theorem spanRow.head {w : World} {base : Nat} {e : TypeId} {size : Nat} {ad : Addr} {n cap i : Nat} {xs : List Value} (h : spanRow w base e size (.slice (some ad) n cap) n xs) (hi : i ≤ n) : spanRow w base e size (.slice (some ad) i i) i (xs.take (i * size)) := by
  rcases h with ⟨h, _⟩ | ⟨g, off, cap', cur, he, h2, h3, h4, h5, h6, h7, h8⟩
  · cases h
  · simp only [Value.slice.injEq, Option.some.injEq, true_and] at he
    obtain ⟨rfl, rfl⟩ := he
    have hm : i * size ≤ n * size := Nat.mul_le_mul_right _ hi
    have hc : i * size ≤ cap * size := Nat.mul_le_mul_right _ (by omega)
    refine .inr ⟨g, off, i, cur, rfl, h2, h3, Nat.le_refl _, by omega, by omega, by rw [List.length_take]; omega, fun j u hj => ?_⟩
    rw [List.getElem?_take] at hj
    split at hj
    · exact h8 j u hj
    · cases hj
theorem spanRow.made {w : World} {base : Nat} {e : TypeId} {size n cap g : Nat} {cs : Array Value} {xs : List Value} (hb : w.heap[g]? = some (.cells cs e (0, 0))) (hg : base ≤ g) (h1 : n ≤ cap) (h2 : cap ≤ maxLen) (h3 : cap * size ≤ cs.size) (h4 : xs.length = n * size) (hx : ∀ (i : Nat) (u : Value), xs[i]? = some u → cs[i]? = some u) : spanRow w base e size (.slice (some ⟨g, 0, none⟩) n cap) n xs :=
  .inr ⟨g, 0, cap, cs, rfl, hg, hb, h1, h2, by omega, h4, fun i u hi => by rw [Nat.zero_add]; exact hx i u hi⟩
theorem run_append_span {P : Program} (w : World) (t ty : TypeId)
    (e : TypeId) (i : TypeInfo) (z : Value) (size bytes : Nat) (ht : P.underlying t = some (.slice e)) (hi : P.info? e = some i) (hz0 : i.zero = some z) (hzs : i.size = size) (hzb : i.bytes = bytes) (hz1 : z.cells.size = size) (hsz : 0 < size)
    (sd : Addr) (n : Nat) (xs : List Value) (hown : spanRow w 0 e size (.slice (some sd) n n) n xs)
    (xd : Addr) (m c : Nat) (us : List Value) (hxp : xd.spot = none) (hul : us.length = m * size) (hus : Vals w (some xd) us)
    (h63 : n + m ≤ maxLen) (hbytes : (n + m) * bytes ≤ 140737488355328) :
    ∃ sp cap w', (Builtin.append_ #[t, t] ty #[.slice (some sd) n n, .slice (some xd) m c]).run P w = .ok (.slice (some sp) (n + m) cap) w' ∧ spanRow w' 0 e size (.slice (some sp) (n + m) cap) (n + m) (xs ++ us) ∧ Below w.heap.size w w' ∧ (sp.block = sd.block ∨ w.heap.size ≤ sp.block) := by
  have hsp : sd.spot = none := by
    rcases hown with ⟨h, _⟩ | ⟨g, off, cap', cur, he, _⟩
    · cases h
    · simp only [Value.slice.injEq, Option.some.injEq] at he
      rw [he.1]
  have hxl := hown.len
  have hv : Vals w (some sd) xs := by
    obtain ⟨a', cap', e, _, _, _, _, hv⟩ := hown.form
    cases e
    exact hv
  have hml : maxLen = 9223372036854775807 := rfl
  by_cases hm : m = 0
  · subst hm
    have hus0 : us = [] := List.eq_nil_of_length_eq_zero (by omega)
    subst hus0
    have hf := run_firstCells_some (P := P) w i.size 0 xd 0 c [] (by simp) (fun j v hj => (by simp at hj))
    exact ⟨sd, n, w, by simp [Builtin.append_, run_underlying ht, sizeOf, typeInfo, hi, Builtin.lenOf, hf, storeCells], by rw [List.append_nil]; exact hown, Below.refl _ _, .inl rfl⟩
  · obtain ⟨ab, ao, asp⟩ := xd
    simp only at hxp
    subst hxp
    obtain ⟨bb, bo, bs⟩ := sd
    simp only at hsp
    subst hsp
    have hr := run_append_grow (P := P) (w := w) t ty e i z ht hi hz0 ⟨bb, bo, none⟩ n n xs (by rw [hzs]; exact hxl) hv.add ⟨ab, ao, none⟩ m c us (by rw [hzs]; exact hul) hus.add (by omega) (by omega) (growslice_fits (by omega) (by rw [hzb]; exact hbytes))
    have hge := grownCap_ge w (n + m) n e
    have hmul : (n + m) * size ≤ grownCap w (n + m) n e * size := Nat.mul_le_mul_right _ hge
    refine ⟨_, _, _, hr, spanRow.made (heap_alloc_new w.drew _) (Nat.zero_le _) hge (grownCap_le_maxLen _ _ _ _ h63) ?_ ?_ (fun j u hj => ?_), Below.alloc (Below.refl _ _).drew (Nat.le_refl _) _, .inr (Nat.le_refl _)⟩
    · simp only [Array.size_append, List.size_toArray, size_zeroCells, hz1, hul, hxl]
      rw [Nat.sub_mul]
      have e1 : (n + m) * size = n * size + m * size := Nat.add_mul _ _ _
      omega
    · rw [List.length_append, hxl, hul, Nat.add_mul]
    · have hil := (List.getElem?_eq_some_iff.1 hj).1
      rw [Array.getElem?_append_left (by simpa using hil)]
      simpa using hj
/-- 'append(s, x..)', s full, x read as a row of structs of some cells: at a step of a region that draws its order -/
theorem step_append_span {P : Program} (w : World) {ops : Array Oper} {o : Oper} {a : Act} {K : Act → World → Prop} {Q : Exit → Act → World → Prop} {E : Prop} (hgd : o.guard = none) (s x : Operand) (t : TypeId)
    (ho : o.op = .call { callee := .builtin .append, args := #[s, x], argTypes := #[t, t] })
    (e : TypeId) (z : Value) (size bytes : Nat) (ht : P.underlying t = some (.slice e)) (hinfo : (P.info? e).map (fun i => (i.zero, i.size, i.bytes)) = some (some z, size, bytes)) (hz1 : z.cells.size = size) (hsz : 0 < size)
    (sd : Addr) (n : Nat) (xs : List Value) (hs : a.eval s = .slice (some sd) n n) (hown : spanRow w 0 e size (.slice (some sd) n n) n xs)
    (xd : Addr) (m c : Nat) (us : List Value) (hx : a.eval x = .slice (some xd) m c) (hxp : xd.spot = none) (hul : us.length = m * size) (hus : Vals w (some xd) us)
    (h63 : n + m ≤ maxLen) (hbytes : (n + m) * bytes ≤ 140737488355328)
    (h : ∀ sp cap w', spanRow w' 0 e size (.slice (some sp) (n + m) cap) (n + m) (xs ++ us) → Below w.heap.size w w' → (sp.block = sd.block ∨ w.heap.size ≤ sp.block) → K (a.put o.dst (.slice (some sp) (n + m) cap)) w') :
    if Region.wanted o (yielded ops a.tmps) = true then Oper.wp P o a w K Q else E := by
  have hw : Region.wanted o (yielded ops a.tmps) = true := by simp [Region.wanted, hgd]
  rw [if_pos hw]
  obtain ⟨i, hi, hz0, hzs, hzb⟩ := info_parts hinfo
  obtain ⟨sp, cap, w', hr, h1, h2, h3⟩ := run_append_span (P := P) w t o.type e i z size bytes ht hi hz0 hzs hzb hz1 hsz sd n xs hown xd m c us hxp hul hus h63 hbytes
  unfold Oper.wp execOp
  simp only [ho, resolve, invoke, builtin, Sem.run_bind, Sem.run_pure, Result.andThen_ok, List.map_toArray, List.map_cons, List.map_nil, hs, hx, hr]
  exact h sp cap w' h1 h2 h3
end Go.Proofs.Ytjoejdpoehpkiaa
