/- An append to a slice that has no room, and whose row is only read: the row is made anew, or it is as it was. -/
import Derived.Test.YtjoejdpoehpkiaaOwn
namespace Go.Proofs.Ytjoejdpoehpkiaa
open Go.ChangeShapes Go.WideShapes Go.ChangeAt Go.RowKit
set_option linter.unusedVariables false
theorem Vals.add {w : World} {b off : Nat} {xs : List Value} (h : Vals w (some ⟨b, off, none⟩) xs) : ∀ j u, xs[j]? = some u → w.cell? ((⟨b, off, none⟩ : Addr).add j) = some u := fun j u hj => by
  have hp : 0 < xs.length := by have := (List.getElem?_eq_some_iff.1 hj).1; omega
  obtain ⟨b', off', e, _, h2⟩ := h hp
  cases e
  rw [show (⟨b, off, none⟩ : Addr).add j = ⟨b, off + j, none⟩ from by unfold Addr.add; split <;> simp_all]
  exact h2 j u hj
theorem Vals.made (w : World) (cs : Array Value) (t : TypeId) (fr : Nat × Nat) {g : Nat} {xs : List Value} (hb : w.heap[g]? = some (.cells cs t fr)) (hx : ∀ (i : Nat) (u : Value), xs[i]? = some u → cs[i]? = some u) : Vals w (some ⟨g, 0, none⟩) xs := fun hp =>
  ⟨g, 0, rfl, (Array.getElem?_eq_some_iff.1 hb).1, fun i u hi => by rw [Nat.zero_add, cell_of_row w g i cs t fr hb]; exact hx i u hi⟩
/-- 'append(s, x..)', s full (or nil), both read as rows of structs of some cells -/
theorem wpList_append_full {P : Program} (w : World) {ops : Array Oper} {rest : List Oper} {o : Oper} {a : Act} {Q : Exit → Act → World → Prop} (hgd : o.guard = none) (s x : Operand) (t : TypeId)
    (ho : o.op = .call { callee := .builtin .append, args := #[s, x], argTypes := #[t, t] })
    (e : TypeId) (z : Value) (size bytes : Nat) (ht : P.underlying t = some (.slice e)) (hinfo : (P.info? e).map (fun i => (i.zero, i.size, i.bytes)) = some (some z, size, bytes)) (hz1 : z.cells.size = size) (hsz : 0 < size)
    (sa : Option Addr) (n : Nat) (xs : List Value) (hs : a.eval s = .slice sa n n) (hn0 : sa = none → n = 0) (hsp : ∀ b, sa = some b → b.spot = none) (hxl : xs.length = n * size) (hxs : Vals w sa xs)
    (xa : Option Addr) (m c : Nat) (us : List Value) (hx : a.eval x = .slice xa m c) (hm0 : xa = none → m = 0 ∧ c = 0) (hxp : ∀ b, xa = some b → b.spot = none) (hul : us.length = m * size) (hus : Vals w xa us)
    (h63 : n + m ≤ maxLen) (hbytes : (n + m) * bytes ≤ 140737488355328)
    (h : ∀ ga cap w', (n + m ≤ cap ∧ cap ≤ maxLen) → (ga = none → n + m = 0 ∧ cap = 0) → (∀ b, ga = some b → b.spot = none) → Vals w' ga (xs ++ us) → Below w.heap.size w w' → (ga = sa ∨ ∃ b, ga = some b ∧ w.heap.size ≤ b.block) → wpList P ops Q rest (a.put o.dst (.slice ga (n + m) cap)) w') : wpList P ops Q (o :: rest) a w := by
  obtain ⟨i, hi, hz0, hzs, hzb⟩ := info_parts hinfo
  refine wpList_plain hgd fun K hK' => ?_
  have key : ∃ ga cap w', (Builtin.append_ #[t, t] o.type #[.slice sa n n, .slice xa m c]).run P w = .ok (.slice ga (n + m) cap) w' ∧ (n + m ≤ cap ∧ cap ≤ maxLen) ∧ (ga = none → n + m = 0 ∧ cap = 0) ∧ (∀ b, ga = some b → b.spot = none) ∧ Vals w' ga (xs ++ us) ∧ Below w.heap.size w w' ∧ (ga = sa ∨ ∃ b, ga = some b ∧ w.heap.size ≤ b.block) := by
    have hml : maxLen = 9223372036854775807 := rfl
    by_cases hm : m = 0
    · subst hm
      have hus0 : us = [] := List.eq_nil_of_length_eq_zero (by omega)
      subst hus0
      refine ⟨sa, n, w, ?_, ⟨Nat.le_refl _, by omega⟩, fun e => by have := hn0 e; omega, hsp, by rw [List.append_nil]; exact hxs, Below.refl _ _, .inl rfl⟩
      cases xa with
      | none =>
        obtain ⟨_, rfl⟩ := hm0 rfl
        cases sa with
        | none => obtain rfl : n = 0 := hn0 rfl; simp [Builtin.append_, run_underlying ht, sizeOf, typeInfo, hi, Builtin.lenOf, Builtin.firstCells]
        | some b => simp [Builtin.append_, run_underlying ht, sizeOf, typeInfo, hi, Builtin.lenOf, Builtin.firstCells, storeCells]
      | some ad =>
        have hf := run_firstCells_some (P := P) w i.size 0 ad 0 c [] (by simp) (fun j v hj => (by simp at hj))
        cases sa with
        | none => obtain rfl : n = 0 := hn0 rfl; simp [Builtin.append_, run_underlying ht, sizeOf, typeInfo, hi, Builtin.lenOf, hf]
        | some b => simp [Builtin.append_, run_underlying ht, sizeOf, typeInfo, hi, Builtin.lenOf, hf, storeCells]
    · cases xa with
      | none => exact (hm (hm0 rfl).1).elim
      | some ad =>
        obtain ⟨ab, ao, asp⟩ := ad
        obtain rfl : asp = none := hxp _ rfl
        have hnews := hus.add
        cases sa with
        | none =>
          obtain rfl : n = 0 := hn0 rfl
          have hxs0 : xs = [] := List.eq_nil_of_length_eq_zero (by omega)
          subst hxs0
          have hr := run_append_nil (P := P) (w := w) t o.type e i z ht hi hz0 ⟨ab, ao, none⟩ m c us (by rw [hzs]; exact hul) hnews (by omega) (by omega) (by rw [hzb]; have := hbytes; rw [Nat.zero_add] at this; omega)
          refine ⟨some ⟨w.heap.size, 0, none⟩, _, _, by rw [Nat.zero_add]; exact hr, ?_, fun e => (by cases e), fun b e => (by cases e; rfl), Vals.made _ _ _ _ (heap_alloc_new w.drew _) (fun i u hi => ?_), Below.alloc (Below.refl _ _).drew (Nat.le_refl _) _, .inr ⟨_, rfl, Nat.le_refl _⟩⟩
          · rw [Nat.zero_add]; exact ⟨grownCap_ge _ _ _ _, grownCap_le_maxLen _ _ _ _ (by omega)⟩
          · have hil := (List.getElem?_eq_some_iff.1 hi).1
            rw [Array.getElem?_append_left (by simpa using hil)]
            simpa using hi
        | some bd =>
          obtain ⟨bb, bo, bs⟩ := bd
          obtain rfl : bs = none := hsp _ rfl
          have hr := run_append_grow (P := P) (w := w) t o.type e i z ht hi hz0 ⟨bb, bo, none⟩ n n xs (by rw [hzs]; exact hxl) hxs.add ⟨ab, ao, none⟩ m c us (by rw [hzs]; exact hul) hnews (by omega) (by omega) (growslice_fits (by omega) (by rw [hzb]; exact hbytes))
          refine ⟨some ⟨w.heap.size, 0, none⟩, _, _, hr, ⟨grownCap_ge _ _ _ _, grownCap_le_maxLen _ _ _ _ h63⟩, fun e => (by cases e), fun b e => (by cases e; rfl), Vals.made _ _ _ _ (heap_alloc_new w.drew _) (fun i u hi => ?_), Below.alloc (Below.refl _ _).drew (Nat.le_refl _) _, .inr ⟨_, rfl, Nat.le_refl _⟩⟩
          have hil := (List.getElem?_eq_some_iff.1 hi).1
          rw [Array.getElem?_append_left (by simpa using hil)]
          simpa using hi
  obtain ⟨ga, cap, w', hr, h1, h2, h3, h4, h5, h6⟩ := key
  unfold Oper.wp execOp
  simp only [ho, resolve, invoke, builtin, Sem.run_bind, Sem.run_pure, Result.andThen_ok, List.map_toArray, List.map_cons, List.map_nil, hs, hx, hr]
  exact hK' _ _ (h ga cap w' h1 h2 h3 h4 h5 h6)
end Go.Proofs.Ytjoejdpoehpkiaa
