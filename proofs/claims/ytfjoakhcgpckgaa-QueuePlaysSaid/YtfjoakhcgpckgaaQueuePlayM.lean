/- The program's queue beside the document's row: what each call does to both. -/
import Derived.Test.YtfjoakhcgpckgaaQueueRef2
namespace Go.Proofs.Ytfjoakhcgpckgaa
open Go.ChangeShapes Go.WideShapes Go.ChangeAt Go.RowKit
set_option linter.unusedVariables false
open Hp
theorem split_at {l : List Th} {j : Nat} {x : Th} (h : l[j]? = some x) : ∃ a b, l = a ++ x :: b ∧ a.length = j := by
  obtain ⟨hj, rfl⟩ := List.getElem?_eq_some_iff.1 h
  exact ⟨l.take j, l.drop (j + 1), by rw [← List.drop_eq_getElem_cons hj, List.take_append_drop], by rw [List.length_take]; omega⟩
theorem set_perm {l m : List Th} {j i : Nat} {x : Th} (hp : l.Perm m) (hj : l[j]? = some x) (hi : m[i]? = some x) (y : Th) : (l.set j y).Perm (m.set i y) := by
  obtain ⟨a, b, rfl, rfl⟩ := split_at hj
  obtain ⟨c, d, rfl, rfl⟩ := split_at hi
  have e1 : (a ++ x :: b).set a.length y = a ++ y :: b := by simp
  have e2 : (c ++ x :: d).set c.length y = c ++ y :: d := by simp
  rw [e1, e2]
  have h1 : (a ++ b).Perm (c ++ d) := (List.perm_middle.symm.trans (hp.trans List.perm_middle)).cons_inv
  exact List.perm_middle.trans ((h1.cons y).trans List.perm_middle.symm)
theorem less_perm {us ts qs : List Th} {a : Th} {i : Nat} (h1 : (us ++ [a]).Perm ts) (h2 : (ts.map strip).Perm qs) (hi : qs[i]? = some (strip a)) : (us.map strip).Perm (qs.take i ++ qs.drop (i + 1)) := by
  have h3 := ((h1.map strip).trans h2).trans (erase_perm hi).symm
  rw [List.map_append] at h3
  exact (List.perm_append_right_iff [strip a]).1 h3
/-- the program's queue, the row that it stands for -/
structure PQ (F : Nat → Prop) (gq gm k : Nat) (born : Int) (M : Int → Option Nat) (q : Nat) (v : Value) (ts qs : List Th) (w : World) : Prop where
  qw : QW F gq gm born M q v ts w
  perm : (ts.map strip).Perm qs
  sorted : (qs.map Th.born).Pairwise (· < ·)
  few : 0 ≤ born ∧ born ≤ (k : Int) ∧ q ≤ k
  short : ts.length ≤ 200
  wf : ∀ t, t ∈ ts → (Lit.int .i64 t.id).wf = true
def PQE (F : Nat → Prop) (gq gm k : Nat) (qs : List Th) (w : World) : Prop := ∃ born M q v ts, PQ F gq gm k born M q v ts qs w
def RQE (G : Nat → Prop) (gr : Nat) (qs : List Th) (w : World) : Prop := ∃ v, RQ G gr v qs w
section
variable {F G : Nat → Prop} {gq gm gr k : Nat} {born : Int} {M : Int → Option Nat} {q : Nat} {v : Value} {ts qs : List Th} {w w' : World}
theorem QW.idsUniq (h : QW F gq gm born M q v ts w) : (ts.map Th.id).Nodup := by
  refine List.pairwise_iff_getElem.2 fun i j hi hj hij e => ?_
  simp only [List.length_map] at hi hj
  simp only [List.getElem_map] at e
  have h1 := h.map_at (List.getElem?_eq_getElem hi)
  have h2 := h.map_at (List.getElem?_eq_getElem hj)
  rw [e, h2] at h1
  have := h.hw.inj i j _ _ (List.getElem?_eq_getElem hi) (List.getElem?_eq_getElem hj) (Option.some.inj h1).symm
  omega
theorem PQ.uniq (h : PQ F gq gm k born M q v ts qs w) : (qs.map Th.id).Nodup := by
  have h1 := h.perm.map Th.id
  rw [List.map_map] at h1
  exact h1.nodup_iff.1 h.qw.idsUniq
theorem PQ.len (h : PQ F gq gm k born M q v ts qs w) : qs.length = ts.length := by
  have := h.perm.length_eq
  rw [List.length_map] at this
  exact this.symm
theorem PQ.next (h : PQ F gq gm k born M q v ts qs w) : PQ F gq gm (k + 1) born M q v ts qs w := ⟨h.qw, h.perm, h.sorted, by have := h.few; omega, h.short, h.wf⟩
theorem PQ.at (h : PQ F gq gm k born M q v ts qs w) {id : Int} {b : Nat} (hb : M id = some b) : ∃ (j i : Nat) (t : Th), ts[j]? = some t ∧ t.id = id ∧ qs[i]? = some (strip t) := by
  obtain ⟨j, t, h1, h2, _⟩ := h.qw.at hb
  obtain ⟨i, hi⟩ := List.getElem?_of_mem (h.perm.mem_iff.1 (List.mem_map.2 ⟨t, List.mem_of_getElem? h1, rfl⟩))
  exact ⟨j, i, t, h1, h2, hi⟩
theorem PQE.below (h : PQE F gq gm k qs w) (hb : Below w.heap.size w w') : PQE F gq gm k qs w' := by
  obtain ⟨born, M, q, v, ts, h⟩ := h
  exact ⟨born, M, q, v, ts, h.qw.below hb, h.perm, h.sorted, h.few, h.short, h.wf⟩
theorem PQE.wide {F' : Nat → Prop} (h : PQE F gq gm k qs w) (hF : ∀ x, F x → F' x) : PQE F' gq gm k qs w := by
  obtain ⟨born, M, q, v, ts, h⟩ := h
  exact ⟨born, M, q, v, ts, h.qw.wide hF, h.perm, h.sorted, h.few, h.short, h.wf⟩
theorem PQE.kept_all (h : PQE F gq gm k qs w) (hb : ∀ x, F x → x < w.heap.size → w'.heap[x]? = w.heap[x]?) : PQE F gq gm k qs w' := by
  obtain ⟨born, M, q, v, ts, h⟩ := h
  refine ⟨born, M, q, v, ts, ⟨(h.qw.hw.small.kept_all fun x hx => hb x hx.1 hx.2).wide fun x hx => hx.1, h.qw.map.block (hb gm h.qw.fm h.qw.map.lt), h.qw.fm, h.qw.heap, h.qw.ids, h.qw.old, h.qw.dif⟩, h.perm, h.sorted, h.few, h.short, h.wf⟩
theorem PQE.small (h : PQE F gq gm k qs w) : PQE (fun x => F x ∧ x < w.heap.size) gq gm k qs w := by
  obtain ⟨born, M, q, v, ts, h⟩ := h
  exact ⟨born, M, q, v, ts, ⟨h.qw.hw.small, h.qw.map, ⟨h.qw.fm, h.qw.map.lt⟩, h.qw.heap, h.qw.ids, h.qw.old, h.qw.dif⟩, h.perm, h.sorted, h.few, h.short, h.wf⟩
theorem PQE.next (h : PQE F gq gm k qs w) : PQE F gq gm (k + 1) qs w := by
  obtain ⟨born, M, q, v, ts, h⟩ := h
  exact ⟨born, M, q, v, ts, h.next⟩
theorem RQE.small (h : RQE G gr qs w) : RQE (fun x => G x ∧ x < w.heap.size) gr qs w := by obtain ⟨v, h⟩ := h; exact ⟨v, h.small⟩
theorem RQE.below (h : RQE G gr qs w) (hb : Below w.heap.size w w') : RQE G gr qs w' := by obtain ⟨v, h⟩ := h; exact ⟨v, h.below hb⟩
theorem RQE.wide {G' : Nat → Prop} (h : RQE G gr qs w) (hG : ∀ x, G x → G' x) : RQE G' gr qs w := by obtain ⟨v, h⟩ := h; exact ⟨v, h.wide hG⟩
theorem RQE.kept_all (h : RQE G gr qs w) (hb : ∀ x, G x → x < w.heap.size → w'.heap[x]? = w.heap[x]?) : RQE G gr qs w' := by obtain ⟨v, h⟩ := h; exact ⟨v, h.kept_all hb⟩
end
def PutS (qs : List Th) (prio id : Int) (qs' : List Th) (z : Int) : Prop :=
  (∃ t, t ∈ qs ∧ t.id = id ∧ qs' = qs ∧ z = 6) ∨ ((∀ t, t ∈ qs → t.id ≠ id) ∧ qs.length = 200 ∧ qs' = qs ∧ z = 7) ∨
    ((∀ t, t ∈ qs → t.id ≠ id) ∧ qs.length < 200 ∧ z = 0 ∧ ∃ t, t.prio = prio ∧ t.id = id ∧ qs' = qs ++ [t])
def DropS (qs : List Th) (id : Int) (qs' : List Th) (z : Int) : Prop :=
  ((∀ t, t ∈ qs → t.id ≠ id) ∧ qs' = qs ∧ z = 5) ∨ ∃ (i : Nat) (t : Th), qs[i]? = some t ∧ t.id = id ∧ qs' = qs.take i ++ qs.drop (i + 1) ∧ z = 0
def RaiseS (qs : List Th) (id prio : Int) (qs' : List Th) (z : Int) : Prop :=
  ((∀ t, t ∈ qs → t.id ≠ id) ∧ qs' = qs ∧ z = 5) ∨ ∃ (i : Nat) (t : Th), qs[i]? = some t ∧ t.id = id ∧ ((prio < t.prio ∧ qs' = qs ∧ z = 1) ∨ (¬ prio < t.prio ∧ qs' = qs.set i (rai t prio) ∧ z = 0))
section
variable {F G : Nat → Prop} {gq gm gr k : Nat} {qs : List Th} {w : World}
theorem Put_all (prio id : Int) (h : PQE F gq gm k qs w) (hk : k ≤ 300) (hid : (Lit.int .i64 id).wf = true) :
    Calls Try.prog 22 #[.pointer (some ⟨gq, 0, none⟩), .int .i64 prio, .int .i64 id] w fun e w' => ∃ qs' z, e = .returned (.int .i64 z) ∧ PutS qs prio id qs' z ∧ PQE (fun x => F x ∨ w.heap.size ≤ x) gq gm (k + 1) qs' w' ∧ Kept F w w' := by
  obtain ⟨born, M, q, v, ts, h⟩ := h
  cases hM : M id with
  | some b =>
    refine Calls.mono (Put_there F gq gm born M q v ts w prio id h.qw hid b hM) ?_
    rintro e w' ⟨rfl, rfl⟩
    obtain ⟨u, h1, h2⟩ := h.qw.has h.perm hM
    exact ⟨qs, 6, rfl, .inl ⟨u, h1, h2, rfl, rfl⟩, PQE.wide ⟨born, M, q, v, ts, h.next⟩ (fun x hx => .inl hx), Kept.refl _ _⟩
  | none =>
    have hne := h.qw.hasnt h.perm hM
    by_cases hl : ts.length = 200
    · refine Calls.mono (Put_full F gq gm born M q v ts w prio id h.qw hid hM hl) ?_
      rintro e w' ⟨rfl, rfl⟩
      exact ⟨qs, 7, rfl, .inr (.inl ⟨hne, h.len.trans hl, rfl, rfl⟩), PQE.wide ⟨born, M, q, v, ts, h.next⟩ (fun x hx => .inl hx), Kept.refl _ _⟩
    · have hs := h.short
      have hf := h.few
      refine Calls.mono (Put_good F gq gm born M q v ts w prio id h.qw hid hM (by omega) (by omega) (by omega)) ?_
      rintro e w' ⟨rfl, v', us, t, t1, t2, t3, hp, hq, hk'⟩
      refine ⟨qs ++ [strip t], 0, rfl, .inr (.inr ⟨hne, by rw [h.len]; omega, rfl, strip t, t1, t2, rfl⟩), ⟨_, _, _, _, us, hq, ?_, ?_, by omega, ?_, fun x hx => ?_⟩, hk'⟩
      · have := hp.map strip
        rw [List.map_append] at this
        exact this.trans (List.Perm.append_right _ h.perm)
      · rw [List.map_append, List.pairwise_append]
        refine ⟨h.sorted, by simp, fun a ha b hb => ?_⟩
        obtain ⟨x, hx, rfl⟩ := List.mem_map.1 ha
        obtain ⟨y, hy, rfl⟩ := List.mem_map.1 (h.perm.mem_iff.2 hx)
        have := h.qw.old y hy
        simp only [List.map_cons, List.map_nil, List.mem_singleton] at hb
        rw [hb]
        show y.born < t.born
        omega
      · have := hp.length_eq
        simp at this
        omega
      · rcases List.mem_append.1 (hp.mem_iff.1 hx) with h1 | h1
        · exact h.wf x h1
        · rw [List.mem_singleton] at h1
          rw [h1, t2]
          exact hid
theorem rPut_all (prio id : Int) (h : RQE G gr qs w) (hl : qs.length ≤ 200) {qs' : List Th} {z : Int} (hs : PutS qs prio id qs' z) :
    Calls Try.prog 14 #[.pointer (some ⟨gr, 0, none⟩), .int .i64 prio, .int .i64 id] w fun e w' => e = .returned (.int .i64 z) ∧ RQE (fun x => G x ∨ w.heap.size ≤ x) gr qs' w' ∧ Kept G w w' := by
  obtain ⟨v, h⟩ := h
  rcases hs with ⟨t, h1, h2, rfl, rfl⟩ | ⟨h1, h2, rfl, rfl⟩ | ⟨h1, h2, rfl, t, rfl, rfl, rfl⟩
  · refine Calls.mono (rPut_there G gr v _ w prio id h hl h1 h2) ?_
    rintro e w' ⟨rfl, hb⟩
    exact ⟨rfl, ⟨v, (h.below hb).wide fun x hx => .inl hx⟩, Kept.below hb⟩
  · refine Calls.mono (rPut_full G gr v _ w prio id h h2 h1) ?_
    rintro e w' ⟨rfl, hb⟩
    exact ⟨rfl, ⟨v, (h.below hb).wide fun x hx => .inl hx⟩, Kept.below hb⟩
  · refine Calls.mono (rPut_good G gr v qs w t h h2 h1) ?_
    rintro e w' ⟨rfl, v', hq, hk⟩
    exact ⟨rfl, ⟨v', hq⟩, hk⟩
theorem Drop_all (id : Int) (h : PQE F gq gm k qs w) (hid : (Lit.int .i64 id).wf = true) :
    Calls Try.prog 23 #[.pointer (some ⟨gq, 0, none⟩), .int .i64 id] w fun e w' => ∃ qs' z, e = .returned (.int .i64 z) ∧ DropS qs id qs' z ∧ PQE (fun x => F x ∨ w.heap.size ≤ x) gq gm (k + 1) qs' w' ∧ Kept F w w' := by
  obtain ⟨born, M, q, v, ts, h⟩ := h
  cases hM : M id with
  | none =>
    refine Calls.mono (Drop_none F gq gm born M q v ts w id h.qw hid hM) ?_
    rintro e w' ⟨rfl, rfl⟩
    exact ⟨qs, 5, rfl, .inl ⟨h.qw.hasnt h.perm hM, rfl, rfl⟩, PQE.wide ⟨born, M, q, v, ts, h.next⟩ (fun x hx => .inl hx), Kept.refl _ _⟩
  | some b =>
    obtain ⟨j, i, t, hj, rfl, hi⟩ := h.at hM
    have hs := h.short
    refine Calls.mono (Drop_good F gq gm born M q v ts w j t h.qw hid hj (by omega)) ?_
    rintro e w' ⟨rfl, v', us, hp, hq, hk'⟩
    refine ⟨_, 0, rfl, .inr ⟨i, strip t, hi, rfl, rfl, rfl⟩, PQE.wide ⟨born, _, q, v', us, hq, less_perm hp h.perm hi, erase_sorted i h.sorted, by have := h.few; omega, ?_, fun x hx => h.wf x (hp.mem_iff.1 (List.mem_append_left _ hx))⟩ (fun x hx => .inl hx), hk'⟩
    have := hp.length_eq
    simp at this
    omega
theorem rDrop_all (id : Int) (h : RQE G gr qs w) (hl : qs.length ≤ 200) (hn : (qs.map Th.id).Nodup) {qs' : List Th} {z : Int} (hs : DropS qs id qs' z) :
    Calls Try.prog 24 #[.pointer (some ⟨gr, 0, none⟩), .int .i64 id] w fun e w' => e = .returned (.int .i64 z) ∧ RQE (fun x => G x ∨ w.heap.size ≤ x) gr qs' w' ∧ Kept G w w' := by
  obtain ⟨v, h⟩ := h
  rcases hs with ⟨h1, rfl, rfl⟩ | ⟨i, t, h1, rfl, rfl, rfl⟩
  · refine Calls.mono (rDrop_none G gr v _ w id h hl h1) ?_
    rintro e w' ⟨rfl, hb⟩
    exact ⟨rfl, ⟨v, (h.below hb).wide fun x hx => .inl hx⟩, Kept.below hb⟩
  · refine Calls.mono (rDrop_good G gr v qs w i t h hl h1 hn) ?_
    rintro e w' ⟨rfl, v', hq, hk⟩
    exact ⟨rfl, ⟨v', hq⟩, hk⟩
theorem Raise_all (id prio : Int) (h : PQE F gq gm k qs w) (hid : (Lit.int .i64 id).wf = true) :
    Calls Try.prog 25 #[.pointer (some ⟨gq, 0, none⟩), .int .i64 id, .int .i64 prio] w fun e w' => ∃ qs' z, e = .returned (.int .i64 z) ∧ RaiseS qs id prio qs' z ∧ PQE (fun x => F x ∨ w.heap.size ≤ x) gq gm (k + 1) qs' w' ∧ Kept F w w' := by
  obtain ⟨born, M, q, v, ts, h⟩ := h
  cases hM : M id with
  | none =>
    refine Calls.mono (Raise_none F gq gm born M q v ts w prio id h.qw hid hM) ?_
    rintro e w' ⟨rfl, rfl⟩
    exact ⟨qs, 5, rfl, .inl ⟨h.qw.hasnt h.perm hM, rfl, rfl⟩, PQE.wide ⟨born, M, q, v, ts, h.next⟩ (fun x hx => .inl hx), Kept.refl _ _⟩
  | some b =>
    obtain ⟨j, i, t, hj, rfl, hi⟩ := h.at hM
    have hs := h.short
    by_cases hp : prio < t.prio
    · refine Calls.mono (Raise_arg F gq gm born M q v ts w prio j t h.qw hid hj hp) ?_
      rintro e w' ⟨rfl, rfl⟩
      exact ⟨qs, 1, rfl, .inr ⟨i, strip t, hi, rfl, .inl ⟨hp, rfl, rfl⟩⟩, PQE.wide ⟨born, M, q, v, ts, h.next⟩ (fun x hx => .inl hx), Kept.refl _ _⟩
    · refine Calls.mono (Raise_good F gq gm born M q v ts w prio j t h.qw hid hj hp (by omega)) ?_
      rintro e w' ⟨rfl, us, hp2, hq, hk'⟩
      refine ⟨_, 0, rfl, .inr ⟨i, strip t, hi, rfl, .inr ⟨hp, rfl, rfl⟩⟩, PQE.wide ⟨born, M, q, v, us, hq, ?_, ?_, by have := h.few; omega, ?_, fun x hx => ?_⟩ (fun x hx => .inl hx), hk'⟩
      · refine (hp2.map strip).trans ?_
        rw [List.map_set]
        exact set_perm h.perm (by rw [List.getElem?_map, hj]; rfl) hi (rai (strip t) prio)
      · rw [set_borns hi]
        exact h.sorted
      · rw [hp2.length_eq, List.length_set]
        exact hs
      · obtain ⟨n, hn⟩ := List.getElem?_of_mem (hp2.mem_iff.1 hx)
        rcases set_at hn with ⟨_, rfl⟩ | ⟨_, h2⟩
        · exact hid
        · exact h.wf x (List.mem_of_getElem? h2)
theorem rRaise_all (id prio : Int) (h : RQE G gr qs w) (hl : qs.length ≤ 200) (hn : (qs.map Th.id).Nodup) {qs' : List Th} {z : Int} (hs : RaiseS qs id prio qs' z) :
    Calls Try.prog 26 #[.pointer (some ⟨gr, 0, none⟩), .int .i64 id, .int .i64 prio] w fun e w' => e = .returned (.int .i64 z) ∧ RQE (fun x => G x ∨ w.heap.size ≤ x) gr qs' w' ∧ Kept G w w' := by
  obtain ⟨v, h⟩ := h
  rcases hs with ⟨h1, rfl, rfl⟩ | ⟨i, t, h1, rfl, ⟨h2, rfl, rfl⟩ | ⟨h2, rfl, rfl⟩⟩
  · refine Calls.mono (rRaise_none G gr v _ w prio id h hl h1) ?_
    rintro e w' ⟨rfl, hb⟩
    exact ⟨rfl, ⟨v, (h.below hb).wide fun x hx => .inl hx⟩, Kept.below hb⟩
  · refine Calls.mono (rRaise_arg G gr v _ w prio i t h hl h1 hn h2) ?_
    rintro e w' ⟨rfl, hb⟩
    exact ⟨rfl, ⟨v, (h.below hb).wide fun x hx => .inl hx⟩, Kept.below hb⟩
  · refine Calls.mono (rRaise_good G gr v qs w prio i t h hl h1 hn h2) ?_
    rintro e w' ⟨rfl, v', hq, hk⟩
    exact ⟨rfl, ⟨v', hq⟩, hk⟩
/-- the first of the row -/
def FirstS (qs : List Th) (i : Nat) (t : Th) : Prop := qs[i]? = some t ∧ ∀ u, u ∈ qs → le t u
theorem Take_all (h : PQE F gq gm k qs w) (hq : qs ≠ []) :
    Calls Try.prog 27 #[.pointer (some ⟨gq, 0, none⟩)] w fun e w' => ∃ i t, e = .returned (.tuple #[.agg #[.int .i64 t.prio, .int .i64 t.id], .bool true]) ∧ FirstS qs i t ∧ PQE (fun x => F x ∨ w.heap.size ≤ x) gq gm (k + 1) (qs.take i ++ qs.drop (i + 1)) w' ∧ Kept F w w' := by
  obtain ⟨born, M, q, v, ts, h⟩ := h
  have hs := h.short
  cases ts with
  | nil =>
    have h1 := h.len
    exact (hq (List.eq_nil_of_length_eq_zero (by simpa using h1))).elim
  | cons a ts =>
    obtain ⟨i, hi⟩ := List.getElem?_of_mem (h.perm.mem_iff.1 (List.mem_map.2 ⟨a, List.mem_cons_self .., rfl⟩))
    refine Calls.mono (Take_good F gq gm born M q v (a :: ts) a w h.qw rfl (by omega) (h.wf a (by simp))) ?_
    rintro e w' ⟨rfl, v', us, hp, hq', hk'⟩
    refine ⟨i, strip a, rfl, ⟨hi, fun u hu => ?_⟩, PQE.wide ⟨born, _, q, v', us, hq', less_perm hp h.perm hi, erase_sorted i h.sorted, by have := h.few; omega, ?_, fun x hx => h.wf x (hp.mem_iff.1 (List.mem_append_left _ hx))⟩ (fun x hx => .inl hx), hk'⟩
    · obtain ⟨y, hy, rfl⟩ := List.mem_map.1 (h.perm.mem_iff.2 hu)
      obtain ⟨n, hn⟩ := List.getElem?_of_mem hy
      exact (strip_le a y).2 (h.qw.heap.first (Nat.le_refl _) rfl n y (List.getElem?_eq_some_iff.1 hn).1 hn)
    · have := hp.length_eq
      simp at this hs ⊢
      omega
theorem Take_empty (h : PQE F gq gm k [] w) :
    Calls Try.prog 27 #[.pointer (some ⟨gq, 0, none⟩)] w fun e w' => e = .returned (.tuple #[.agg #[.int .i64 0, .int .i64 0], .bool false]) ∧ PQE F gq gm (k + 1) [] w' ∧ Below w.heap.size w w' := by
  obtain ⟨born, M, q, v, ts, h⟩ := h
  have h1 := h.len
  obtain rfl : ts = [] := List.eq_nil_of_length_eq_zero (by simpa using h1.symm)
  refine Calls.mono (Take_none F gq gm born v w h.qw.hw) ?_
  rintro e w' ⟨rfl, hb⟩
  exact ⟨rfl, PQE.below ⟨born, M, q, v, [], h.next⟩ hb, hb⟩
/-- the row of both -/
theorem List_all (h : PQE F gq gm k qs w) :
    Calls Try.prog 28 #[.pointer (some ⟨gq, 0, none⟩)] w fun e w' => ∃ os vo, e = .returned vo ∧ os.Perm qs ∧ os.Pairwise le ∧ IsRow w' vo os.length (items os) ∧ Below w.heap.size w w' := by
  obtain ⟨born, M, q, v, ts, h⟩ := h
  refine Calls.mono (List_any F gq gm born v ts w h.qw.hw h.short h.wf) ?_
  rintro e w' ⟨os, vo, rfl, h1, h2, h3, h4⟩
  exact ⟨os, vo, rfl, h1.trans h.perm, h2, h3, h4⟩
theorem Row_all (h : RQE G gr qs w) (hl : qs.length ≤ 200) (hs : (qs.map Th.born).Pairwise (· < ·)) :
    Calls Try.prog 16 #[.pointer (some ⟨gr, 0, none⟩)] w fun e w' => ∃ os vo, e = .returned vo ∧ os.Perm qs ∧ os.Pairwise le ∧ IsRow w' vo os.length (items os) ∧ Below w.heap.size w w' := by
  obtain ⟨v, h⟩ := h
  obtain ⟨a, cap, rfl, hW⟩ := h.row.waits
  exact Row_any gr qs a qs.length cap w (h.var.cell (i := 0) (by omega)) h.var.lt rfl (by omega) hW hs
theorem PQE.facts (h : PQE F gq gm k qs w) : qs.length ≤ 200 ∧ (qs.map Th.id).Nodup ∧ (qs.map Th.born).Pairwise (· < ·) := by
  obtain ⟨born, M, q, v, ts, h⟩ := h
  exact ⟨by rw [h.len]; exact h.short, h.uniq, h.sorted⟩
end
end Go.Proofs.Ytfjoakhcgpckgaa
