/- The queue's list: what the two loops keep. -/
import Derived.Test.YtfjoakhcgpckgaaQueueTake
import Derived.Test.YtfjoakhcgpckgaaQueueRowM
namespace Go.Proofs.Ytfjoakhcgpckgaa
open Go.ChangeShapes Go.WideShapes Go.ChangeAt Go.RowKit
set_option linter.unusedVariables false
open Hp
/-- items, cell by cell -/
def items (os : List Th) : List Value := os.flatMap fun t => [.int .i64 t.prio, .int .i64 t.id]
theorem items_length (os : List Th) : (items os).length = os.length * 2 := by
  unfold items
  induction os with
  | nil => rfl
  | cons a l ih => rw [List.flatMap_cons, List.length_append, ih]; simp; omega
theorem items_push (os : List Th) (t : Th) : items (os ++ [t]) = items os ++ [.int .i64 t.prio, .int .i64 t.id] := by simp [items]
theorem items_app (os us : List Th) : items (os ++ us) = items os ++ items us := by simp [items]
theorem items_at : ∀ {os : List Th} {i : Nat} {t : Th}, os[i]? = some t → (items os)[i * 2]? = some (.int .i64 t.prio) ∧ (items os)[i * 2 + 1]? = some (.int .i64 t.id)
  | [], i, t, h => by simp at h
  | a :: l, 0, t, h => by
    simp at h
    subst h
    simp [items]
  | a :: l, i + 1, t, h => by
    have := items_at (os := l) (i := i) (t := t) (by simpa using h)
    have e : items (a :: l) = [.int .i64 a.prio, .int .i64 a.id] ++ items l := by simp [items]
    rw [e]
    rw [List.getElem?_append_right (by simp; omega), List.getElem?_append_right (by simp; omega)]
    simpa [show (i + 1) * 2 - 2 = i * 2 from by omega, show (i + 1) * 2 + 1 - 2 = i * 2 + 1 from by omega] using this
theorem infoItem : (Try.prog.info? 30).map (fun i => (i.zero, i.size, i.bytes)) = some (some (.agg #[.int .i64 0, .int .i64 0]), 2, 16) := by kernel_rfl
/-- what lies in F alone is what a queue reads -/
theorem HW.kept_all {F : Nat → Prop} {gq gm : Nat} {born : Int} {v : Value} {ts : List Th} {w w' : World} (h : HW F gq gm born v ts w) (hb : ∀ k, F k → w'.heap[k]? = w.heap[k]?) : HW F gq gm born v ts w' := by
  refine ⟨h.var.of_block (hb _ h.fq), h.fq, ⟨h.row.1, ?_⟩, h.rowF, fun j t hj => ⟨(h.th j t hj).1, (h.th j t hj).2.of_block (hb _ (h.th j t hj).1)⟩, h.inj⟩
  rcases h.row.2 with h2 | ⟨g, cap, cur, rfl, hbg, hgg, h3⟩
  · exact .inl h2
  · exact .inr ⟨g, cap, cur, rfl, hbg, by rw [hb g (h.rowF g rfl)]; exact hgg, h3⟩
theorem own_kept {F : Nat → Prop} {w w' : World} {base n size : Nat} {e : TypeId} {v : Value} {xs : List Value} (h : w.ownsRow base e size v n xs) (hk : Kept F w w') (hn : ∀ k, v.ownBlock = some k → ¬ F k) : w'.ownsRow base e size v n xs := by
  refine ⟨h.1, ?_⟩
  rcases h.2 with h2 | ⟨g, cap, cur, rfl, hbg, hgg, rest⟩
  · exact .inl h2
  · exact .inr ⟨g, cap, cur, rfl, hbg, by rw [hk.block g (Array.getElem?_eq_some_iff.1 hgg).1 (hn g rfl)]; exact hgg, rest⟩
/-- loop 1: the first k of the things are in a queue of their own -/
structure Copied (B gq gm : Nat) (ts : List Th) (k : Nat) (v : Value) (cs : List Th) (M : Int → Option Nat) (w wr : World) : Prop where
  hw : HW (fun k => B ≤ k) gq gm 0 v cs wr
  map : MapW gm M k wr
  gm' : B ≤ gm
  heap : Heap cs cs.length
  perm : (cs.map strip).Perm ((ts.take k).map strip)
  below : Below B w wr
theorem Copied.len {B gq gm : Nat} {ts : List Th} {k : Nat} {v : Value} {cs : List Th} {M : Int → Option Nat} {w wr : World} (h : Copied B gq gm ts k v cs M w wr) (hk : k ≤ ts.length) : cs.length = k := by
  have := h.perm.length_eq
  simp at this
  omega
/-- loop 2: what is taken, what is left -/
structure Listed (B A gq gm : Nat) (all out : List Th) (vo : Value) (v : Value) (cs : List Th) (M : Int → Option Nat) (q : Nat) (w wr : World) : Prop where
  hw : HW (fun k => B ≤ k ∧ k < A) gq gm 0 v cs wr
  map : MapW gm M q wr
  gm' : B ≤ gm ∧ gm < A
  ha : B ≤ A ∧ A ≤ wr.heap.size
  heap : Heap cs cs.length
  taken : Taken all out (cs.map strip)
  own : wr.ownsRow A 30 2 vo out.length (items out)
  below : Below B w wr
theorem Copied.listed {B gq gm : Nat} {ts : List Th} {v : Value} {cs : List Th} {M : Int → Option Nat} {w wr : World} (h : Copied B gq gm ts ts.length v cs M w wr) (hB : B ≤ w.heap.size) : Listed B wr.heap.size gq gm (ts.map strip) [] (.slice none 0 0) v cs M ts.length w wr := by
  have hs := h.below.size
  refine ⟨h.hw.small, h.map, ⟨h.gm', h.map.lt⟩, ⟨by omega, Nat.le_refl _⟩, h.heap, (Taken.start _).congr ?_, World.ownsRow_nil _ _ _ _, h.below⟩
  have := h.perm
  rwa [List.take_length] at this
theorem Listed.sum {B A gq gm : Nat} {ts out : List Th} {vo : Value} {v : Value} {cs : List Th} {M : Int → Option Nat} {q : Nat} {w wr : World} (h : Listed B A gq gm (ts.map strip) out vo v cs M q w wr) : out.length + cs.length = ts.length := by
  have := h.taken.len
  simpa using this
theorem Listed.mem {B A gq gm : Nat} {ts out : List Th} {vo : Value} {v : Value} {cs : List Th} {M : Int → Option Nat} {q : Nat} {w wr : World} (h : Listed B A gq gm (ts.map strip) out vo v cs M q w wr) {a : Th} (ha : a ∈ cs) : ∃ t, t ∈ ts ∧ t.id = a.id := by
  have h1 : strip a ∈ ts.map strip := h.taken.perm.mem_iff.1 (List.mem_append_right _ (List.mem_map.2 ⟨a, ha, rfl⟩))
  obtain ⟨t, h2, h3⟩ := List.mem_map.1 h1
  exact ⟨t, h2, show (strip t).id = (strip a).id from by rw [h3]⟩
theorem Listed.next {B A gq gm : Nat} {all out : List Th} {vo vo' : Value} {v v' : Value} {cs us : List Th} {M M' : Int → Option Nat} {q : Nat} {w wr w6 w7 : World} {a : Th} (h : Listed B A gq gm all out vo v cs M q w wr) (h0 : cs[0]? = some a)
    (hp : (us ++ [a]).Perm cs) (hh : Heap us us.length) (hw : HW (fun k => B ≤ k ∧ k < A) gq gm 0 v' us w6) (hm : MapW gm M' q w6) (hk : Kept (fun k => B ≤ k ∧ k < A) wr w6) (hb : Below A w6 w7)
    (ho : w7.ownsRow A 30 2 vo' (out.length + 1) (items out ++ [.int .i64 a.prio, .int .i64 a.id])) (hB : B ≤ w.heap.size) (hwr : w.heap.size ≤ wr.heap.size) : Listed B A gq gm all (out ++ [strip a]) vo' v' us M' q w w7 := by
  refine ⟨hw.kept_all fun k hk => hb.block k hk.2, hm.block (hb.block gm h.gm'.2), h.gm', ⟨h.ha.1, by have := hk.size; have := hb.size; have := h.ha.2; omega⟩, hh, ?_, ?_, ?_⟩
  · refine h.taken.step ?_ fun x hx => ?_
    · have := hp.map strip
      rwa [List.map_append] at this
    · obtain ⟨b, hb', rfl⟩ := List.mem_map.1 hx
      obtain ⟨i, hi, rfl⟩ := List.getElem_of_mem hb'
      exact (strip_le a cs[i]).2 (h.heap.first (Nat.le_refl _) h0 i _ hi (List.getElem?_eq_getElem hi))
  · rw [List.length_append, items_push]
    exact ho
  · exact h.below.trans ((hk.toBelow (by omega) (fun k hk => hk.1)).trans (hb.mono h.ha.1))
end Go.Proofs.Ytfjoakhcgpckgaa
