/- Slots and steps as rows; an append of two numbers; the library's sort and its compaction at a row of the call's own. -/
import Derived.Test.YtfjoakhcgpckgaaOwn
import Derived.Test.YtfjoakhcgpckgaaBookM
import Derived.Test.YtfjoakhcgpckgaaShelfB
import Derived.Sort.OwnSortedInts
import Derived.Deep.LoopGhost
import Derived.Deep.CutBlock
import Derived.Deep.DeepCutAuto
import Derived.RegionTactic
namespace Go.Proofs.Ytfjoakhcgpckgaa
open Go.ChangeShapes Go.WideShapes Go.ChangeAt Go.RowKit
set_option linter.unusedVariables false
open Bk
def SlotsAt (w : World) (b off : Nat) (L : List Sl) : Prop := ∀ i s, L[i]? = some s → w.cell? ⟨b, off + i * 3, none⟩ = some (.int .i64 s.fr) ∧ w.cell? ⟨b, off + i * 3 + 1, none⟩ = some (.int .i64 s.to) ∧ w.cell? ⟨b, off + i * 3 + 2, none⟩ = some (.int .i64 s.n)
def Slots (w : World) (a : Option Addr) (L : List Sl) : Prop := 0 < L.length → ∃ b off, a = some ⟨b, off, none⟩ ∧ b < w.heap.size ∧ SlotsAt w b off L
theorem SlotsAt.below {w w' : World} {b off : Nat} {L : List Sl} (h : SlotsAt w b off L) {B : Nat} (hb : Below B w w') (hB : b < B) : SlotsAt w' b off L := fun i s hi => by
  obtain ⟨h1, h2, h3⟩ := h i s hi
  exact ⟨(hb.cell (p := ⟨b, _, none⟩) hB).trans h1, (hb.cell (p := ⟨b, _, none⟩) hB).trans h2, (hb.cell (p := ⟨b, _, none⟩) hB).trans h3⟩
theorem Slots.below {w w' : World} {a : Option Addr} {L : List Sl} (h : Slots w a L) {B : Nat} (hb : Below B w w') (hB : w.heap.size ≤ B) : Slots w' a L := fun hl => by
  obtain ⟨b, off, e, h1, h2⟩ := h hl
  exact ⟨b, off, e, Nat.lt_of_lt_of_le h1 hb.size, h2.below hb (by omega)⟩
def slc (L : List Sl) : List Value := L.flatMap fun s => [.int .i64 s.fr, .int .i64 s.to, .int .i64 s.n]
theorem slc_append (A B : List Sl) : slc (A ++ B) = slc A ++ slc B := by simp [slc]
theorem slc_length (L : List Sl) : (slc L).length = L.length * 3 := by
  induction L with
  | nil => rfl
  | cons s L ih => simp only [slc, List.flatMap_cons, List.length_append, List.length_cons, List.length_nil] at ih ⊢; omega
theorem slc_at {L : List Sl} {i : Nat} {s : Sl} (h : L[i]? = some s) : (slc L)[i * 3]? = some (.int .i64 s.fr) ∧ (slc L)[i * 3 + 1]? = some (.int .i64 s.to) ∧ (slc L)[i * 3 + 2]? = some (.int .i64 s.n) := by
  induction L generalizing i with
  | nil => simp at h
  | cons x L ih =>
    have e : slc (x :: L) = [.int .i64 x.fr, .int .i64 x.to, .int .i64 x.n] ++ slc L := by simp [slc]
    cases i with
    | zero => simp at h; subst h; rw [e]; simp
    | succ i =>
      obtain ⟨h1, h2, h3⟩ := ih (i := i) (by simpa using h)
      rw [e]
      refine ⟨?_, ?_, ?_⟩
      · rw [List.getElem?_append_right (by simp; omega)]; simpa [show (i + 1) * 3 - 3 = i * 3 from by omega] using h1
      · rw [List.getElem?_append_right (by simp; omega)]; simpa [show (i + 1) * 3 + 1 - 3 = i * 3 + 1 from by omega] using h2
      · rw [List.getElem?_append_right (by simp; omega)]; simpa [show (i + 1) * 3 + 2 - 3 = i * 3 + 2 from by omega] using h3
theorem Slots.of {w : World} {a : Option Addr} {L : List Sl} (h : Vals w a (slc L)) : Slots w a L := fun hl => by
  obtain ⟨b, off, e, h1, h2⟩ := h (by rw [slc_length]; omega)
  refine ⟨b, off, e, h1, fun i s hi => ?_⟩
  obtain ⟨g1, g2, g3⟩ := slc_at hi
  exact ⟨h2 _ _ g1, by rw [Nat.add_assoc]; exact h2 _ _ g2, by rw [Nat.add_assoc]; exact h2 _ _ g3⟩
def stc (L : List Sl) (P : List Int) : List Value := P.flatMap fun p => [.int .i64 p, .int .i64 (bk L p)]
theorem stc_push (L : List Sl) (P : List Int) (p : Int) : stc L (P ++ [p]) = stc L P ++ [.int .i64 p, .int .i64 (bk L p)] := by simp [stc]
theorem stc_at {L : List Sl} {P : List Int} {i : Nat} {p : Int} (h : P[i]? = some p) : (stc L P)[i * 2]? = some (.int .i64 p) ∧ (stc L P)[i * 2 + 1]? = some (.int .i64 (bk L p)) := by
  induction P generalizing i with
  | nil => simp at h
  | cons x P ih =>
    have e : stc L (x :: P) = [.int .i64 x, .int .i64 (bk L x)] ++ stc L P := by simp [stc]
    cases i with
    | zero => simp at h; subst h; rw [e]; simp
    | succ i =>
      obtain ⟨h1, h2⟩ := ih (i := i) (by simpa using h)
      rw [e]
      refine ⟨?_, ?_⟩
      · rw [List.getElem?_append_right (by simp; omega)]; simpa [show (i + 1) * 2 - 2 = i * 2 from by omega] using h1
      · rw [List.getElem?_append_right (by simp; omega)]; simpa [show (i + 1) * 2 + 1 - 2 = i * 2 + 1 from by omega] using h2
/-- the steps of slots, in a row of their own -/
structure Steps (w : World) (g k cp : Nat) (L : List Sl) : Prop where
  len : k = (pts L).length
  cap : k ≤ cp ∧ cp ≤ 9223372036854775807
  two : 2 ≤ k ∧ k ≤ 204
  lt : g < w.heap.size
  cell : ∀ i p, (pts L)[i]? = some p → w.cell? ⟨g, i * 2, none⟩ = some (.int .i64 p) ∧ w.cell? ⟨g, i * 2 + 1, none⟩ = some (.int .i64 (bk L p))
theorem Steps.below {w w' : World} {g k cp : Nat} {L : List Sl} (h : Steps w g k cp L) (hb : Below w.heap.size w w') : Steps w' g k cp L :=
  ⟨h.len, h.cap, h.two, Nat.lt_of_lt_of_le h.lt hb.size, fun i p hi => ⟨(hb.cell (p := ⟨g, _, none⟩) h.lt).trans (h.cell i p hi).1, (hb.cell (p := ⟨g, _, none⟩) h.lt).trans (h.cell i p hi).2⟩⟩
theorem infoIntB : (Try.prog.info? 3).map (fun i => (i.zero, i.size, i.bytes)) = some (some (.int .i64 0), 1, 8) := by kernel_rfl
theorem infoStep : (Try.prog.info? 222).map (fun i => (i.zero, i.size, i.bytes)) = some (some (.agg #[.int .i64 0, .int .i64 0]), 2, 16) := by kernel_rfl
theorem infoSlot : (Try.prog.info? 130).map (fun i => (i.zero, i.size, i.bytes)) = some (some (.agg #[.int .i64 0, .int .i64 0, .int .i64 0]), 3, 24) := by kernel_rfl
/-- 'out = append(out, u, v)', two cells -/
theorem wpList_push2 {P : Program} (w : World) {ops : Array Oper} {rest : List Oper} {o : Oper} {a : Act} {Q : Exit → Act → World → Prop} (hgd : o.guard = none) (s x : Operand) (t : TypeId)
    (ho : o.op = .call { callee := .builtin .append, args := #[s, x], argTypes := #[t, t] })
    (base : Nat) (e : TypeId) (z : Value) (bytes : Nat) (ht : P.underlying t = some (.slice e)) (hinfo : (P.info? e).map (fun i => (i.zero, i.size, i.bytes)) = some (some z, 1, bytes)) (hz1 : z.cells.size = 1)
    (v : Value) (n : Nat) (xs : List Value) (u u' : Value) (H : Nat) (hH : w.heap.size = H) (hs : a.eval s = v) (hown : w.ownsRow base e 1 v n xs) (hx : a.eval x = .slice (some ⟨H, 0, none⟩) 2 2) (hu : u.oneCell' = true) (hu' : u'.oneCell' = true)
    (h63 : n + 2 ≤ maxLen) (hbytes : (n + 2) * bytes ≤ 140737488355328) (hbase : base ≤ w.heap.size)
    (h : ∀ g cap w', w'.ownsRow base e 1 (.slice (some ⟨g, 0, none⟩) (n + 2) cap) (n + 2) (xs ++ [u, u']) → w.grownBy w' v.ownBlock → (v.ownBlock = some g ∨ w.heap.size ≤ g) → g < w'.heap.size → wpList P ops Q rest (a.put o.dst (.slice (some ⟨g, 0, none⟩) (n + 2) cap)) w') : wpList P ops Q (o :: rest) a (w.alloc (.cells #[u, u'] e)) := by
  obtain ⟨i, hi, hz0, hzs, hzb⟩ := info_parts hinfo
  subst hH
  refine wpList_append_lies (w.alloc (.cells #[u, u'] e)) hgd s x t ho base e i z 1 bytes ht hi hz0 hzs hzb hz1 (by decide) v n xs hs (hown.alloc _) ⟨w.heap.size, 0, none⟩ 2 2 [u, u'] hx rfl ?_ (by simpa using ⟨hu, hu'⟩) (by decide) h63 hbytes (by simp; omega) _ rfl ?_
  · have := World.news_of_block (heap_alloc_new w (.cells #[u, u'] e))
    exact this
  · intro g cap w' h1 h2 h3 h4
    exact h g cap w' h1 (grownBy_alloc_trans h2) (h3.imp id fun e => by rw [e]; simp) h4
def intsB (l : List Int) : List Value := l.map (Value.int .i64)
theorem intsB_push2 (l : List Int) (x y : Int) : intsB (l ++ [x, y]) = intsB l ++ [.int .i64 x, .int .i64 y] := by simp [intsB]
theorem built2 (w : World) (u v : Value) (e : TypeId) : (w.alloc (.cells #[u, v] e)).ownsRow w.heap.size e 1 (.slice (some ⟨w.heap.size, 0, none⟩) 2 2) 2 [u, v] :=
  ⟨rfl, .inr ⟨w.heap.size, 2, #[u, v], rfl, Nat.le_refl _, heap_alloc_new w _, Nat.le_refl _, by decide, rfl, rfl⟩⟩
theorem sortRaw (L : List Sl) (n B g cp : Nat) (w : World) (hn : n = L.length) (hl : n ≤ 101) (ho : w.ownsRow B 3 1 (.slice (some ⟨g, 0, none⟩) (2 + 2 * n) cp) (2 + 2 * n) (intsB (raw L))) :
    Calls Try.prog 205 #[.slice (some ⟨g, 0, none⟩) (2 + 2 * n) cp] w fun e w' => e = .returned (.tuple #[]) ∧ w'.ownsRow B 3 1 (.slice (some ⟨g, 0, none⟩) (2 + 2 * n) cp) (2 + 2 * n) (intsB (srt L)) ∧ w.grownBy w' (some g) := by
  rcases ho.2 with ⟨h0, _⟩ | ⟨g', cap', cur, hv, hg, hb, h1, h2, h3, h4⟩
  · cases h0
  cases hv
  have hlen : (raw L).length = 2 + 2 * n := by rw [raw_length, hn]
  have hH := holds_of_blockI (ss := raw L) hb (by rw [Nat.mul_one] at h4; rw [hlen]; exact h4)
  have hlt := (Array.getElem?_eq_some_iff.1 hb).1
  have C := Try.slices_Sort_int g 0 cp (raw L) w hH hlt (by rw [hlen]; omega)
  rw [hlen] at C
  refine C.mono ?_
  rintro e w' ⟨rfl, q, os, rfl⟩
  refine ⟨rfl, ?_, grownBy_sortedI _⟩
  have := ownsRow_sortedI (w := w) (base := B) (g := g) (n := q) (cap := cp) (e := 3) (os := os) (cur := cur) (ss := raw L) (ts := srt L) (by rw [srt_length, raw_length]) hg hb (by rw [hlen]; exact h1) h2 h3
  rw [hlen] at this
  exact this
theorem compactRaw (L : List Sl) (n B g cp : Nat) (w : World) (hn : n = L.length) (hl : n ≤ 101) (hS : Sane L) (ho : w.ownsRow B 3 1 (.slice (some ⟨g, 0, none⟩) (2 + 2 * n) cp) (2 + 2 * n) (intsB (srt L))) :
    Calls Try.prog 206 #[.slice (some ⟨g, 0, none⟩) (2 + 2 * n) cp] w fun e w' => ∃ k, e = .returned (.slice (some ⟨g, 0, none⟩) k cp) ∧ k = (pts L).length ∧ 2 ≤ k ∧ k ≤ 204 ∧ k ≤ cp ∧ g < w'.heap.size ∧ (∀ i p, (pts L)[i]? = some p → w'.cell? ⟨g, i, none⟩ = some (.int .i64 p)) ∧ w.grownBy w' (some g) := by
  rcases ho.2 with ⟨h0, _⟩ | ⟨g', cap', cur, hv, hg, hb, h1, h2, h3, h4⟩
  · cases h0
  cases hv
  have hlen : (srt L).length = 2 + 2 * n := by rw [srt_length, hn]
  have hH := holds_of_blockI (ss := srt L) hb (by rw [Nat.mul_one] at h4; rw [hlen]; exact h4)
  have hlt := (Array.getElem?_eq_some_iff.1 hb).1
  have hml : maxLen = 9223372036854775807 := rfl
  have C := Try.slices_Compact_int g 0 cp (srt L) w hH (by rw [hlen]; omega) (by rw [hlen]; omega)
  rw [hlen] at C
  have hk := pts_length L
  rw [← hn] at hk
  refine C.mono ?_
  rintro e w' ⟨rfl, q, rfl⟩
  have hd0 : Go.Sort.Holds (Value.int .i64) (Go.Sort.ahead w q) g 0 (srt L).toArray := hH
  have hsz : (Lib.compact (srt L) ++ List.replicate (2 + 2 * n - (Lib.compact (srt L)).length) 0).toArray.size = (srt L).toArray.size := by
    have : (Lib.compact (srt L)).length ≤ 2 + 2 * n := hk
    simp only [List.size_toArray, List.length_append, List.length_replicate, hlen]
    omega
  have hd := Go.Sort.holds_putRow (Value.int .i64) (Go.Sort.ahead w q) g 0 (srt L).toArray _ hd0 hsz
  refine ⟨(pts L).length, rfl, rfl, (pts_ok L).two hS, by omega, by omega, by simpa [Go.Sort.ahead] using hlt, fun i p hi => ?_, ?_⟩
  · have hil : i < (pts L).length := (List.getElem?_eq_some_iff.1 hi).1
    have hi2 : i < (srt L).toArray.size := by simp only [List.size_toArray, hlen]; omega
    have := (hd i (by rw [hsz]; exact hi2)).1
    rw [Nat.zero_add] at this
    rw [this]
    have hi3 : (Lib.compact (srt L) ++ List.replicate (2 + 2 * n - (Lib.compact (srt L)).length) 0)[i]? = some p := by
      rw [List.getElem?_append_left (show i < (Lib.compact (srt L)).length from hil)]; exact hi
    have hi4 := (List.getElem?_eq_some_iff.1 hi3).1
    simp only [List.getElem!_toArray, List.getElem!_eq_getElem?_getD, hi3, Option.getD_some]
  · have := grownBy_sortedI (w := w) (g := g) (n := q) (os := #[]) (Lib.compact (srt L) ++ List.replicate (2 + 2 * n - (Lib.compact (srt L)).length) 0).toArray
    rwa [Go.Sort.grow_empty] at this
end Go.Proofs.Ytfjoakhcgpckgaa
