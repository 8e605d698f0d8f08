/- What a reading of an amount tells; the amounts in memory while it is read. -/
import Derived.Test.YtgpkjlogofpckaaDoorNeedText
namespace Go.Proofs.YtgpkjlogofpckaaDoor
open Go.ChangeShapes Go.WideShapes Go.ChangeAt Go.RowKit
set_option linter.unusedVariables false
open Tp Nt
/-- what a reading tells -/
def readOf (r : Option V3) : V3 × Int := match r with
  | none => ((0, 0, 0), 3)
  | some v => if needB v.1 v.2.1 v.2.2 then (v, 0) else ((0, 0, 0), 4)
def rdVal (r : Option V3) : Value := .tuple #[.agg #[.int .i64 ((readOf r).1.1 : Int), .int .i64 ((readOf r).1.2.1 : Int), .int .i64 ((readOf r).1.2.2 : Int)], .int .i64 (readOf r).2]
theorem rdVal_none {r : Option V3} (h : r = none) : rdVal r = .tuple #[.agg #[.int .i64 0, .int .i64 0, .int .i64 0], .int .i64 3] := by rw [h]; rfl
theorem rdVal_bad {r : Option V3} {v : V3} (h : r = some v) (hb : needB v.1 v.2.1 v.2.2 = false) : rdVal r = .tuple #[.agg #[.int .i64 0, .int .i64 0, .int .i64 0], .int .i64 4] := by
  rw [h]; unfold rdVal readOf; simp only [hb]; rfl
theorem rdVal_ok {r : Option V3} {v : V3} (h : r = some v) (hb : needB v.1 v.2.1 v.2.2 = true) : rdVal r = .tuple #[.agg #[.int .i64 (v.1 : Int), .int .i64 (v.2.1 : Int), .int .i64 (v.2.2 : Int)], .int .i64 0] := by
  rw [h]; unfold rdVal readOf; simp only [hb]; rfl
theorem topCell (W : World) (c : Array Value) (T : TypeId) (b i : Nat) (hb : b = W.heap.size) : (W.alloc (.cells c T)).cell? ⟨b, i, none⟩ = c[i]? := by
  subst hb
  simp
/-- the result's box, the three numbers -/
structure RdW (B : Nat) (v : V3) (w wr : World) : Prop where
  res : ∀ i, i < 3 → wr.cell? ⟨B, i, none⟩ = some (.int .i64 0)
  nums : ∀ i, i < 3 → wr.cell? ⟨B + 1, i, none⟩ = some (.int .i64 (nuN v i : Int))
  below : Below B w wr
  sz : B + 2 ≤ wr.heap.size
  rf : ∀ i, wr.frozen? ⟨B, i, none⟩ = false
  nf : ∀ i, wr.frozen? ⟨B + 1, i, none⟩ = false
theorem frozenNone {w : World} {b i : Nat} (h : w.heap.size ≤ b) : w.frozen? ⟨b, i, none⟩ = false := by
  unfold World.frozen?
  rw [Array.getElem?_eq_none h]
theorem zero3 {i : Nat} (h : i < 3) : (#[.int .i64 0, .int .i64 0, .int .i64 0] : Array Value)[i]? = some (.int .i64 0) := by
  rcases (by omega : i = 0 ∨ i = 1 ∨ i = 2) with rfl | rfl | rfl <;> rfl
theorem RdW.start {w : World} {B : Nat} {t t' : TypeId} (hB : w.heap.size = B) : RdW B (0, 0, 0) w ((w.alloc (.cells #[.int .i64 0, .int .i64 0, .int .i64 0] t)).alloc (.cells #[.int .i64 0, .int .i64 0, .int .i64 0] t')) := by
  refine ⟨fun i hi => ?_, fun i hi => ?_, ?_, by simp [hB], fun i => by rw [frozen?_alloc_cells, frozen?_alloc_cells]; exact frozenNone (by omega), fun i => by rw [frozen?_alloc_cells, frozen?_alloc_cells]; exact frozenNone (by omega)⟩
  · exact ((((Below.refl (w.alloc (.cells #[.int .i64 0, .int .i64 0, .int .i64 0] t)).heap.size _).alloc (Nat.le_refl _) _).cell (p := ⟨B, i, none⟩) (by simp [hB])).trans (topCell _ _ _ B i hB.symm)).trans (zero3 hi)
  · refine ((topCell _ _ _ (B + 1) i (by simp [hB]))).trans ((zero3 hi).trans ?_)
    rcases (by omega : i = 0 ∨ i = 1 ∨ i = 2) with rfl | rfl | rfl <;> rfl
  · rw [← hB]
    exact (((Below.refl _ _).alloc (Nat.le_refl _) _).alloc (by simp) _)
theorem RdW.step {B C : Nat} {v : V3} {w wr wx : World} (h : RdW B v w wr) (hb : Below C wr wx) (hC : B + 2 ≤ C) : RdW B v w wx :=
  ⟨fun i hi => (hb.cell (p := ⟨B, i, none⟩) (by show B < C; omega)).trans (h.res i hi), fun i hi => (hb.cell (p := ⟨B + 1, i, none⟩) (by show B + 1 < C; omega)).trans (h.nums i hi), h.below.trans (hb.mono (by omega)), Nat.le_trans h.sz hb.size, fun i => (hb.frozen (p := ⟨B, i, none⟩) (by show B < C; omega)).trans (h.rf i), fun i => (hb.frozen (p := ⟨B + 1, i, none⟩) (by show B + 1 < C; omega)).trans (h.nf i)⟩
theorem nuN_set (v : V3) (k n i : Nat) (hk : k < 3) (hi : i < 3) : nuN (setV v (nmN k) n) i = if i = k then n else nuN v i := by
  rcases (by omega : k = 0 ∨ k = 1 ∨ k = 2) with rfl | rfl | rfl <;> rcases (by omega : i = 0 ∨ i = 1 ∨ i = 2) with rfl | rfl | rfl <;> rfl
theorem RdW.put {B k n : Nat} {v : V3} {w wr : World} (h : RdW B v w wr) (hk : k < 3) : RdW B (setV v (nmN k) n) w (wr.setCell ⟨B + 1, k, none⟩ (.int .i64 (n : Int))) := by
  refine ⟨fun i hi => ?_, fun i hi => ?_, h.below.setCell (p := ⟨B + 1, k, none⟩) (by show B ≤ B + 1; omega) _, by simpa using h.sz, fun i => by rw [World.frozen?_setCell]; exact h.rf i, fun i => by rw [World.frozen?_setCell]; exact h.nf i⟩
  · rw [World.cell?_setCell_other _ _ _ _ (by intro e; have := congrArg Addr.block e; simp at this)]
    exact h.res i hi
  · rw [nuN_set v k n i hk hi, cell_set]
    by_cases e : i = k
    · subst e
      rw [if_pos rfl, if_pos rfl, h.nums i hi]; rfl
    · rw [if_neg (by intro h2; have := congrArg Addr.off h2; simp at this; omega), if_neg e]
      exact h.nums i hi
theorem foldO_snoc {f : V3 → Bs → Option V3} : ∀ (l : List Bs) (v : V3) (x : Bs), foldO f v (l ++ [x]) = (match foldO f v l with | none => none | some v' => f v' x)
  | [], v, x => by
    show (match f v x with | none => none | some v' => some v') = f v x
    cases f v x <;> rfl
  | y :: l, v, x => by
    rw [List.cons_append, foldO, foldO]
    cases f v y with
    | none => rfl
    | some v' => exact foldO_snoc l v' x
theorem foldO_next {f : V3 → Bs → Option V3} {P : List Bs} {j : Nat} {v0 v v' : V3} {x : Bs} (h : foldO f v0 (P.take j) = some v) (hx : P[j]? = some x) (hf : f v x = some v') : foldO f v0 (P.take (j + 1)) = some v' := by
  rw [take_snoc hx, foldO_snoc, h]; exact hf
theorem foldO_stop {f : V3 → Bs → Option V3} : ∀ {P : List Bs} {j : Nat} {v0 v : V3} {x : Bs}, foldO f v0 (P.take j) = some v → P[j]? = some x → f v x = none → foldO f v0 P = none
  | [], j, v0, v, x, _, hx, _ => by simp at hx
  | y :: P, 0, v0, v, x, h, hx, hf => by
    simp at hx h; subst hx
    simp [foldO] at h; subst h
    rw [foldO, hf]
  | y :: P, j + 1, v0, v, x, h, hx, hf => by
    rw [List.take_succ_cons, foldO] at h
    rw [foldO]
    cases hy : f v0 y with
    | none => rfl
    | some v1 => rw [hy] at h; exact foldO_stop (P := P) (j := j) h (by simpa using hx) hf
theorem pcs_len (c : UInt8) : ∀ (s : Bs) (t : Bs), t ∈ pcs c s → t.length ≤ s.length
  | [], t, h => by simp [pcs] at h; subst h; exact Nat.le_refl _
  | x :: r, t, h => by
    rw [pcs] at h
    split at h
    · rcases List.mem_cons.1 h with h | h
      · subst h; simp
      · have := pcs_len c r t h; simp; omega
    · have hne := pcs_ne c r
      cases hp : pcs c r with
      | nil => exact absurd hp hne
      | cons y l =>
        rw [hp] at h
        rcases List.mem_cons.1 h with h | h
        · subst h
          have := pcs_len c r y (by rw [hp]; simp)
          simp; omega
        · have := pcs_len c r t (by rw [hp]; simp [h])
          simp; omega
theorem pcs_cnt (c : UInt8) : ∀ s : Bs, (pcs c s).length ≤ s.length + 1
  | [] => by simp [pcs]
  | x :: r => by
    have := pcs_cnt c r
    rw [pcs]
    split
    · simp; omega
    · have hne := pcs_ne c r
      cases hp : pcs c r with
      | nil => exact absurd hp hne
      | cons y l => rw [hp] at this; simp at this ⊢; omega
/-- which of the three? -/
def mi (x : Bs) : Nat := if 4 < x.length then (if x.take 4 = cpu ++ [61] then 0 else if x.take 4 = mem ++ [61] then 1 else if x.take 4 = gpu ++ [61] then 2 else 3) else 3
theorem mi_le (x : Bs) : mi x ≤ 3 := by
  unfold mi
  repeat' split
  all_goals omega
theorem mi_yes {x : Bs} {k : Nat} (hk : k < 3) (h : mi x = k) : 4 < x.length ∧ x.take 4 = nmN k ++ [61] := by
  unfold mi at h
  split at h
  · rename_i hl
    refine ⟨hl, ?_⟩
    split at h
    · subst h; assumption
    · split at h
      · subst h; assumption
      · split at h
        · subst h; assumption
        · omega
  · omega
theorem mi_no {x : Bs} {k : Nat} (hk : k < 3) (h : mi x ≠ k) (hl : 4 < x.length) : x.take 4 ≠ nmN k ++ [61] := by
  intro e
  apply h
  unfold mi
  rw [if_pos hl, e]
  rcases (by omega : k = 0 ∨ k = 1 ∨ k = 2) with rfl | rfl | rfl <;> decide
theorem stepR_none {x : Bs} (v : V3) (h : mi x = 3) : stepR v x = none := by
  unfold stepR
  rw [if_neg]
  rintro ⟨hl, h1⟩
  unfold mi at h
  rw [if_pos hl] at h
  rcases h1 with h1 | h1 | h1
  · rw [if_pos h1] at h; omega
  · rw [h1] at h; revert h; decide
  · rw [h1] at h; revert h; decide
theorem stepR_mi {x : Bs} {k : Nat} (v : V3) (hk : k < 3) (h : mi x = k) : stepR v x = match intOf (x.drop 4) with | some n => if n ≤ 0 then none else some (setV v (nmN k) n.toNat) | none => none := by
  obtain ⟨hl, h4⟩ := mi_yes hk h
  have h3 : x.take 3 = nmN k := by
    have : x.take 3 = (x.take 4).take 3 := by rw [List.take_take]; rfl
    rw [this, h4, List.take_left' (nm_len k)]
  unfold stepR
  rw [if_pos ⟨hl, by rw [h4]; rcases (by omega : k = 0 ∨ k = 1 ∨ k = 2) with rfl | rfl | rfl <;> simp [nmN]⟩, h3]
  rfl
theorem ext_take (x : Bs) (n : Nat) : (bts x).extract 0 n = bts (x.take n) := by
  apply ByteArray.ext
  apply Array.toList_inj.1
  show ((bts x).extract 0 n).data.toList = x.take n
  rw [ByteArray.data_extract]
  simp [bts]
theorem ext_drop (x : Bs) (n : Nat) : (bts x).extract n x.length = bts (x.drop n) := by
  apply ByteArray.ext
  apply Array.toList_inj.1
  show ((bts x).extract n x.length).data.toList = x.drop n
  rw [ByteArray.data_extract]
  simp [bts]
  exact List.take_of_length_le (by simp)
theorem own_none {r : Option V3} {s : Bs} (h : r = none) : own r s = none := by rw [h]; rfl
/-- a row of texts that lies -/
structure RowAt (g : Nat) (P : List Bs) (w : World) : Prop where
  lt : g < w.heap.size
  at' : ∀ i t, P[i]? = some t → w.cell? ⟨g, i, none⟩ = some (.string (bts t))
theorem RowAt.step {g C : Nat} {P : List Bs} {wr wx : World} (h : RowAt g P wr) (hb : Below C wr wx) (hC : g < C) : RowAt g P wx :=
  ⟨Nat.lt_of_lt_of_le h.lt hb.size, fun i t hi => (hb.cell (p := ⟨g, i, none⟩) hC).trans (h.at' i t hi)⟩
theorem RowAt.put {g : Nat} {P : List Bs} {wr : World} {a : Addr} {u : Value} (h : RowAt g P wr) (ha : a.block ≠ g) : RowAt g P (wr.setCell a u) :=
  ⟨by simpa using h.lt, fun i t hi => by rw [World.cell?_setCell_other _ _ _ _ (by intro e; exact ha (congrArg Addr.block e))]; exact h.at' i t hi⟩
theorem RowAt.own {B g cp : Nat} {P : List Bs} {w : World} (h : w.ownsRow B 9 1 (.slice (some ⟨g, 0, none⟩) P.length cp) P.length (txv P)) : RowAt g P w :=
  ⟨(h.lt g rfl).2, fun i t hi => by rw [h.cellAt i (by rw [Nat.mul_one]; exact (List.getElem?_eq_some_iff.1 hi).1)]; exact txv_at hi⟩
/-- the three names -/
def names : List Bs := [cpu ++ [61], mem ++ [61], gpu ++ [61]]
theorem names_at {k : Nat} (h : k < 3) : names[k]? = some (nmN k ++ [61]) := by
  rcases (by omega : k = 0 ∨ k = 1 ∨ k = 2) with rfl | rfl | rfl <;> rfl
theorem RowAt.names {w : World} {t : TypeId} {g : Nat} (hg : w.heap.size = g) : RowAt g names (w.alloc (.cells #[.string ⟨#[99, 112, 117, 61]⟩, .string ⟨#[109, 101, 109, 61]⟩, .string ⟨#[103, 112, 117, 61]⟩] t)) :=
  ⟨by simp [hg], fun i u hi => by
    rw [topCell _ _ _ g i hg.symm]
    have : i < 3 := (List.getElem?_eq_some_iff.1 hi).1
    rcases (by omega : i = 0 ∨ i = 1 ∨ i = 2) with rfl | rfl | rfl <;> (cases hi; rfl)⟩
end Go.Proofs.YtgpkjlogofpckaaDoor
