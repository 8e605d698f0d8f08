/- Contracts: a timer is struck out of its slot's row. -/
import Derived.Test.YtjoejdpoehpkiaaWheelAdd
import Derived.Deep.MidRow
import Derived.Lib.SliceRun
namespace Go.Proofs.Ytjoejdpoehpkiaa
open Go.ChangeShapes Go.WideShapes Go.ChangeAt Go.RowKit Go.Deep
set_option linter.unusedVariables false
open Wh
theorem own_toRow {w : World} {base n size g cap : Nat} {e : TypeId} {xs : List Value} (h : w.ownsRow base e size (.slice (some ⟨g, 0, none⟩) n cap) n xs) : ∃ f, w.rowIs g e (cap * size) f ∧ base ≤ g ∧ n ≤ cap ∧ cap ≤ maxLen ∧ ∀ i u, xs[i]? = some u → f i = u := by
  rcases h.2 with ⟨h1, _⟩ | ⟨g', cap', cur, he, h2, h3, h4, h5, h6, h7⟩
  · cases h1
  · simp only [Value.slice.injEq, Option.some.injEq, Addr.mk.injEq, true_and, and_true] at he
    obtain ⟨rfl, rfl⟩ := he
    refine ⟨fun i => (cur[i]?).getD undef, ⟨cur, h3, h6, fun i hi => by
      obtain ⟨u, hu⟩ : ∃ u, cur[i]? = some u := ⟨_, Array.getElem?_eq_getElem (by omega)⟩
      simp [hu]⟩, h2, h4, h5, fun i u hi => ?_⟩
    rw [← h7, List.getElem?_take] at hi
    split at hi
    · have : cur[i]? = some u := by simpa using hi
      show (cur[i]?).getD undef = u
      rw [this]
      rfl
    · cases hi
theorem own_ofRow {w : World} {base n size g cap : Nat} {e : TypeId} {xs : List Value} {f : Nat → Value} (h : w.rowIs g e (cap * size) f) (hb : base ≤ g) (hn : n ≤ cap) (hc : cap ≤ maxLen) (hl : xs.length = n * size) (hx : ∀ i u, xs[i]? = some u → f i = u) : w.ownsRow base e size (.slice (some ⟨g, 0, none⟩) n cap) n xs := by
  obtain ⟨cur, h1, h2, h3⟩ := h
  have hm : n * size ≤ cap * size := Nat.mul_le_mul_right _ hn
  refine ⟨hl, .inr ⟨g, cap, cur, rfl, hb, h1, hn, hc, h2, ?_⟩⟩
  apply List.ext_getElem?
  intro i
  rw [List.getElem?_take]
  by_cases hi : i < n * size
  · rw [if_pos hi]
    have h4 := h3 i (by omega)
    have h5 : xs[i]? = some xs[i] := List.getElem?_eq_getElem (by omega)
    rw [h5, ← hx i _ h5]
    simpa using h4
  · rw [if_neg hi]
    exact (List.getElem?_eq_none (by omega)).symm
/-- the p-th thing of a row, by its cells -/
def TmAt (f : Nat → Value) (p : Nat) (t : Tm) : Prop := f (p * 3) = .int .i64 t.at' ∧ f (p * 3 + 1) = .int .i64 t.id ∧ f (p * 3 + 2) = .int .i64 t.born
theorem TmAt.of {f : Nat → Value} {L : List Tm} (h : ∀ i u, (tms L)[i]? = some u → f i = u) {p : Nat} {t : Tm} (hp : L[p]? = some t) : TmAt f p t := by
  obtain ⟨h1, h2, h3⟩ := tms_at hp
  exact ⟨h _ _ h1, h _ _ h2, h _ _ h3⟩
theorem tms_of {f : Nat → Value} {L : List Tm} (h : ∀ (p : Nat) (t : Tm), L[p]? = some t → TmAt f p t) : ∀ i u, (tms L)[i]? = some u → f i = u := by
  intro i u hi
  have hl := (List.getElem?_eq_some_iff.1 hi).1
  rw [tms_length] at hl
  have hk : i / 3 < L.length := by omega
  obtain ⟨t, ht⟩ : ∃ t, L[i / 3]? = some t := ⟨_, List.getElem?_eq_getElem hk⟩
  obtain ⟨a1, a2, a3⟩ := tms_at ht
  obtain ⟨b1, b2, b3⟩ := h _ _ ht
  have hm : i % 3 = 0 ∨ i % 3 = 1 ∨ i % 3 = 2 := by omega
  rcases hm with e | e | e
  · have e2 : i / 3 * 3 = i := by omega
    rw [e2] at a1 b1
    rw [hi] at a1
    rw [b1, Option.some.inj a1]
  · have e2 : i / 3 * 3 + 1 = i := by omega
    rw [e2] at a2 b2
    rw [hi] at a2
    rw [b2, Option.some.inj a2]
  · have e2 : i / 3 * 3 + 2 = i := by omega
    rw [e2] at a3 b3
    rw [hi] at a3
    rw [b3, Option.some.inj a3]
theorem enterDel : ∀ (args : Array Value) (w : World), (callFunc 18 args).run Try.prog w = .ok (.enter 18 args) w := fun args w => by kernel_rfl
theorem isDel (t : Tm) (b : Nat) (id : Int) (w : World) (hb : b < w.heap.size) (hc : w.cell? ⟨b, 0, none⟩ = some (.int .i64 id)) :
    Calls Try.prog 18 #[.agg #[.int .i64 t.at', .int .i64 t.id, .int .i64 t.born], .pointer (some ⟨b, 0, none⟩)] w fun e w' => e = .returned (.bool (t.id == id)) ∧ Below w.heap.size w w' := by
  go_enter Try.func18, Try.ntmps18
  go_wp2_with fail
  go_ret
  exact ⟨rfl, (Below.refl _ _).alloc (Nat.le_refl _) _⟩
def clos (b : Nat) : Value := .func (.func 18) #[] #[.pointer (some ⟨b, 0, none⟩)]
set_option maxRecDepth 20000 in
set_option maxHeartbeats 4000000 in
theorem IndexDel (L : List Tm) (g n cap b i0 : Nat) (id : Int) (f : Nat → Value) (w : World) (hr : w.rowIs g 51 (cap * 3) f) (hn : n ≤ cap) (hln : L.length = n) (hm : n ≤ 1000) (hx : ∀ (p : Nat) (t : Tm), L[p]? = some t → TmAt f p t) (hb : b < w.heap.size) (hc : w.cell? ⟨b, 0, none⟩ = some (.int .i64 id)) (hi : ∀ (p : Nat) (t : Tm), L[p]? = some t → (t.id = id ↔ p = i0)) (hi0 : i0 < n) :
    Calls Try.prog 24 #[.slice (some ⟨g, 0, none⟩) n cap, clos b] w fun e w' => e = .returned (.int .i64 (i0 : Int)) ∧ Below w.heap.size w w' := by
  have HR := Lib.hid hr
  have HX := Lib.hid hx
  have HI := Lib.hid hi
  have HC := Lib.hid hc
  have HB := Lib.hid hb
  have HLN := Lib.hid hln
  have hen := enterDel
  unfold clos
  clear hr hx hi hc hb hln
  go_enter Try.func24, Try.ntmps24
  go_wp2_with fail
  go_loopw [8] (fun x wr => ∃ p : Nat, p ≤ i0 ∧ x = .int .i64 p ∧ Hid (Below w.heap.size w wr)) (fun v _ => n - (intOf v).toNat)
  case atStart => exact ⟨0, by omega, rfl, Lib.hid (Below.refl _ _)⟩
  case round =>
    obtain ⟨p, hp, rfl, HW⟩ := hrel
    obtain ⟨t, ht⟩ : ∃ t, L[p]? = some t := ⟨_, List.getElem?_eq_getElem (by have := HLN.out; omega)⟩
    obtain ⟨x0, x1, x2⟩ := HX.out p t ht
    have hrr := rowIs_below HR.out HW.out HR.out.lt
    have q0 : wr.cell? ⟨g, p * 3, none⟩ = some (.int .i64 t.at') := by rw [← x0]; exact hrr.cell (by omega)
    have q1 : wr.cell? ⟨g, p * 3 + 1, none⟩ = some (.int .i64 t.id) := by rw [← x1]; exact hrr.cell (by omega)
    have q2 : wr.cell? ⟨g, p * 3 + 2, none⟩ = some (.int .i64 t.born) := by rw [← x2]; exact hrr.cell (by omega)
    have lg := hrr.lt
    have hp1 : (0 : Int) ≤ (p : Int) := by omega
    have hp2 : (p : Int) < (n : Int) := by omega
    have HCD := Lib.hid (isDel t b id wr (Nat.lt_of_lt_of_le HB.out HW.out.size) ((HW.out.cell (p := ⟨b, 0, none⟩) HB.out).trans HC.out))
    have HTI := Lib.hid (HI.out p t ht)
    clear ht x0 x1 x2 hrr
    cases hte : (t.id == id) with
    | true =>
      have hpi : p = i0 := HTI.out.1 (by simpa using hte)
      rw [hte] at HCD
      subst hpi
      go_wp2_with (go_at_call 18; refine Calls.mono HCD.out ?_; rintro e w2 ⟨rfl, hb2⟩; have HB2 := Lib.hid hb2; clear hb2)
      go_ret
      exact ⟨rfl, HW.out.trans (HB2.out.mono HW.out.size)⟩
    | false =>
      have hpi : p < i0 := by
        rcases Nat.lt_or_eq_of_le hp with h | h
        · exact h
        · have := HTI.out.2 h
          simp [this] at hte
      rw [hte] at HCD
      go_wp2_with (go_at_call 18; refine Calls.mono HCD.out ?_; rintro e w2 ⟨rfl, hb2⟩; have HB2 := Lib.hid hb2; clear hb2)
      go_roundw
      case rel => exact ⟨p + 1, by omega, rfl, Lib.hid (HW.out.trans (HB2.out.mono HW.out.size))⟩
      case measure => simp [intOf]; omega
/-- a slot's row while its i0-th is struck: j have been looked at -/
structure DelR (g cap n i0 j b : Nat) (id : Int) (L : List Tm) (w wr : World) (f : Nat → Value) : Prop where
  row : wr.rowIs g 51 (cap * 3) f
  lo : ∀ (p : Nat) (t : Tm), p + 1 < j → (L.eraseIdx i0)[p]? = some t → TmAt f p t
  hi : ∀ (p : Nat) (t : Tm), j ≤ p → L[p]? = some t → TmAt f p t
  kept : Kept (fun k => k = g) w wr
  box : wr.cell? ⟨b, 0, none⟩ = some (.int .i64 id)
  bl : b < wr.heap.size
section
variable {g cap n i0 j b : Nat} {id : Int} {L : List Tm} {w wr w2 : World} {f : Nat → Value}
theorem DelR.below (h : DelR g cap n i0 j b id L w wr f) (hb : Below wr.heap.size wr w2) : DelR g cap n i0 j b id L w w2 f :=
  ⟨rowIs_below h.row hb h.row.lt, h.lo, h.hi, h.kept.trans (Kept.below (F := fun _ => False) hb) (fun _ hx => hx.elim), (hb.cell (p := ⟨b, 0, none⟩) h.bl).trans h.box, Nat.lt_of_lt_of_le h.bl hb.size⟩
def put3 (w : World) (g i : Nat) (t : Tm) : World := ((w.setCell ⟨g, i * 3, none⟩ (.int .i64 t.at')).setCell ⟨g, i * 3 + 1, none⟩ (.int .i64 t.id)).setCell ⟨g, i * 3 + 2, none⟩ (.int .i64 t.born)
theorem put3_row {t : Tm} {i : Nat} (h : wr.rowIs g 51 (cap * 3) f) : ∃ f', (put3 wr g i t).rowIs g 51 (cap * 3) f' ∧ TmAt f' i t ∧ ∀ (p : Nat) (u : Tm), p ≠ i → TmAt f p u → TmAt f' p u := by
  refine ⟨_, ((h.set (i * 3) _).set (i * 3 + 1) _).set (i * 3 + 2) _, ⟨?_, ?_, ?_⟩, fun p u hp ⟨h1, h2, h3⟩ => ⟨?_, ?_, ?_⟩⟩
  · dsimp only; rw [if_neg (by omega), if_neg (by omega), if_pos rfl]
  · dsimp only; rw [if_neg (by omega), if_pos rfl]
  · dsimp only; rw [if_pos rfl]
  · dsimp only; rw [if_neg (by omega), if_neg (by omega), if_neg (by omega)]; exact h1
  · dsimp only; rw [if_neg (by omega), if_neg (by omega), if_neg (by omega)]; exact h2
  · dsimp only; rw [if_neg (by omega), if_neg (by omega), if_neg (by omega)]; exact h3
theorem put3_kept {t : Tm} {i : Nat} {F : Nat → Prop} (h : Kept F w wr) (hg : F g ∨ w.heap.size ≤ g) : Kept F w (put3 wr g i t) := ((h.setCell (p := ⟨g, i * 3, none⟩) hg _).setCell (p := ⟨g, i * 3 + 1, none⟩) hg _).setCell (p := ⟨g, i * 3 + 2, none⟩) hg _
theorem DelR.step {t : Tm} (h : DelR g cap n i0 j b id L w wr f) (hj : i0 < j) (ht : L[j]? = some t) (hgb : b ≠ g) : ∃ f', DelR g cap n i0 (j + 1) b id L w (put3 wr g (j - 1) t) f' := by
  obtain ⟨f', h1, h2, h3⟩ := put3_row (t := t) (i := j - 1) h.row
  refine ⟨f', h1, fun p u hp hu => ?_, fun p u hp hu => h3 p u (by omega) (h.hi p u (by omega) hu), put3_kept h.kept (.inl rfl), ?_, ?_⟩
  · by_cases e : p = j - 1
    · subst e
      rw [List.getElem?_eraseIdx, if_neg (by omega), show j - 1 + 1 = j from by omega, ht] at hu
      cases hu
      exact h2
    · exact h3 p u e (h.lo p u (by omega) hu)
  · unfold put3
    rw [cell_set, if_neg (by simp), cell_set, if_neg (by simp), cell_set, if_neg (by simp)]
    exact h.box
  · unfold put3
    simpa using h.bl
end
theorem zeroTimer (w : World) : (zeroValue 51).run Try.prog w = .ok (.agg #[.int .i64 0, .int .i64 0, .int .i64 0]) w := by kernel_rfl
theorem clear1 {g cap k c : Nat} {f : Nat → Value} {w : World} (h : w.rowIs g 51 (cap * 3) f) (hk : k < cap) (ty : TypeId) :
    (Builtin.clear_ #[44] ty #[.slice (some ⟨g, k * 3, none⟩) 1 c]).run Try.prog w = .ok (.tuple #[]) (put3 w g k ⟨0, 0, 0⟩) := by
  have hst := run_storeCells_cells (P := Try.prog) g (k * 3) [.int .i64 0, .int .i64 0, .int .i64 0] 0 w (fun j hj => by
    have hj : j < 3 := hj
    rw [Nat.add_zero, h.cell (by omega)]
    rfl) (fun j hj => h.frozen _) (by intro v hv; simp at hv; subst hv; rfl)
  have hzc : (Builtin.zeroCells #[.int .i64 0, .int .i64 0, .int .i64 0] 1).toList = [.int .i64 0, .int .i64 0, .int .i64 0] := by kernel_rfl
  have hzt := zeroTimer
  simp [Builtin.clear_, run_underlying Try.underlying44, hzt, Value.cells, hzc, hst, Result.andThen]
  rfl
set_option maxRecDepth 20000 in
set_option maxHeartbeats 8000000 in
theorem DelFunc (L : List Tm) (g n cap b i0 : Nat) (id : Int) (f : Nat → Value) (w : World) (hr : w.rowIs g 51 (cap * 3) f) (hn : n ≤ cap) (hcm : cap ≤ maxLen) (hln : L.length = n) (hm : n ≤ 1000) (hx : ∀ (p : Nat) (t : Tm), L[p]? = some t → TmAt f p t) (hb : b < w.heap.size) (hc : w.cell? ⟨b, 0, none⟩ = some (.int .i64 id)) (hgb : b ≠ g) (hi : ∀ (p : Nat) (t : Tm), L[p]? = some t → (t.id = id ↔ p = i0)) (hi0 : i0 < n) :
    Calls Try.prog 17 #[.slice (some ⟨g, 0, none⟩) n cap, clos b] w fun e w' => e = .returned (.slice (some ⟨g, 0, none⟩) (n - 1) cap) ∧ (∃ f', w'.rowIs g 51 (cap * 3) f' ∧ ∀ (p : Nat) (t : Tm), (L.eraseIdx i0)[p]? = some t → TmAt f' p t) ∧ Kept (fun k => k = g) w w' := by
  have HIX := Lib.hid (IndexDel L g n cap b i0 id f w hr hn hln hm hx hb hc hi hi0)
  have HD0 : Hid (DelR g cap n i0 (i0 + 1) b id L w w f) := Lib.hid ⟨hr, fun p t hp hu => by
    rw [List.getElem?_eraseIdx, if_pos (by omega)] at hu
    exact hx p t hu, fun p t _ hu => hx p t hu, Kept.refl _ _, hc, hb⟩
  have HI := Lib.hid hi
  have HLN := Lib.hid hln
  have HGB := Lib.hid hgb
  have HCM := Lib.hid hcm
  have hen := enterDel
  have hw1 : IntKind.i64.wrap ((i0 : Int) + 1) = (i0 : Int) + 1 := IntWalk.i64_in _ (by omega)
  have hm1 : ((i0 : Int) == -1) = false := by simp
  unfold clos at HIX ⊢
  clear hr hx hi hc hb hln hgb hcm
  go_enter Try.func17, Try.ntmps17
  go_wp2_with (go_at_call 24; refine Calls.mono HIX.out ?_; rintro e w2 ⟨rfl, hb2⟩; have HD2 := Lib.hid (HD0.out.below hb2); clear hb2)
  clear hw1
  go_loopw [5, 6] (fun y x wr => ∃ (j : Nat) (f : Nat → Value), i0 < j ∧ j ≤ n ∧ y = .int .i64 ((j - 1 : Nat) : Int) ∧ x = .int .i64 j ∧ Hid (DelR g cap n i0 j b id L w wr f)) (fun _ v _ => n - (intOf v).toNat)
  case atStart => exact ⟨i0 + 1, f, by omega, by omega, rfl, by simp, HD2⟩
  case round =>
    clear HD2
    obtain ⟨j, f, hj0, hj, rfl, rfl, HD⟩ := hrel
    obtain ⟨k, hk⟩ : ∃ k, j - 1 = k := ⟨_, rfl⟩
    have hkj : j = k + 1 := by omega
    have HJ0 := Lib.hid hj0
    rw [hk]
    have HKJ := Lib.hid hkj
    clear hk
    by_cases hjn : j < n
    · obtain ⟨t, ht⟩ : ∃ t, L[j]? = some t := ⟨_, List.getElem?_eq_getElem (by have := HLN.out; omega)⟩
      obtain ⟨x0, x1, x2⟩ := HD.out.hi j t (Nat.le_refl _) ht
      have hrr := HD.out.row
      have q0 : wr.cell? ⟨g, j * 3, none⟩ = some (.int .i64 t.at') := by rw [← x0]; exact hrr.cell (by omega)
      have q1 : wr.cell? ⟨g, j * 3 + 1, none⟩ = some (.int .i64 t.id) := by rw [← x1]; exact hrr.cell (by omega)
      have q2 : wr.cell? ⟨g, j * 3 + 2, none⟩ = some (.int .i64 t.born) := by rw [← x2]; exact hrr.cell (by omega)
      have lg := hrr.lt
      have hj1 : (0 : Int) ≤ (j : Int) := by omega
      have hj2 : (j : Int) < (n : Int) := by omega
      have hk1 : (0 : Int) ≤ (k : Int) := by omega
      have hk2 : (k : Int) < (n : Int) := by omega
      have hw1 : IntKind.i64.wrap ((j : Int) + 1) = (j : Int) + 1 := IntWalk.i64_in _ (by omega)
      have hw2 : IntKind.i64.wrap ((k : Int) + 1) = (k : Int) + 1 := IntWalk.i64_in _ (by omega)
      obtain ⟨W1, hW1⟩ : ∃ W, W = wr.alloc (.cells #[.int .i64 t.at', .int .i64 t.id, .int .i64 t.born] 51) := ⟨_, rfl⟩
      have hb1 : Below wr.heap.size wr W1 := by rw [hW1]; exact (Below.refl _ _).alloc (Nat.le_refl _) _
      have HD1 := Lib.hid (HD.out.below hb1)
      have HCD := Lib.hid (isDel t b id W1 HD1.out.bl HD1.out.box)
      have hte : (t.id == id) = false := by
        have := HI.out j t ht
        simp only [beq_eq_false_iff_ne, ne_eq]
        omega
      rw [hte] at HCD
      obtain ⟨bx, hbx⟩ : ∃ c, wr.heap.size = c := ⟨_, rfl⟩
      have v0 : W1.cell? ⟨bx, 0, none⟩ = some (.int .i64 t.at') := by rw [hW1, ← hbx]; simp
      have v1 : W1.cell? ⟨bx, 1, none⟩ = some (.int .i64 t.id) := by rw [hW1, ← hbx]; simp
      have v2 : W1.cell? ⟨bx, 2, none⟩ = some (.int .i64 t.born) := by rw [hW1, ← hbx]; simp
      have v3 : bx < W1.heap.size := by rw [hW1, ← hbx]; simp
      have HT := Lib.hid ht
      clear ht x0 x1 x2 hrr hb1 hkj hj0 hte
      go_upto_region 8 with fail
      rw [← hW1]
      clear hW1 q0 q1 q2 lg hbx
      go_upto_region 9 with (go_at_call 18; refine Calls.mono HCD.out ?_; rintro e w2 ⟨rfl, hb2⟩; have HB2 := Lib.hid hb2; clear hb2)
      have HD2 := Lib.hid (HD1.out.below HB2.out)
      have b0 := (HB2.out.cell (p := ⟨bx, 0, none⟩) v3).trans v0
      have b1 := (HB2.out.cell (p := ⟨bx, 1, none⟩) v3).trans v1
      have b2 := (HB2.out.cell (p := ⟨bx, 2, none⟩) v3).trans v2
      have b3 := Nat.lt_of_lt_of_le v3 HB2.out.size
      have y0 := HD2.out.row.cell (i := k * 3) (by omega)
      have y1 := HD2.out.row.cell (i := k * 3 + 1) (by omega)
      have y2 := HD2.out.row.cell (i := k * 3 + 2) (by omega)
      have z0 := HD2.out.row.frozen (k * 3)
      have z1 := HD2.out.row.frozen (k * 3 + 1)
      have z2 := HD2.out.row.frozen (k * 3 + 2)
      have gl := HD2.out.row.lt
      have HST := Lib.hid (HD2.out.step (t := t) HJ0.out HT.out HGB.out)
      clear v0 v1 v2 v3
      go_wp2_with fail
      go_roundw
      case rel =>
        obtain ⟨f', h'⟩ := HST.out
        have hkj := HKJ.out
        exact ⟨j + 1, f', Nat.lt_succ_of_lt HJ0.out, by omega, by simp; omega, by simp, Lib.hid (by rw [show j - 1 = k from by omega] at h'; exact h')⟩
      case measure => simp [intOf]; omega
    · obtain rfl : j = n := by omega
      have hk1 : (0 : Int) ≤ (k : Int) := by omega
      have hk2 : (k : Int) ≤ (j : Int) := by omega
      have hkc : k < cap := by omega
      have hcl := fun ty => clear1 (c := cap - k) HD.out.row hkc ty
      have HFI : Hid ((∃ f', (put3 wr g k ⟨0, 0, 0⟩).rowIs g 51 (cap * 3) f' ∧ ∀ (p : Nat) (t : Tm), (L.eraseIdx i0)[p]? = some t → TmAt f' p t) ∧ Kept (fun k => k = g) w (put3 wr g k ⟨0, 0, 0⟩)) := Lib.hid (by
        obtain ⟨f', h1, _, h3⟩ := put3_row (t := ⟨0, 0, 0⟩) (i := k) HD.out.row
        refine ⟨⟨f', h1, fun p t hp => ?_⟩, put3_kept HD.out.kept (.inl rfl)⟩
        have hl := (List.getElem?_eq_some_iff.1 hp).1
        rw [List.length_eraseIdx, if_pos (by rw [HLN.out]; omega), HLN.out] at hl
        exact h3 p t (by omega) (HD.out.lo p t (by omega) hp))
      go_wp2_with fail
      go_ret
      refine ⟨?_, HFI.out.1, HFI.out.2⟩
      rw [show j - 1 = k from by have := HKJ.out; omega]
      rfl
end Go.Proofs.Ytjoejdpoehpkiaa
