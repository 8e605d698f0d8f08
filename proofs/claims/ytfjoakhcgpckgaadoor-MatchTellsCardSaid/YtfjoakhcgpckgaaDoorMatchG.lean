/- Contracts: are sides and edges right? The program's and the document's; how edges lie in a row. -/
import Derived.Test.YtfjoakhcgpckgaaDoorGraphMath
import Derived.Test.YtfjoakhcgpckgaaDoorOwn
namespace Go.Proofs.YtfjoakhcgpckgaaDoor
open Go.ChangeShapes Go.WideShapes Go.ChangeAt Go.RowKit
set_option linter.unusedVariables false
open Gr (El)
def EdgesAt (w : World) (b off : Nat) (L : El) : Prop := ∀ i x y, L[i]? = some (x, y) → w.cell? ⟨b, off + i * 2, none⟩ = some (.int .i64 x) ∧ w.cell? ⟨b, off + i * 2 + 1, none⟩ = some (.int .i64 y)
def Edges (w : World) (a : Option Addr) (L : El) : Prop := 0 < L.length → ∃ b off, a = some ⟨b, off, none⟩ ∧ b < w.heap.size ∧ EdgesAt w b off L
theorem EdgesAt.below {w w' : World} {b off : Nat} {L : El} (h : EdgesAt w b off L) {B : Nat} (hb : Below B w w') (hB : b < B) : EdgesAt w' b off L := fun i x y hi => by
  obtain ⟨h1, h2⟩ := h i x y hi
  exact ⟨(hb.cell (p := ⟨b, _, none⟩) hB).trans h1, (hb.cell (p := ⟨b, _, none⟩) hB).trans h2⟩
theorem Edges.below {w w' : World} {a : Option Addr} {L : El} (h : Edges w a L) {B : Nat} (hb : Below B w w') (hB : w.heap.size ≤ B) : Edges w' a L := fun hl => by
  obtain ⟨b, off, e, h1, h2⟩ := h hl
  exact ⟨b, off, e, Nat.lt_of_lt_of_le h1 hb.size, h2.below hb (by omega)⟩
/-- is an edge right? -/
def edgeB (n m x y : Int) : Bool := decide (0 ≤ x ∧ x < n ∧ 0 ≤ y ∧ y < m)
theorem edgeB_yes {n m x y : Int} (h : edgeB n m x y = true) : 0 ≤ x ∧ x < n ∧ 0 ≤ y ∧ y < m := by simpa [edgeB] using h
theorem edgeB_no {n m x y : Int} (h : edgeB n m x y = false) : ¬ (0 ≤ x ∧ x < n ∧ 0 ≤ y ∧ y < m) := by simpa [edgeB] using h
def edgesB (n m : Int) (L : El) : Bool := L.all fun x => edgeB n m x.1 x.2
def graphE (n m : Int) (L : El) : Int := if n < 0 ∨ 60 < n ∨ m < 0 ∨ 60 < m then 1 else if 400 < L.length then 2 else if edgesB n m L then 0 else 4
theorem edgesB_at {n m : Int} {L : El} (h : edgesB n m L = true) {i : Nat} {x y : Int} (hi : L[i]? = some (x, y)) : edgeB n m x y = true := List.all_eq_true.1 h (x, y) (List.mem_of_getElem? hi)
def GoodE (n m : Int) (L : El) (j : Nat) : Prop := ∀ i x y, i < j → L[i]? = some (x, y) → edgeB n m x y = true
theorem GoodE.zero (n m : Int) (L : El) : GoodE n m L 0 := fun i x y h _ => absurd h (by omega)
theorem GoodE.succ {n m : Int} {L : El} {j : Nat} {x y : Int} (h : GoodE n m L j) (hi : L[j]? = some (x, y)) (hb : edgeB n m x y = true) : GoodE n m L (j + 1) := fun i x' y' h1 h2 => by
  by_cases e : i = j
  · subst e; rw [hi] at h2; cases h2; exact hb
  · exact h i x' y' (by omega) h2
theorem GoodE.all {n m : Int} {L : El} (h : GoodE n m L L.length) : edgesB n m L = true := List.all_eq_true.2 fun x hx => by
  obtain ⟨i, hi, rfl⟩ := List.getElem_of_mem hx
  exact h i _ _ hi (List.getElem?_eq_getElem hi)
theorem graphE_bad {n m : Int} {L : El} {i : Nat} {x y : Int} (hr : ¬ (n < 0 ∨ 60 < n ∨ m < 0 ∨ 60 < m)) (hl : L.length ≤ 400) (hi : L[i]? = some (x, y)) (h : edgeB n m x y = false) : graphE n m L = 4 := by
  have : edgesB n m L = false := by
    cases hL : edgesB n m L with
    | false => rfl
    | true => rw [edgesB_at hL hi] at h; cases h
  rw [graphE, if_neg hr, if_neg (by omega), this]; rfl
theorem graphE_ok {n m : Int} {L : El} (hr : ¬ (n < 0 ∨ 60 < n ∨ m < 0 ∨ 60 < m)) (hl : L.length ≤ 400) (h : edgesB n m L = true) : graphE n m L = 0 := by
  rw [graphE, if_neg hr, if_neg (by omega), h]; rfl
theorem graphE_good {n m : Int} {L : El} (h : graphE n m L = 0) : 0 ≤ n ∧ n ≤ 60 ∧ 0 ≤ m ∧ m ≤ 60 ∧ L.length ≤ 400 ∧ edgesB n m L = true := by
  unfold graphE at h
  split at h
  · cases h
  · split at h
    · cases h
    · split at h
      · exact ⟨by omega, by omega, by omega, by omega, by omega, by assumption⟩
      · cases h
theorem okG {n : Nat} {L : El} (h : edgesB n n L = true) : Gr.Ok n L := fun x hx => by
  have := edgeB_yes (List.all_eq_true.1 h x hx)
  exact this
set_option maxHeartbeats 2000000 in
theorem gFault_any (z y : Int) (L : El) (a : Option Addr) (n cap : Nat) (w : World) (hn : n = L.length) (hmax : n ≤ 9223372036854775807) (hL : Edges w a L) :
    Calls Tryd.prog 8 #[.int .i64 z, .int .i64 y, .slice a n cap] w fun e w' => e = .returned (.int .i64 (graphE z y L)) ∧ Below w.heap.size w w' := by
  have HL := Lib.hid hL
  have HN := Lib.hid hn
  clear hL hn
  by_cases hz : z < 0 ∨ 60 < z ∨ y < 0 ∨ 60 < y
  · have HV := Lib.hid (show (1 : Int) = graphE z y L from by rw [graphE, if_pos hz])
    have hcase : z < 0 ∨ (0 ≤ z ∧ 60 < z) ∨ (0 ≤ z ∧ z ≤ 60 ∧ y < 0) ∨ (0 ≤ z ∧ z ≤ 60 ∧ 0 ≤ y ∧ 60 < y) := by omega
    clear hz
    rcases hcase with p1 | ⟨p1, p2⟩ | ⟨p1, p2, p3⟩ | ⟨p1, p2, p3, p4⟩
    all_goals
      go_enter Tryd.func8, Tryd.ntmps8
      go_wp2_with fail
      go_ret
      exact ⟨ret_int HV.out, by go_grown⟩
  obtain ⟨z0, z1, y0, y1⟩ : 0 ≤ z ∧ z ≤ 60 ∧ 0 ≤ y ∧ y ≤ 60 := by omega
  clear hz
  by_cases h400 : 400 < n
  · have HV := Lib.hid (show (2 : Int) = graphE z y L from by rw [graphE, if_neg (by omega), if_pos (by have := HN.out; omega)])
    go_enter Tryd.func8, Tryd.ntmps8
    go_wp2_with fail
    go_ret
    exact ⟨ret_int HV.out, by go_grown⟩
  have h400' : n ≤ 400 := by omega
  clear h400
  go_enter Tryd.func8, Tryd.ntmps8
  go_wp2_with fail
  go_loopw [28] (fun i wr => ∃ j : Nat, j ≤ n ∧ i = .int .i64 j ∧ Hid (GoodE z y L j) ∧ Below w.heap.size w wr) (fun i _ => n - (intOf i).toNat)
  case atStart => exact ⟨0, by omega, rfl, Lib.hid (GoodE.zero z y L), Below.refl _ _⟩
  case round =>
    obtain ⟨j, hj, rfl, HG, hB⟩ := hrel
    by_cases hlt : j < n
    · obtain ⟨b, off, rfl, hb, hat⟩ := HL.out (by have := HN.out; omega)
      obtain ⟨⟨c, m⟩, hx⟩ : ∃ x, L[j]? = some x := ⟨_, List.getElem?_eq_getElem (by have := HN.out; omega)⟩
      obtain ⟨q0, q1⟩ := hat.below hB hb j c m hx
      have HX := Lib.hid hx
      have hbr : b < wr.heap.size := Nat.lt_of_lt_of_le hb hB.size
      have hsz := hB.size
      clear hat hx
      cases hg : edgeB z y c m with
      | true =>
        have HI := Lib.hid (HG.out.succ HX.out hg)
        obtain ⟨r1, r2, r3, r4⟩ := edgeB_yes hg
        clear hg
        go_wp2_with fail
        go_roundw
        case rel => exact ⟨j + 1, by omega, rfl, HI, by go_grown⟩
        case measure => simp [intOf]; omega
      | false =>
        have HI := Lib.hid (graphE_bad (by omega) (by have := HN.out; omega) HX.out hg).symm
        have hcase : c < 0 ∨ (0 ≤ c ∧ z ≤ c) ∨ (0 ≤ c ∧ c < z ∧ m < 0) ∨ (0 ≤ c ∧ c < z ∧ 0 ≤ m ∧ y ≤ m) := by
          have := edgeB_no hg
          omega
        clear hg
        rcases hcase with p1 | ⟨p1, p2⟩ | ⟨p1, p2, p3⟩ | ⟨p1, p2, p3, p4⟩
        all_goals
          go_wp2_with fail
          go_ret
          exact ⟨ret_int HI.out, by go_grown⟩
    · have HV := Lib.hid (show graphE z y L = 0 from by
        have e : j = L.length := by have := HN.out; omega
        exact graphE_ok (by omega) (by have := HN.out; omega) (GoodE.all (e ▸ HG.out))).symm
      go_wp2_with fail
      go_ret
      exact ⟨ret_int HV.out, hB⟩
set_option maxHeartbeats 2000000 in
theorem mCheck_any (z y : Int) (L : El) (a : Option Addr) (n cap : Nat) (w : World) (hn : n = L.length) (hmax : n ≤ 9223372036854775807) (hL : Edges w a L) :
    Calls Tryd.prog 9 #[.int .i64 z, .int .i64 y, .slice a n cap] w fun e w' => e = .returned (.int .i64 (graphE z y L)) ∧ Below w.heap.size w w' := by
  have HL := Lib.hid hL
  have HN := Lib.hid hn
  clear hL hn
  by_cases hz : z < 0 ∨ 60 < z ∨ y < 0 ∨ 60 < y
  · have HV := Lib.hid (show (1 : Int) = graphE z y L from by rw [graphE, if_pos hz])
    have hcase : z < 0 ∨ (0 ≤ z ∧ 60 < z) ∨ (0 ≤ z ∧ z ≤ 60 ∧ y < 0) ∨ (0 ≤ z ∧ z ≤ 60 ∧ 0 ≤ y ∧ 60 < y) := by omega
    clear hz
    rcases hcase with p1 | ⟨p1, p2⟩ | ⟨p1, p2, p3⟩ | ⟨p1, p2, p3, p4⟩
    all_goals
      go_enter Tryd.func9, Tryd.ntmps9
      go_wp2_with fail
      go_ret
      exact ⟨ret_int HV.out, by go_grown⟩
  obtain ⟨z0, z1, y0, y1⟩ : 0 ≤ z ∧ z ≤ 60 ∧ 0 ≤ y ∧ y ≤ 60 := by omega
  clear hz
  by_cases h400 : 400 < n
  · have HV := Lib.hid (show (2 : Int) = graphE z y L from by rw [graphE, if_neg (by omega), if_pos (by have := HN.out; omega)])
    go_enter Tryd.func9, Tryd.ntmps9
    go_wp2_with fail
    go_ret
    exact ⟨ret_int HV.out, by go_grown⟩
  have h400' : n ≤ 400 := by omega
  clear h400
  go_enter Tryd.func9, Tryd.ntmps9
  go_wp2_with fail
  go_loopw [30] (fun i wr => ∃ j : Nat, j ≤ n ∧ i = .int .i64 j ∧ Hid (GoodE z y L j) ∧ Below w.heap.size w wr) (fun i _ => n - (intOf i).toNat)
  case atStart => exact ⟨0, by omega, rfl, Lib.hid (GoodE.zero z y L), Below.refl _ _⟩
  case round =>
    obtain ⟨j, hj, rfl, HG, hB⟩ := hrel
    by_cases hlt : j < n
    · obtain ⟨b, off, rfl, hb, hat⟩ := HL.out (by have := HN.out; omega)
      obtain ⟨⟨c, m⟩, hx⟩ : ∃ x, L[j]? = some x := ⟨_, List.getElem?_eq_getElem (by have := HN.out; omega)⟩
      obtain ⟨q0, q1⟩ := hat.below hB hb j c m hx
      have HX := Lib.hid hx
      have hbr : b < wr.heap.size := Nat.lt_of_lt_of_le hb hB.size
      have hsz := hB.size
      clear hat hx
      cases hg : edgeB z y c m with
      | true =>
        have HI := Lib.hid (HG.out.succ HX.out hg)
        obtain ⟨r1, r2, r3, r4⟩ := edgeB_yes hg
        clear hg
        go_wp2_with fail
        go_roundw
        case rel => exact ⟨j + 1, by omega, rfl, HI, by go_grown⟩
        case measure => simp [intOf]; omega
      | false =>
        have HI := Lib.hid (graphE_bad (by omega) (by have := HN.out; omega) HX.out hg).symm
        have hcase : c < 0 ∨ (0 ≤ c ∧ z ≤ c) ∨ (0 ≤ c ∧ c < z ∧ m < 0) ∨ (0 ≤ c ∧ c < z ∧ 0 ≤ m ∧ y ≤ m) := by
          have := edgeB_no hg
          omega
        clear hg
        rcases hcase with p1 | ⟨p1, p2⟩ | ⟨p1, p2, p3⟩ | ⟨p1, p2, p3, p4⟩
        all_goals
          go_wp2_with fail
          go_ret
          exact ⟨ret_int HI.out, by go_grown⟩
    · have HV := Lib.hid (show graphE z y L = 0 from by
        have e : j = L.length := by have := HN.out; omega
        exact graphE_ok (by omega) (by have := HN.out; omega) (GoodE.all (e ▸ HG.out))).symm
      go_wp2_with fail
      go_ret
      exact ⟨ret_int HV.out, hB⟩
end Go.Proofs.YtfjoakhcgpckgaaDoor
