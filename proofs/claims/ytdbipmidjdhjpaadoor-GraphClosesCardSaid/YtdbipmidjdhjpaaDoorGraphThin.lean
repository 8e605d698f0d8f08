/- Contracts: Close and Thin; the program's. -/
import Derived.Test.YtdbipmidjdhjpaaDoorGraphEdges
import Derived.Test.YtdbipmidjdhjpaaDoorGraphLaw
namespace Go.Proofs.YtdbipmidjdhjpaaDoor
open Go.ChangeShapes Go.WideShapes Go.ChangeAt Go.RowKit
set_option linter.unusedVariables false
open Gr (El)
/-- two rows of the same edges are one -/
theorem eqEdges (xs : List (Nat × Nat)) (a1 a2 : Option Addr) (n1 c1 n2 c2 : Nat) (w : World) (h1 : n1 = xs.length) (h2 : n2 = xs.length) (hm : xs.length ≤ 9223372036854775807) (hA : Vals w a1 (flat xs)) (hB : Vals w a2 (flat xs)) :
    Calls Tryd.prog 35 #[.slice a1 n1 c1, .slice a2 n2 c2] w fun e w' => e = .returned (.bool true) ∧ Below w.heap.size w w' := by
  have HA := Lib.hid hA
  have HB := Lib.hid hB
  have HN := Lib.hid h1
  obtain rfl : n1 = n2 := by omega
  have hmax : n1 ≤ 9223372036854775807 := by omega
  clear hA hB h1 h2 hm
  have hnb : ((n1 : Int) != n1) = false := by simp
  go_enter Tryd.func35, Tryd.ntmps35
  go_wp2_with fail
  go_loopw [13] (fun x wr => ∃ i : Nat, i ≤ n1 ∧ x = .int .i64 i ∧ Below w.heap.size w wr) (fun x _ => n1 - (intOf x).toNat)
  case atStart => exact ⟨0, by omega, rfl, Below.refl _ _⟩
  case round =>
    obtain ⟨i, hi, rfl, hW⟩ := hrel
    by_cases hin : i < n1
    · obtain ⟨b1, o1, rfl, hb1, hc1⟩ := HA.out (by rw [flat_length]; have := HN.out; omega)
      obtain ⟨b2, o2, rfl, hb2, hc2⟩ := HB.out (by rw [flat_length]; have := HN.out; omega)
      obtain ⟨⟨x, y⟩, hx⟩ : ∃ p, xs[i]? = some p := ⟨_, List.getElem?_eq_getElem (by have := HN.out; omega)⟩
      obtain ⟨f1, f2⟩ := flat_at hx
      have q1 := (hW.cell (p := ⟨b1, o1 + i * 2, none⟩) hb1).trans (hc1 (i * 2) _ f1)
      have q2 := (hW.cell (p := ⟨b1, o1 + i * 2 + 1, none⟩) hb1).trans (hc1 (i * 2 + 1) _ f2)
      have q3 := (hW.cell (p := ⟨b2, o2 + i * 2, none⟩) hb2).trans (hc2 (i * 2) _ f1)
      have q4 := (hW.cell (p := ⟨b2, o2 + i * 2 + 1, none⟩) hb2).trans (hc2 (i * 2 + 1) _ f2)
      unfold nat1 at q1 q2 q3 q4
      have hi1 : (0 : Int) ≤ (i : Int) := by omega
      have hi2 : (i : Int) < (n1 : Int) := by omega
      have hx1 : ((x : Int) == x) = true := by simp
      have hy1 : ((y : Int) == y) = true := by simp
      clear hc1 hc2 hx f1 f2
      go_wp2_with fail
      go_quiet (fail)
      go_wp2_with fail
      go_roundw
      case rel => exact ⟨i + 1, by omega, rfl, by refine below_drewN ?_ _; exact hW⟩
      case measure => simp [intOf]; omega
    · go_wp2_with fail
      go_ret
      exact ⟨rfl, hW⟩
theorem Close_bad (z : Int) (L : El) (a : Option Addr) (n cap : Nat) (w : World) (hn : n = L.length) (hmax : n ≤ 9223372036854775807) (hL : Edges w a L) (hb : (graphE z z L != 0) = true) :
    Calls Tryd.prog 32 #[.int .i64 z, .slice a n cap] w fun e w' => e = .returned (.tuple #[.slice none 0 0, .int .i64 (graphE z z L)]) ∧ Below w.heap.size w w' := by
  have HL := Lib.hid hL
  have HN := Lib.hid hn
  clear hL hn
  go_enter Tryd.func32, Tryd.ntmps32
  go_wp2_with (go_at_call 26; refine Calls.mono (gCheck_any z L _ _ _ _ HN.out hmax HL.out) ?_; rintro e w1 ⟨rfl, hB1⟩)
  go_ret2
  exact ⟨rfl, hB1⟩
theorem Thin_bad (z : Int) (L : El) (a : Option Addr) (n cap : Nat) (w : World) (hn : n = L.length) (hmax : n ≤ 9223372036854775807) (hL : Edges w a L) (hb : (graphE z z L != 0) = true) :
    Calls Tryd.prog 33 #[.int .i64 z, .slice a n cap] w fun e w' => e = .returned (.tuple #[.slice none 0 0, .int .i64 (graphE z z L)]) ∧ Below w.heap.size w w' := by
  have HL := Lib.hid hL
  have HN := Lib.hid hn
  clear hL hn
  go_enter Tryd.func33, Tryd.ntmps33
  go_wp2_with (go_at_call 22; refine Calls.mono (Order_bad z L _ _ _ _ HN.out hmax HL.out hb) ?_; rintro e w1 ⟨rfl, hB1⟩)
  go_ret2
  exact ⟨rfl, hB1⟩
/-- the closed edges -/
def closE (n : Nat) (L : El) : List (Nat × Nat) := rowsE (fun i => Gr.yes (Gr.rb n L i) n) n
theorem closE_bits {n : Nat} {L : El} (hO : Gr.Ok n L) (h60 : n ≤ 60) : rowsE (bitsL (Gr.cl n L)) n = closE n L := rowsE_congr fun i _ => cl_list hO h60 i
set_option maxRecDepth 20000 in
set_option maxHeartbeats 2000000 in
theorem Close_large (n : Nat) (L : El) (a : Option Addr) (l cap m : Nat) (w : World) (hn : l = L.length) (hL : Edges w a L) (hE : graphE n n L = 0) (hT : Gr.Bru w) (hG : 1 < w.heap.size) (hm : (closE n L).length = m) (hm9 : m ≤ 3660) (h4 : 400 < m) :
    Calls Tryd.prog 32 #[.int .i64 n, .slice a l cap] w fun e w' => e = .returned (.tuple #[.slice none 0 0, .int .i64 2]) ∧ Below w.heap.size w w' := by
  obtain ⟨_, g1, _, _, g2, g3⟩ := graphE_good hE
  have h60 : n ≤ 60 := by omega
  have hl4 : l ≤ 400 := by omega
  have HL := Lib.hid hL
  have HN := Lib.hid hn
  have HO := Lib.hid (okG g3)
  have HE := Lib.hid hE
  have HT := Lib.hid hT
  have HM := Lib.hid hm
  have HCB := Lib.hid (closE_bits HO.out h60)
  clear hL hn hE g1 g2 g3 hT hm
  go_enter Tryd.func32, Tryd.ntmps32
  go_wp2_with (first
    | (go_at_call 26; refine Calls.mono (gCheck_any n L _ _ _ _ HN.out (by omega) HL.out) ?_; rintro e w1 ⟨rfl, hB1⟩; rw [HE.out])
    | (go_at_call 49; refine Calls.mono (rows_any n L _ _ _ _ HN.out hl4 h60 (HL.out.below hB1 (Nat.le_refl _)) HO.out) ?_; rintro e w2 ⟨g, c, rfl, hg, hr, hB2⟩; have HR := Lib.hid hr; clear hr)
    | (go_at_call 48; refine Calls.mono (closed_any n _ _ _ _ h60 HR.out (rowN_lt60 HO.out h60)) ?_; rintro e w3 ⟨v, rfl, i3, hB3⟩; obtain ⟨a3, c3, rfl, j3⟩ := i3; have HJ := Lib.hid j3; clear j3; simp only [List.length_map, List.length_range]; have HB := Lib.hid ((hB1.trans (hB2.mono hB1.size)).trans (hB3.mono (by have := hB1.size; have := hB2.size; omega))); clear hB1 hB2 hB3 HR)
    | (go_at_call 51; refine Calls.mono (edges_any n (Gr.cl n L) _ _ _ h60 HJ.out (cl_lt64 HO.out h60) (HT.out.below HB.out hG) (by have := HB.out.size; omega)) ?_; rintro e w4 ⟨v, rfl, i4, hB4⟩; rw [HCB.out, HM.out] at i4; obtain ⟨a4, c4, rfl, j4⟩ := i4; have HJ4 := Lib.hid j4; clear j4))
  go_ret2
  exact ⟨rfl, HB.out.trans (hB4.mono HB.out.size)⟩
def RowPost (l : List (Nat × Nat)) (m : Nat) (w : World) (e : Ending) (w' : World) : Prop := ∃ a c, e = .returned (.tuple #[.slice a m c, .int .i64 0]) ∧ Vals w' a (flat l) ∧ Below w.heap.size w w'
set_option maxRecDepth 20000 in
set_option maxHeartbeats 2000000 in
theorem Close_ok (n : Nat) (L : El) (a : Option Addr) (l cap m : Nat) (w : World) (hn : l = L.length) (hL : Edges w a L) (hE : graphE n n L = 0) (hT : Gr.Bru w) (hG : 1 < w.heap.size) (hm : (closE n L).length = m) (hm9 : m ≤ 3660) (h4 : ¬ 400 < m) :
    Calls Tryd.prog 32 #[.int .i64 n, .slice a l cap] w (RowPost (closE n L) m w) := by
  obtain ⟨_, g1, _, _, g2, g3⟩ := graphE_good hE
  have h60 : n ≤ 60 := by omega
  have hl4 : l ≤ 400 := by omega
  have HL := Lib.hid hL
  have HN := Lib.hid hn
  have HO := Lib.hid (okG g3)
  have HE := Lib.hid hE
  have HT := Lib.hid hT
  have HM := Lib.hid hm
  have HCB := Lib.hid (closE_bits HO.out h60)
  clear hL hn hE g1 g2 g3 hT hm
  go_enter Tryd.func32, Tryd.ntmps32
  go_wp2_with (first
    | (go_at_call 26; refine Calls.mono (gCheck_any n L _ _ _ _ HN.out (by omega) HL.out) ?_; rintro e w1 ⟨rfl, hB1⟩; rw [HE.out])
    | (go_at_call 49; refine Calls.mono (rows_any n L _ _ _ _ HN.out hl4 h60 (HL.out.below hB1 (Nat.le_refl _)) HO.out) ?_; rintro e w2 ⟨g, c, rfl, hg, hr, hB2⟩; have HR := Lib.hid hr; clear hr)
    | (go_at_call 48; refine Calls.mono (closed_any n _ _ _ _ h60 HR.out (rowN_lt60 HO.out h60)) ?_; rintro e w3 ⟨v, rfl, i3, hB3⟩; obtain ⟨a3, c3, rfl, j3⟩ := i3; have HJ := Lib.hid j3; clear j3; simp only [List.length_map, List.length_range]; have HB := Lib.hid ((hB1.trans (hB2.mono hB1.size)).trans (hB3.mono (by have := hB1.size; have := hB2.size; omega))); clear hB1 hB2 hB3 HR)
    | (go_at_call 51; refine Calls.mono (edges_any n (Gr.cl n L) _ _ _ h60 HJ.out (cl_lt64 HO.out h60) (HT.out.below HB.out hG) (by have := HB.out.size; omega)) ?_; rintro e w4 ⟨v, rfl, i4, hB4⟩; rw [HCB.out, HM.out] at i4; obtain ⟨a4, c4, rfl, j4⟩ := i4; have HJ4 := Lib.hid j4; clear j4))
  go_ret2
  exact ⟨_, _, rfl, HJ4.out, HB.out.trans (hB4.mono HB.out.size)⟩
/-! Thin -/
def thF (c : Nat → Nat) (z : Nat) (l : List Nat) : Nat := l.foldl (fun a k => a &&& (18446744073709551615 - c k)) z
theorem thF_snoc (c : Nat → Nat) (z : Nat) (l : List Nat) (k : Nat) : thF c z (l ++ [k]) = thF c z l &&& (18446744073709551615 - c k) := by simp [thF]
theorem thF_lt (c : Nat → Nat) (z : Nat) (hz : z < 18446744073709551616) : ∀ l : List Nat, thF c z l < 18446744073709551616 := fun l => by
  induction l generalizing z with
  | nil => exact hz
  | cons k t ih => exact ih _ (Nat.lt_of_le_of_lt Nat.and_le_left hz)
theorem thF_bit {c : Nat → Nat} (hc : ∀ i, c i < 18446744073709551616) (b : Nat) : ∀ (l : List Nat) (z : Nat), z < 18446744073709551616 → (thF c z l).testBit b = (z.testBit b && l.all fun k => !(c k).testBit b)
  | [], z, hz => by simp [thF]
  | k :: t, z, hz => by
    have := thF_bit hc b t (z &&& (18446744073709551615 - c k)) (Nat.lt_of_le_of_lt Nat.and_le_left hz)
    show (thF c (z &&& (18446744073709551615 - c k)) t).testBit b = _
    rw [this, Gr.bit_and_not hz (hc k), List.all_cons, Bool.and_assoc]
def thinZ (n : Nat) (L : El) (i : Nat) : Nat := thF (Gr.cl n L) (Gr.rowN L i) (Gr.yes (Gr.cl n L i).testBit 64)
theorem thin_list {n : Nat} {L : El} (hO : Gr.Ok n L) (h60 : n ≤ 60) {i : Nat} (hi : i < n) : Gr.yes (thinZ n L i).testBit 64 = Gr.yes (leanB n L i) n := by
  have hr : Gr.rowN L i < 18446744073709551616 := Gr.lt64 (Nat.le_refl _) (rowN_lt60 hO h60 i)
  have hb : ∀ b, (thinZ n L i).testBit b = ((Gr.rowN L i).testBit b && (Gr.yes (Gr.rb n L i) n).all fun k => !(Gr.cl n L k).testBit b) := fun b => by
    unfold thinZ
    rw [thF_bit (cl_lt64 hO h60) b _ _ hr, cl_list hO h60]
  have h1 : Gr.yes (thinZ n L i).testBit 64 = Gr.yes (thinZ n L i).testBit n := Gr.yes_skip (by omega) fun b hb1 _ => by
    rw [hb b]
    have : (Gr.rowN L i).testBit b = false := by
      cases h : (Gr.rowN L i).testBit b with
      | false => rfl
      | true => have := (hO.ed ((Gr.rowN_bit hO i b).1 h)).2; omega
    rw [this]; rfl
  rw [h1]
  refine Gr.yes_congr fun b hbn => ?_
  rw [hb b]
  unfold leanB lK
  congr 1
  · rw [Bool.eq_iff_iff, Gr.rowN_bit hO]
    unfold thK Gr.ed
    rw [List.take_length, List.any_eq_true]
    constructor
    · exact fun h => ⟨_, h, by simp⟩
    · rintro ⟨x, hx, e⟩
      rw [← of_decide_eq_true e]; exact hx
  · rw [Bool.eq_iff_iff, Bool.not_eq_true', List.all_eq_true, List.any_eq_false]
    constructor
    · intro h j hj
      have hjn := List.mem_range.1 hj
      cases h2 : Gr.rb n L i j with
      | false => simp
      | true =>
        have := h j (Gr.mem_yes.2 ⟨hjn, h2⟩)
        unfold Gr.rb
        simpa using this
    · intro h j hj
      obtain ⟨hjn, h2⟩ := Gr.mem_yes.1 hj
      have := h j (List.mem_range.2 hjn)
      rw [h2] at this
      unfold Gr.rb at this
      simpa using this
structure TW (n g K : Nat) (L : El) (a3 : Option Addr) (c3 : Nat) (f : Nat → Nat) (w wr : World) : Prop where
  row : wr.rowIs g 56 n (u64s f)
  cls : wr.ownsRow K 56 1 (.slice a3 n c3) n ((List.range n).map (u64s (Gr.cl n L)))
  below : Below w.heap.size w wr
theorem TW.step {n g K : Nat} {L : El} {a3 : Option Addr} {c3 : Nat} {f : Nat → Nat} {w wr w' : World} (h : TW n g K L a3 c3 f w wr) (hb : Below wr.heap.size wr w') : TW n g K L a3 c3 f w w' :=
  ⟨rowIs_below h.row hb h.row.lt, ownsRow_below h.cls hb, h.below.trans (hb.mono h.below.size)⟩
def thinA (n : Nat) (L : El) (i : Nat) (z : Nat) (x : Nat) : Nat := if x < i then thinZ n L x else if x = i then z else Gr.rowN L x
theorem thinA_zero (n : Nat) (L : El) (i x : Nat) : thinA n L i (Gr.rowN L i) x = if x < i then thinZ n L x else Gr.rowN L x := by
  unfold thinA
  by_cases h : x < i
  · rw [if_pos h, if_pos h]
  · by_cases e : x = i
    · subst e; simp
    · rw [if_neg h, if_neg e, if_neg h]
theorem thinA_next (n : Nat) (L : El) (i x : Nat) : thinA n L i (thinZ n L i) x = thinA n L (i + 1) (Gr.rowN L (i + 1)) x := by
  rw [thinA_zero]
  unfold thinA
  by_cases h : x < i
  · rw [if_pos h, if_pos (show x < i + 1 by omega)]
  · by_cases e : x = i
    · subst e; rw [if_neg h, if_pos rfl, if_pos (show x < x + 1 by omega)]
    · rw [if_neg h, if_neg e, if_neg (show ¬ x < i + 1 by omega)]
set_option maxRecDepth 20000 in
theorem Thin_cyc (n : Nat) (L : El) (a : Option Addr) (l cap : Nat) (w : World) (hn : l = L.length) (hL : Edges w a L) (hE : graphE n n L = 0) (hk : Gr.knot n L ≠ []) :
    Calls Tryd.prog 33 #[.int .i64 n, .slice a l cap] w fun e w' => e = .returned (.tuple #[.slice none 0 0, .int .i64 8]) ∧ Below w.heap.size w w' := by
  have HL := Lib.hid hL
  have HN := Lib.hid hn
  have HE := Lib.hid hE
  have HK := Lib.hid hk
  clear hL hn hE hk
  go_enter Tryd.func33, Tryd.ntmps33
  go_wp2_with (go_at_call 22; refine Calls.mono (Order_cyc n L _ _ _ _ HN.out HL.out HE.out HK.out) ?_; rintro e w1 ⟨rfl, hB1⟩)
  go_ret2
  exact ⟨rfl, hB1⟩
set_option maxRecDepth 20000 in
set_option maxHeartbeats 4000000 in
theorem Thin_ok (n : Nat) (L : El) (a : Option Addr) (l cap m : Nat) (w : World) (hn : l = L.length) (hL : Edges w a L) (hE : graphE n n L = 0) (hk : Gr.knot n L = []) (hT : Gr.Bru w) (hG : 1 < w.heap.size) (hm : (rowsE (fun i => Gr.yes (leanB n L i) n) n).length = m) (hm9 : m ≤ 3660) :
    Calls Tryd.prog 33 #[.int .i64 n, .slice a l cap] w (RowPost (rowsE (fun i => Gr.yes (leanB n L i) n) n) m w) := by
  obtain ⟨_, g1, _, _, g2, g3⟩ := graphE_good hE
  have h60 : n ≤ 60 := by omega
  have hl4 : l ≤ 400 := by omega
  have HL := Lib.hid hL
  have HN := Lib.hid hn
  have HO := Lib.hid (okG g3)
  have HE := Lib.hid hE
  have HK := Lib.hid hk
  have HT := Lib.hid hT
  have HM := Lib.hid hm
  have HCB : Hid (rowsE (bitsL (thinZ n L)) n = rowsE (fun i => Gr.yes (leanB n L i) n) n) := Lib.hid (rowsE_congr fun i hi => thin_list (okG g3) h60 hi)
  clear hL hn hE g1 g2 g3 hT hm hk
  go_enter Tryd.func33, Tryd.ntmps33
  go_wp2_with (first
    | (go_at_call 22; refine Calls.mono (Order_nil n L _ _ _ _ HN.out HL.out HE.out HK.out) ?_; rintro e w1 ⟨v, rfl, i1, hB1⟩)
    | (go_at_call 49; refine Calls.mono (rows_any n L _ _ _ _ HN.out hl4 h60 (HL.out.below hB1 (Nat.le_refl _)) HO.out) ?_; rintro e w2 ⟨g, c, rfl, hg, hr, hB2⟩; have HR := Lib.hid hr; clear hr i1)
    | (go_at_call 48; refine Calls.mono (closed_own n _ _ _ _ h60 HR.out (rowN_lt60 HO.out h60)) ?_; rintro e w3 ⟨v3, rfl, i3, hB3⟩; obtain ⟨a3, c3, rfl, j3⟩ := isVals1 i3; clear j3))
  have hgK := HR.out.lt
  have hK : w2.heap.size ≤ w3.heap.size := hB3.size
  have HW : Hid (TW n g w2.heap.size L a3 c3 (thinA n L 0 (Gr.rowN L 0)) w w3) := Lib.hid ⟨(rowIs_below HR.out hB3 hgK).congr fun x hx => by unfold u64s; rw [thinA_zero]; simp, i3, (hB1.trans (hB2.mono hB1.size)).trans (hB3.mono (by have := hB1.size; have := hB2.size; omega))⟩
  have hwg : w.heap.size ≤ g := by have := hB1.size; omega
  clear i3 hB1 hB2 hB3 HR
  go_loopw [29] (fun x wr => ∃ i : Nat, i ≤ n ∧ x = .int .i64 i ∧ Hid (TW n g w2.heap.size L a3 c3 (thinA n L i (Gr.rowN L i)) w wr) ∧ w3.heap.size ≤ wr.heap.size) (fun x _ => n - (intOf x).toNat)
  case atStart => exact ⟨0, by omega, rfl, HW, Nat.le_refl _⟩
  case round =>
    clear HW
    obtain ⟨i, hi, rfl, HW, hs⟩ := hrel
    have hsz := HW.out.below.size
    by_cases hin : i < n
    · obtain ⟨b3, rfl⟩ := row_addr HW.out.cls (by omega)
      have c0 := row_cell HW.out.cls (i := i) (x := u64s (Gr.cl n L) i) (by rw [List.getElem?_map, List.getElem?_range hin]; rfl)
      unfold u64s at c0
      have hb3 := (HW.out.cls.lt b3 rfl).2
      have HTT := Lib.hid (HT.out.below HW.out.below hG)
      have HLI := Lib.hid (cl_lt64 HO.out h60 i)
      obtain ⟨lst, hlst⟩ : ∃ q, q = Gr.yes (Gr.cl n L i).testBit 64 := ⟨_, rfl⟩
      obtain ⟨q, hq⟩ : ∃ q, q = lst.length := ⟨_, rfl⟩
      have hq64 : q ≤ 64 := by rw [hq, hlst]; exact Gr.yes_length _ _
      have HLST := Lib.hid hlst
      have HQ := Lib.hid hq
      clear hlst hq
      obtain ⟨wo, rfl⟩ : ∃ wo : World, wo = wr := ⟨_, rfl⟩
      go_wp2_with (go_at_call 50; refine Calls.mono (list_any (Gr.cl n L i) _ HLI.out HTT.out (by omega)) ?_; rintro e w4 ⟨v4, rfl, j4, hB4⟩; rw [← HLST.out, ← HQ.out] at j4; have HJ := Lib.hid j4; obtain ⟨a4, c4, rfl, _⟩ := isVals1 j4; have HW4 := Lib.hid (HW.out.step hB4); have hs4 := hB4.size; clear j4 hB4)
      go_loopw [38] (fun x wx => ∃ j : Nat, j ≤ q ∧ x = .int .i64 j ∧ Hid (TW n g w2.heap.size L (some ⟨b3, 0, none⟩) c3 (thinA n L i (thF (Gr.cl n L) (Gr.rowN L i) (lst.take j))) w wx) ∧ Hid (wx.ownsRow wo.heap.size 3 1 (.slice a4 q c4) q (nats lst)) ∧ w3.heap.size ≤ wx.heap.size) (fun x _ => q - (intOf x).toNat)
      case atStart => exact ⟨0, by omega, rfl, HW4, HJ, by omega⟩
      case round =>
        clear HW HW4 HJ c0
        obtain ⟨j, hj, rfl, HW, HJ, hs5⟩ := hrel
        have hsz5 := HW.out.below.size
        by_cases hjq : j < q
        · obtain ⟨b4, rfl⟩ := row_addr HJ.out (by omega)
          obtain ⟨x, hx⟩ : ∃ x, lst[j]? = some x := ⟨_, List.getElem?_eq_getElem (by rw [← HQ.out]; exact hjq)⟩
          have hxn : x < n := by
            have h1 : x ∈ Gr.yes (Gr.cl n L i).testBit 64 := by rw [← HLST.out]; exact List.mem_of_getElem? hx
            have h2 := (Gr.mem_yes.1 h1).2
            exact (((Gr.rb_iff HO.out hin x).1 h2).lt HO.out).2
          have c1 := row_cell HJ.out (i := j) (x := nat1 x) (by simp [nats, hx])
          have c2 := HW.out.row.cell hin
          have c3' := HW.out.row.frozen i
          have c5 := row_cell HW.out.cls (i := x) (x := u64s (Gr.cl n L) x) (by rw [List.getElem?_map, List.getElem?_range hxn]; rfl)
          have hb3' := (HW.out.cls.lt b3 rfl).2
          have hb4' := (HJ.out.lt b4 rfl).2
          have hgl := HW.out.row.lt
          unfold nat1 at c1
          have hrl : Gr.rowN L i < 18446744073709551616 := Gr.lt64 (Nat.le_refl _) (rowN_lt60 HO.out h60 i)
          have HAN := Lib.hid (u64_andNot_nat (thF (Gr.cl n L) (Gr.rowN L i) (lst.take j)) (Gr.cl n L x) (thF_lt _ _ hrl _) (cl_lt64 HO.out h60 x))
          have HSN : Hid (thF (Gr.cl n L) (Gr.rowN L i) (lst.take (j + 1)) = thF (Gr.cl n L) (Gr.rowN L i) (lst.take j) &&& (18446744073709551615 - Gr.cl n L x)) := Lib.hid (by rw [List.take_add_one, hx]; exact thF_snoc _ _ _ _)
          unfold u64s thinA at c2
          rw [if_neg (Nat.lt_irrefl _), if_pos rfl] at c2
          unfold u64s at c5
          have HST : Hid (∀ z : Nat, TW n g w2.heap.size L (some ⟨b3, 0, none⟩) c3 (thinA n L i z) w (wr.setCell ⟨g, i, none⟩ (.int .u64 (z : Int)))) := Lib.hid fun z => ⟨(HW.out.row.set i _).congr fun y hy => by
            unfold u64s thinA
            by_cases e : y = i
            · subst e; simp
            · simp [e], ownsRow_setCell_below HW.out.cls hgK _, HW.out.below.setCell (by show w.heap.size ≤ g; omega) _⟩
          have HJ2 : Hid (∀ z : Value, (wr.setCell ⟨g, i, none⟩ z).ownsRow wo.heap.size 3 1 (.slice (some ⟨b4, 0, none⟩) q c4) q (nats lst)) := Lib.hid fun z => ownsRow_setCell_below HJ.out (by show g < wo.heap.size; omega) _
          generalize thF (Gr.cl n L) (Gr.rowN L i) (lst.take j) = z at *
          generalize Gr.cl n L x = y at *
          have hi1 : (0 : Int) ≤ (i : Int) := by omega
          have hi2 : (i : Int) < (n : Int) := by omega
          have hx1 : (0 : Int) ≤ (x : Int) := by omega
          have hx2 : (x : Int) < (n : Int) := by omega
          clear hx hrl
          go_wp2_with fail
          go_region
          all_goals
            go_wp2_with fail
            go_roundw
            case rel =>
              rw [HAN.out]
              exact ⟨j + 1, by omega, rfl, Lib.hid (by rw [HSN.out]; exact (HST.out _).step ((Below.refl _ _).drew)), Lib.hid ((HJ2.out _).drew), by simpa using hs5⟩
            case measure => simp [intOf]; omega
        · obtain rfl : j = q := by omega
          have HW2 : Hid (TW n g w2.heap.size L (some ⟨b3, 0, none⟩) c3 (thinA n L (i + 1) (Gr.rowN L (i + 1))) w wr) := Lib.hid ⟨HW.out.row.congr fun y hy => by
            unfold u64s
            rw [← thinA_next, List.take_of_length_le (by rw [HQ.out]; exact Nat.le_refl _), HLST.out]
            rfl, HW.out.cls, HW.out.below⟩
          go_wp2_with fail
          go_roundw
          case rel => exact ⟨i + 1, by omega, rfl, HW2, hs5⟩
          case measure => simp [intOf]; omega
    · obtain rfl : i = n := by omega
      have HROW := Lib.hid (vals_row (HW.out.row.congr (g := u64s (thinZ i L)) fun y hy => by unfold u64s; rw [thinA_zero, if_pos hy]))
      have HTT := Lib.hid (HT.out.below HW.out.below hG)
      go_wp2_with (go_at_call 51; refine Calls.mono (edges_any i (thinZ i L) _ _ _ h60 HROW.out (fun x => thF_lt _ _ (Gr.lt64 (Nat.le_refl _) (rowN_lt60 HO.out h60 x)) _) HTT.out (by omega)) ?_; rintro e w5 ⟨v, rfl, i5, hB5⟩; rw [HCB.out, HM.out] at i5; obtain ⟨a5, c5, rfl, j5⟩ := i5; have HJ5 := Lib.hid j5; clear j5)
      go_ret2
      exact ⟨_, _, rfl, HJ5.out, HW.out.below.trans (hB5.mono hsz)⟩
end Go.Proofs.YtdbipmidjdhjpaaDoor
