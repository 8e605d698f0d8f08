/- Contract: the program's closure that tells of an atom by a bit of a number. -/
import Derived.Test.YtkelkpfjkjcmgaaDoorAskVal2
import Derived.Test.YtkelkpfjkjcmgaaDoorAskNorm
import Derived.Laws.BitsLemmas
import Derived.Test.YtkelkpfjkjcmgaaDoorAskTxt
import Derived.Test.YtkelkpfjkjcmgaaDoorAskIdx
import Derived.Deep.RegionHeld3
namespace Go.Proofs.YtkelkpfjkjcmgaaDoor
open Go.ChangeShapes Go.WideShapes Go.ChangeAt Go.RowKit
set_option linter.unusedVariables false
open Tp
/-- a number and a row of texts, boxed -/
structure BitAt (cs ca : Nat) (s : Int) (ra : Option Addr) (rn rc : Nat) (K : List Bs) (W : World) : Prop where
  s0 : W.cell? ⟨cs, 0, none⟩ = some (.int .i64 s)
  r0 : W.cell? ⟨ca, 0, none⟩ = some (.slice ra rn rc)
  ls : cs < W.heap.size
  lr : ca < W.heap.size
  row : Vals W ra (txv K)
  pow : Pow W
theorem BitAt.below {cs ca : Nat} {s : Int} {ra : Option Addr} {rn rc : Nat} {K : List Bs} {w w' : World} (h : BitAt cs ca s ra rn rc K w) (hb : Below w.heap.size w w') : BitAt cs ca s ra rn rc K w' :=
  ⟨(hb.cell (p := ⟨cs, 0, none⟩) h.ls).trans h.s0, (hb.cell (p := ⟨ca, 0, none⟩) h.lr).trans h.r0, Nat.lt_of_lt_of_le h.ls hb.size, Nat.lt_of_lt_of_le h.lr hb.size, h.row.below hb (Nat.le_refl _), h.pow.below hb⟩
/-- the bit of an atom -/
def bitOf (s : Nat) (K : List Bs) (t : Bs) : Bool := decide (s / 2 ^ (K.idxOf t) % 2 = 1)
theorem i64_and1 (n : Nat) (h : n < 9223372036854775808) : bits .and .i64 (n : Int) 1 = ((n % 2 : Nat) : Int) := by
  have h1 : (BitVec.ofInt 64 1).toNat = 2 ^ 1 - 1 := by decide
  have key : (BitVec.ofInt 64 (n : Int) &&& BitVec.ofInt 64 1).toNat = ((n : Int) % ((2 ^ 64 : Nat) : Int)).toNat % 2 ^ 1 := by
    rw [BitVec.toNat_and, BitVec.toNat_ofInt, h1, Nat.and_two_pow_sub_one_eq_mod]
  show IntKind.i64.wrap ((BitVec.ofInt 64 (n : Int) &&& BitVec.ofInt 64 1).toNat : Nat) = _
  rw [key, IntKind.wrap_i64]
  omega
theorem enBit : Enters 23 := fun args w => by kernel_rfl
set_option maxRecDepth 20000 in
set_option maxHeartbeats 16000000 in
theorem bit_any (cs ca s : Nat) (ra : Option Addr) (rn rc : Nat) (K : List Bs) (hs : s < 4096) (hrn : rn = K.length) (hr63 : rn ≤ 12) (y : Ask) (v : Value) (w : World) (hj : BitAt cs ca (s : Int) ra rn rc K w) (hy : AskV w y v) (he : y.err = 0) (h3 : y.kind ≤ 3) (hin : y.txt ∈ K) : Calls Tryd.prog 23 #[v, .pointer (some ⟨cs, 0, none⟩), .pointer (some ⟨ca, 0, none⟩)] w fun e w' => e = .returned (.bool (bitOf s K y.txt)) ∧ Below w.heap.size w w' := by
  obtain ⟨k, a1, a2, nu, ad, n, cap, rfl⟩ := hy.form
  obtain ⟨W0, hW0⟩ : ∃ W, W = w.alloc (.cells #[.int .i64 k, .string a1, .string a2, .int .i64 nu, .slice ad n cap] 24) := ⟨_, rfl⟩
  have hb9 : Below w.heap.size w W0 := by rw [hW0]; exact (Below.refl _ _).alloc (Nat.le_refl _) _
  have HB9 := Lib.hid hb9
  obtain ⟨cx, hcx⟩ : ∃ c, c = w.heap.size := ⟨_, rfl⟩
  have d0 : W0.cell? ⟨cx, 0, none⟩ = some (.int .i64 k) := by rw [hW0, hcx]; simp
  have d1 : W0.cell? ⟨cx, 1, none⟩ = some (.string a1) := by rw [hW0, hcx]; simp
  have d2 : W0.cell? ⟨cx, 2, none⟩ = some (.string a2) := by rw [hW0, hcx]; simp
  have d3 : W0.cell? ⟨cx, 3, none⟩ = some (.int .i64 nu) := by rw [hW0, hcx]; simp
  have d4 : W0.cell? ⟨cx, 4, none⟩ = some (.slice ad n cap) := by rw [hW0, hcx]; simp
  have hcx0 : cx < W0.heap.size := by rw [hW0, hcx]; simp
  have hj0 := hj.below hb9
  have e0 := hj0.s0
  have e1 := hj0.r0
  have l1 := hj0.ls
  have l2 := hj0.lr
  have HJ0 := Lib.hid hj0
  have HX0 := Lib.hid (AskV.below hb9 _ _ hy)
  obtain ⟨t, ht⟩ : ∃ t, y.txt = t := ⟨_, rfl⟩
  have HC0 : Hid (∀ W, Below W0.heap.size W0 W → Calls Tryd.prog 25 #[.agg #[.int .i64 k, .string a1, .string a2, .int .i64 nu, .slice ad n cap]] W fun e w' => e = .returned (.string (bts t)) ∧ Below W.heap.size W w') := Lib.hid (fun W hW => by rw [← ht]; exact text_atom y _ W he h3 (HJ0.out.below hW).pow (AskV.below hW _ _ HX0.out))
  have HC1 : Hid (∀ W, Below W0.heap.size W0 W → Calls Tryd.prog 24 #[.slice ra rn rc, .string (bts t)] W fun e w' => e = .returned (.int .i64 (idxI K t)) ∧ Below W.heap.size W w') := Lib.hid (fun W hW => indexK K rn t ra rc W hrn (HJ0.out.below hW).row (by omega))
  rw [ht] at hin ⊢
  obtain ⟨i, hi⟩ : ∃ i, K.idxOf t = i := ⟨_, rfl⟩
  have hidx : idxI K t = (i : Int) := by unfold idxI; rw [if_pos hin, hi]
  rw [hidx] at HC1
  have hi12 : i < 12 := by rw [← hi]; have := List.idxOf_lt_length_iff.2 hin; omega
  have hi0 : ¬ ((i : Int) < 0) := by omega
  have HBIT : Hid (bitOf s K t = decide (s / 2 ^ i % 2 = 1)) := Lib.hid (by unfold bitOf; rw [hi])
  obtain ⟨S, hS⟩ : ∃ S, bts t = S := ⟨_, rfl⟩
  rw [hS] at HC0 HC1
  rw [HBIT.out]
  have q0d : W0.drew.cell? ⟨cs, 0, none⟩ = some (.int .i64 (s : Int)) := e0
  have q1d : W0.drew.cell? ⟨ca, 0, none⟩ = some (.slice ra rn rc) := e1
  have d0d : W0.drew.cell? ⟨cx, 0, none⟩ = some (.int .i64 k) := d0
  have d1d : W0.drew.cell? ⟨cx, 1, none⟩ = some (.string a1) := d1
  have d2d : W0.drew.cell? ⟨cx, 2, none⟩ = some (.string a2) := d2
  have d3d : W0.drew.cell? ⟨cx, 3, none⟩ = some (.int .i64 nu) := d3
  have d4d : W0.drew.cell? ⟨cx, 4, none⟩ = some (.slice ad n cap) := d4
  have HRES : Hid ((bits .and .i64 ((s : Int) / 2 ^ i) 1 == 1) = decide (s / 2 ^ i % 2 = 1)) := Lib.hid (by
    rw [show (s : Int) / 2 ^ i = ((s / 2 ^ i : Nat) : Int) from by push_cast; rfl, i64_and1 _ (Nat.lt_of_le_of_lt (Nat.div_le_self _ _) (by omega))]
    rw [Bool.eq_iff_iff, beq_iff_eq, decide_eq_true_eq]
    omega)
  clear hy he h3 hin hrn hb9 hj hj0 hS ht hi hidx
  go_enter Tryd.func23, Tryd.ntmps23
  go_upto_region 1 with fail
  rw [← hW0, ← hcx]
  clear hW0 hcx
  go_region_held3 (fun W => W.cell? ⟨cs, 0, none⟩ = some (.int .i64 (s : Int)) ∧ W.cell? ⟨ca, 0, none⟩ = some (.slice ra rn rc) ∧ W.cell? ⟨cx, 0, none⟩ = some (.int .i64 k) ∧ W.cell? ⟨cx, 1, none⟩ = some (.string a1) ∧ W.cell? ⟨cx, 2, none⟩ = some (.string a2) ∧ W.cell? ⟨cx, 3, none⟩ = some (.int .i64 nu) ∧ W.cell? ⟨cx, 4, none⟩ = some (.slice ad n cap)) (first | with_reducible exact ⟨e0, e1, d0, d1, d2, d3, d4⟩ | with_reducible exact ⟨q0d, q1d, d0d, d1d, d2d, d3d, d4d⟩ | with_reducible exact ⟨e0a, e1a, d0a, d1a, d2a, d3a, d4a⟩ | with_reducible exact ⟨e0b, e1b, d0b, d1b, d2b, d3b, d4b⟩ | go_keep) (first
    | (go_at_call 24; refine Calls.mono (HC1.out _ ((show Below W0.heap.size W0 W0.drew from by go_grown).trans hb1)) ?_; rintro e w2 ⟨rfl, hb2⟩; have e0b := (hb2.cell (p := ⟨cs, 0, none⟩) (Nat.lt_of_lt_of_le l1 hb1.size)).trans e0a; have e1b := (hb2.cell (p := ⟨ca, 0, none⟩) (Nat.lt_of_lt_of_le l2 hb1.size)).trans e1a; have d0b := (hb2.cell (p := ⟨cx, 0, none⟩) (Nat.lt_of_lt_of_le hcx0 hb1.size)).trans d0a; have d1b := (hb2.cell (p := ⟨cx, 1, none⟩) (Nat.lt_of_lt_of_le hcx0 hb1.size)).trans d1a; have d2b := (hb2.cell (p := ⟨cx, 2, none⟩) (Nat.lt_of_lt_of_le hcx0 hb1.size)).trans d2a; have d3b := (hb2.cell (p := ⟨cx, 3, none⟩) (Nat.lt_of_lt_of_le hcx0 hb1.size)).trans d3a; have d4b := (hb2.cell (p := ⟨cx, 4, none⟩) (Nat.lt_of_lt_of_le hcx0 hb1.size)).trans d4a)
    | (go_at_call 25; refine Calls.mono (HC0.out _ (by first | exact Below.refl _ _ | go_grown)) ?_; rintro e w1 ⟨rfl, hb1⟩; have e0a := (hb1.cell (p := ⟨cs, 0, none⟩) l1).trans e0; have e1a := (hb1.cell (p := ⟨ca, 0, none⟩) l2).trans e1; have d0a := (hb1.cell (p := ⟨cx, 0, none⟩) hcx0).trans d0; have d1a := (hb1.cell (p := ⟨cx, 1, none⟩) hcx0).trans d1; have d2a := (hb1.cell (p := ⟨cx, 2, none⟩) hcx0).trans d2; have d3a := (hb1.cell (p := ⟨cx, 3, none⟩) hcx0).trans d3; have d4a := (hb1.cell (p := ⟨cx, 4, none⟩) hcx0).trans d4))
  all_goals
    go_wp2_with fail
    go_ret
    exact ⟨ret_bool HRES.out, HB9.out.trans ((((show Below W0.heap.size W0 W0.drew from by go_grown).trans hb1).trans (hb2.mono (by have := hb1.size; exact this))).mono HB9.out.size)⟩
end Go.Proofs.YtkelkpfjkjcmgaaDoor
