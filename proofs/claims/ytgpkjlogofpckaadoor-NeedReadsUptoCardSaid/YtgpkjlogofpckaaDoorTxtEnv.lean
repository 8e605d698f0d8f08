/- What the library's functions of texts want of a world (MaxLen's cell, the two errors, the table of powers); their contracts in lists of bytes: Split, Cut, ParseInt, FormatInt, Join. -/
import Derived.Test.YtgpkjlogofpckaaDoorBtsP
import Derived.Test.YtgpkjlogofpckaaDoorNeedTxtM
import Derived.Test.YtgpkjlogofpckaaDoorShelf
import Derived.Lib.LaidTab
import Derived.Lib.SmallJoins
import Derived.Lib.AppendIntMem
namespace Go.Proofs.YtgpkjlogofpckaaDoor
open Go.ChangeShapes Go.WideShapes Go.ChangeAt Go.RowKit
set_option linter.unusedVariables false
open Tp
def PowT (w : World) : Prop := Lib.TabIs Tryd.prog w "internal/strconv.uint64pow10" .u64 Lib.pow10Tab
theorem gPowT : Tryd.prog.globalNamed "internal/strconv.uint64pow10" = some 3 := by kernel_rfl
theorem PowT.below {B : Nat} {w w' : World} (h : PowT w) (hb : Below B w w') (hB : w.heap.size ≤ B) : PowT w' := by
  unfold PowT Lib.TabIs World.var? at h ⊢
  rw [gPowT] at h ⊢
  simp only [Option.bind_some] at h ⊢
  have hlt : 3 < w.heap.size := by
    rcases Nat.lt_or_ge 3 w.heap.size with h' | h'
    · exact h'
    · rw [Array.getElem?_eq_none h'] at h; cases h
  rw [hb.block _ (by omega)]
  exact h
/-- what the library's functions of texts want -/
structure Env (w : World) : Prop where
  most : ∃ m, w.cell? ⟨0, 0, none⟩ = some (.int .i64 m)
  e1 : ∃ t p, w.cell? ⟨1, 0, none⟩ = some (.iface t p)
  e2 : ∃ t p, w.cell? ⟨2, 0, none⟩ = some (.iface t p)
  pow : PowT w
theorem Env.below {B : Nat} {w w' : World} (h : Env w) (hb : Below B w w') (hB : w.heap.size ≤ B) : Env w' := by
  obtain ⟨⟨m, h1⟩, ⟨t1, p1, h2⟩, ⟨t2, p2, h3⟩, h4⟩ := h
  have key : ∀ {a : Addr} {v : Value}, w.cell? a = some v → w'.cell? a = some v := fun {a} {v} h => (hb.cell (by have := World.block_lt_of_cell? w _ h; omega)).trans h
  exact ⟨⟨m, key h1⟩, ⟨t1, p1, key h2⟩, ⟨t2, p2, key h3⟩, h4.below hb hB⟩
theorem FormatIntN_any (u : Nat) (w : World) (hu : u < 9223372036854775808) (hp : Env w) : Calls Tryd.prog 19 #[.int .i64 (u : Int), .int .i64 10] w fun e w' => e = .returned (.string (bts (Nt.dec u))) ∧ Below w.heap.size w w' := by
  refine Calls.mono (Tryd.strconv_FormatInt_10 (u : Int) (by omega) (by omega) w hp.pow) ?_
  rintro e w' ⟨rfl, k, os, rfl⟩
  refine ⟨?_, Lib.below_grow _ w (Nat.le_refl _) k os⟩
  unfold Lib.itoa
  rw [if_neg (by omega)]
  rfl
theorem data_bts (s : Bs) : (bts s).data.toList = s := rfl
theorem splitB_txv (s : Bs) (c : UInt8) : (Lib.splitB (bts [c]) 0 (Lib.countB (bts s) (bts [c])) (bts s)).map Value.string = txv (Nt.pcs c s) := by
  have h := Lib.splitB_data (bts [c]) 0 (Lib.countB (bts s) (bts [c])) (bts s)
  rw [data_bts, data_bts, show Lib.countB (bts s) (bts [c]) = Lib.count s [c] from rfl, Nt.split_pcs c _ s rfl] at h
  rw [show Lib.countB (bts s) (bts [c]) = Lib.count s [c] from rfl, ← h]
  unfold txv
  rw [List.map_map]
  refine List.map_congr_left fun x _ => ?_
  show Value.string x = Value.string (bts (x.data.toList))
  congr 1
theorem Split_any (s : Bs) (c : UInt8) (w : World) (hs : s.length < 4294967281) (he : Env w) : Calls Tryd.prog 11 #[.string (bts s), .string (bts [c])] w fun e w' => e = .returned (.slice (some ⟨w.heap.size, 0, none⟩) (Nt.pcs c s).length (Nt.pcs c s).length) ∧ w' = w.alloc (.cells (txv (Nt.pcs c s)).toArray 9) := by
  obtain ⟨m, hm⟩ := he.most
  refine Calls.mono (Tryd.strings_Split (bts s) (bts [c]) m w (by rw [bts_size]; exact hs) hm (by rw [bts_size]; exact Nat.le_refl _)) ?_
  rintro e w' ⟨rfl, rfl⟩
  have h := splitB_txv s c
  have hl : Lib.countB (bts s) (bts [c]) + 1 = (Nt.pcs c s).length := by
    rw [← Lib.splitB_all (bts [c]) (by rw [bts_size]; exact Nat.le_refl _) 0 _ (bts s) rfl, ← List.length_map (f := Value.string), h, txv_length]
  rw [h, hl]
  exact ⟨rfl, rfl⟩
theorem Cut_any (s : Bs) (c : UInt8) (w : World) (hs : s.length < 4294967281) (he : Env w) : Calls Tryd.prog 12 #[.string (bts s), .string (bts [c])] w fun e w' => e = .returned (.tuple #[.string (bts (cutB c s).1), .string (bts (cutB c s).2.1), .bool (cutB c s).2.2]) ∧ Below w.heap.size w w' := by
  obtain ⟨m, hm⟩ := he.most
  refine Calls.mono (Tryd.strings_Cut (bts s) (bts [c]) m w (by rw [bts_size]; exact hs) hm) ?_
  rintro e w' ⟨rfl, n, rfl⟩
  rw [data_bts, data_bts, cut_one]
  exact ⟨rfl, below_drewN (Below.refl _ _) n⟩
/-- a number, or none -/
def numB (s : Bs) : Option Int := match Lib.parseIntB 64 s with | .ok v => some v | _ => none
def ParseQ (w : World) (s : Bs) (e : Ending) (w' : World) : Prop := Below w.heap.size w w' ∧ match numB s with
  | some v => e = .returned (.tuple #[.int .i64 v, .nilIface])
  | none => ∃ n t p, e = .returned (.tuple #[.int .i64 n, .iface t p])
theorem Parse_any (s : Bs) (w : World) (hs : s.length ≤ 281474976710656) (he : Env w) : Calls Tryd.prog 13 #[.string (bts s), .int .i64 10, .int .i64 64] w (ParseQ w s) := by
  obtain ⟨t1, p1, h1⟩ := he.e1
  obtain ⟨t2, p2, h2⟩ := he.e2
  have hsz : (bts s).size ≤ 281474976710656 := by rw [bts_size]; exact hs
  unfold ParseQ numB
  cases h : Lib.parseIntB 64 s with
  | ok v =>
    refine Calls.mono (Tryd.strconv_ParseInt_10_at64_ok (bts s) (by omega) v h w) ?_
    rintro e w' ⟨rfl, rfl | ⟨t, rfl⟩⟩
    · exact ⟨Below.refl _ _, rfl⟩
    · exact ⟨Go.Joins.below_bytesWorld _ w _ t (Nat.le_refl _), rfl⟩
  | range =>
    refine Calls.mono (Tryd.strconv_ParseInt_10_at64_range (bts s) hsz h _ w h2 (.inr ⟨t2, p2, rfl⟩)) ?_
    rintro e w' ⟨N, rfl, _, _, hb⟩
    exact ⟨hb, _, _, _, rfl⟩
  | _ =>
    refine Calls.mono (Any.strconv_ParseInt_10_at64_syntax Tryd.laysC174 (bts s) hsz h _ w h1 (.inr ⟨t1, p1, rfl⟩)) ?_
    rintro e w' ⟨N, rfl, _, _, hb⟩
    exact ⟨hb, _, _, _, rfl⟩
theorem joinC_lib : ∀ l : List Bs, Lib.join l [44] = Nt.joinC l
  | [] => Lib.join_nil _
  | [x] => Lib.join_one _ _
  | x :: y :: l => by
    rw [Lib.join_cons, Nt.joinC, ← joinC_lib (y :: l), Lib.join_cons]
    simp [Lib.joinTail]
theorem Join_any (K : List Bs) (a : Option Addr) (c : Nat) (w : World) (hv : 0 < K.length → ∃ b off, a = some ⟨b, off, none⟩ ∧ b < w.heap.size ∧ ∀ i t, K[i]? = some t → w.cell? ⟨b, off + i, none⟩ = some (.string (bts t))) (hK : K.length ≤ 1099511627776) (hc : K.length ≤ c) (hl : (Nt.joinC K).length ≤ 1099511627776) : Calls Tryd.prog 20 #[.slice a K.length c, .string (bts [44])] w fun e w' => e = .returned (.string (bts (Nt.joinC K))) ∧ Below w.heap.size w w' := by
  have em : (K.map bts).map (·.data.toList) = K := by
    rw [List.map_map]
    refine (List.map_congr_left (g := id) fun x _ => rfl).trans (List.map_id K)
  by_cases h0 : 0 < K.length
  · obtain ⟨b, off, rfl, hb, hcell⟩ := hv h0
    have h := Tryd.strings_Join b off c (K.map bts) (bts [44]) w (fun j x hx => by
      rw [List.getElem?_map] at hx
      cases hk : K[j]? with
      | none => rw [hk] at hx; cases hx
      | some t => rw [hk] at hx; cases hx; exact hcell j t hk) hb (by rw [List.length_map]; omega) (by rw [List.length_map]; exact hc) (by rw [em, data_bts, joinC_lib]; omega)
    rw [List.length_map, em, data_bts, joinC_lib] at h
    exact h
  · have hn : K = [] := List.length_eq_zero_iff.1 (by omega)
    subst hn
    refine Calls.mono (Tryd.strings_Join_none a c (bts [44]) w) ?_
    rintro e w' ⟨rfl, rfl⟩
    exact ⟨rfl, Below.refl _ _⟩
end Go.Proofs.YtgpkjlogofpckaaDoor
