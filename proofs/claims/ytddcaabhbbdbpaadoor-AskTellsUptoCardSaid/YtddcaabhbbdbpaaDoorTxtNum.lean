/- What the library's functions of texts want of a world (MaxLen's cell, the two errors, the table of powers); FormatInt and ParseInt in lists of bytes. -/
import Derived.Test.YtddcaabhbbdbpaaDoorBtsP
import Derived.Test.YtddcaabhbbdbpaaDoorNeedTxtM
import Derived.Test.YtddcaabhbbdbpaaDoorShelf
import Derived.Lib.LaidTab
import Derived.Lib.SmallJoins
import Derived.Lib.AppendIntMem
namespace Go.Proofs.YtddcaabhbbdbpaaDoor
open Go.ChangeShapes Go.WideShapes Go.ChangeAt Go.RowKit
set_option linter.unusedVariables false
open Tp
def PowT (w : World) : Prop := Lib.TabIs Tryd.prog w "internal/strconv.uint64pow10" .u64 Lib.pow10Tab
theorem gPowT : Tryd.prog.globalNamed "internal/strconv.uint64pow10" = some 0 := by kernel_rfl
theorem PowT.below {B : Nat} {w w' : World} (h : PowT w) (hb : Below B w w') (hB : w.heap.size ≤ B) : PowT w' := by
  unfold PowT Lib.TabIs World.var? at h ⊢
  rw [gPowT] at h ⊢
  simp only [Option.bind_some] at h ⊢
  have hlt : 0 < w.heap.size := by
    rcases Nat.lt_or_ge 0 w.heap.size with h' | h'
    · exact h'
    · rw [Array.getElem?_eq_none h'] at h; cases h
  rw [hb.block _ (by omega)]
  exact h
/-- what the library's functions of texts want -/
structure Env (w : World) : Prop where
  most : ∃ m, w.cell? ⟨3, 0, none⟩ = some (.int .i64 m)
  e1 : ∃ t p, w.cell? ⟨1, 0, none⟩ = some (.iface t p)
  e2 : ∃ t p, w.cell? ⟨2, 0, none⟩ = some (.iface t p)
  pow : PowT w
theorem Env.below {B : Nat} {w w' : World} (h : Env w) (hb : Below B w w') (hB : w.heap.size ≤ B) : Env w' := by
  obtain ⟨⟨m, h1⟩, ⟨t1, p1, h2⟩, ⟨t2, p2, h3⟩, h4⟩ := h
  have key : ∀ {a : Addr} {v : Value}, w.cell? a = some v → w'.cell? a = some v := fun {a} {v} h => (hb.cell (by have := World.block_lt_of_cell? w _ h; omega)).trans h
  exact ⟨⟨m, key h1⟩, ⟨t1, p1, key h2⟩, ⟨t2, p2, key h3⟩, h4.below hb hB⟩
theorem FormatIntN_any (u : Nat) (w : World) (hu : u < 9223372036854775808) (hp : Env w) : Calls Tryd.prog 19 #[.int .i64 (u : Int), .int .i64 10] w fun e w' => e = .returned (.string (bts (Nt.dec u))) ∧ Below w.heap.size w w' := by
  refine Calls.mono (Tryd.strconv_FormatInt_10 (u : Int) (by omega) (by omega) w hp.pow) ?_
  rintro e w' ⟨rfl, k, os, rfl⟩
  refine ⟨?_, Lib.below_grow _ w (Nat.le_refl _) k os⟩
  unfold Lib.itoa
  rw [if_neg (by omega)]
  rfl
theorem data_bts (s : Bs) : (bts s).data.toList = s := rfl
/-- a number, or none -/
def numB (s : Bs) : Option Int := match Lib.parseIntB 64 s with | .ok v => some v | _ => none
def ParseQ (w : World) (s : Bs) (e : Ending) (w' : World) : Prop := Below w.heap.size w w' ∧ match numB s with
  | some v => e = .returned (.tuple #[.int .i64 v, .nilIface])
  | none => ∃ n t p, e = .returned (.tuple #[.int .i64 n, .iface t p])
theorem Parse_any (s : Bs) (w : World) (hs : s.length ≤ 281474976710656) (he : Env w) : Calls Tryd.prog 23 #[.string (bts s), .int .i64 10, .int .i64 64] w (ParseQ w s) := by
  obtain ⟨t1, p1, h1⟩ := he.e1
  obtain ⟨t2, p2, h2⟩ := he.e2
  have hsz : (bts s).size ≤ 281474976710656 := by rw [bts_size]; exact hs
  unfold ParseQ numB
  cases h : Lib.parseIntB 64 s with
  | ok v =>
    refine Calls.mono (Tryd.strconv_ParseInt_10_at64_ok (bts s) (by omega) v h w) ?_
    rintro e w' ⟨rfl, rfl | ⟨t, rfl⟩⟩
    · exact ⟨Below.refl _ _, rfl⟩
    · exact ⟨Go.Joins.below_bytesWorld _ w _ t (Nat.le_refl _), rfl⟩
  | range =>
    refine Calls.mono (Tryd.strconv_ParseInt_10_at64_range (bts s) hsz h _ w h2 (.inr ⟨t2, p2, rfl⟩)) ?_
    rintro e w' ⟨N, rfl, _, _, hb⟩
    exact ⟨hb, _, _, _, rfl⟩
  | _ =>
    refine Calls.mono (Any.strconv_ParseInt_10_at64_syntax Tryd.laysC174 (bts s) hsz h _ w h1 (.inr ⟨t1, p1, rfl⟩)) ?_
    rintro e w' ⟨N, rfl, _, _, hb⟩
    exact ⟨hb, _, _, _, rfl⟩
end Go.Proofs.YtddcaabhbbdbpaaDoor
