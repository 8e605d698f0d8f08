/- What the library's functions of texts want of a world (MaxLen's cell, the two errors, the table of powers); FormatInt and ParseInt in lists of bytes. -/
import Derived.Test.YtkemlckmfgacdaaGreatDoorJnP1
import Derived.Test.YtkemlckmfgacdaaGreatDoorJnP2
import Derived.Test.YtkemlckmfgacdaaGreatDoorShelf
import Derived.Lib.LaidTab
import Derived.Lib.SmallJoins
import Derived.Lib.AppendIntMem
import Derived.Test.YtkemlckmfgacdaaGreatDoorJnP5
import Derived.Laws.RangeAny
import Derived.Laws.RangeString
import Derived.Laws.Runes
import Derived.WalkMore
import Derived.Lib.OthersKept
import Derived.BigQuiet
import Derived.Deep.QuietTactic
import Derived.Deep.LoopGhost
import Derived.Deep.CutBlock
import Derived.Deep.DeepCutAuto
namespace Go.Proofs.YtkemlckmfgacdaaGreatDoor
set_option maxRecDepth 20000
set_option maxHeartbeats 64000000
open Go.ChangeShapes Go.WideShapes Go.ChangeAt Go.RowKit
set_option linter.unusedVariables false
open Tp
def PowT (w : World) : Prop := Lib.TabIs Tryz.prog w "internal/strconv.uint64pow10" .u64 Lib.pow10Tab
theorem gPowT : Tryz.prog.globalNamed "internal/strconv.uint64pow10" = some 3 := by kernel_rfl
theorem PowT.below {B : Nat} {w w' : World} (h : PowT w) (hb : Below B w w') (hB : w.heap.size ≤ B) : PowT w' := by
 unfold PowT Lib.TabIs World.var? at h ⊢
 rw [gPowT] at h ⊢
 simp only [Option.bind_some] at h ⊢
 have hlt : 3 < w.heap.size := by
  rcases Nat.lt_or_ge 3 w.heap.size with h' | h'
  ·exact h'
  ·rw [Array.getElem?_eq_none h'] at h; cases h
 rw [hb.block _ (by omega)]
 exact h
structure Env (w : World) : Prop where
 most : ∃ m, w.cell? ⟨2, 0, none⟩ = some (.int .i64 m)
 e1 : ∃ t p, w.cell? ⟨0, 0, none⟩ = some (.iface t p)
 e2 : ∃ t p, w.cell? ⟨1, 0, none⟩ = some (.iface t p)
 pow : PowT w
theorem Env.below {B : Nat} {w w' : World} (h : Env w) (hb : Below B w w') (hB : w.heap.size ≤ B) : Env w' := by
 obtain ⟨⟨m, h1⟩, ⟨t1, p1, h2⟩, ⟨t2, p2, h3⟩, h4⟩ := h
 have key : ∀ {a : Addr} {v : Value}, w.cell? a = some v → w'.cell? a = some v := fun {a} {v} h => (hb.cell (by have := World.block_lt_of_cell? w _ h; omega)).trans h
 exact ⟨⟨m, key h1⟩, ⟨t1, p1, key h2⟩, ⟨t2, p2, key h3⟩, h4.below hb hB⟩
theorem FormatIntN_any (u : Nat) (w : World) (hu : u < 9223372036854775808) (hp : Env w) : Calls Tryz.prog 78 #[.int .i64 (u : Int), .int .i64 10] w fun e w' => e = .returned (.string (bts (Nt.dec u))) ∧ Below w.heap.size w w' := by
 refine Calls.mono (Tryz.strconv_FormatInt_10 (u : Int) (by omega) (by omega) w hp.pow) ?_
 rintro e w' ⟨rfl, k, os, rfl⟩
 refine ⟨?_, Lib.below_grow _ w lr k os⟩
 unfold Lib.itoa
 rw [if_neg (by omega)]
 rfl
theorem data_bts (s : Bs) : (bts s).data.toList = s := rfl
def numB (s : Bs) : Option Int := match Lib.parseIntB 64 s with | .ok v => some v | _ => none
def ParseQ (w : World) (s : Bs) (e : Ending) (w' : World) : Prop := Below w.heap.size w w' ∧ match numB s with
 | some v => e = .returned (.tuple #[.int .i64 v, .nilIface])
 | none => ∃ n t p, e = .returned (.tuple #[.int .i64 n, .iface t p])
theorem Parse_any (s : Bs) (w : World) (hs : s.length ≤ 281474976710656) (he : Env w) : Calls Tryz.prog 67 #[.string (bts s), .int .i64 10, .int .i64 64] w (ParseQ w s) := by
 obtain ⟨t1, p1, h1⟩ := he.e1
 obtain ⟨t2, p2, h2⟩ := he.e2
 have hsz : (bts s).size ≤ 281474976710656 := by rw [bts_size]; exact hs
 unfold ParseQ numB
 cases h : Lib.parseIntB 64 s with
 | ok v =>
  refine Calls.mono (Tryz.strconv_ParseInt_10_at64_ok (bts s) (by omega) v h w) ?_
  rintro e w' ⟨rfl, rfl | ⟨t, rfl⟩⟩
  ·exact ⟨Below.refl _ _, rfl⟩
  ·exact ⟨Go.Joins.below_bytesWorld _ w _ t lr, rfl⟩
 | range =>
  refine Calls.mono (Tryz.strconv_ParseInt_10_at64_range (bts s) hsz h _ w h2 (.inr ⟨t2, p2, rfl⟩)) ?_
  rintro e w' ⟨N, rfl, _, _, hb⟩
  exact ⟨hb, _, _, _, rfl⟩
 | _ =>
  refine Calls.mono (Any.strconv_ParseInt_10_at64_syntax Tryz.laysC174 (bts s) hsz h _ w h1 (.inr ⟨t1, p1, rfl⟩)) ?_
  rintro e w' ⟨N, rfl, _, _, hb⟩
  exact ⟨hb, _, _, _, rfl⟩
def SG : ByteArray := ⟨#[63, 61, 62, 33, 40, 41, 38, 124]⟩
theorem SG_all : ∀ b ∈ SG.data.toList, b.toNat < 128 := by decide
theorem SG_low (i : Nat) (h : i < SG.size) : (SG[i]'h).toNat < 128 := SG_all _ (Array.getElem_mem_toList (xs := SG.data) h)
theorem iter_below (w : World) (s : ByteArray) (i : Nat) : Below w.heap.size w (w.iter s i) := (Below.refl _ _).alloc lr _
set_option maxRecDepth 100000 in
theorem IndexRune_err (w : World) : Calls Tryz.prog 122 #[.string SG, .int .i32 65533] w fun e w' => e = .returned (.int .i64 (-1)) ∧ Below w.heap.size w w' := by
 obtain ⟨s, hs⟩ : ∃ s, SG = s := ⟨_, rfl⟩
 have hsz : s.size = 8 := by rw [← hs]; rfl
 have HLO : Hid (∀ i (h : i < s.size), (s[i]'h).toNat < 128) := hid (by rw [← hs]; exact SG_low)
 rw [hs]
 have HSZ := hid hsz
 clear hs hsz
 go_enter Tryz.func122, Tryz.ntmps122
 go_wp2_with fail
 go_loopg [5, 6] 8 (fun g _ _ wx => ∃ i : Nat, i + g = 8 ∧ wx = w.iter s i)
 case atStart => exact ⟨0, by omega, rfl⟩
 case round =>
  obtain ⟨i, hig, rfl⟩ := hrel
  cases gk with
  | zero =>
   have hnx := run_next_end (P := Tryz.prog) w s i (h := by rw [HSZ.out]; omega)
   go_wp2_with fail
   go_ret
   exact ⟨rfl, iter_below w s i⟩
  | succ g =>
   have hi : i < s.size := by rw [HSZ.out]; omega
   obtain ⟨x, hx⟩ : ∃ x : UInt8, s[i]'hi = x := ⟨_, rfl⟩
   have hx1 : x.toNat < 128 := by rw [← hx]; exact HLO.out i hi
   have hnx := fun ty => run_next_ascii (P := Tryz.prog) w s i ty hi (by rw [hx]; exact hx1)
   rw [hx] at hnx
   have hne : ((x.toNat : Int) == 65533) = false := by
    simp only [beq_eq_false_iff_ne]; omega
   clear hx
   go_wp2_with fail
   go_roundg g
   case measure => omega
   case rel => exact ⟨i + 1, by omega, rfl⟩
theorem index_none (c : UInt8) : ∀ (s : List UInt8), (∀ b ∈ s, b.toNat < 128) → 128 ≤ c.toNat → Lib.indexByte s c = -1
 | [], _, _ => rfl
 | b :: s, hs, hc => by
  have h1 := hs b (by simp)
  have h2 : (b == c) = false := by
   simp only [beq_eq_false_iff_ne]
   intro e; subst e; omega
  rw [Lib.indexByte, index_none c s (fun x hx => hs x (by simp [hx])) hc, h2]
  rfl
set_option maxRecDepth 100000 in
theorem IndexRune_hi (r : Int) (h1 : 128 ≤ r) (w : World) : Calls Tryz.prog 122 #[.string SG, .int .i32 r] w fun e w' => e = .returned (.int .i64 (-1)) ∧ Below w.heap.size w w' := by
 by_cases hE : r = 65533
 ·subst hE; exact IndexRune_err w
 have he : (r == 65533) = false := by simpa using hE
 have h0 : (0 : Int) ≤ r := by omega
 have h2 : ¬ r < 128 := by omega
 have HV := hid (fun W => Tryz.utf8_ValidRune r W)
 obtain ⟨vb, hvb⟩ : ∃ b, Lib.validRune r = b := ⟨_, rfl⟩
 have HVB := hid hvb
 rw [hvb] at HV
 clear hE hvb
 cases vb with
 | false =>
  rw [show SG = (⟨#[63, 61, 62, 33, 40, 41, 38, 124]⟩ : ByteArray) from rfl]
  go_enter Tryz.func122, Tryz.ntmps122
  go_wp2_with fail
  refine Calls.mono (HV.out _) ?_
  rintro e w1 ⟨rfl, rfl⟩
  go_wp2_with fail
  go_ret
  exact ⟨rfl, Below.refl _ _⟩
 | true =>
  have hval : Utf8.valid r = true := (validRune_eq r).trans HVB.out
  obtain ⟨z2, z4, hz⟩ := encode_facts r hval h1
  obtain ⟨E, hEE⟩ : ∃ E, Utf8.encode r = E := ⟨_, rfl⟩
  have hcv : ∀ W, (convert 21 9 (.int .i32 r)).run Tryz.prog W = .ok (.string E) W := fun W => (run_convert_int_string W _ _ .i32 r (by rw [Tryz.underlying21]; rfl) Tryz.underlying9).trans (by rw [hEE])
  rw [hEE] at z2 z4 hz
  have key : ∀ (z : Nat) (hzs : E.size = z), 2 ≤ z → z ≤ 4 → Calls Tryz.prog 122 #[.string SG, .int .i32 r] w fun e w' => e = .returned (.int .i64 (-1)) ∧ Below w.heap.size w w' := by
   intro z hzs hz2 hz4
   have hlt : z - 1 < E.size := by omega
   obtain ⟨c, hc⟩ : ∃ c, E[z - 1]'hlt = c := ⟨_, rfl⟩
   have hc1 : 128 ≤ c.toNat := by
    have := hz (by omega)
    rw [← hc]
    simpa [hzs] using this
   have HIX : Hid (∀ a b W, Calls Tryz.prog 130 #[.string (SG.extract a b), .int .u8 (c.toNat : Int)] W fun e w' => e = .returned (.int .i64 (-1)) ∧ W = w') := hid (fun a b W => by
    have h := Tryz.strings_IndexByte (SG.extract a b) (c.toNat : Int) W
    rw [index_none _ _ (fun x hx => SG_all x (mem_extract hx)) (by simpa using hc1)] at h
    exact h.mono fun _ _ ⟨h1, h2⟩ => ⟨h1, h2.symm⟩)
   rcases (by omega : z = 2 ∨ z = 3 ∨ z = 4) with rfl | rfl | rfl
   ·have e1 : E[1]'hlt = c := hc
    have q1 : (⟨#[63, 61, 62, 33, 40, 41, 38, 124]⟩ : ByteArray)[1]'(by decide) = 61 := rfl
    have g : ((61 : Int) == (c.toNat : Int)) = false := by simp only [beq_eq_false_iff_ne]; omega
    have g2 : ((61 : Int) != (c.toNat : Int)) = true := by simp only [bne_iff_ne]; omega
    have HI2 := hid (fun W => HIX.out 2 8 W)
    obtain ⟨SX, hSX⟩ : ∃ X, SG.extract 2 8 = X := ⟨_, rfl⟩
    rw [hSX] at HI2
    have hSX : (⟨#[63, 61, 62, 33, 40, 41, 38, 124]⟩ : ByteArray).extract 2 8 = SX := hSX
    have w1 : IntKind.i64.wrap (1 + 1) = 2 := by decide
    clear hc hz hc1
    rw [show SG = (⟨#[63, 61, 62, 33, 40, 41, 38, 124]⟩ : ByteArray) from rfl]
    go_enter Tryz.func122, Tryz.ntmps122
    go_wp2_with fail
    refine Calls.mono (HV.out _) ?_
    rintro e w1 ⟨rfl, rfl⟩
    go_wp2_with fail
    go_step3
    go_wp2_with fail
    go_rounds 1
    go_step3
    go_wp2_with fail
    go_quiet (fail)
    go_wp2_with fail
    go_quiet ((go_at_call 130; first | exact quiet_left (HI2.out _) | exact quiet_add_left (HI2.out _)))
    go_wp2_with fail
    simp only [Exit.inBlock, Exit.then, Exit.noGoto_ret]
    go_ret
    exact ⟨rfl, below_drewN (Below.refl _ _) _⟩
   ·have e1 : E[2]'hlt = c := hc
    have q1 : (⟨#[63, 61, 62, 33, 40, 41, 38, 124]⟩ : ByteArray)[2]'(by decide) = 62 := rfl
    have g : ((62 : Int) == (c.toNat : Int)) = false := by simp only [beq_eq_false_iff_ne]; omega
    have g2 : ((62 : Int) != (c.toNat : Int)) = true := by simp only [bne_iff_ne]; omega
    have HI2 := hid (fun W => HIX.out 3 8 W)
    obtain ⟨SX, hSX⟩ : ∃ X, SG.extract 3 8 = X := ⟨_, rfl⟩
    rw [hSX] at HI2
    have hSX : (⟨#[63, 61, 62, 33, 40, 41, 38, 124]⟩ : ByteArray).extract 3 8 = SX := hSX
    have w1 : IntKind.i64.wrap (2 + 1) = 3 := by decide
    clear hc hz hc1
    rw [show SG = (⟨#[63, 61, 62, 33, 40, 41, 38, 124]⟩ : ByteArray) from rfl]
    go_enter Tryz.func122, Tryz.ntmps122
    go_wp2_with fail
    refine Calls.mono (HV.out _) ?_
    rintro e w1 ⟨rfl, rfl⟩
    go_wp2_with fail
    go_step3
    go_wp2_with fail
    go_rounds 1
    go_step3
    go_wp2_with fail
    go_quiet (fail)
    go_wp2_with fail
    go_quiet ((go_at_call 130; first | exact quiet_left (HI2.out _) | exact quiet_add_left (HI2.out _)))
    go_wp2_with fail
    simp only [Exit.inBlock, Exit.then, Exit.noGoto_ret]
    go_ret
    exact ⟨rfl, below_drewN (Below.refl _ _) _⟩
   ·have e1 : E[3]'hlt = c := hc
    have q1 : (⟨#[63, 61, 62, 33, 40, 41, 38, 124]⟩ : ByteArray)[3]'(by decide) = 33 := rfl
    have g : ((33 : Int) == (c.toNat : Int)) = false := by simp only [beq_eq_false_iff_ne]; omega
    have g2 : ((33 : Int) != (c.toNat : Int)) = true := by simp only [bne_iff_ne]; omega
    have HI2 := hid (fun W => HIX.out 4 8 W)
    obtain ⟨SX, hSX⟩ : ∃ X, SG.extract 4 8 = X := ⟨_, rfl⟩
    rw [hSX] at HI2
    have hSX : (⟨#[63, 61, 62, 33, 40, 41, 38, 124]⟩ : ByteArray).extract 4 8 = SX := hSX
    have w1 : IntKind.i64.wrap (3 + 1) = 4 := by decide
    clear hc hz hc1
    rw [show SG = (⟨#[63, 61, 62, 33, 40, 41, 38, 124]⟩ : ByteArray) from rfl]
    go_enter Tryz.func122, Tryz.ntmps122
    go_wp2_with fail
    refine Calls.mono (HV.out _) ?_
    rintro e w1 ⟨rfl, rfl⟩
    go_wp2_with fail
    go_step3
    go_wp2_with fail
    go_rounds 1
    go_step3
    go_wp2_with fail
    go_quiet (fail)
    go_wp2_with fail
    go_quiet ((go_at_call 130; first | exact quiet_left (HI2.out _) | exact quiet_add_left (HI2.out _)))
    go_wp2_with fail
    simp only [Exit.inBlock, Exit.then, Exit.noGoto_ret]
    go_ret
    exact ⟨rfl, below_drewN (Below.refl _ _) _⟩
  exact key E.size rfl z2 z4
def NoSg (s : Bs) (i : Nat) : Prop := ∀ (j : Nat) (b : UInt8), j < i → s[j]? = some b → Ar.sgn b = false
theorem idx_none {s : Bs} (h : NoSg s s.length) : Lib.indexAny s Ar.signs = -1 := by
 rw [Ar.index_word]
 have : Ar.rest s = [] := by
  unfold Ar.rest
  have key : ∀ b ∈ s, Ar.sgn b = false := fun b hb => by
   obtain ⟨j, hj, e⟩ := List.mem_iff_getElem.1 hb
   exact h j b hj (by rw [← e]; exact List.getElem?_eq_getElem hj)
  clear h
  induction s with
  | nil => rfl
  | cons x s ih =>
   rw [List.dropWhile_cons_of_pos (by rw [key x (by simp)]; rfl)]
   exact ih (fun b hb => key b (by simp [hb]))
 rw [if_pos this]
theorem idx_at {s : Bs} {i : Nat} {b : UInt8} (h : NoSg s i) (hb : s[i]? = some b) (hs : Ar.sgn b = true) : Lib.indexAny s Ar.signs = (i : Int) := by
 induction s generalizing i with
 | nil => simp at hb
 | cons x s ih =>
  rw [Lib.indexAny, Ar.sgn_signs]
  cases i with
  | zero => simp at hb; subst hb; rw [hs]; rfl
  | succ i =>
   have h0 := h 0 x (by omega) (by simp)
   have h2 := ih (i := i) (fun j b hj hjb => h (j + 1) b (by omega) (by simpa using hjb)) (by simpa using hb)
   rw [h0, h2]
   have : ((i : Int) == -1) = false := by simp only [beq_eq_false_iff_ne]; omega
   simp [this]
theorem NoSg.step {s : Bs} {i j : Nat} (h : NoSg s i) (hj : ∀ (k : Nat) (b : UInt8), i ≤ k → k < j → s[k]? = some b → Ar.sgn b = false) : NoSg s j := fun k b hk hb => by
 rcases Nat.lt_or_ge k i with h1 | h1
 ·exact h k b h1 hb
 ·exact hj k b h1 hk hb
theorem sgn_high {b : UInt8} (h : 128 ≤ b.toNat) : Ar.sgn b = false := by
 unfold Ar.sgn
 simp only [Bool.or_eq_false_iff, beq_eq_false_iff_ne]
 refine ⟨⟨⟨⟨⟨⟨⟨?_, ?_⟩, ?_⟩, ?_⟩, ?_⟩, ?_⟩, ?_⟩, ?_⟩ <;> (intro e; subst e; revert h; decide)
theorem cont_high (s : ByteArray) (k : Nat) (h : (decide (k < s.size) && ((s.get! k).toNat / 64 == 2)) = true) (hk : k < s.size) : 128 ≤ (s[k]'hk).toNat := by
 simp only [Bool.and_eq_true, beq_iff_eq] at h
 have e : s.get! k = s[k]'hk := get_at s k hk
 rw [← e]
 omega
theorem decode_over (s : ByteArray) (pos : Nat) (h : pos < s.size) (ha : 128 ≤ (s[pos]'h).toNat) : ∀ k, pos ≤ k → k < pos + (Utf8.decode s pos).2 → ∀ hk : k < s.size, 128 ≤ (s[k]'hk).toNat := by
 intro k h1 h2 hk
 have hn : ¬ (s[pos]'h).toNat < 128 := by omega
 by_cases hkp : k = pos
 ·subst hkp; exact ha
 simp only [Utf8.decode, get_at s pos h, hn, if_false] at h2
 have key : ∀ j, k = pos + j → (decide (pos + j < s.size) && ((s.get! (pos + j)).toNat / 64 == 2)) = true → 128 ≤ (s[k]'hk).toNat := by
  intro j hj hc
  subst hj
  exact cont_high s _ hc hk
 split at h2
 ·rename_i hc
  simp only [Bool.and_eq_true] at hc
  split at h2
  ·simp only at h2
   exact key 1 (by omega) (by simp only [Bool.and_eq_true]; exact hc.2)
  ·simp only at h2; omega
 ·split at h2
  ·rename_i hc
   simp only [Bool.and_eq_true] at hc
   split at h2
   ·simp only at h2
    rcases (by omega : k = pos + 1 ∨ k = pos + 2) with e | e
    ·exact key 1 e (by simp only [Bool.and_eq_true]; exact hc.1.2)
    ·exact key 2 e (by simp only [Bool.and_eq_true]; exact hc.2)
   ·simp only at h2; omega
  ·split at h2
   ·rename_i hc
    simp only [Bool.and_eq_true] at hc
    split at h2
    ·simp only at h2
     rcases (by omega : k = pos + 1 ∨ k = pos + 2 ∨ k = pos + 3) with e | e | e
     ·exact key 1 e (by simp only [Bool.and_eq_true]; exact hc.1.1.2)
     ·exact key 2 e (by simp only [Bool.and_eq_true]; exact hc.1.2)
     ·exact key 3 e (by simp only [Bool.and_eq_true]; exact hc.2)
    ·simp only at h2; omega
   ·simp only at h2; omega
theorem decode_in (s : ByteArray) (pos : Nat) (h : pos < s.size) : pos + (Utf8.decode s pos).2 ≤ s.size := by
 simp only [Utf8.decode]
 repeat' split
 all_goals simp_all
 all_goals omega
theorem decode_pos (s : ByteArray) (pos : Nat) (h : pos < s.size) : 1 ≤ (Utf8.decode s pos).2 := by
 simp only [Utf8.decode]
 repeat' split
 all_goals simp
structure ItW (k : Nat) (s : ByteArray) (i : Nat) (w wx : World) : Prop where
 it : wx.heap[k]? = some (.stringIter s i)
 below : Below k w wx
set_option maxRecDepth 100000 in
theorem IndexAny_short (s : Bs) (w : World) (h8 : s.length ≤ 8) : Calls Tryz.prog 109 #[.string (bts s), .string SG] w fun e w' => e = .returned (.int .i64 (Lib.indexAny s Ar.signs)) ∧ Below w.heap.size w w' := by
 obtain ⟨S, hS⟩ : ∃ S, bts s = S := ⟨_, rfl⟩
 obtain ⟨n, hn⟩ : ∃ n, S.size = n := ⟨_, rfl⟩
 have hns : s.length = n := by rw [← hn, ← hS, bts_size]
 have hSl : lst S = s := by rw [← hS, lst_bts]
 rw [hS]
 obtain ⟨k, hk⟩ : ∃ k, w.heap.size = k := ⟨_, rfl⟩
 obtain ⟨G, hG⟩ : ∃ G, SG = G := ⟨_, rfl⟩
 have hGs : G.size = 8 := by rw [← hG]; rfl
 have hGl : G.data.toList = Ar.signs := by rw [← hG]; rfl
 have hG1 : ¬ G.toList = [] := by rw [ByteArray.toList_eq, hGl]; simp [Ar.signs]
 have hG2 : G.toList.isEmpty = false := by rw [ByteArray.toList_eq, hGl]; rfl
 have HRA : Hid (∀ (x : UInt8) W, x.toNat < 128 → Calls Tryz.prog 122 #[.string G, .int .i32 (x.toNat : Int)] W fun e w' => e = .returned (.int .i64 (Lib.indexByte Ar.signs x)) ∧ w' = W) := hid (fun x W hx => by
  have h := Tryz.strings_IndexRune_ascii G (x.toNat : Int) W (by omega) (by omega)
  rw [hGl] at h
  simpa using h)
 have HRH : Hid (∀ (r : Int) W, 128 ≤ r → Calls Tryz.prog 122 #[.string G, .int .i32 r] W fun e w' => e = .returned (.int .i64 (-1)) ∧ Below W.heap.size W w') := hid (fun r W hr => by rw [← hG]; exact IndexRune_hi r hr W)
 have HSU : Hid (∀ W, Calls Tryz.prog 123 #[.int .i64 (n : Int)] W fun e w' => e = .returned (.bool false) ∧ w' = W) := hid (fun W => by
  have h := Tryz.strings_shouldUseASCIISet (n : Int) W
  rwa [decide_eq_false (by omega)] at h)
 rw [hG]
 have HSL := hid hSl
 have HNS := hid hns
 have HN := hid hn
 have HK := hid hk
 have HGS := hid hGs
 clear hS hns hSl hG hGl hk
 go_enter Tryz.func109, Tryz.ntmps109
 go_wp2_with fail
 refine Calls.mono (HSU.out _) ?_
 rintro e w1 ⟨rfl, rfl⟩
 go_wp2_with fail
 clear hGs hn
 rw [HK.out]
 go_loopg [9, 10] n (fun g _ _ wx => ∃ i : Nat, i + g = n ∧ Hid (ItW k S i w1 wx) ∧ Hid (NoSg s i))
 case atStart => exact ⟨0, by omega, hid ⟨by rw [← HK.out]; exact World.iter_heap w1 S 0, by rw [← HK.out]; exact iter_below w1 S 0⟩, hid (fun j b hj => absurd hj (by omega))⟩
 case round =>
  obtain ⟨i, hig, HI, HNO⟩ := hrel
  have HIG := hid hig
  clear hig
  by_cases hin : i < n
  ·have hi : i < S.size := by rw [HN.out]; exact hin
   obtain ⟨x, hx⟩ : ∃ x : UInt8, S[i]'hi = x := ⟨_, rfl⟩
   have hxs : s[i]? = some x := by
    rw [← HSL.out]
    unfold lst
    rw [Array.getElem?_toList]
    exact (Array.getElem?_eq_getElem hi).trans (congrArg some hx)
   have HXS := hid hxs
   have HIN := hid hin
   rcases Nat.lt_or_ge x.toNat 128 with h1 | h1
   ·have hnx := fun ty => Lib.run_next_ascii_at (P := Tryz.prog) wr k S i ty HI.out.it hi (by rw [hx]; exact h1)
    rw [hx] at hnx
    have HI2 : Hid (ItW k S (i + 1) w1 (wr.iterAt k S (i + 1))) := hid ⟨Lib.iterAt_heap wr k S i (i + 1) HI.out.it, Lib.below_iterAt HI.out.below lr S (i + 1)⟩
    have HC := hid (fun W => HRA.out x W h1)
    have hcon := Lib.contains_iff_indexByte Ar.signs x
    rw [Ar.sgn_signs] at hcon
    obtain ⟨ib, hib⟩ : ∃ i, Lib.indexByte Ar.signs x = i := ⟨_, rfl⟩
    rw [hib] at HC hcon
    clear hx hxs hib hi h1
    cases hsg : Ar.sgn x with
    | true =>
     rw [hsg] at hcon
     have hge : (0 : Int) ≤ ib := of_decide_eq_true hcon.symm
     have HR := hid (idx_at HNO.out HXS.out hsg)
     clear hcon hsg hin
     go_wp2_with fail
     refine Calls.mono (HC.out _) ?_
     rintro e w2 ⟨rfl, rfl⟩
     go_wp2_with fail
     go_ret
     exact ⟨ret_int HR.out.symm, by rw [HK.out]; exact HI2.out.below⟩
    | false =>
     rw [hsg] at hcon
     have hlt : ¬ (0 : Int) ≤ ib := of_decide_eq_false hcon.symm
     have HN2 : Hid (NoSg s (i + 1)) := hid (HNO.out.step (fun j b h1 h2 hb => by
      obtain rfl : j = i := by omega
      have := HXS.out.symm.trans hb
      cases this; exact hsg))
     clear hcon hsg hin
     go_wp2_with fail
     refine Calls.mono (HC.out _) ?_
     rintro e w2 ⟨rfl, rfl⟩
     go_wp2_with fail
     go_roundg (n - (i + 1))
     case measure => (have := HIG.out; have := HIN.out; omega)
     case rel => exact ⟨i + 1, by have := HIG.out; have := HIN.out; omega, HI2, HN2⟩
   ·obtain ⟨r, hr⟩ : ∃ r, (Utf8.decode S i).1 = r := ⟨_, rfl⟩
    obtain ⟨z, hz⟩ : ∃ z, (Utf8.decode S i).2 = z := ⟨_, rfl⟩
    have hnx := fun ty => Lib.run_next_any_at (P := Tryz.prog) wr k S i ty HI.out.it hi
    have hr1 := (decode_high S i hi (by rw [hx]; exact h1)).1
    have hz1 := decode_pos S i hi
    have hz2 := decode_in S i hi
    have hov := decode_over S i hi (by rw [hx]; exact h1)
    rw [hr, hz] at hnx
    rw [hr] at hr1
    rw [hz] at hz1 hz2 hov
    have HI2 : Hid (ItW k S (i + z) w1 (wr.iterAt k S (i + z))) := hid ⟨Lib.iterAt_heap wr k S i (i + z) HI.out.it, Lib.below_iterAt HI.out.below lr S (i + z)⟩
    have HC := hid (fun W => HRH.out (r : Int) W (by omega))
    have HN2 : Hid (NoSg s (i + z)) := hid (HNO.out.step (fun j b g1 g2 hb => by
     have hj : j < S.size := by
      have := (List.getElem?_eq_some_iff.1 hb).1
      rw [HN.out, ← HNS.out]; exact this
     have h2 := hov j g1 g2 hj
     have e : S[j]'hj = b := by
      rw [← HSL.out] at hb
      exact lst_at hb hj
     rw [e] at h2
     exact sgn_high h2))
    have HZ : Hid (1 ≤ z ∧ i + z ≤ n) := hid ⟨hz1, by rw [← HN.out]; exact hz2⟩
    have hkl : k < (wr.iterAt k S (i + z)).heap.size := (Array.getElem?_eq_some_iff.1 HI2.out.it).1
    clear hx hxs hr hz hr1 hz1 hz2 hov h1 hi hin
    go_wp2_with fail
    refine Calls.mono (HC.out _) ?_
    rintro e w2 ⟨rfl, hb⟩
    have HI3 : Hid (ItW k S (i + z) w1 w2) := hid ⟨(hb.block k hkl).trans HI2.out.it, HI2.out.below.trans (hb.mono (Nat.le_of_lt hkl))⟩
    clear hb hkl
    go_wp2_with fail
    go_roundg (n - (i + z))
    case measure => (have := HIG.out; have := HZ.out; omega)
    case rel => exact ⟨i + z, by have := HIG.out; have := HZ.out; omega, HI3, HN2⟩
  ·obtain rfl : i = n := by have := HIG.out; omega
   have hnx := fun ty => Lib.run_next_end_at (P := Tryz.prog) wr k S i ty HI.out.it (by rw [HN.out]; omega)
   have HR := hid (idx_none (s := s) (by rw [HNS.out]; exact HNO.out))
   clear hin
   go_wp2_with fail
   go_ret
   exact ⟨ret_int HR.out.symm, by rw [HK.out]; exact HI.out.below⟩
theorem IndexAny_any (s : Bs) (w : World) (hl : s.length < 4294967281) : Calls Tryz.prog 109 #[.string (bts s), .string SG] w fun e w' => e = .returned (.int .i64 (Lib.indexAny s Ar.signs)) ∧ Below w.heap.size w w' := by
 rcases Nat.lt_or_ge 8 s.length with h | h
 ·have h116 : (Tryz.prog.info? (Tryz.lays153_ren.t 116)).map (fun i => (i.zero, i.size)) = some (some (.agg (Array.replicate 256 (.bool false))), 256) := by kernel_rfl
  refine Calls.mono (Any.strings_IndexAny_long Tryz.lays153 (zero_of_info h116).1 (zero_of_info h116).2 (bts s) SG w (by decide) (by rw [bts_size]; exact h) (by rw [bts_size]; exact hl) (by decide) (fun j b hb => SG_all b (List.mem_of_getElem? hb))) ?_
  rintro e w' ⟨rfl, rfl⟩
  exact ⟨rfl, ((Below.refl _ _).alloc lr _).alloc (by simp) _⟩
 ·exact IndexAny_short s w h
end Go.Proofs.YtkemlckmfgacdaaGreatDoor
namespace Go.Proofs.YtkemlckmfgacdaaGreatDoor.Nr
set_option maxRecDepth 20000
set_option maxHeartbeats 64000000
open Go.Proofs.YtkemlckmfgacdaaGreatDoor.Tp
theorem ext_take (x : Bs) (n : Nat) : (bts x).extract 0 n = bts (x.take n) := by
 apply ByteArray.ext
 apply Array.toList_inj.1
 show ((bts x).extract 0 n).data.toList = x.take n
 rw [ByteArray.data_extract]
 simp [bts]
theorem ext_drop (x : Bs) (n : Nat) : (bts x).extract n x.length = bts (x.drop n) := by
 apply ByteArray.ext
 apply Array.toList_inj.1
 show ((bts x).extract n x.length).data.toList = x.drop n
 rw [ByteArray.data_extract]
 simp [bts]
 exact List.take_of_length_le (by simp)
end Go.Proofs.YtkemlckmfgacdaaGreatDoor.Nr
