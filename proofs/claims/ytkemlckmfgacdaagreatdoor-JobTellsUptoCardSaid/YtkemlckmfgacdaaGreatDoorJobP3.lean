/- What the library's functions of texts want of a world (MaxLen's cell, the two errors, the table of powers); FormatInt and ParseInt in lists of bytes. -/
import Derived.Test.YtkemlckmfgacdaaGreatDoorJobP0
import Derived.Test.YtkemlckmfgacdaaGreatDoorShelf
import Derived.Lib.LaidTab
import Derived.Lib.SmallJoins
import Derived.Lib.AppendIntMem
import Derived.Test.YtkemlckmfgacdaaGreatDoorJobP1
import Derived.Deep.LoopGhost
import Derived.Deep.CutBlock
import Derived.Lib.ItoaNum
import Derived.Deep.DeepCutAuto
import Derived.RegionTactic
import Derived.Deep.RegionWith
import Derived.Deep.RegionHeld3
import Derived.Deep.AppendLies
import Derived.Lib.SliceRun
namespace Go.Proofs.YtkemlckmfgacdaaGreatDoor
open Go.ChangeShapes Go.WideShapes Go.ChangeAt Go.RowKit
set_option linter.unusedVariables false
open Tp
def PowT (w : World) : Prop := Lib.TabIs Tryz.prog w "internal/strconv.uint64pow10" .u64 Lib.pow10Tab
theorem gPowT : Tryz.prog.globalNamed "internal/strconv.uint64pow10" = some 3 := by kernel_rfl
theorem PowT.below {B : Nat} {w w' : World} (h : PowT w) (hb : Below B w w') (hB : w.heap.size ≤ B) : PowT w' := by
  unfold PowT Lib.TabIs World.var? at h ⊢
  rw [gPowT] at h ⊢
  simp only [Option.bind_some] at h ⊢
  have hlt : 3 < w.heap.size := by
    rcases Nat.lt_or_ge 3 w.heap.size with h' | h'
    · exact h'
    · rw [Array.getElem?_eq_none h'] at h; cases h
  rw [hb.block _ (by omega)]
  exact h
/-- what the library's functions of texts want -/
structure Env (w : World) : Prop where
  most : ∃ m, w.cell? ⟨2, 0, none⟩ = some (.int .i64 m)
  e1 : ∃ t p, w.cell? ⟨0, 0, none⟩ = some (.iface t p)
  e2 : ∃ t p, w.cell? ⟨1, 0, none⟩ = some (.iface t p)
  pow : PowT w
theorem Env.below {B : Nat} {w w' : World} (h : Env w) (hb : Below B w w') (hB : w.heap.size ≤ B) : Env w' := by
  obtain ⟨⟨m, h1⟩, ⟨t1, p1, h2⟩, ⟨t2, p2, h3⟩, h4⟩ := h
  have key : ∀ {a : Addr} {v : Value}, w.cell? a = some v → w'.cell? a = some v := fun {a} {v} h => (hb.cell (by have := World.block_lt_of_cell? w _ h; omega)).trans h
  exact ⟨⟨m, key h1⟩, ⟨t1, p1, key h2⟩, ⟨t2, p2, key h3⟩, h4.below hb hB⟩
theorem FormatIntN_any (u : Nat) (w : World) (hu : u < 9223372036854775808) (hp : Env w) : Calls Tryz.prog 78 #[.int .i64 (u : Int), .int .i64 10] w fun e w' => e = .returned (.string (bts (Nt.dec u))) ∧ Below w.heap.size w w' := by
  refine Calls.mono (Tryz.strconv_FormatInt_10 (u : Int) (by omega) (by omega) w hp.pow) ?_
  rintro e w' ⟨rfl, k, os, rfl⟩
  refine ⟨?_, Lib.below_grow _ w (Nat.le_refl _) k os⟩
  unfold Lib.itoa
  rw [if_neg (by omega)]
  rfl
theorem data_bts (s : Bs) : (bts s).data.toList = s := rfl
/-- a number, or none -/
def numB (s : Bs) : Option Int := match Lib.parseIntB 64 s with | .ok v => some v | _ => none
def ParseQ (w : World) (s : Bs) (e : Ending) (w' : World) : Prop := Below w.heap.size w w' ∧ match numB s with
  | some v => e = .returned (.tuple #[.int .i64 v, .nilIface])
  | none => ∃ n t p, e = .returned (.tuple #[.int .i64 n, .iface t p])
theorem Parse_any (s : Bs) (w : World) (hs : s.length ≤ 281474976710656) (he : Env w) : Calls Tryz.prog 67 #[.string (bts s), .int .i64 10, .int .i64 64] w (ParseQ w s) := by
  obtain ⟨t1, p1, h1⟩ := he.e1
  obtain ⟨t2, p2, h2⟩ := he.e2
  have hsz : (bts s).size ≤ 281474976710656 := by rw [bts_size]; exact hs
  unfold ParseQ numB
  cases h : Lib.parseIntB 64 s with
  | ok v =>
    refine Calls.mono (Tryz.strconv_ParseInt_10_at64_ok (bts s) (by omega) v h w) ?_
    rintro e w' ⟨rfl, rfl | ⟨t, rfl⟩⟩
    · exact ⟨Below.refl _ _, rfl⟩
    · exact ⟨Go.Joins.below_bytesWorld _ w _ t (Nat.le_refl _), rfl⟩
  | range =>
    refine Calls.mono (Tryz.strconv_ParseInt_10_at64_range (bts s) hsz h _ w h2 (.inr ⟨t2, p2, rfl⟩)) ?_
    rintro e w' ⟨N, rfl, _, _, hb⟩
    exact ⟨hb, _, _, _, rfl⟩
  | _ =>
    refine Calls.mono (Any.strconv_ParseInt_10_at64_syntax Tryz.laysC174 (bts s) hsz h _ w h1 (.inr ⟨t1, p1, rfl⟩)) ?_
    rintro e w' ⟨N, rfl, _, _, hb⟩
    exact ⟨hb, _, _, _, rfl⟩
end Go.Proofs.YtkemlckmfgacdaaGreatDoor
/- The library's Split, Cut and Join in lists of bytes. -/
namespace Go.Proofs.YtkemlckmfgacdaaGreatDoor
open Go.ChangeShapes Go.WideShapes Go.ChangeAt Go.RowKit
set_option linter.unusedVariables false
open Tp
theorem splitB_txv (s : Bs) (c : UInt8) : (Lib.splitB (bts [c]) 0 (Lib.countB (bts s) (bts [c])) (bts s)).map Value.string = txv (Nt.pcs c s) := by
  have h := Lib.splitB_data (bts [c]) 0 (Lib.countB (bts s) (bts [c])) (bts s)
  rw [data_bts, data_bts, show Lib.countB (bts s) (bts [c]) = Lib.count s [c] from rfl, Nt.split_pcs c _ s rfl] at h
  rw [show Lib.countB (bts s) (bts [c]) = Lib.count s [c] from rfl, ← h]
  unfold txv
  rw [List.map_map]
  refine List.map_congr_left fun x _ => ?_
  show Value.string x = Value.string (bts (x.data.toList))
  congr 1
theorem Split_any (s : Bs) (c : UInt8) (w : World) (hs : s.length < 4294967281) (he : Env w) : Calls Tryz.prog 31 #[.string (bts s), .string (bts [c])] w fun e w' => e = .returned (.slice (some ⟨w.heap.size, 0, none⟩) (Nt.pcs c s).length (Nt.pcs c s).length) ∧ w' = w.alloc (.cells (txv (Nt.pcs c s)).toArray 9) := by
  obtain ⟨m, hm⟩ := he.most
  refine Calls.mono (Tryz.strings_Split (bts s) (bts [c]) m w (by rw [bts_size]; exact hs) hm (by rw [bts_size]; exact Nat.le_refl _)) ?_
  rintro e w' ⟨rfl, rfl⟩
  have h := splitB_txv s c
  have hl : Lib.countB (bts s) (bts [c]) + 1 = (Nt.pcs c s).length := by
    rw [← Lib.splitB_all (bts [c]) (by rw [bts_size]; exact Nat.le_refl _) 0 _ (bts s) rfl, ← List.length_map (f := Value.string), h, txv_length]
  rw [h, hl]
  exact ⟨rfl, rfl⟩
theorem Cut_any (s : Bs) (c : UInt8) (w : World) (hs : s.length < 4294967281) (he : Env w) : Calls Tryz.prog 66 #[.string (bts s), .string (bts [c])] w fun e w' => e = .returned (.tuple #[.string (bts (cutB c s).1), .string (bts (cutB c s).2.1), .bool (cutB c s).2.2]) ∧ Below w.heap.size w w' := by
  obtain ⟨m, hm⟩ := he.most
  refine Calls.mono (Tryz.strings_Cut (bts s) (bts [c]) m w (by rw [bts_size]; exact hs) hm) ?_
  rintro e w' ⟨rfl, n, rfl⟩
  rw [data_bts, data_bts, cut_one]
  exact ⟨rfl, below_drewN (Below.refl _ _) n⟩
theorem joinC_lib : ∀ l : List Bs, Lib.join l [44] = Nt.joinC l
  | [] => Lib.join_nil _
  | [x] => Lib.join_one _ _
  | x :: y :: l => by
    rw [Lib.join_cons, Nt.joinC, ← joinC_lib (y :: l), Lib.join_cons]
    simp [Lib.joinTail]
theorem Join_any (K : List Bs) (a : Option Addr) (c : Nat) (w : World) (hv : 0 < K.length → ∃ b off, a = some ⟨b, off, none⟩ ∧ b < w.heap.size ∧ ∀ i t, K[i]? = some t → w.cell? ⟨b, off + i, none⟩ = some (.string (bts t))) (hK : K.length ≤ 1099511627776) (hc : K.length ≤ c) (hl : (Nt.joinC K).length ≤ 1099511627776) : Calls Tryz.prog 28 #[.slice a K.length c, .string (bts [44])] w fun e w' => e = .returned (.string (bts (Nt.joinC K))) ∧ Below w.heap.size w w' := by
  have em : (K.map bts).map (·.data.toList) = K := by
    rw [List.map_map]
    refine (List.map_congr_left (g := id) fun x _ => rfl).trans (List.map_id K)
  by_cases h0 : 0 < K.length
  · obtain ⟨b, off, rfl, hb, hcell⟩ := hv h0
    have h := Tryz.strings_Join b off c (K.map bts) (bts [44]) w (fun j x hx => by
      rw [List.getElem?_map] at hx
      cases hk : K[j]? with
      | none => rw [hk] at hx; cases hx
      | some t => rw [hk] at hx; cases hx; exact hcell j t hk) hb (by rw [List.length_map]; omega) (by rw [List.length_map]; exact hc) (by rw [em, data_bts, joinC_lib]; omega)
    rw [List.length_map, em, data_bts, joinC_lib] at h
    exact h
  · have hn : K = [] := List.length_eq_zero_iff.1 (by omega)
    subst hn
    refine Calls.mono (Tryz.strings_Join_none a c (bts [44]) w) ?_
    rintro e w' ⟨rfl, rfl⟩
    exact ⟨rfl, Below.refl _ _⟩
end Go.Proofs.YtkemlckmfgacdaaGreatDoor
/- Contract: job.after: the text of a row of numbers. -/
namespace Go.Proofs.YtkemlckmfgacdaaGreatDoor
open Go.ChangeShapes Go.WideShapes Go.ChangeAt Go.RowKit
set_option linter.unusedVariables false
set_option linter.unusedSimpArgs false
open Tp Jm
theorem Itoa_any (n : Int) (w : World) (h0 : -9223372036854775808 ≤ n) (h1 : n ≤ 9223372036854775807) (he : Env w) : Calls Tryz.prog 29 #[.int .i64 n] w fun e w' => e = .returned (.string (bts (Nt.decI n))) ∧ Below w.heap.size w w' := by
  refine Calls.mono (Tryz.strconv_Itoa n h0 h1 w he.pow) ?_
  rintro e w' ⟨rfl, k, os, rfl⟩
  exact ⟨rfl, Lib.below_grow _ w (Nat.le_refl _) k os⟩
theorem decs_len : ∀ l : List Int, (∀ n, n ∈ l → 1 ≤ n ∧ n ≤ 60) → ∀ t, t ∈ l.map Nt.decI → t.length ≤ 2
  | l, h, t, ht => by
    obtain ⟨n, hn, rfl⟩ := List.mem_map.1 ht
    have := h n hn
    unfold Nt.decI
    rw [if_neg (by omega)]
    exact Nt.dec_len 1 n.toNat (by omega)
theorem joinC_len {m : Nat} : ∀ l : List Bs, (∀ t, t ∈ l → t.length ≤ m) → (Nt.joinC l).length ≤ l.length * (m + 1)
  | [], _ => by simp [Nt.joinC]
  | [x], h => by have := h x (by simp); simp [Nt.joinC]; omega
  | x :: y :: l, h => by
    have h1 := h x (by simp)
    have h2 := joinC_len (m := m) (y :: l) (fun t ht => h t (by simp at ht ⊢; exact .inr ht))
    rw [Nt.joinC, List.length_append, List.length_cons]
    simp only [List.length_cons] at h2 ⊢
    have h3 : (l.length + 1 + 1) * (m + 1) = (l.length + 1) * (m + 1) + (m + 1) := Nat.succ_mul _ _
    omega
set_option maxRecDepth 20000 in
set_option maxHeartbeats 8000000 in
theorem after_any (l : List Int) (aa : Option Addr) (n ac : Nat) (w : World) (hn : l.length = n) (h8 : n ≤ 8) (hb : ∀ m, m ∈ l → 1 ≤ m ∧ m ≤ 60) (he : Env w) (hV : Vals w aa (ints l)) : Calls Tryz.prog 30 #[.slice aa n ac] w fun e w' => e = .returned (.string (bts (aftT l))) ∧ Below w.heap.size w w' := by
  by_cases hl : l = []
  · subst hl
    obtain rfl : n = 0 := hn.symm
    have HT : Hid ((⟨#[45]⟩ : ByteArray) = bts (aftT [])) := Lib.hid rfl
    rw [← HT.out]
    clear hV he hb
    go_enter Tryz.func30, Tryz.ntmps30
    go_wp2_with fail
    go_ret
    exact ⟨rfl, Below.refl _ _⟩
  obtain ⟨B, hB⟩ : ∃ B, w.heap.size = B := ⟨_, rfl⟩
  have HB := Lib.hid hB
  have hn0 : ¬ (n : Int) = 0 := by
    intro h
    exact hl (List.length_eq_zero_iff.1 (by omega))
  have hn1 : ((n : Int) == 0) = false := by simpa using hn0
  have HN := Lib.hid hn
  have HBD := Lib.hid hb
  have HEV : Hid (∀ W, Below B w W → Env W) := Lib.hid (fun W h => he.below h (Nat.le_of_eq hB))
  have HVV : Hid (∀ W, Below B w W → Vals W aa (ints l)) := Lib.hid (fun W h => hV.below h (Nat.le_of_eq hB))
  have HT : Hid (aftT l = Nt.joinC (l.map Nt.decI)) := Lib.hid (by unfold aftT; rw [if_neg hl])
  obtain ⟨T, hT⟩ : ∃ T, bts (aftT l) = T := ⟨_, rfl⟩
  have HTT := Lib.hid hT
  rw [hT, hB]
  have HR0 : Hid (RowS B 9 1 0 (txv ((l.take 0).map Nt.decI)) (.slice none 0 0) w w) := Lib.hid (by
    have := RowS.nil B 9 1 w
    exact this)
  clear hl hn hb he hV hT hB hn0
  go_enter Tryz.func30, Tryz.ntmps30
  go_wp2_with fail
  go_loopg [3, 11] n (fun g x y wr => ∃ (k : Nat), k + g = n ∧ y = .int .i64 (k : Int) ∧ Hid (RowS B 9 1 k (txv ((l.take k).map Nt.decI)) x w wr))
  case atStart => exact ⟨0, by omega, rfl, HR0⟩
  case round =>
    obtain ⟨k, hk, rfl, HW⟩ := hrel
    have HK := Lib.hid hk
    by_cases hkn : k < n
    · obtain ⟨m, hm⟩ : ∃ m, l[k]? = some m := ⟨_, List.getElem?_eq_getElem (by rw [HN.out]; exact hkn)⟩
      obtain ⟨bb, off, rfl, hbl, hcells⟩ := aft_cell (HVV.out wr HW.out.below) hm
      have hcell := hcells k m hm
      have hk1 : (0 : Int) ≤ (k : Int) := by omega
      have hk2 : (k : Int) < (n : Int) := by omega
      have HTK : Hid ((l.take (k + 1)).map Nt.decI = (l.take k).map Nt.decI ++ [Nt.decI m]) := Lib.hid (by rw [take_snoc hm, List.map_append]; rfl)
      have hbm := HBD.out m (List.mem_of_getElem? hm)
      have HIT := Lib.hid (Itoa_any m wr (by omega) (by omega) (HEV.out wr HW.out.below))
      obtain ⟨D, hD⟩ : ∃ D, bts (Nt.decI m) = D := ⟨_, rfl⟩
      have HD := Lib.hid hD
      rw [hD] at HIT
      obtain ⟨K, hK⟩ : ∃ K, (l.take k).map Nt.decI = K := ⟨_, rfl⟩
      rw [hK] at HW HTK
      clear hk hm hcells hD hbm hK
      go_wp2_with fail
      refine Calls.mono HIT.out ?_
      rintro e w1 ⟨rfl, hb1⟩
      have HW1 := Lib.hid (HW.out.step hb1 (by have := HW.out.below.size; have := HB.out; omega))
      clear hb1
      obtain ⟨a4, cp4, hv, hcp, hcp2, hO9⟩ := ownForm HW1.out.own
      subst hv
      have hBw : B ≤ w1.heap.size := by have := HW1.out.below.size; have := HB.out; omega
      go_wp2_with (at_builtin; go_loud (refine wpList_push w1 (by rfl) _ _ 60 (by rfl) B 9 (.string ⟨#[]⟩) 16 Tryz.underlying60 infoStr (by rfl) (.slice a4 k cp4) k (txv K) (.string D) _ rfl (by rfl) HW1.out.own (by rfl) (by rfl) (by unfold maxLen; omega) (by omega) hBw ?_; intro gg cap3 w5 hown5 hgrow hgb hgl; have HW5 : Hid (RowS B 9 1 (k + 1) (txv (K ++ [Nt.decI m])) (.slice (some ⟨gg, 0, none⟩) (k + 1) cap3) w w5) := Lib.hid (by rw [txv_push, HD.out]; exact HW1.out.pushed hBw hown5 hgrow); clear hown5 hgrow hgb hgl))
      go_roundg (n - (k + 1))
      case measure => (have := HK.out; omega)
      case rel => exact ⟨k + 1, by have := HK.out; omega, by simp, by rw [HTK.out]; exact HW5⟩
    · have hkn2 : ¬ (k : Int) < (n : Int) := by omega
      have HKN : Hid (k = n) := Lib.hid (by omega)
      obtain ⟨a4, cp4, hv, hcp, hcp2, hO9⟩ := ownForm HW.out.own
      subst hv
      have HFULL : Hid ((l.take k).map Nt.decI = l.map Nt.decI) := Lib.hid (by rw [List.take_of_length_le (by have := HN.out; have := HKN.out; omega)])
      have HO := Lib.hid hO9
      have HJ : Hid (Calls Tryz.prog 28 #[.slice a4 k cp4, .string ⟨#[44]⟩] wr fun e w' => e = .returned (.string T) ∧ Below wr.heap.size wr w') := Lib.hid (by
        have hlen : (l.map Nt.decI).length = k := by rw [List.length_map, HN.out, HKN.out]
        have h := Join_any (l.map Nt.decI) a4 cp4 wr (fun h0 => by
          rw [hlen] at h0
          obtain ⟨g, rfl⟩ := HO.out h0
          refine ⟨g, 0, rfl, (HW.out.own.lt g rfl).2, fun i t ht => ?_⟩
          have hi : i < k := by have := (List.getElem?_eq_some_iff.1 ht).1; omega
          rw [Nat.zero_add, HW.out.own.cellAt i (by simpa using hi), HFULL.out]
          exact txv_at ht) (by omega) (by omega) (by
            have := joinC_len (m := 2) (l.map Nt.decI) (decs_len l HBD.out)
            omega)
        rw [hlen, ← HT.out, HTT.out] at h
        exact h)
      clear hO9 hk hkn
      go_wp2_with fail
      refine Calls.mono HJ.out ?_
      rintro e w1 ⟨rfl, hb1⟩
      have HB1 := Lib.hid (HW.out.below.trans (hb1.mono (by have := HW.out.below.size; have := HB.out; omega)))
      clear hb1
      go_wp2_with fail
      go_ret
      exact ⟨rfl, HB1.out⟩
end Go.Proofs.YtkemlckmfgacdaaGreatDoor
/- Contract: the document's Decimal, of a number that is not below zero. -/
namespace Go.Proofs.YtkemlckmfgacdaaGreatDoor
open Go.ChangeShapes Go.WideShapes Go.ChangeAt Go.RowKit
set_option linter.unusedVariables false
open Tp
/-- a number's digits -/
def dec (u : Nat) : Bs := Lib.decDigits u
theorem dec_small {u : Nat} (h : u < 10) : dec u = [UInt8.ofNat (48 + u)] := by
  unfold dec
  rw [Lib.decDigits, dif_pos h]
theorem dec_big {u : Nat} (h : ¬ u < 10) : dec u = dec (u / 10) ++ [UInt8.ofNat (48 + u % 10)] := by
  show Lib.decDigits u = _
  rw [Lib.decDigits, dif_neg h]
  rfl
theorem dec_len : ∀ (k u : Nat), u < 10 ^ (k + 1) → (dec u).length ≤ k + 1
  | 0, u, h => by rw [dec_small (by simpa using h)]; simp
  | k + 1, u, h => by
    by_cases h1 : u < 10
    · rw [dec_small h1]; simp
    · rw [dec_big h1, List.length_append]
      have := dec_len k (u / 10) (by rw [Nat.pow_succ] at h; omega)
      simp; omega
/-- a digit, as text -/
def bdg (d : Int) : ByteArray := ⟨#[(48 + d).toNat.toUInt8]⟩
theorem ten_d {d : Int} (h1 : 0 ≤ d) (h2 : d < 10) : d = 0 ∨ d = 1 ∨ d = 2 ∨ d = 3 ∨ d = 4 ∨ d = 5 ∨ d = 6 ∨ d = 7 ∨ d = 8 ∨ d = 9 := by omega
theorem ten_size' : (⟨#[48, 49, 50, 51, 52, 53, 54, 55, 56, 57]⟩ : ByteArray).size = 10 := rfl
theorem cut_dg {d : Int} (h1 : 0 ≤ d) (h2 : d < 10) : (⟨#[48, 49, 50, 51, 52, 53, 54, 55, 56, 57]⟩ : ByteArray).extract d.toNat (d + 1).toNat = bdg d := by
  rcases ten_d h1 h2 with rfl | rfl | rfl | rfl | rfl | rfl | rfl | rfl | rfl | rfl <;> rfl
theorem bdg_bts {u : Nat} : bdg (((u % 10 : Nat) : Int)) = bts [UInt8.ofNat (48 + u % 10)] := by
  unfold bdg bts
  congr 1
set_option maxRecDepth 20000 in
set_option maxHeartbeats 4000000 in
theorem plain_all : ∀ (N u : Nat) (w : World), u < N → u < 10000000000000000000 → Calls Tryz.prog 75 #[.int .u64 (u : Int)] w fun e w' => e = .returned (.string (bts (dec u))) ∧ Below w.heap.size w w' := by
  intro N
  induction N with
  | zero => intro u w h; omega
  | succ N ih =>
    intro u w hN hu
    have HIH := Lib.hid ih
    clear ih
    obtain ⟨d, hd⟩ : ∃ d : Int, d = ((u % 10 : Nat) : Int) := ⟨_, rfl⟩
    have hd0 : 0 ≤ d := by omega
    have hd1 : d < 10 := by omega
    have HBD : Hid (bdg d = bts [UInt8.ofNat (48 + u % 10)]) := Lib.hid (by rw [hd]; exact bdg_bts)
    have hm : (u : Int) % 10 = d := by omega
    have hw1 : IntKind.u64.wrap (d + 1) = d + 1 := IntWalk.u64_in _ (by omega)
    have hc := cut_dg hd0 hd1
    have hz := ten_size'
    obtain ⟨D, hD⟩ : ∃ D, bdg d = D := ⟨_, rfl⟩
    rw [hD] at hc HBD
    have hds : D.size = 1 := by rw [← hD]; rfl
    obtain ⟨V, hV⟩ : ∃ V, bts (dec u) = V := ⟨_, rfl⟩
    have HV := Lib.hid hV
    rw [hV]
    by_cases h9 : u < 10
    · have HR : Hid (D = V) := Lib.hid (by rw [← HV.out, dec_small h9, HBD.out, Nat.mod_eq_of_lt h9])
      have h9' : ¬ ((9 : Int) < (u : Int)) := by omega
      clear hd hD hV h9
      go_enter Tryz.func75, Tryz.ntmps75
      go_wp2_with fail
      go_ret
      exact ⟨by rw [HR.out]; rfl, Below.refl _ _⟩
    · have HC := Lib.hid (HIH.out (u / 10) w (by omega) (by omega))
      have hq : (u : Int) / 10 = ((u / 10 : Nat) : Int) := by omega
      have hw2 : IntKind.u64.wrap ((u / 10 : Nat) : Int) = ((u / 10 : Nat) : Int) := IntWalk.u64_in _ (by omega)
      obtain ⟨q, hqq⟩ : ∃ q, u / 10 = q := ⟨_, rfl⟩
      rw [hqq] at hq HC hw2
      obtain ⟨Q, hQ⟩ : ∃ Q, bts (dec q) = Q := ⟨_, rfl⟩
      have hqs : Q.size ≤ 19 := by rw [← hQ, bts_size]; exact dec_len 18 q (by omega)
      have HR : Hid (Q ++ D = V) := Lib.hid (by rw [← HV.out, dec_big h9, HBD.out, ← hQ, bts_append, hqq])
      have h9' : (9 : Int) < (u : Int) := by omega
      rw [hQ] at HC
      clear hd hD hV h9 hQ hqq
      go_enter Tryz.func75, Tryz.ntmps75
      go_wp2_with fail
      refine Calls.mono HC.out ?_
      rintro e' W ⟨rfl, h1⟩
      go_wp2_with fail
      go_ret
      exact ⟨by rw [HR.out]; rfl, h1⟩
set_option maxRecDepth 20000 in
set_option maxHeartbeats 4000000 in
theorem Decimal_any (u : Nat) (w : World) (hu : u ≤ 1099511627776) : Calls Tryz.prog 41 #[.int .i64 (u : Int)] w fun e w' => e = .returned (.string (bts (dec u))) ∧ Below w.heap.size w w' := by
  have HC := Lib.hid (plain_all (u + 1) u w (by omega) (by omega))
  obtain ⟨V, hV⟩ : ∃ V, bts (dec u) = V := ⟨_, rfl⟩
  rw [hV] at HC ⊢
  have h0 : ¬ ((u : Int) < 0) := by omega
  have hw2 : IntKind.u64.wrap (u : Int) = (u : Int) := IntWalk.u64_in _ (by omega)
  clear hV
  go_enter Tryz.func41, Tryz.ntmps41
  go_wp2_with fail
  refine Calls.mono HC.out ?_
  rintro e' W ⟨rfl, h1⟩
  go_wp2_with fail
  go_ret
  exact ⟨rfl, h1⟩
end Go.Proofs.YtkemlckmfgacdaaGreatDoor
/- Contract: the document's Decimal, of any number. -/
namespace Go.Proofs.YtkemlckmfgacdaaGreatDoor
open Go.ChangeShapes Go.WideShapes Go.ChangeAt Go.RowKit
set_option linter.unusedVariables false
open Tp
theorem nt_dec (u : Nat) : Nt.dec u = dec u := rfl
set_option maxRecDepth 20000 in
set_option maxHeartbeats 4000000 in
theorem DecimalW_any (n : Int) (w : World) (h1 : -9223372036854775808 ≤ n) (h2 : n ≤ 9223372036854775807) : Calls Tryz.prog 41 #[.int .i64 n] w fun e w' => e = .returned (.string (bts (Nt.decI n))) ∧ Below w.heap.size w w' := by
  by_cases hn : n < 0
  · obtain ⟨u, hu⟩ : ∃ u : Nat, n = -((u : Nat) : Int) - 1 := ⟨(-n - 1).toNat, by omega⟩
    have HC := Lib.hid (plain_all (u + 2) (u + 1) w (by omega) (by omega))
    obtain ⟨V, hV⟩ : ∃ V, bts (dec (u + 1)) = V := ⟨_, rfl⟩
    have hVs : V.size ≤ 20 := by rw [← hV, bts_size]; exact Nat.le_trans (dec_len 18 (u + 1) (by omega)) (by decide)
    have HR : Hid ((⟨#[45]⟩ : ByteArray) ++ V = bts (Nt.decI n)) := Lib.hid (by
      unfold Nt.decI
      rw [if_pos hn, show n.natAbs = u + 1 from by omega, nt_dec, ← hV]
      exact bts_append [45] _)
    obtain ⟨R, hR⟩ : ∃ R, bts (Nt.decI n) = R := ⟨_, rfl⟩
    rw [hR] at HR ⊢
    rw [hV] at HC
    have hw1 : IntKind.i64.wrap (n + 1) = n + 1 := IntWalk.i64_in _ (by omega)
    have hneg : -(n + 1) = (u : Int) := by omega
    have hw2 : IntKind.i64.wrap (u : Int) = (u : Int) := IntWalk.i64_in _ (by omega)
    have hw3 : IntKind.u64.wrap (u : Int) = (u : Int) := IntWalk.u64_in _ (by omega)
    have hw4 : IntKind.u64.wrap ((u : Int) + 1) = ((u + 1 : Nat) : Int) := IntWalk.u64_in _ (by omega)
    clear hV hR hu
    go_enter Tryz.func41, Tryz.ntmps41
    go_wp2_with fail
    refine Calls.mono HC.out ?_
    rintro e' W ⟨rfl, hb⟩
    go_wp2_with fail
    go_ret
    exact ⟨by rw [← HR.out]; rfl, hb⟩
  · obtain ⟨u, rfl⟩ : ∃ u : Nat, n = (u : Int) := ⟨n.toNat, by omega⟩
    have HC := Lib.hid (plain_all (u + 1) u w (by omega) (by omega))
    have HV : Hid (Nt.decI (u : Int) = dec u) := Lib.hid (by unfold Nt.decI; rw [if_neg (by omega), Int.toNat_natCast]; rfl)
    rw [HV.out]
    obtain ⟨V, hV⟩ : ∃ V, bts (dec u) = V := ⟨_, rfl⟩
    rw [hV] at HC ⊢
    have h0 : ¬ ((u : Int) < 0) := by omega
    have hw2 : IntKind.u64.wrap (u : Int) = (u : Int) := IntWalk.u64_in _ (by omega)
    clear hV
    go_enter Tryz.func41, Tryz.ntmps41
    go_wp2_with fail
    refine Calls.mono HC.out ?_
    rintro e' W ⟨rfl, h1⟩
    go_wp2_with fail
    go_ret
    exact ⟨rfl, h1⟩
end Go.Proofs.YtkemlckmfgacdaaGreatDoor
/- Contract: the document's text of an amount. -/
namespace Go.Proofs.YtkemlckmfgacdaaGreatDoor
open Go.ChangeShapes Go.WideShapes Go.ChangeAt Go.RowKit
set_option linter.unusedVariables false
open Tp Nt
theorem joinC_snoc (l : List Bs) (x : Bs) : joinC (l ++ [x]) = if l = [] then x else joinC l ++ 44 :: x := by
  induction l with
  | nil => rfl
  | cons a l ih =>
    rw [if_neg (by simp)]
    cases l with
    | nil => rfl
    | cons b l =>
      rw [List.cons_append, List.cons_append, joinC]
      rw [List.cons_append, if_neg (by simp)] at ih
      rw [ih, joinC]
      simp
/-- the entries so far -/
def entsN (v : V3) : Nat → List Bs
  | 0 => []
  | 1 => ent cpu v.1
  | 2 => ent cpu v.1 ++ ent mem v.2.1
  | _ => ents v
def nmN : Nat → Bs
  | 0 => cpu
  | 1 => mem
  | _ => gpu
def nuN (v : V3) : Nat → Nat
  | 0 => v.1
  | 1 => v.2.1
  | _ => v.2.2
theorem entsN_succ (v : V3) {k : Nat} (h : k < 3) : entsN v (k + 1) = entsN v k ++ ent (nmN k) (nuN v k) := by
  rcases (by omega : k = 0 ∨ k = 1 ∨ k = 2) with rfl | rfl | rfl <;> rfl
theorem entsN_zero {v : V3} {k : Nat} (h : k < 3) (h0 : nuN v k = 0) : entsN v (k + 1) = entsN v k := by
  rw [entsN_succ v h, h0]; simp [ent]
/-- the text so far -/
def txtN (v : V3) (k : Nat) : Bs := joinC (entsN v k)
theorem txtN_ne {v : V3} {k : Nat} (h : k < 3) (h0 : nuN v k ≠ 0) : txtN v (k + 1) = if txtN v k = [] then nmN k ++ 61 :: Nt.dec (nuN v k) else txtN v k ++ [44] ++ (nmN k ++ 61 :: Nt.dec (nuN v k)) := by
  have hn : ∀ k, txtN v k = [] ↔ entsN v k = [] := by
    have key : ∀ l : List Bs, (∀ x, x ∈ l → x ≠ []) → (joinC l = [] ↔ l = []) := by
      intro l hl
      cases l with
      | nil => simp [joinC]
      | cons a l =>
        cases l with
        | nil => simp [joinC]; exact hl a (by simp)
        | cons b l => simp [joinC]
    have he : ∀ n u x, x ∈ ent n u → x ≠ [] := by
      intro n u x hx
      unfold ent at hx
      split at hx
      · cases hx
      · simp at hx; subst hx; simp
    intro k
    refine key _ ?_
    intro x hx
    match k with
    | 0 => cases hx
    | 1 => exact he _ _ x hx
    | 2 => rw [entsN, List.mem_append] at hx; rcases hx with hx | hx <;> exact he _ _ x hx
    | k + 3 =>
      have hx : x ∈ ents v := hx
      rw [ents, List.mem_append, List.mem_append] at hx
      rcases hx with (hx | hx) | hx <;> exact he _ _ x hx
  have e : ent (nmN k) (nuN v k) = [nmN k ++ 61 :: Nt.dec (nuN v k)] := by unfold ent; rw [if_neg h0]
  have e2 : txtN v (k + 1) = joinC (entsN v k ++ [nmN k ++ 61 :: Nt.dec (nuN v k)]) := by unfold txtN; rw [entsN_succ v h, e]
  rw [e2, joinC_snoc]
  by_cases h1 : entsN v k = []
  · rw [if_pos h1, if_pos ((hn k).2 h1)]
  · rw [if_neg h1, if_neg (fun x => h1 ((hn k).1 x))]
    show txtN v k ++ _ = _
    simp
theorem nm_len (k : Nat) : (nmN k).length = 3 := by
  match k with
  | 0 => rfl
  | 1 => rfl
  | k + 2 => rfl
theorem nu_can {v : V3} (hv : Nt.Can v) (k : Nat) : nuN v k < 9223372036854775808 := by
  obtain ⟨h1, h2, h3⟩ := hv
  match k with
  | 0 => exact h1
  | 1 => exact h2
  | k + 2 => exact h3
theorem txtN_len {v : V3} (hv : Nt.Can v) : ∀ k, k ≤ 3 → (txtN v k).length ≤ 24 * k
  | 0, _ => by simp [txtN, entsN, joinC]
  | k + 1, h => by
    have ih := txtN_len hv k (by omega)
    by_cases h0 : nuN v k = 0
    · have e : txtN v (k + 1) = txtN v k := by unfold txtN; rw [entsN_zero (by omega) h0]
      rw [e]; omega
    · have hd := Nt.dec_len 18 (nuN v k) (Nat.lt_of_lt_of_le (nu_can hv k) (by decide))
      have hn := nm_len k
      rw [txtN_ne (by omega) h0]
      split <;> simp <;> omega
theorem needText_txt (v : V3) : needText v = if txtN v 3 = [] then [45] else txtN v 3 := by
  unfold needText txtN
  show (if ents v = [] then [45] else joinC (ents v)) = if joinC (ents v) = [] then _ else joinC (ents v)
  by_cases h : ents v = []
  · rw [if_pos h, h]; rfl
  · rw [if_neg h, if_neg]
    intro h2
    have : ∀ x, x ∈ ents v → x ≠ [] := by
      have he : ∀ n u x, x ∈ ent n u → x ≠ [] := by
        intro n u x hx
        unfold ent at hx
        split at hx
        · cases hx
        · simp at hx; subst hx; simp
      intro x hx
      rw [ents, List.mem_append, List.mem_append] at hx
      rcases hx with (hx | hx) | hx <;> exact he _ _ x hx
    cases he : ents v with
    | nil => exact h he
    | cons a l =>
      rw [he] at h2 this
      cases l with
      | nil => exact this a (by simp) h2
      | cons b l => simp [joinC] at h2
/-- a name, as text with its sign -/
def nmB (k : Nat) : ByteArray := bts (nmN k ++ [61])
set_option maxRecDepth 20000 in
set_option maxHeartbeats 4000000 in
theorem NeedText_any (a b c : Nat) (hv : Nt.Can (a, b, c)) (w : World) : Calls Tryz.prog 42 #[.agg #[.int .i64 (a : Int), .int .i64 (b : Int), .int .i64 (c : Int)]] w fun e w' => e = .returned (.string (bts (needText (a, b, c)))) ∧ Below w.heap.size w w' := by
  obtain ⟨i0, i1, i2⟩ := idx3 (a : Int) (b : Int) (c : Int)
  have HA := Lib.hid (fun W => amounts_any (a : Int) (b : Int) (c : Int) W)
  have HN0 : Hid (nuN (a, b, c) 0 = a) := Lib.hid rfl
  have HN1 : Hid (nuN (a, b, c) 1 = b) := Lib.hid rfl
  have HN2 : Hid (nuN (a, b, c) 2 = c) := Lib.hid rfl
  obtain ⟨v, hvv⟩ : ∃ v : V3, (a, b, c) = v := ⟨_, rfl⟩
  rw [hvv] at HN0 HN1 HN2 hv ⊢
  clear hvv
  have HV := Lib.hid hv
  obtain ⟨R, hR⟩ : ∃ R, bts (needText v) = R := ⟨_, rfl⟩
  have HR := Lib.hid hR
  rw [hR]
  clear hR hv
  go_enter Tryz.func42, Tryz.ntmps42
  go_wp2_with fail
  refine Calls.mono (HA.out _) ?_
  rintro e w1 ⟨rfl, hB⟩
  have HB1 : Hid (Below w.heap.size w w1) := Lib.hid ((show Below w.heap.size w (w.alloc _) by go_grown).trans (hB.mono (by simp)))
  clear hB
  go_wp2_with fail
  go_loopg [3, 8] 3 (fun g x y wr => ∃ (i : Int) (k : Nat), (k : Int) = i ∧ k + g = 3 ∧ y = .int .i64 i ∧ x = .string (bts (txtN v k)) ∧ Hid (Below w.heap.size w wr))
  case atStart => exact ⟨0, 0, rfl, rfl, rfl, rfl, HB1⟩
  case round =>
    obtain ⟨i, k, hk, hg, rfl, rfl, HB⟩ := hrel
    obtain ⟨S, hS⟩ : ∃ S, bts (txtN v k) = S := ⟨_, rfl⟩
    have HS := Lib.hid hS
    rw [hS]
    clear hS
    by_cases hk3 : k < 3
    · have hnu := nu_can HV.out k
      have hln := txtN_len HV.out k (by omega)
      have hsS : S.size ≤ 72 := by rw [← HS.out, bts_size]; omega
      by_cases h0 : nuN v k = 0
      · have HX : Hid (txtN v (k + 1) = txtN v k) := Lib.hid (by unfold txtN; rw [entsN_zero hk3 h0])
        have HG : Hid (k + gk = 3) := Lib.hid hg
        clear hln hnu hg hsS
        rcases (by omega : k = 0 ∨ k = 1 ∨ k = 2) with rfl | rfl | rfl
        · have e0 : ((a : Int) == 0) = true := by rw [HN0.out.symm.trans h0]; rfl
          obtain rfl : i = 0 := by omega
          clear h0 hk hk3
          go_wp2_with fail
          go_roundg 2
          case measure => (have := HG.out; omega)
          case rel => exact ⟨1, 1, rfl, rfl, rfl, by rw [← HS.out, ← HX.out], HB⟩
        · have e0 : ((b : Int) == 0) = true := by rw [HN1.out.symm.trans h0]; rfl
          obtain rfl : i = 1 := by omega
          clear h0 hk hk3
          go_wp2_with fail
          go_roundg 1
          case measure => (have := HG.out; omega)
          case rel => exact ⟨2, 2, rfl, rfl, rfl, by rw [← HS.out, ← HX.out], HB⟩
        · have e0 : ((c : Int) == 0) = true := by rw [HN2.out.symm.trans h0]; rfl
          obtain rfl : i = 2 := by omega
          clear h0 hk hk3
          go_wp2_with fail
          go_roundg 0
          case measure => (have := HG.out; omega)
          case rel => exact ⟨3, 3, rfl, rfl, rfl, by rw [← HS.out, ← HX.out], HB⟩
      · have HG : Hid (k + gk = 3) := Lib.hid hg
        obtain ⟨D, hD⟩ : ∃ D, bts (Nt.dec (nuN v k)) = D := ⟨_, rfl⟩
        have hsD : D.size ≤ 19 := by rw [← hD, bts_size]; exact Nt.dec_len 18 _ (Nat.lt_of_lt_of_le hnu (by decide))
        obtain ⟨N, hN⟩ : ∃ N, nmB k = N := ⟨_, rfl⟩
        have hsN : N.size = 4 := by rw [← hN]; unfold nmB; rw [bts_size]; simp [nm_len]
        have HC : Hid (∀ W, Calls Tryz.prog 41 #[.int .i64 (nuN v k : Int)] W fun e w' => e = .returned (.string D) ∧ Below W.heap.size W w') := Lib.hid (fun W => by
          have h := DecimalW_any (nuN v k : Int) W (by omega) (by omega)
          rw [show Nt.decI (nuN v k : Int) = Nt.dec (nuN v k) from by unfold Nt.decI; rw [if_neg (by omega), Int.toNat_natCast], hD] at h
          exact h)
        have hnx := txtN_ne hk3 h0
        by_cases hSe : txtN v k = []
        · have HX : Hid (S ++ (N ++ D) = bts (txtN v (k + 1))) := Lib.hid (by rw [hnx, if_pos hSe, ← HS.out, hSe, ← hN, ← hD]; unfold nmB; rw [bts_append, bts_append]; simp)
          have hSl : S.toList = [] := by rw [← HS.out, bts_toList]; exact hSe
          have hSl2 : S.toList.isEmpty = true := by rw [hSl]; rfl
          have hs1 : N.size + D.size ≤ 9223372036854775807 := by omega
          have hs3 : ¬ 9223372036854775807 < N.size + D.size := by omega
          have hs4 : ¬ 9223372036854775807 < S.size + (N.size + D.size) := by omega
          have hs2 : S.size + (N ++ D).size ≤ 9223372036854775807 := by rw [ByteArray.size_append]; omega
          clear hln hnu hg hsS hsD hsN hD hnx hSe
          rcases (by omega : k = 0 ∨ k = 1 ∨ k = 2) with rfl | rfl | rfl
          · rw [HN0.out] at HC h0
            have e0 : ((a : Int) == 0) = false := by simpa using h0
            obtain rfl : i = 0 := by omega
            have hN' : (⟨#[99, 112, 117, 61]⟩ : ByteArray) = N := hN
            clear h0 hk hk3 hN
            have HN' := Lib.hid hN'
            go_upto_region 8 with fail
            rw [HN'.out]
            clear hN'
            go_region_with ((go_at_call 41; refine Calls.mono (HC.out _) ?_; rintro e' W' ⟨rfl, hb⟩; obtain ⟨hcell, hfrz⟩ := bcell hb; have hb1 : Below wr.heap.size wr W' := (show Below wr.heap.size wr _ from by go_grown).trans (hb.mono (by simp)); have hz1 := hb1.size; clear hb))
            all_goals
              go_wp2_with fail
              go_roundg 2
              case measure => (have := HG.out; omega)
              case rel => exact ⟨1, 1, rfl, rfl, rfl, by rw [← HX.out], Lib.hid (HB.out.trans ((show Below wr.heap.size wr _ from by go_grown).mono HB.out.size))⟩
          · rw [HN1.out] at HC h0
            have e0 : ((b : Int) == 0) = false := by simpa using h0
            obtain rfl : i = 1 := by omega
            have hN' : (⟨#[109, 101, 109, 61]⟩ : ByteArray) = N := hN
            clear h0 hk hk3 hN
            have HN' := Lib.hid hN'
            go_upto_region 8 with fail
            rw [HN'.out]
            clear hN'
            go_region_with ((go_at_call 41; refine Calls.mono (HC.out _) ?_; rintro e' W' ⟨rfl, hb⟩; obtain ⟨hcell, hfrz⟩ := bcell hb; have hb1 : Below wr.heap.size wr W' := (show Below wr.heap.size wr _ from by go_grown).trans (hb.mono (by simp)); have hz1 := hb1.size; clear hb))
            all_goals
              go_wp2_with fail
              go_roundg 1
              case measure => (have := HG.out; omega)
              case rel => exact ⟨2, 2, rfl, rfl, rfl, by rw [← HX.out], Lib.hid (HB.out.trans ((show Below wr.heap.size wr _ from by go_grown).mono HB.out.size))⟩
          · rw [HN2.out] at HC h0
            have e0 : ((c : Int) == 0) = false := by simpa using h0
            obtain rfl : i = 2 := by omega
            have hN' : (⟨#[103, 112, 117, 61]⟩ : ByteArray) = N := hN
            clear h0 hk hk3 hN
            have HN' := Lib.hid hN'
            go_upto_region 8 with fail
            rw [HN'.out]
            clear hN'
            go_region_with ((go_at_call 41; refine Calls.mono (HC.out _) ?_; rintro e' W' ⟨rfl, hb⟩; obtain ⟨hcell, hfrz⟩ := bcell hb; have hb1 : Below wr.heap.size wr W' := (show Below wr.heap.size wr _ from by go_grown).trans (hb.mono (by simp)); have hz1 := hb1.size; clear hb))
            all_goals
              go_wp2_with fail
              go_roundg 0
              case measure => (have := HG.out; omega)
              case rel => exact ⟨3, 3, rfl, rfl, rfl, by rw [← HX.out], Lib.hid (HB.out.trans ((show Below wr.heap.size wr _ from by go_grown).mono HB.out.size))⟩
        · have HX : Hid (S ++ ⟨#[44]⟩ ++ (N ++ D) = bts (txtN v (k + 1))) := Lib.hid (by rw [hnx, if_neg hSe, ← HS.out, ← hN, ← hD]; unfold nmB; rw [show (⟨#[44]⟩ : ByteArray) = bts [44] from rfl, bts_append, bts_append, bts_append]; simp)
          have hSl : ¬ S.toList = [] := by rw [← HS.out, bts_toList]; exact hSe
          have hSl2 : S.toList.isEmpty = false := by rw [← HS.out, bts_toList]; cases h : txtN v k with | nil => exact absurd h hSe | cons => rfl
          have hk0 : k ≠ 0 := fun e => hSe (by rw [e]; rfl)
          have hs1 : N.size + D.size ≤ 9223372036854775807 := by omega
          have hs5 : ¬ 9223372036854775807 < S.size + 1 := by omega
          have hs3 : ¬ 9223372036854775807 < N.size + D.size := by omega
          have hs4 : ¬ 9223372036854775807 < S.size + 1 + (N.size + D.size) := by omega
          have hs2 : (S ++ ⟨#[44]⟩).size + (N ++ D).size ≤ 9223372036854775807 := by have e44 : (⟨#[44]⟩ : ByteArray).size = 1 := rfl; rw [ByteArray.size_append, ByteArray.size_append]; omega
          clear hln hnu hg hsS hsD hsN hD hnx hSe
          rcases (by omega : k = 1 ∨ k = 2) with rfl | rfl
          · rw [HN1.out] at HC h0
            have e0 : ((b : Int) == 0) = false := by simpa using h0
            obtain rfl : i = 1 := by omega
            have hN' : (⟨#[109, 101, 109, 61]⟩ : ByteArray) = N := hN
            clear h0 hk hk3 hN hk0
            have HN' := Lib.hid hN'
            go_upto_region 8 with fail
            rw [HN'.out]
            clear hN'
            go_region_with ((go_at_call 41; refine Calls.mono (HC.out _) ?_; rintro e' W' ⟨rfl, hb⟩; obtain ⟨hcell, hfrz⟩ := bcell hb; have hb1 : Below wr.heap.size wr W' := (show Below wr.heap.size wr _ from by go_grown).trans (hb.mono (by simp)); have hz1 := hb1.size; clear hb))
            all_goals
              go_wp2_with fail
              go_roundg 1
              case measure => (have := HG.out; omega)
              case rel => exact ⟨2, 2, rfl, rfl, rfl, by rw [← HX.out], Lib.hid (HB.out.trans ((show Below wr.heap.size wr _ from by go_grown).mono HB.out.size))⟩
          · rw [HN2.out] at HC h0
            have e0 : ((c : Int) == 0) = false := by simpa using h0
            obtain rfl : i = 2 := by omega
            have hN' : (⟨#[103, 112, 117, 61]⟩ : ByteArray) = N := hN
            clear h0 hk hk3 hN hk0
            have HN' := Lib.hid hN'
            go_upto_region 8 with fail
            rw [HN'.out]
            clear hN'
            go_region_with ((go_at_call 41; refine Calls.mono (HC.out _) ?_; rintro e' W' ⟨rfl, hb⟩; obtain ⟨hcell, hfrz⟩ := bcell hb; have hb1 : Below wr.heap.size wr W' := (show Below wr.heap.size wr _ from by go_grown).trans (hb.mono (by simp)); have hz1 := hb1.size; clear hb))
            all_goals
              go_wp2_with fail
              go_roundg 0
              case measure => (have := HG.out; omega)
              case rel => exact ⟨3, 3, rfl, rfl, rfl, by rw [← HX.out], Lib.hid (HB.out.trans ((show Below wr.heap.size wr _ from by go_grown).mono HB.out.size))⟩
    · have hk3 : k = 3 := by omega
      subst hk3
      obtain rfl : i = 3 := by omega
      clear hk hk3 hg
      have hnt := needText_txt v
      by_cases hSe : txtN v 3 = []
      · have hSl : S.toList = [] := by rw [← HS.out, bts_toList]; exact hSe
        have hSl2 : S.toList.isEmpty = true := by rw [hSl]; rfl
        have HE : Hid ((⟨#[45]⟩ : ByteArray) = R) := Lib.hid (by rw [← HR.out, hnt, if_pos hSe]; rfl)
        clear hnt hSe
        go_wp2_with fail
        go_ret
        exact ⟨by rw [← HE.out]; rfl, HB.out⟩
      · have hSl : ¬ S.toList = [] := by rw [← HS.out, bts_toList]; exact hSe
        have hSl2 : S.toList.isEmpty = false := by rw [← HS.out, bts_toList]; cases h : txtN v 3 with | nil => exact absurd h hSe | cons => rfl
        have HE : Hid (S = R) := Lib.hid (by rw [← HR.out, hnt, if_neg hSe, HS.out])
        clear hnt hSe
        go_wp2_with fail
        go_ret
        exact ⟨by rw [← HE.out]; rfl, HB.out⟩
end Go.Proofs.YtkemlckmfgacdaaGreatDoor
/- Contract: the program's text of an amount. -/
namespace Go.Proofs.YtkemlckmfgacdaaGreatDoor
open Go.ChangeShapes Go.WideShapes Go.ChangeAt Go.RowKit
set_option linter.unusedVariables false
open Tp Nt
theorem heapAtT {w : World} {o : Obj} {H : Nat} (h : w.heap.size = H) : (w.alloc o).heap[H]? = some o := h ▸ heap_alloc_new w o
theorem stepPushT {P : Program} (w : World) {ops : Array Oper} {o : Oper} {a : Act} {K : Act → World → Prop} {Q : Exit → Act → World → Prop} {E : Prop} (hgd : o.guard = none) (s x : Operand) (t : TypeId)
    (ho : o.op = .call { callee := .builtin .append, args := #[s, x], argTypes := #[t, t] })
    (base : Nat) (e : TypeId) (z : Value) (bytes : Nat) (ht : P.underlying t = some (.slice e)) (hinfo : (P.info? e).map (fun i => (i.zero, i.size, i.bytes)) = some (some z, 1, bytes)) (hz1 : z.cells.size = 1)
    (v : Value) (n : Nat) (xs : List Value) (hs : a.eval s = v) (hown : w.ownsRow base e 1 v n xs)
    (H : Nat) (u : Value) (hx : a.eval x = .slice (some ⟨H, 0, none⟩) 1 1) (hH : w.heap[H]? = some (.cells #[u] e (0, 0))) (hu : u.oneCell' = true)
    (h63 : n + 1 ≤ maxLen) (hbytes : (n + 1) * bytes ≤ 140737488355328) (hbase : base ≤ w.heap.size)
    (h : ∀ g cap w', w'.ownsRow base e 1 (.slice (some ⟨g, 0, none⟩) (n + 1) cap) (n + 1) (xs ++ [u]) → w.grownBy w' v.ownBlock → K (a.put o.dst (.slice (some ⟨g, 0, none⟩) (n + 1) cap)) w') :
    if Region.wanted o (yielded ops a.tmps) = true then Oper.wp P o a w K Q else E := by
  obtain ⟨i, hi, hz0, hzs, hzb⟩ := info_parts hinfo
  exact step_append_lies w hgd s x t ho base e i z 1 bytes ht hi hz0 hzs hzb hz1 (by decide) v n xs hs hown ⟨H, 0, none⟩ 1 1 [u] hx rfl (World.news_of_block hH) (by simpa using hu) (by decide) h63 hbytes hbase _ rfl (fun g cap w' h1 h2 _ _ => h g cap w' h1 h2)
theorem entsN_len (v : V3) (k : Nat) : (entsN v k).length ≤ 3 := by
  have he : ∀ n u, (ent n u).length ≤ 1 := by intro n u; unfold ent; split <;> simp
  match k with
  | 0 => simp [entsN]
  | 1 => have := he cpu v.1; simp [entsN]; omega
  | 2 => have := he cpu v.1; have := he mem v.2.1; simp [entsN]; omega
  | k + 3 => have := he cpu v.1; have := he mem v.2.1; have := he gpu v.2.2; show (ents v).length ≤ 3; simp [ents]; omega
theorem entsN_put {v : V3} {k : Nat} (h : k < 3) (h0 : nuN v k ≠ 0) : entsN v (k + 1) = entsN v k ++ [nmN k ++ 61 :: Nt.dec (nuN v k)] := by
  rw [entsN_succ v h]; unfold ent; rw [if_neg h0]
/-- what comes of a world by steps that turn nothing that lay there -/
inductive UpT (w : World) : World → Prop where
  | refl : UpT w w
  | alloc {w' : World} (o : Obj) : UpT w w' → UpT w (w'.alloc o)
  | drew {w' : World} : UpT w w' → UpT w w'.drew
  | call {w' w'' : World} : UpT w w' → Below w'.heap.size w' w'' → UpT w w''
  | base {w' w'' : World} : UpT w w' → Below w.heap.size w' w'' → UpT w w''
theorem UpT.bel {w w' : World} (h : UpT w w') : Below w.heap.size w w' := by
  induction h with
  | refl => exact Below.refl _ _
  | alloc o _ ih => exact ih.alloc ih.size o
  | drew _ ih => exact ih.drew
  | call _ hb ih => exact ih.trans (hb.mono ih.size)
  | base _ hb ih => exact ih.trans hb
theorem cellTop (W : World) (c : Array Value) (T : TypeId) (b i : Nat) (hb : b = W.heap.size) : (W.alloc (.cells c T)).cell? ⟨b, i, none⟩ = c[i]? := by
  subst hb
  simp
/-- the row of texts, the parts and the amounts -/
structure PartsW (v : V3) (B : Nat) (w : World) : Prop where
  nm : ∀ k, k < 3 → w.cell? ⟨B + 1, k * 2, none⟩ = some (.string (bts (nmN k)))
  pt : ∀ k, k < 3 → w.cell? ⟨B + 1, k * 2 + 1, none⟩ = some (.pointer (some ⟨B, k, none⟩))
  nu : ∀ k, k < 3 → w.cell? ⟨B, k, none⟩ = some (.int .i64 (nuN v k : Int))
  sz : B + 2 ≤ w.heap.size
theorem PartsW.below {v : V3} {B : Nat} {w w' : World} (h : PartsW v B w) {C : Nat} (hb : Below C w w') (hC : B + 2 ≤ C) : PartsW v B w' :=
  ⟨fun k hk => (hb.cell (p := ⟨B + 1, k * 2, none⟩) (by show B + 1 < C; omega)).trans (h.nm k hk), fun k hk => (hb.cell (p := ⟨B + 1, k * 2 + 1, none⟩) (by show B + 1 < C; omega)).trans (h.pt k hk), fun k hk => (hb.cell (p := ⟨B, k, none⟩) (by show B < C; omega)).trans (h.nu k hk), Nat.le_trans h.sz hb.size⟩
set_option maxRecDepth 20000 in
set_option maxHeartbeats 8000000 in
theorem text_any (a b c : Nat) (hv : Nt.Can (a, b, c)) (w : World) (he : Env w) : Calls Tryz.prog 57 #[.agg #[.int .i64 (a : Int), .int .i64 (b : Int), .int .i64 (c : Int)]] w fun e w' => e = .returned (.string (bts (needText (a, b, c)))) ∧ Below w.heap.size w w' := by
  have HN0 : Hid (nuN (a, b, c) 0 = a) := Lib.hid rfl
  have HN1 : Hid (nuN (a, b, c) 1 = b) := Lib.hid rfl
  have HN2 : Hid (nuN (a, b, c) 2 = c) := Lib.hid rfl
  obtain ⟨v, hvv⟩ : ∃ v : V3, (a, b, c) = v := ⟨_, rfl⟩
  rw [hvv] at HN0 HN1 HN2 hv ⊢
  clear hvv
  have HV := Lib.hid hv
  have HEV := Lib.hid he
  obtain ⟨R, hR⟩ : ∃ R, bts (needText v) = R := ⟨_, rfl⟩
  have HR := Lib.hid hR
  rw [hR]
  obtain ⟨B, hB⟩ : ∃ B, w.heap.size = B := ⟨_, rfl⟩
  have HB0 := Lib.hid hB
  obtain ⟨W0, hW0⟩ : ∃ W, W = (((w.alloc (.cells #[.int .i64 (a : Int), .int .i64 (b : Int), .int .i64 (c : Int)] 23)).alloc (.cells #[.string ⟨#[99, 112, 117]⟩, .pointer (some ⟨B, 0, none⟩), .string ⟨#[109, 101, 109]⟩, .pointer (some ⟨B, 1, none⟩), .string ⟨#[103, 112, 117]⟩, .pointer (some ⟨B, 2, none⟩)] 107)).drew) := ⟨_, rfl⟩
  clear hR hv he
  go_enter Tryz.func57, Tryz.ntmps57
  go_wp2_with (go_at_call 68; refine (parts_any _ _).mono ?_; rintro e w' ⟨rfl, rfl⟩)
  rw [← hW0]
  have hPW : PartsW v B W0 := by
    have h1 : ∀ i, W0.cell? ⟨B + 1, i, none⟩ = (#[.string ⟨#[99, 112, 117]⟩, .pointer (some ⟨B, 0, none⟩), .string ⟨#[109, 101, 109]⟩, .pointer (some ⟨B, 1, none⟩), .string ⟨#[103, 112, 117]⟩, .pointer (some ⟨B, 2, none⟩)] : Array Value)[i]? := fun i => by
      rw [hW0]
      exact cellTop _ _ _ (B + 1) i (by simp [hB])
    have h2 : ∀ i, W0.cell? ⟨B, i, none⟩ = (#[.int .i64 (a : Int), .int .i64 (b : Int), .int .i64 (c : Int)] : Array Value)[i]? := fun i => by
      rw [hW0]
      exact (((Below.refl (w.alloc (.cells #[.int .i64 (a : Int), .int .i64 (b : Int), .int .i64 (c : Int)] 23)).heap.size _).alloc (Nat.le_refl _) _).cell (p := ⟨B, i, none⟩) (by simp [hB])).trans (cellTop _ _ _ B i hB.symm)
    refine ⟨fun k hk => ?_, fun k hk => ?_, fun k hk => ?_, ?_⟩
    · rw [h1]
      rcases (by omega : k = 0 ∨ k = 1 ∨ k = 2) with rfl | rfl | rfl <;> rfl
    · rw [h1]
      rcases (by omega : k = 0 ∨ k = 1 ∨ k = 2) with rfl | rfl | rfl <;> rfl
    · rw [h2]
      rcases (by omega : k = 0 ∨ k = 1 ∨ k = 2) with rfl | rfl | rfl
      · rw [HN0.out]; rfl
      · rw [HN1.out]; rfl
      · rw [HN2.out]; rfl
    · rw [hW0]; simp [hB]
  have hB0 : Below B w W0 := by rw [hW0, ← hB]; go_grown
  have hsz : W0.heap.size = B + 2 := by rw [hW0]; simp [hB]
  have HPW := Lib.hid hPW
  have HBL := Lib.hid hB0
  have HSZ := Lib.hid hsz
  clear hPW hB0 hW0 hsz hB
  go_loopg [3, 8] 3 (fun g x y wr => ∃ (k : Nat), k + g = 3 ∧ y = .int .i64 (k : Int) ∧ Hid (RowS (B + 2) 9 1 (entsN v k).length (txv (entsN v k)) x W0 wr) ∧ Hid (entsN v k = [] → x = .slice none 0 0))
  case atStart => exact ⟨0, rfl, rfl, Lib.hid (RowS.nil _ _ _ _), Lib.hid (fun _ => rfl)⟩
  case round =>
    obtain ⟨k, hg, rfl, HR0, HNIL⟩ := hrel
    have HG : Hid (k + gk = 3) := Lib.hid hg
    by_cases hk3 : k < 3
    · have hkI : (k : Int) < 3 := by omega
      have hk0 : (0 : Int) ≤ (k : Int) := by omega
      have hPr := HPW.out.below HR0.out.below (by omega)
      have d1 := hPr.nm k hk3
      have d2 := hPr.pt k hk3
      have d3 := hPr.nu k hk3
      have hsz2 := hPr.sz
      have hlt0 : B < wr.heap.size := by omega
      have hlt1 : B + 1 < wr.heap.size := by omega
      obtain ⟨n, hn⟩ : ∃ n, nuN v k = n := ⟨_, rfl⟩
      obtain ⟨N, hN⟩ : ∃ N, bts (nmN k) = N := ⟨_, rfl⟩
      rw [hn] at d3
      rw [hN] at d1
      have HNn := Lib.hid hn
      have HNN := Lib.hid hN
      have HK3 := Lib.hid hk3
      clear hg hPr hn hN
      by_cases h0 : n = 0
      · have e0 : ((n : Int) == 0) = true := by rw [h0]; rfl
        have HX : Hid (entsN v (k + 1) = entsN v k) := Lib.hid (entsN_zero hk3 (HNn.out.trans h0))
        clear h0 hk3
        go_wp2_with fail
        go_roundg (2 - k)
        case measure => (have := HG.out; have := HK3.out; omega)
        case rel => exact ⟨k + 1, by have := HG.out; have := HK3.out; omega, by simp, Lib.hid (by rw [HX.out]; exact HR0.out.step ((Below.refl _ _).alloc (Nat.le_refl _) _) hsz2), Lib.hid (by rw [HX.out]; exact HNIL.out)⟩
      · have e0 : ((n : Int) == 0) = false := by simpa using h0
        obtain ⟨D, hD⟩ : ∃ D, bts (Nt.dec n) = D := ⟨_, rfl⟩
        have hnn : n < 9223372036854775808 := by rw [← HNn.out]; exact nu_can HV.out k
        have hsD : D.size ≤ 19 := by rw [← hD, bts_size]; exact Nt.dec_len 18 _ (Nat.lt_of_lt_of_le hnn (by decide))
        have hsN : N.size ≤ 3 := by rw [← HNN.out, bts_size, nm_len]; exact Nat.le_refl _
        have HPUT : Hid (txv (entsN v k) ++ [.string (N ++ ⟨#[61]⟩ ++ D)] = txv (entsN v (k + 1))) := Lib.hid (by
          rw [entsN_put hk3 (by rw [HNn.out]; exact h0), txv_push, HNn.out, ← HNN.out, ← hD, show (⟨#[61]⟩ : ByteArray) = bts [61] from rfl, bts_append, bts_append]
          simp)
        have HLEN : Hid ((entsN v k).length + 1 = (entsN v (k + 1)).length) := Lib.hid (by rw [entsN_put hk3 (by rw [HNn.out]; exact h0)]; simp)
        have hl3 := entsN_len v k
        obtain ⟨m, hm⟩ : ∃ m, (entsN v k).length = m := ⟨_, rfl⟩
        rw [hm] at hl3 HLEN
        have hown := HR0.out.own
        rw [hm] at hown
        obtain ⟨L, hL⟩ : ∃ L, txv (entsN v k) = L := ⟨_, rfl⟩
        rw [hL] at hown HPUT
        obtain ⟨p1, hp1⟩ : ∃ p, N ++ (⟨#[61]⟩ : ByteArray) = p := ⟨_, rfl⟩
        have hsp : p1.size ≤ 4 := by rw [← hp1, ByteArray.size_append]; have : (⟨#[61]⟩ : ByteArray).size = 1 := rfl; omega
        obtain ⟨q, hq⟩ : ∃ q, wr.heap.size = q := ⟨_, rfl⟩
        obtain ⟨W1, hW1⟩ : ∃ W, W = wr.alloc (.cells #[.string N, .pointer (some ⟨B, k, none⟩)] 107) := ⟨_, rfl⟩
        have m0 : W1.cell? ⟨q, 0, none⟩ = some (.string N) := by rw [hW1]; exact (cellTop _ _ _ _ _ hq.symm).trans rfl
        have m1 : W1.cell? ⟨q, 1, none⟩ = some (.pointer (some ⟨B, k, none⟩)) := by rw [hW1]; exact (cellTop _ _ _ _ _ hq.symm).trans rfl
        have hb1 : Below wr.heap.size wr W1 := by rw [hW1]; exact (Below.refl _ _).alloc (Nat.le_refl _) _
        have m2 : W1.cell? ⟨B, k, none⟩ = some (.int .i64 (n : Int)) := (hb1.cell (p := ⟨B, k, none⟩) hlt0).trans d3
        have hq1 : q < W1.heap.size := by rw [hW1, ← hq]; simp
        have hB1 : B < W1.heap.size := Nat.lt_of_lt_of_le hlt0 hb1.size
        have HDX : Hid (∀ W, UpT W1 W → W.cell? ⟨q, 0, none⟩ = some (.string N) ∧ W.cell? ⟨q, 1, none⟩ = some (.pointer (some ⟨B, k, none⟩)) ∧ W.cell? ⟨B, k, none⟩ = some (.int .i64 (n : Int))) := Lib.hid (fun W h => ⟨(h.bel.cell (p := ⟨q, 0, none⟩) hq1).trans m0, (h.bel.cell (p := ⟨q, 1, none⟩) hq1).trans m1, (h.bel.cell (p := ⟨B, k, none⟩) hB1).trans m2⟩)
        have HOW : Hid (∀ W, UpT W1 W → W.ownsRow (B + 2) 9 1 u3 m L) := Lib.hid (fun W h => ownsRow_below hown (hb1.trans (h.bel.mono hb1.size)))
        have HEW : Hid (∀ W, UpT W1 W → Env W) := Lib.hid (fun W h => HEV.out.below (HBL.out.trans (HR0.out.below.mono (by have := HSZ.out; have := HBL.out.size; have := HB0.out; omega) |>.trans ((hb1.trans (h.bel.mono hb1.size)).mono (by have := HB0.out; omega)))) (by have := HB0.out; omega))
        have HC : Hid (∀ W, UpT W1 W → Calls Tryz.prog 78 #[.int .i64 (n : Int), .int .i64 10] W fun e w' => e = .returned (.string D) ∧ Below W.heap.size W w') := Lib.hid (fun W h => by rw [← hD]; exact FormatIntN_any n W hnn (HEW.out W h))
        have HBX : Hid (∀ W, UpT W1 W → B + 2 ≤ W.heap.size) := Lib.hid (fun W h => by have := h.bel.size; have := hb1.size; omega)
        have HB1 := Lib.hid hb1
        have HBW : Hid (B + 2 ≤ wr.heap.size) := Lib.hid hsz2
        have HNE : Hid (some q ≠ u3.ownBlock ∧ some B ≠ u3.ownBlock) := Lib.hid ⟨fun e => by have := (hown.lt _ e.symm).2; omega, fun e => by have := (hown.lt _ e.symm).1; omega⟩
        have HLT : Hid (∀ W, UpT W1 W → q < W.heap.size ∧ B < W.heap.size) := Lib.hid (fun W h => ⟨Nat.lt_of_lt_of_le hq1 h.bel.size, Nat.lt_of_lt_of_le hB1 h.bel.size⟩)
        have HQ := Lib.hid hq
        have H63 : Hid (m + 1 ≤ maxLen) := Lib.hid (by unfold maxLen; omega)
        have HBY : Hid ((m + 1) * 16 ≤ 140737488355328) := Lib.hid (by omega)
        have hnn1 : ¬ 9223372036854775807 < N.size + 1 := by omega
        have hnn2 : ¬ 9223372036854775807 < p1.size + D.size := by omega
        have HP1 := Lib.hid hp1
        have HM := Lib.hid hm
        have HLL := Lib.hid hL
        clear h0 hk3 hnn hsD hsN hl3 hown hm hL hD hb1 hsp
        clear hq
        go_upto_region 6 with fail
        rw [← hW1, HQ.out]
        clear hW1 d1 d2 d3
        go_region_held3 (fun W => W.cell? ⟨q, 0, none⟩ = some (.string N) ∧ W.cell? ⟨q, 1, none⟩ = some (.pointer (some ⟨B, k, none⟩)) ∧ W.cell? ⟨B, k, none⟩ = some (.int .i64 (n : Int)))
          (first | exact HS3.out | exact HDX.out _ (by repeat (first | exact UpT.refl | exact HU2.out | exact HU3.out | refine UpT.alloc _ ?_ | refine UpT.drew ?_)))
          (first
            | (go_at_call 78; refine Calls.mono (HC.out _ (by repeat (first | exact UpT.refl | exact HU2.out | exact HU3.out | refine UpT.alloc _ ?_ | refine UpT.drew ?_))) ?_; rintro e w2 ⟨rfl, hb2⟩; have HU2 := Lib.hid (UpT.call (w := W1) (by repeat (first | exact UpT.refl | exact HU2.out | exact HU3.out | refine UpT.alloc _ ?_ | refine UpT.drew ?_)) hb2); clear hb2)
            | (refine stepPushT _ (by rfl) (.tmp 17) (.tmp 27) 60 (by rfl) (B + 2) 9 (.string ⟨#[]⟩) 16 Tryz.underlying60 infoStr (by rfl) u3 m L (by rfl) (HOW.out _ (by repeat (first | exact UpT.refl | exact HU2.out | exact HU3.out | refine UpT.alloc _ ?_ | refine UpT.drew ?_))) _ (.string (p1 ++ D)) rfl (by first | exact heapAtT (by simp) | exact heap_alloc_new _ _) (by rfl) H63.out HBY.out (HBX.out _ (by repeat (first | exact UpT.refl | exact HU2.out | exact HU3.out | refine UpT.alloc _ ?_ | refine UpT.drew ?_))) ?_; intro g3 cp3 w3 hown3 hgrow3; have HU3 := Lib.hid (show Below (B + 2) W1 w3 from (((show UpT W1 _ from (by repeat (first | exact UpT.refl | exact HU2.out | exact HU3.out | refine UpT.alloc _ ?_ | refine UpT.drew ?_))).bel.mono (HBX.out _ UpT.refl)).grown hgrow3 (HBX.out _ (by repeat (first | exact UpT.refl | exact HU2.out | exact HU3.out | refine UpT.alloc _ ?_ | refine UpT.drew ?_))) (ownBlock_ge (HOW.out _ (by repeat (first | exact UpT.refl | exact HU2.out | exact HU3.out | refine UpT.alloc _ ?_ | refine UpT.drew ?_))) (Nat.le_refl _)))); have HS3 := Lib.hid (show w3.cell? ⟨q, 0, none⟩ = some (.string N) ∧ w3.cell? ⟨q, 1, none⟩ = some (.pointer (some ⟨B, k, none⟩)) ∧ w3.cell? ⟨B, k, none⟩ = some (.int .i64 (n : Int)) from ⟨(hgrow3.cell_far ⟨q, 0, none⟩ (HLT.out _ (by repeat (first | exact UpT.refl | exact HU2.out | exact HU3.out | refine UpT.alloc _ ?_ | refine UpT.drew ?_))).1 HNE.out.1).trans (HDX.out _ (by repeat (first | exact UpT.refl | exact HU2.out | exact HU3.out | refine UpT.alloc _ ?_ | refine UpT.drew ?_))).1, (hgrow3.cell_far ⟨q, 1, none⟩ (HLT.out _ (by repeat (first | exact UpT.refl | exact HU2.out | exact HU3.out | refine UpT.alloc _ ?_ | refine UpT.drew ?_))).1 HNE.out.1).trans (HDX.out _ (by repeat (first | exact UpT.refl | exact HU2.out | exact HU3.out | refine UpT.alloc _ ?_ | refine UpT.drew ?_))).2.1, (hgrow3.cell_far ⟨B, k, none⟩ (HLT.out _ (by repeat (first | exact UpT.refl | exact HU2.out | exact HU3.out | refine UpT.alloc _ ?_ | refine UpT.drew ?_))).2 HNE.out.2).trans (HDX.out _ (by repeat (first | exact UpT.refl | exact HU2.out | exact HU3.out | refine UpT.alloc _ ?_ | refine UpT.drew ?_))).2.2⟩); have HO3 := Lib.hid hown3; clear hown3 hgrow3))
        all_goals
          go_wp2_with fail
          go_roundg (2 - k)
          case measure => (have := HG.out; have := HK3.out; omega)
          case rel => exact ⟨k + 1, by have := HG.out; have := HK3.out; omega, by simp, Lib.hid ⟨by rw [← HPUT.out, ← HLEN.out, HP1.out]; exact HO3.out, HR0.out.below.trans ((HB1.out.mono (HBW.out)).trans HU3.out)⟩, Lib.hid (fun h => by have := HLEN.out; rw [h] at this; cases this)⟩
    · have hk3 : k = 3 := by omega
      subst hk3
      have hnt := needText_txt v
      by_cases hSe : entsN v 3 = []
      · obtain rfl := HNIL.out hSe
        have HE : Hid ((⟨#[45]⟩ : ByteArray) = R) := Lib.hid (by rw [← HR.out, hnt, if_pos (by unfold txtN; rw [hSe]; rfl)]; rfl)
        have HBE : Hid (Below w.heap.size w wr) := Lib.hid (HBL.out.trans (HR0.out.below.mono (by have := HB0.out; omega)) |>.mono (by have := HB0.out; omega))
        have hE := Lib.run_eql_slice_nil (P := Tryz.prog) wr 60 9 none 0 0 0 0 Tryz.underlying60
        clear hnt hSe hg
        go_wp2_with fail
        go_ret
        exact ⟨by rw [← HE.out]; rfl, HBE.out⟩
      · have hd0 := HR0.out
        obtain ⟨ad, cp, rfl, hnc, hcp, hpos⟩ := ownForm hd0.own
        obtain ⟨g, rfl⟩ := hpos (List.length_pos_iff.2 hSe)
        have hlen := entsN_len v 3
        have htl := txtN_len HV.out 3 (Nat.le_refl _)
        have hwb : B + 2 ≤ wr.heap.size := (HPW.out.below hd0.below (by omega)).sz
        have HBE : Hid (Below w.heap.size w wr) := Lib.hid (HBL.out.trans (hd0.below.mono (by have := HB0.out; omega)) |>.mono (by have := HB0.out; omega))
        have hjo := Join_any (entsN v 3) (some ⟨g, 0, none⟩) cp wr (fun h => ⟨g, 0, rfl, (hd0.own.lt g rfl).2, fun i t hi => by
          rw [Nat.zero_add, hd0.own.cellAt i (by rw [Nat.mul_one]; exact (List.getElem?_eq_some_iff.1 hi).1)]
          exact txv_at hi⟩) (by omega) (by simpa using hnc) (Nat.le_trans htl (by decide))
        have hjR : bts (joinC (entsN v 3)) = R := by
          have hne : ¬ txtN v 3 = [] := by
            intro h
            unfold txtN at h
            cases he : entsN v 3 with
            | nil => exact hSe he
            | cons a l =>
              rw [he] at h
              have hm : a ∈ ents v := by
                have : entsN v 3 = ents v := rfl
                rw [← this, he]; simp
              have hane : a ≠ [] := by
                rw [ents, List.mem_append, List.mem_append] at hm
                have key : ∀ n u, a ∈ ent n u → a ≠ [] := by
                  intro n u hx
                  unfold ent at hx
                  split at hx
                  · cases hx
                  · simp at hx; subst hx; simp
                rcases hm with (hx | hx) | hx <;> exact key _ _ hx
              cases l with
              | nil => exact hane h
              | cons b l => simp [joinC] at h
          rw [← HR.out, hnt, if_neg hne]; rfl
        rw [hjR, show bts [44] = (⟨#[44]⟩ : ByteArray) from rfl] at hjo
        have HJ := Lib.hid hjo
        obtain ⟨m, hm⟩ : ∃ m, (entsN v 3).length = m := ⟨_, rfl⟩
        rw [hm] at HJ ⊢
        have hE := Lib.run_eql_slice_nil (P := Tryz.prog) wr 60 9 (some ⟨g, 0, none⟩) m cp 0 0 Tryz.underlying60
        clear hnt hSe hg hd0 hnc hcp hpos hlen htl hjo hjR hm hwb
        go_wp2_with fail
        refine Calls.mono HJ.out ?_
        rintro e w5 ⟨rfl, hb5⟩
        have HB5 := Lib.hid hb5
        clear hb5
        go_wp2_with fail
        go_ret
        exact ⟨rfl, HBE.out.trans (HB5.out.mono HBE.out.size)⟩
end Go.Proofs.YtkemlckmfgacdaaGreatDoor
/- What a reading of an amount tells; the amounts in memory while it is read. -/
namespace Go.Proofs.YtkemlckmfgacdaaGreatDoor
open Go.ChangeShapes Go.WideShapes Go.ChangeAt Go.RowKit
set_option linter.unusedVariables false
open Tp Nt
/-- what a reading tells -/
def readOf (r : Option V3) : V3 × Int := match r with
  | none => ((0, 0, 0), 3)
  | some v => if needB v.1 v.2.1 v.2.2 then (v, 0) else ((0, 0, 0), 4)
def rdVal (r : Option V3) : Value := .tuple #[.agg #[.int .i64 ((readOf r).1.1 : Int), .int .i64 ((readOf r).1.2.1 : Int), .int .i64 ((readOf r).1.2.2 : Int)], .int .i64 (readOf r).2]
theorem rdVal_none {r : Option V3} (h : r = none) : rdVal r = .tuple #[.agg #[.int .i64 0, .int .i64 0, .int .i64 0], .int .i64 3] := by rw [h]; rfl
theorem rdVal_bad {r : Option V3} {v : V3} (h : r = some v) (hb : needB v.1 v.2.1 v.2.2 = false) : rdVal r = .tuple #[.agg #[.int .i64 0, .int .i64 0, .int .i64 0], .int .i64 4] := by
  rw [h]; unfold rdVal readOf; simp only [hb]; rfl
theorem rdVal_ok {r : Option V3} {v : V3} (h : r = some v) (hb : needB v.1 v.2.1 v.2.2 = true) : rdVal r = .tuple #[.agg #[.int .i64 (v.1 : Int), .int .i64 (v.2.1 : Int), .int .i64 (v.2.2 : Int)], .int .i64 0] := by
  rw [h]; unfold rdVal readOf; simp only [hb]; rfl
theorem topCell (W : World) (c : Array Value) (T : TypeId) (b i : Nat) (hb : b = W.heap.size) : (W.alloc (.cells c T)).cell? ⟨b, i, none⟩ = c[i]? := by
  subst hb
  simp
/-- the result's box, the three numbers -/
structure RdW (B : Nat) (v : V3) (w wr : World) : Prop where
  res : ∀ i, i < 3 → wr.cell? ⟨B, i, none⟩ = some (.int .i64 0)
  nums : ∀ i, i < 3 → wr.cell? ⟨B + 1, i, none⟩ = some (.int .i64 (nuN v i : Int))
  below : Below B w wr
  sz : B + 2 ≤ wr.heap.size
  rf : ∀ i, wr.frozen? ⟨B, i, none⟩ = false
  nf : ∀ i, wr.frozen? ⟨B + 1, i, none⟩ = false
theorem frozenNone {w : World} {b i : Nat} (h : w.heap.size ≤ b) : w.frozen? ⟨b, i, none⟩ = false := by
  unfold World.frozen?
  rw [Array.getElem?_eq_none h]
theorem zero3 {i : Nat} (h : i < 3) : (#[.int .i64 0, .int .i64 0, .int .i64 0] : Array Value)[i]? = some (.int .i64 0) := by
  rcases (by omega : i = 0 ∨ i = 1 ∨ i = 2) with rfl | rfl | rfl <;> rfl
theorem RdW.start {w : World} {B : Nat} {t t' : TypeId} (hB : w.heap.size = B) : RdW B (0, 0, 0) w ((w.alloc (.cells #[.int .i64 0, .int .i64 0, .int .i64 0] t)).alloc (.cells #[.int .i64 0, .int .i64 0, .int .i64 0] t')) := by
  refine ⟨fun i hi => ?_, fun i hi => ?_, ?_, by simp [hB], fun i => by rw [frozen?_alloc_cells, frozen?_alloc_cells]; exact frozenNone (by omega), fun i => by rw [frozen?_alloc_cells, frozen?_alloc_cells]; exact frozenNone (by omega)⟩
  · exact ((((Below.refl (w.alloc (.cells #[.int .i64 0, .int .i64 0, .int .i64 0] t)).heap.size _).alloc (Nat.le_refl _) _).cell (p := ⟨B, i, none⟩) (by simp [hB])).trans (topCell _ _ _ B i hB.symm)).trans (zero3 hi)
  · refine ((topCell _ _ _ (B + 1) i (by simp [hB]))).trans ((zero3 hi).trans ?_)
    rcases (by omega : i = 0 ∨ i = 1 ∨ i = 2) with rfl | rfl | rfl <;> rfl
  · rw [← hB]
    exact (((Below.refl _ _).alloc (Nat.le_refl _) _).alloc (by simp) _)
theorem RdW.step {B C : Nat} {v : V3} {w wr wx : World} (h : RdW B v w wr) (hb : Below C wr wx) (hC : B + 2 ≤ C) : RdW B v w wx :=
  ⟨fun i hi => (hb.cell (p := ⟨B, i, none⟩) (by show B < C; omega)).trans (h.res i hi), fun i hi => (hb.cell (p := ⟨B + 1, i, none⟩) (by show B + 1 < C; omega)).trans (h.nums i hi), h.below.trans (hb.mono (by omega)), Nat.le_trans h.sz hb.size, fun i => (hb.frozen (p := ⟨B, i, none⟩) (by show B < C; omega)).trans (h.rf i), fun i => (hb.frozen (p := ⟨B + 1, i, none⟩) (by show B + 1 < C; omega)).trans (h.nf i)⟩
theorem nuN_set (v : V3) (k n i : Nat) (hk : k < 3) (hi : i < 3) : nuN (setV v (nmN k) n) i = if i = k then n else nuN v i := by
  rcases (by omega : k = 0 ∨ k = 1 ∨ k = 2) with rfl | rfl | rfl <;> rcases (by omega : i = 0 ∨ i = 1 ∨ i = 2) with rfl | rfl | rfl <;> rfl
theorem RdW.put {B k n : Nat} {v : V3} {w wr : World} (h : RdW B v w wr) (hk : k < 3) : RdW B (setV v (nmN k) n) w (wr.setCell ⟨B + 1, k, none⟩ (.int .i64 (n : Int))) := by
  refine ⟨fun i hi => ?_, fun i hi => ?_, h.below.setCell (p := ⟨B + 1, k, none⟩) (by show B ≤ B + 1; omega) _, by simpa using h.sz, fun i => by rw [World.frozen?_setCell]; exact h.rf i, fun i => by rw [World.frozen?_setCell]; exact h.nf i⟩
  · rw [World.cell?_setCell_other _ _ _ _ (by intro e; have := congrArg Addr.block e; simp at this)]
    exact h.res i hi
  · rw [nuN_set v k n i hk hi, cell_set]
    by_cases e : i = k
    · subst e
      rw [if_pos rfl, if_pos rfl, h.nums i hi]; rfl
    · rw [if_neg (by intro h2; have := congrArg Addr.off h2; simp at this; omega), if_neg e]
      exact h.nums i hi
theorem foldO_snoc {f : V3 → Bs → Option V3} : ∀ (l : List Bs) (v : V3) (x : Bs), foldO f v (l ++ [x]) = (match foldO f v l with | none => none | some v' => f v' x)
  | [], v, x => by
    show (match f v x with | none => none | some v' => some v') = f v x
    cases f v x <;> rfl
  | y :: l, v, x => by
    rw [List.cons_append, foldO, foldO]
    cases f v y with
    | none => rfl
    | some v' => exact foldO_snoc l v' x
theorem foldO_next {f : V3 → Bs → Option V3} {P : List Bs} {j : Nat} {v0 v v' : V3} {x : Bs} (h : foldO f v0 (P.take j) = some v) (hx : P[j]? = some x) (hf : f v x = some v') : foldO f v0 (P.take (j + 1)) = some v' := by
  rw [take_snoc hx, foldO_snoc, h]; exact hf
theorem foldO_stop {f : V3 → Bs → Option V3} : ∀ {P : List Bs} {j : Nat} {v0 v : V3} {x : Bs}, foldO f v0 (P.take j) = some v → P[j]? = some x → f v x = none → foldO f v0 P = none
  | [], j, v0, v, x, _, hx, _ => by simp at hx
  | y :: P, 0, v0, v, x, h, hx, hf => by
    simp at hx h; subst hx
    simp [foldO] at h; subst h
    rw [foldO, hf]
  | y :: P, j + 1, v0, v, x, h, hx, hf => by
    rw [List.take_succ_cons, foldO] at h
    rw [foldO]
    cases hy : f v0 y with
    | none => rfl
    | some v1 => rw [hy] at h; exact foldO_stop (P := P) (j := j) h (by simpa using hx) hf
theorem pcs_len (c : UInt8) : ∀ (s : Bs) (t : Bs), t ∈ pcs c s → t.length ≤ s.length
  | [], t, h => by simp [pcs] at h; subst h; exact Nat.le_refl _
  | x :: r, t, h => by
    rw [pcs] at h
    split at h
    · rcases List.mem_cons.1 h with h | h
      · subst h; simp
      · have := pcs_len c r t h; simp; omega
    · have hne := pcs_ne c r
      cases hp : pcs c r with
      | nil => exact absurd hp hne
      | cons y l =>
        rw [hp] at h
        rcases List.mem_cons.1 h with h | h
        · subst h
          have := pcs_len c r y (by rw [hp]; simp)
          simp; omega
        · have := pcs_len c r t (by rw [hp]; simp [h])
          simp; omega
theorem pcs_cnt (c : UInt8) : ∀ s : Bs, (pcs c s).length ≤ s.length + 1
  | [] => by simp [pcs]
  | x :: r => by
    have := pcs_cnt c r
    rw [pcs]
    split
    · simp; omega
    · have hne := pcs_ne c r
      cases hp : pcs c r with
      | nil => exact absurd hp hne
      | cons y l => rw [hp] at this; simp at this ⊢; omega
/-- which of the three? -/
def mi (x : Bs) : Nat := if 4 < x.length then (if x.take 4 = cpu ++ [61] then 0 else if x.take 4 = mem ++ [61] then 1 else if x.take 4 = gpu ++ [61] then 2 else 3) else 3
theorem mi_le (x : Bs) : mi x ≤ 3 := by
  unfold mi
  repeat' split
  all_goals omega
theorem mi_yes {x : Bs} {k : Nat} (hk : k < 3) (h : mi x = k) : 4 < x.length ∧ x.take 4 = nmN k ++ [61] := by
  unfold mi at h
  split at h
  · rename_i hl
    refine ⟨hl, ?_⟩
    split at h
    · subst h; assumption
    · split at h
      · subst h; assumption
      · split at h
        · subst h; assumption
        · omega
  · omega
theorem mi_no {x : Bs} {k : Nat} (hk : k < 3) (h : mi x ≠ k) (hl : 4 < x.length) : x.take 4 ≠ nmN k ++ [61] := by
  intro e
  apply h
  unfold mi
  rw [if_pos hl, e]
  rcases (by omega : k = 0 ∨ k = 1 ∨ k = 2) with rfl | rfl | rfl <;> decide
theorem stepR_none {x : Bs} (v : V3) (h : mi x = 3) : stepR v x = none := by
  unfold stepR
  rw [if_neg]
  rintro ⟨hl, h1⟩
  unfold mi at h
  rw [if_pos hl] at h
  rcases h1 with h1 | h1 | h1
  · rw [if_pos h1] at h; omega
  · rw [h1] at h; revert h; decide
  · rw [h1] at h; revert h; decide
theorem stepR_mi {x : Bs} {k : Nat} (v : V3) (hk : k < 3) (h : mi x = k) : stepR v x = match intOf (x.drop 4) with | some n => if n ≤ 0 then none else some (setV v (nmN k) n.toNat) | none => none := by
  obtain ⟨hl, h4⟩ := mi_yes hk h
  have h3 : x.take 3 = nmN k := by
    have : x.take 3 = (x.take 4).take 3 := by rw [List.take_take]; rfl
    rw [this, h4, List.take_left' (nm_len k)]
  unfold stepR
  rw [if_pos ⟨hl, by rw [h4]; rcases (by omega : k = 0 ∨ k = 1 ∨ k = 2) with rfl | rfl | rfl <;> simp [nmN]⟩, h3]
  rfl
theorem ext_take (x : Bs) (n : Nat) : (bts x).extract 0 n = bts (x.take n) := by
  apply ByteArray.ext
  apply Array.toList_inj.1
  show ((bts x).extract 0 n).data.toList = x.take n
  rw [ByteArray.data_extract]
  simp [bts]
theorem ext_drop (x : Bs) (n : Nat) : (bts x).extract n x.length = bts (x.drop n) := by
  apply ByteArray.ext
  apply Array.toList_inj.1
  show ((bts x).extract n x.length).data.toList = x.drop n
  rw [ByteArray.data_extract]
  simp [bts]
  exact List.take_of_length_le (by simp)
theorem own_none {r : Option V3} {s : Bs} (h : r = none) : own r s = none := by rw [h]; rfl
/-- a row of texts that lies -/
structure RowAt (g : Nat) (P : List Bs) (w : World) : Prop where
  lt : g < w.heap.size
  at' : ∀ i t, P[i]? = some t → w.cell? ⟨g, i, none⟩ = some (.string (bts t))
theorem RowAt.step {g C : Nat} {P : List Bs} {wr wx : World} (h : RowAt g P wr) (hb : Below C wr wx) (hC : g < C) : RowAt g P wx :=
  ⟨Nat.lt_of_lt_of_le h.lt hb.size, fun i t hi => (hb.cell (p := ⟨g, i, none⟩) hC).trans (h.at' i t hi)⟩
theorem RowAt.put {g : Nat} {P : List Bs} {wr : World} {a : Addr} {u : Value} (h : RowAt g P wr) (ha : a.block ≠ g) : RowAt g P (wr.setCell a u) :=
  ⟨by simpa using h.lt, fun i t hi => by rw [World.cell?_setCell_other _ _ _ _ (by intro e; exact ha (congrArg Addr.block e))]; exact h.at' i t hi⟩
theorem RowAt.own {B g cp : Nat} {P : List Bs} {w : World} (h : w.ownsRow B 9 1 (.slice (some ⟨g, 0, none⟩) P.length cp) P.length (txv P)) : RowAt g P w :=
  ⟨(h.lt g rfl).2, fun i t hi => by rw [h.cellAt i (by rw [Nat.mul_one]; exact (List.getElem?_eq_some_iff.1 hi).1)]; exact txv_at hi⟩
/-- the three names -/
def names : List Bs := [cpu ++ [61], mem ++ [61], gpu ++ [61]]
theorem names_at {k : Nat} (h : k < 3) : names[k]? = some (nmN k ++ [61]) := by
  rcases (by omega : k = 0 ∨ k = 1 ∨ k = 2) with rfl | rfl | rfl <;> rfl
theorem RowAt.names {w : World} {t : TypeId} {g : Nat} (hg : w.heap.size = g) : RowAt g names (w.alloc (.cells #[.string ⟨#[99, 112, 117, 61]⟩, .string ⟨#[109, 101, 109, 61]⟩, .string ⟨#[103, 112, 117, 61]⟩] t)) :=
  ⟨by simp [hg], fun i u hi => by
    rw [topCell _ _ _ g i hg.symm]
    have : i < 3 := (List.getElem?_eq_some_iff.1 hi).1
    rcases (by omega : i = 0 ∨ i = 1 ∨ i = 2) with rfl | rfl | rfl <;> (cases hi; rfl)⟩
end Go.Proofs.YtkemlckmfgacdaaGreatDoor
/- Contract: the program's reading of an amount. -/
namespace Go.Proofs.YtkemlckmfgacdaaGreatDoor
open Go.ChangeShapes Go.WideShapes Go.ChangeAt Go.RowKit
set_option linter.unusedVariables false
set_option linter.unusedSimpArgs false
open Tp Nt
theorem stepP_num (v : V3) (x : Bs) : stepP v x = match numB (cutB 61 x).2.1 with | some n => if n ≤ 0 then none else some (setV v (cutB 61 x).1 n.toNat) | none => none := by
  unfold stepP numB
  cases Lib.parseIntB 64 (cutB 61 x).2.1 <;> rfl
/-- the first k of the three are set -/
def setK (v : V3) (n : Bs) (u k : Nat) : V3 := (if 0 < k ∧ n = cpu then u else v.1, if 1 < k ∧ n = mem then u else v.2.1, if 2 < k ∧ n = gpu then u else v.2.2)
theorem setK_zero (v : V3) (n : Bs) (u : Nat) : setK v n u 0 = v := by
  unfold setK
  simp
theorem setK_three (v : V3) (n : Bs) (u : Nat) : setK v n u 3 = setV v n u := by
  unfold setK setV
  simp
theorem setK_no {v : V3} {n : Bs} {u k : Nat} (hk : k < 3) (h : nmN k ≠ n) : setK v n u (k + 1) = setK v n u k := by
  rcases (by omega : k = 0 ∨ k = 1 ∨ k = 2) with rfl | rfl | rfl
  · have : ¬ n = cpu := fun e => h e.symm
    simp [setK, this]
  · have : ¬ n = mem := fun e => h e.symm
    simp [setK, this]
  · have : ¬ n = gpu := fun e => h e.symm
    simp [setK, this]
theorem setK_yes {v : V3} {n : Bs} {u k : Nat} (hk : k < 3) (h : nmN k = n) (i : Nat) (hi : i < 3) : nuN (setK v n u (k + 1)) i = if i = k then u else nuN (setK v n u k) i := by
  have e1 : (mem : Bs) ≠ cpu := by decide
  have e2 : (gpu : Bs) ≠ cpu := by decide
  have e3 : (gpu : Bs) ≠ mem := by decide
  have e4 : (cpu : Bs) ≠ mem := by decide
  have e5 : (cpu : Bs) ≠ gpu := by decide
  have e6 : (mem : Bs) ≠ gpu := by decide
  subst h
  rcases (by omega : k = 0 ∨ k = 1 ∨ k = 2) with rfl | rfl | rfl <;> rcases (by omega : i = 0 ∨ i = 1 ∨ i = 2) with rfl | rfl | rfl <;> simp [setK, nuN, nmN, e1, e2, e3, e4, e5, e6]
theorem RdW.putK {B k u : Nat} {v : V3} {n : Bs} {w wr : World} (h : RdW B (setK v n u k) w wr) (hk : k < 3) (hn : nmN k = n) : RdW B (setK v n u (k + 1)) w (wr.setCell ⟨B + 1, k, none⟩ (.int .i64 (u : Int))) := by
  refine ⟨fun i hi => ?_, fun i hi => ?_, h.below.setCell (p := ⟨B + 1, k, none⟩) (by show B ≤ B + 1; omega) _, by simpa using h.sz, fun i => by rw [World.frozen?_setCell]; exact h.rf i, fun i => by rw [World.frozen?_setCell]; exact h.nf i⟩
  · rw [World.cell?_setCell_other _ _ _ _ (by intro e; have := congrArg Addr.block e; simp at this)]
    exact h.res i hi
  · rw [setK_yes hk hn i hi, cell_set]
    by_cases e : i = k
    · subst e
      rw [if_pos rfl, if_pos rfl, h.nums i hi]; rfl
    · rw [if_neg (by intro h2; have := congrArg Addr.off h2; simp at this; omega), if_neg e]
      exact h.nums i hi
/-- the parts' row, that points into a block -/
structure PtsAt (q b : Nat) (w : World) : Prop where
  lt : q < w.heap.size
  nm : ∀ k, k < 3 → w.cell? ⟨q, k * 2, none⟩ = some (.string (bts (nmN k)))
  pt : ∀ k, k < 3 → w.cell? ⟨q, k * 2 + 1, none⟩ = some (.pointer (some ⟨b, k, none⟩))
theorem PtsAt.step {q b C : Nat} {wr wx : World} (h : PtsAt q b wr) (hb : Below C wr wx) (hC : q < C) : PtsAt q b wx :=
  ⟨Nat.lt_of_lt_of_le h.lt hb.size, fun k hk => (hb.cell (p := ⟨q, k * 2, none⟩) hC).trans (h.nm k hk), fun k hk => (hb.cell (p := ⟨q, k * 2 + 1, none⟩) hC).trans (h.pt k hk)⟩
theorem PtsAt.put {q b : Nat} {wr : World} {a : Addr} {u : Value} (h : PtsAt q b wr) (ha : a.block ≠ q) : PtsAt q b (wr.setCell a u) :=
  ⟨by simpa using h.lt, fun k hk => by rw [World.cell?_setCell_other _ _ _ _ (by intro e; exact ha (congrArg Addr.block e))]; exact h.nm k hk, fun k hk => by rw [World.cell?_setCell_other _ _ _ _ (by intro e; exact ha (congrArg Addr.block e))]; exact h.pt k hk⟩
theorem PtsAt.start {w : World} {q b : Nat} {t : TypeId} (hq : w.heap.size = q) : PtsAt q b (w.alloc (.cells #[.string ⟨#[99, 112, 117]⟩, .pointer (some ⟨b, 0, none⟩), .string ⟨#[109, 101, 109]⟩, .pointer (some ⟨b, 1, none⟩), .string ⟨#[103, 112, 117]⟩, .pointer (some ⟨b, 2, none⟩)] t)).drew := by
  refine ⟨by show q < (w.alloc _).heap.size; simp [hq], fun k hk => ?_, fun k hk => ?_⟩
  · refine (topCell w _ t q (k * 2) hq.symm).trans ?_
    rcases (by omega : k = 0 ∨ k = 1 ∨ k = 2) with rfl | rfl | rfl <;> rfl
  · refine (topCell w _ t q (k * 2 + 1) hq.symm).trans ?_
    rcases (by omega : k = 0 ∨ k = 1 ∨ k = 2) with rfl | rfl | rfl <;> rfl
set_option maxRecDepth 20000 in
set_option maxHeartbeats 16000000 in
theorem Read_any (s : Bs) (w : World) (hs : s.length < 4294967281) (he : Env w) : Calls Tryz.prog 33 #[.string (bts s)] w fun e w' => e = .returned (rdVal (own (readP s) s)) ∧ Below w.heap.size w w' := by
  obtain ⟨S, hS⟩ : ∃ S, bts s = S := ⟨_, rfl⟩
  have HS := Lib.hid hS
  obtain ⟨Z, hZ⟩ : ∃ Z, rdVal (own (readP s) s) = Z := ⟨_, rfl⟩
  have HZ := Lib.hid hZ
  have HSL := Lib.hid hs
  have HP := Lib.hid (fun W => Split_any s 44 W hs)
  obtain ⟨B, hB⟩ : ∃ B, w.heap.size = B := ⟨_, rfl⟩
  have HB := Lib.hid hB
  have HEV : Hid (∀ wr v, RdW B v w wr → Env wr) := Lib.hid (fun wr v h => he.below h.below (Nat.le_of_eq hB))
  rw [hS] at HP ⊢
  rw [hZ]
  rw [show bts [44] = (⟨#[44]⟩ : ByteArray) from rfl] at HP
  obtain ⟨W0, hW0⟩ : ∃ W, W = (w.alloc (.cells #[.int .i64 0, .int .i64 0, .int .i64 0] 23)).alloc (.cells #[.int .i64 0, .int .i64 0, .int .i64 0] 23) := ⟨_, rfl⟩
  have HR0 : Hid (RdW B (0, 0, 0) w W0) := Lib.hid (by rw [hW0]; exact RdW.start hB)
  clear hs hS hZ he
  go_enter Tryz.func33, Tryz.ntmps33
  go_upto_region 2 with fail
  rw [← hW0]
  clear hW0 hB
  obtain ⟨b45, hb45⟩ : ∃ b, (S.toList == [45]) = b := ⟨_, rfl⟩
  have HB45 : Hid (b45 = decide (s = [45])) := Lib.hid (by
    rw [← hb45, ← HS.out, bts_toList]
    by_cases h : s = [45]
    · rw [h]; rfl
    · rw [decide_eq_false h]; simpa using h)
  go_upto_if 16 with fail
  clear hb45
  go_cut [] (fun W => ∃ v, Hid (readP s = some v) ∧ Hid (RdW B v w W))
  case first =>
    by_cases h45 : s = [45]
    · obtain rfl : b45 = true := HB45.out.trans (decide_eq_true h45)
      have HV : Hid (readP s = some (0, 0, 0)) := Lib.hid (by unfold readP; rw [if_pos h45])
      clear h45
      go_wp2_with fail
      go_meet
      exact ⟨_, HV, HR0⟩
    · obtain rfl : b45 = false := HB45.out.trans (decide_eq_false h45)
      have HRD : Hid (readP s = foldO stepP (0, 0, 0) (pcs 44 s)) := Lib.hid (by unfold readP; rw [if_neg h45])
      clear h45
      go_wp2_with fail
      refine Calls.mono (HP.out W0 (HEV.out _ _ HR0.out)) ?_
      rintro e w1 ⟨rfl, hw1⟩
      have hne := pcs_ne 44 s
      have hmI : ((pcs 44 s).length : Int) ≤ 4294967282 := by
        have := pcs_cnt 44 s
        have := HSL.out
        omega
      have hlen : ∀ (i : Nat) (t : Bs), (pcs 44 s)[i]? = some t → t.length < 4294967281 := by
        intro i t ht
        have := pcs_len 44 s t (List.mem_of_getElem? ht)
        have := HSL.out
        omega
      obtain ⟨P, hP⟩ : ∃ P, pcs 44 s = P := ⟨_, rfl⟩
      rw [hP] at HRD hw1 hmI hlen ⊢
      obtain ⟨g, hg⟩ : ∃ g, W0.heap.size = g := ⟨_, rfl⟩
      have hb : Below W0.heap.size W0 w1 := by rw [hw1]; exact (Below.refl _ _).alloc (Nat.le_refl _) _
      have hszr := HR0.out.sz
      have HRW : Hid (RowAt g P w1) := Lib.hid (by
        refine ⟨by rw [hw1, ← hg]; simp, fun i t hi => ?_⟩
        rw [hw1, topCell _ _ _ g i hg.symm]
        have := txv_at hi
        simpa using this)
      have HR1 : Hid (RdW B (0, 0, 0) w w1) := Lib.hid (HR0.out.step hb hszr)
      have HLN := Lib.hid hlen
      obtain ⟨m, hm⟩ : ∃ m, P.length = m := ⟨_, rfl⟩
      have HM := Lib.hid hm
      have HGB : Hid (B + 2 ≤ g) := Lib.hid (by omega)
      rw [hm] at hmI ⊢
      rw [hg]
      clear hP hne hszr hb hm hw1 hlen hg
      go_wp2_with fail
      go_loopg [20] m (fun gh y wr => ∃ (j : Nat) (v : V3), j + gh = m ∧ y = .int .i64 (j : Int) ∧ Hid (foldO stepP (0, 0, 0) (P.take j) = some v) ∧ Hid (RdW B v w wr) ∧ Hid (RowAt g P wr))
      case atStart => exact ⟨0, (0, 0, 0), by omega, rfl, Lib.hid rfl, HR1, HRW⟩
      case round =>
        obtain ⟨j, v, hj, rfl, HF, HRD1, HRW1⟩ := hrel
        have HJ := Lib.hid hj
        by_cases hjm : j < m
        · obtain ⟨x, hx⟩ : ∃ x, P[j]? = some x := ⟨_, List.getElem?_eq_getElem (by rw [HM.out]; exact hjm)⟩
          have HX := Lib.hid hx
          have hxl : x.length < 4294967281 := HLN.out j x hx
          obtain ⟨X, hX⟩ : ∃ X, bts x = X := ⟨_, rfl⟩
          have d1 := HRW1.out.at' j x hx
          rw [hX] at d1
          have hj1 : (0 : Int) ≤ (j : Int) := by omega
          have hj2 : (j : Int) < (m : Int) := by omega
          have HSP := Lib.hid (stepP_num v x)
          obtain ⟨nm, hnm⟩ : ∃ n, (cutB 61 x).1 = n := ⟨_, rfl⟩
          obtain ⟨nt, hnt⟩ : ∃ n, (cutB 61 x).2.1 = n := ⟨_, rfl⟩
          obtain ⟨nb, hnb⟩ : ∃ n, (cutB 61 x).2.2 = n := ⟨_, rfl⟩
          have hntl : nt.length ≤ 281474976710656 := by rw [← hnt]; have := cutB_len 61 x; omega
          have HCU : Hid (∀ W, Env W → Calls Tryz.prog 66 #[.string X, .string ⟨#[61]⟩] W fun e w' => e = .returned (.tuple #[.string (bts nm), .string (bts nt), .bool nb]) ∧ Below W.heap.size W w') := Lib.hid (fun W hW => by
            have := Cut_any x 61 W hxl hW
            rw [hnm, hnt, hnb, hX] at this
            exact this)
          have HPA : Hid (∀ W, Env W → Calls Tryz.prog 67 #[.string (bts nt), .int .i64 10, .int .i64 64] W (ParseQ W nt)) := Lib.hid (fun W hW => Parse_any nt W hntl hW)
          rw [hnm, hnt] at HSP
          obtain ⟨YtkemlckmfgacdaaGreatDoor, hNM⟩ : ∃ N, bts nm = N := ⟨_, rfl⟩
          obtain ⟨NT, hNT⟩ : ∃ N, bts nt = N := ⟨_, rfl⟩
          have HNM := Lib.hid hNM
          rw [hNM, hNT] at HCU
          rw [hNT] at HPA
          clear hx hX hj hjm hxl hnm hnt hnb hntl hNM hNT
          go_wp2_with fail
          refine Calls.mono (HCU.out _ (HEV.out _ _ HRD1.out)) ?_
          rintro e w2 ⟨rfl, hb2⟩
          have HRD2 : Hid (RdW B v w w2) := Lib.hid (HRD1.out.step hb2 HRD1.out.sz)
          have HRW2 : Hid (RowAt g P w2) := Lib.hid (HRW1.out.step hb2 HRW1.out.lt)
          clear hb2 d1
          go_wp2_with fail
          refine Calls.mono (HPA.out _ (HEV.out _ _ HRD2.out)) ?_
          rintro e w3 ⟨hb3, hq3⟩
          have HRD3 : Hid (RdW B v w w3) := Lib.hid (HRD2.out.step hb3 HRD2.out.sz)
          have HRW3 : Hid (RowAt g P w3) := Lib.hid (HRW2.out.step hb3 HRW2.out.lt)
          clear hb3
          cases hN : numB nt with
          | none =>
            rw [hN] at hq3
            obtain ⟨n, te, pe, rfl⟩ := hq3
            have HZN : Hid (Z = .tuple #[.agg #[.int .i64 0, .int .i64 0, .int .i64 0], .int .i64 3]) := Lib.hid (by rw [← HZ.out, rdVal_none (by rw [own_none (HRD.out.trans (foldO_stop HF.out HX.out (by rw [HSP.out, hN])))])])
            clear hN
            have HRES := HRD3.out
            have c0 := HRES.res 0 (by decide)
            have c1 := HRES.res 1 (by decide)
            have c2 := HRES.res 2 (by decide)
            have f0 := HRES.rf 0
            have f1 := HRES.rf 1
            have f2 := HRES.rf 2
            have HBL := Lib.hid HRES.below
            clear HRES
            go_wp2_with fail
            refine bodyPost_ret (v := .tuple #[.agg #[.int .i64 0, .int .i64 0, .int .i64 0], .int .i64 3]) (by simp [results, Tryz.results33, go_sem, cell_set, c0, c1, c2, f0, f1, f2]) rfl ⟨by rw [← HZN.out], (((HBL.out.setCell (p := ⟨B, 0, none⟩) (Nat.le_refl _) _).setCell (p := ⟨B, 1, none⟩) (Nat.le_refl _) _).setCell (p := ⟨B, 2, none⟩) (Nat.le_refl _) _).mono (by have := HB.out; omega)⟩
          | some n =>
            rw [hN] at hq3
            obtain rfl := hq3
            by_cases h0 : n ≤ 0
            · 
              have HZN : Hid (Z = .tuple #[.agg #[.int .i64 0, .int .i64 0, .int .i64 0], .int .i64 3]) := Lib.hid (by rw [← HZ.out, rdVal_none (by rw [own_none (HRD.out.trans (foldO_stop HF.out HX.out (by rw [HSP.out, hN]; exact if_pos h0)))])])
              clear hN
              have HRES := HRD3.out
              have c0 := HRES.res 0 (by decide)
              have c1 := HRES.res 1 (by decide)
              have c2 := HRES.res 2 (by decide)
              have f0 := HRES.rf 0
              have f1 := HRES.rf 1
              have f2 := HRES.rf 2
              have HBL := Lib.hid HRES.below
              clear HRES
              go_wp2_with fail
              refine bodyPost_ret (v := .tuple #[.agg #[.int .i64 0, .int .i64 0, .int .i64 0], .int .i64 3]) (by simp [results, Tryz.results33, go_sem, cell_set, c0, c1, c2, f0, f1, f2]) rfl ⟨by rw [← HZN.out], (((HBL.out.setCell (p := ⟨B, 0, none⟩) (Nat.le_refl _) _).setCell (p := ⟨B, 1, none⟩) (Nat.le_refl _) _).setCell (p := ⟨B, 2, none⟩) (Nat.le_refl _) _).mono (by have := HB.out; omega)⟩
            · obtain ⟨u, rfl⟩ : ∃ u : Nat, n = (u : Int) := ⟨n.toNat, by omega⟩
              have HVV : Hid (stepP v x = some (setV v nm u)) := Lib.hid (by rw [HSP.out, hN]; simp only; rw [if_neg h0, Int.toNat_natCast])
              obtain ⟨q, hq⟩ : ∃ q, w3.heap.size = q := ⟨_, rfl⟩
              obtain ⟨W4, hW4⟩ : ∃ W, W = (w3.alloc (.cells #[.string ⟨#[99, 112, 117]⟩, .pointer (some ⟨B + 1, 0, none⟩), .string ⟨#[109, 101, 109]⟩, .pointer (some ⟨B + 1, 1, none⟩), .string ⟨#[103, 112, 117]⟩, .pointer (some ⟨B + 1, 2, none⟩)] 107)).drew := ⟨_, rfl⟩
              have hb4 : Below w3.heap.size w3 W4 := by rw [hW4]; exact ((Below.refl _ _).alloc (Nat.le_refl _) _).drew
              have HRD4 : Hid (RdW B v w W4) := Lib.hid (HRD3.out.step hb4 HRD3.out.sz)
              have HRW4 : Hid (RowAt g P W4) := Lib.hid (HRW3.out.step hb4 HRW3.out.lt)
              have HPT4 : Hid (PtsAt q (B + 1) W4) := Lib.hid (by rw [hW4]; exact PtsAt.start hq)
              have HQB : Hid (B + 2 ≤ q ∧ g < q) := Lib.hid ⟨by have := HRD3.out.sz; omega, by have := HRW3.out.lt; omega⟩
              have HQ := Lib.hid hq
              clear hN hb4 hq
              go_wp2_with (go_at_call 68; refine (parts_any _ _).mono ?_; rintro e w' ⟨rfl, rfl⟩)
              rw [← hW4, HQ.out]
              clear hW4
              go_loopg [44] 3 (fun gh y wr2 => ∃ k : Nat, k + gh = 3 ∧ y = .int .i64 (k : Int) ∧ Hid (RdW B (setK v nm u k) w wr2) ∧ Hid (RowAt g P wr2) ∧ Hid (PtsAt q (B + 1) wr2))
              case atStart => exact ⟨0, rfl, rfl, Lib.hid (by rw [setK_zero]; exact HRD4.out), HRW4, HPT4⟩
              case round =>
                obtain ⟨k, hk, rfl, HRD5, HRW5, HPT5⟩ := hrel
                have HK := Lib.hid hk
                by_cases hk3 : k < 3
                · have hk1 : (0 : Int) ≤ (k : Int) := by omega
                  have hk2 : (k : Int) < 3 := by omega
                  have HK3 := Lib.hid hk3
                  have d2 := HPT5.out.nm k hk3
                  have d3 := HPT5.out.pt k hk3
                  obtain ⟨NK, hNK⟩ : ∃ N, bts (nmN k) = N := ⟨_, rfl⟩
                  rw [hNK] at d2
                  obtain ⟨cb, hcb⟩ : ∃ b, (NK.toList == YtkemlckmfgacdaaGreatDoor.toList) = b := ⟨_, rfl⟩
                  have HCB : Hid (cb = decide (nmN k = nm)) := Lib.hid (by rw [← hcb, ← hNK, ← HNM.out, bts_eq])
                  obtain ⟨r, hr⟩ : ∃ r, wr.heap.size = r := ⟨_, rfl⟩
                  obtain ⟨W6, hW6⟩ : ∃ W, W = wr.alloc (.cells #[.string NK, .pointer (some ⟨B + 1, k, none⟩)] 107) := ⟨_, rfl⟩
                  have hb6 : Below wr.heap.size wr W6 := by rw [hW6]; exact (Below.refl _ _).alloc (Nat.le_refl _) _
                  have HRD6 : Hid (RdW B (setK v nm u k) w W6) := Lib.hid (HRD5.out.step hb6 HRD5.out.sz)
                  have HRW6 : Hid (RowAt g P W6) := Lib.hid (HRW5.out.step hb6 HRW5.out.lt)
                  have HPT6 : Hid (PtsAt q (B + 1) W6) := Lib.hid (HPT5.out.step hb6 HPT5.out.lt)
                  have m0 : W6.cell? ⟨r, 0, none⟩ = some (.string NK) := by rw [hW6]; exact (topCell _ _ _ r 0 hr.symm).trans rfl
                  have m1 : W6.cell? ⟨r, 1, none⟩ = some (.pointer (some ⟨B + 1, k, none⟩)) := by rw [hW6]; exact (topCell _ _ _ r 1 hr.symm).trans rfl
                  have HR := Lib.hid hr
                  clear hk hk3 hNK hb6 hr
                  go_upto_region 13 with fail
                  rw [← hW6, HR.out]
                  clear hW6 d2 d3
                  cases cb with
                  | true =>
                    have hnm : nmN k = nm := of_decide_eq_true HCB.out.symm
                    have d9 := HRD6.out.nums k HK3.out
                    have f9 := HRD6.out.nf k
                    have HRD7 := Lib.hid (HRD6.out.putK HK3.out hnm)
                    clear hnm
                    go_wp2_with fail
                    go_roundg (2 - k)
                    case measure => (have := HK.out; have := HK3.out; omega)
                    case rel => exact ⟨k + 1, by have := HK.out; have := HK3.out; omega, by simp, HRD7, Lib.hid (HRW6.out.put (by have := HGB.out; show B + 1 ≠ g; omega)), Lib.hid (HPT6.out.put (by have := HQB.out; show B + 1 ≠ q; omega))⟩
                  | false =>
                    have HRD7 : Hid (RdW B (setK v nm u (k + 1)) w W6) := Lib.hid (by rw [setK_no HK3.out (of_decide_eq_false HCB.out.symm)]; exact HRD6.out)
                    go_wp2_with fail
                    go_roundg (2 - k)
                    case measure => (have := HK.out; have := HK3.out; omega)
                    case rel => exact ⟨k + 1, by have := HK.out; have := HK3.out; omega, by simp, HRD7, HRW6, HPT6⟩
                · obtain rfl : k = 3 := by omega
                  have HF2 := Lib.hid (foldO_next HF.out HX.out HVV.out)
                  have HRD8 : Hid (RdW B (setV v nm u) w wr) := Lib.hid (by have := HRD5.out; rwa [setK_three] at this)
                  clear hk hk3
                  go_wp2_with fail
                  go_roundg (m - (j + 1))
                  case measure => (have := HJ.out; omega)
                  case rel => exact ⟨j + 1, setV v nm u, by have := HJ.out; omega, by simp, HF2, HRD8, HRW5⟩
        · obtain rfl : j = m := by omega
          have HV : Hid (readP s = some v) := Lib.hid (by rw [HRD.out]; have := HF.out; rwa [← HM.out, List.take_length] at this)
          clear hj
          go_wp2_with fail
          go_meet
          exact ⟨_, HV, HRD1⟩
  case rest =>
    obtain ⟨v, HV, HRD⟩ := hcut
    obtain ⟨a, b, c⟩ := v
    have HCAN := readP_can HV.out
    have n0 : wc.cell? ⟨B + 1, 0, none⟩ = some (.int .i64 (a : Int)) := HRD.out.nums 0 (by decide)
    have n1 : wc.cell? ⟨B + 1, 1, none⟩ = some (.int .i64 (b : Int)) := HRD.out.nums 1 (by decide)
    have n2 : wc.cell? ⟨B + 1, 2, none⟩ = some (.int .i64 (c : Int)) := HRD.out.nums 2 (by decide)
    obtain ⟨T, hT⟩ : ∃ T, bts (needText (a, b, c)) = T := ⟨_, rfl⟩
    have HTX : Hid (∀ W, Env W → Calls Tryz.prog 57 #[.agg #[.int .i64 (a : Int), .int .i64 (b : Int), .int .i64 (c : Int)]] W fun e w' => e = .returned (.string T) ∧ Below W.heap.size W w') := Lib.hid (fun W hW => by rw [← hT]; exact text_any a b c HCAN W hW)
    obtain ⟨tb, htb⟩ : ∃ b, (T.toList == S.toList) = b := ⟨_, rfl⟩
    have HTB : Hid (tb = decide (needText (a, b, c) = s)) := Lib.hid (by rw [← htb, ← hT, ← HS.out, bts_eq])
    have HFA : Hid (∀ W, Calls Tryz.prog 39 #[.agg #[.int .i64 (a : Int), .int .i64 (b : Int), .int .i64 (c : Int)]] W fun e w' => e = .returned (.int .i64 (needE a b c)) ∧ Below W.heap.size W w') := Lib.hid (fun W => Check_any (a : Int) (b : Int) (c : Int) W)
    clear HCAN hT
    go_wp2_with fail
    refine Calls.mono (HTX.out _ (HEV.out _ _ HRD.out)) ?_
    rintro e w2 ⟨rfl, hb2⟩
    have HRD2 : Hid (RdW B (a, b, c) w w2) := Lib.hid (HRD.out.step hb2 HRD.out.sz)
    clear hb2 n0 n1 n2
    cases tb with
    | false =>
      have hne : ¬ needText (a, b, c) = s := of_decide_eq_false HTB.out.symm
      have HZN : Hid (Z = .tuple #[.agg #[.int .i64 0, .int .i64 0, .int .i64 0], .int .i64 3]) := Lib.hid (by rw [← HZ.out, rdVal_none (by rw [HV.out]; unfold own; exact if_neg hne)])
      have c0 := HRD2.out.res 0 (by decide)
      have c1 := HRD2.out.res 1 (by decide)
      have c2 := HRD2.out.res 2 (by decide)
      have f0 := HRD2.out.rf 0
      have f1 := HRD2.out.rf 1
      have f2 := HRD2.out.rf 2
      have HBL := Lib.hid HRD2.out.below
      have n0 : w2.cell? ⟨B + 1, 0, none⟩ = some (.int .i64 (a : Int)) := HRD2.out.nums 0 (by decide)
      have n1 : w2.cell? ⟨B + 1, 1, none⟩ = some (.int .i64 (b : Int)) := HRD2.out.nums 1 (by decide)
      have n2 : w2.cell? ⟨B + 1, 2, none⟩ = some (.int .i64 (c : Int)) := HRD2.out.nums 2 (by decide)
      clear hne
      go_wp2_with fail
      refine bodyPost_ret (v := .tuple #[.agg #[.int .i64 0, .int .i64 0, .int .i64 0], .int .i64 3]) (by simp [results, Tryz.results33, go_sem, cell_set, c0, c1, c2, f0, f1, f2, n0, n1, n2]) rfl ⟨by rw [← HZN.out], (((HBL.out.setCell (p := ⟨B, 0, none⟩) (Nat.le_refl _) _).setCell (p := ⟨B, 1, none⟩) (Nat.le_refl _) _).setCell (p := ⟨B, 2, none⟩) (Nat.le_refl _) _).mono (by have := HB.out; omega)⟩
    | true =>
      have heq : needText (a, b, c) = s := of_decide_eq_true HTB.out.symm
      have HOW : Hid (own (readP s) s = some (a, b, c)) := Lib.hid (by rw [HV.out]; unfold own; exact if_pos heq)
      clear heq
      have n0 : w2.cell? ⟨B + 1, 0, none⟩ = some (.int .i64 (a : Int)) := HRD2.out.nums 0 (by decide)
      have n1 : w2.cell? ⟨B + 1, 1, none⟩ = some (.int .i64 (b : Int)) := HRD2.out.nums 1 (by decide)
      have n2 : w2.cell? ⟨B + 1, 2, none⟩ = some (.int .i64 (c : Int)) := HRD2.out.nums 2 (by decide)
      go_wp2_with fail
      refine Calls.mono (HFA.out _) ?_
      rintro e w3 ⟨rfl, hb3⟩
      have HRES : Hid (RdW B (a, b, c) w w3) := Lib.hid (HRD2.out.step hb3 HRD2.out.sz)
      clear hb3 n0 n1 n2
      have c0 := HRES.out.res 0 (by decide)
      have c1 := HRES.out.res 1 (by decide)
      have c2 := HRES.out.res 2 (by decide)
      have f0 := HRES.out.rf 0
      have f1 := HRES.out.rf 1
      have f2 := HRES.out.rf 2
      have HBL := Lib.hid HRES.out.below
      have n0 : w3.cell? ⟨B + 1, 0, none⟩ = some (.int .i64 (a : Int)) := HRES.out.nums 0 (by decide)
      have n1 : w3.cell? ⟨B + 1, 1, none⟩ = some (.int .i64 (b : Int)) := HRES.out.nums 1 (by decide)
      have n2 : w3.cell? ⟨B + 1, 2, none⟩ = some (.int .i64 (c : Int)) := HRES.out.nums 2 (by decide)
      cases hnb : needB (a : Int) b c with
      | false =>
        have HZN : Hid (Z = .tuple #[.agg #[.int .i64 0, .int .i64 0, .int .i64 0], .int .i64 4]) := Lib.hid (by rw [← HZ.out, rdVal_bad HOW.out hnb])
        have hE : needE (a : Int) b c = 4 := by unfold needE; rw [hnb]; rfl
        rw [hE]
        clear hnb hE
        go_wp2_with fail
        refine bodyPost_ret (v := .tuple #[.agg #[.int .i64 0, .int .i64 0, .int .i64 0], .int .i64 4]) (by simp [results, Tryz.results33, go_sem, cell_set, c0, c1, c2, f0, f1, f2, n0, n1, n2]) rfl ⟨by rw [← HZN.out], (((HBL.out.setCell (p := ⟨B, 0, none⟩) (Nat.le_refl _) _).setCell (p := ⟨B, 1, none⟩) (Nat.le_refl _) _).setCell (p := ⟨B, 2, none⟩) (Nat.le_refl _) _).mono (by have := HB.out; omega)⟩
      | true =>
        have HZN : Hid (Z = .tuple #[.agg #[.int .i64 (a : Int), .int .i64 (b : Int), .int .i64 (c : Int)], .int .i64 0]) := Lib.hid (by rw [← HZ.out, rdVal_ok HOW.out hnb])
        have hE : needE (a : Int) b c = 0 := by unfold needE; rw [hnb]; rfl
        rw [hE]
        clear hnb hE
        go_wp2_with fail
        refine bodyPost_ret (v := .tuple #[.agg #[.int .i64 (a : Int), .int .i64 (b : Int), .int .i64 (c : Int)], .int .i64 0]) (by simp [results, Tryz.results33, go_sem, cell_set, c0, c1, c2, f0, f1, f2, n0, n1, n2]) rfl ⟨by rw [← HZN.out], (((HBL.out.setCell (p := ⟨B, 0, none⟩) (Nat.le_refl _) _).setCell (p := ⟨B, 1, none⟩) (Nat.le_refl _) _).setCell (p := ⟨B, 2, none⟩) (Nat.le_refl _) _).mono (by have := HB.out; omega)⟩
end Go.Proofs.YtkemlckmfgacdaaGreatDoor
/- Contract: the program's need.Text. -/
namespace Go.Proofs.YtkemlckmfgacdaaGreatDoor
open Go.ChangeShapes Go.WideShapes Go.ChangeAt Go.RowKit
set_option linter.unusedVariables false
set_option linter.unusedSimpArgs false
open Tp Nt
/-- the text that need.Text tells -/
def txtOf (a b c : Int) : ByteArray := if needB a b c then bts (needText (a.toNat, b.toNat, c.toNat)) else ⟨#[]⟩
theorem can_of {a b c : Int} (h : needB a b c = true) : Nt.Can (a.toNat, b.toNat, c.toNat) := by
  obtain ⟨h1, h2, h3⟩ := needB_yes h
  exact ⟨by show a.toNat < _; omega, by show b.toNat < _; omega, by show c.toNat < _; omega⟩
set_option maxRecDepth 20000 in
set_option maxHeartbeats 4000000 in
theorem Text_any (a b c : Int) (w : World) (he : Env w) : Calls Tryz.prog 26 #[.agg #[.int .i64 a, .int .i64 b, .int .i64 c]] w fun e w' => e = .returned (.tuple #[.string (txtOf a b c), .int .i64 (needE a b c)]) ∧ Below w.heap.size w w' := by
  obtain ⟨W0, hW0⟩ : ∃ W, W = w.alloc (.cells #[.int .i64 a, .int .i64 b, .int .i64 c] 23) := ⟨_, rfl⟩
  obtain ⟨B, hB⟩ : ∃ B, w.heap.size = B := ⟨_, rfl⟩
  have hb : Below w.heap.size w W0 := by rw [hW0]; exact (Below.refl _ _).alloc (Nat.le_refl _) _
  have m0 : W0.cell? ⟨B, 0, none⟩ = some (.int .i64 a) := by rw [hW0]; exact (topCell _ _ _ B 0 hB.symm).trans rfl
  have m1 : W0.cell? ⟨B, 1, none⟩ = some (.int .i64 b) := by rw [hW0]; exact (topCell _ _ _ B 1 hB.symm).trans rfl
  have m2 : W0.cell? ⟨B, 2, none⟩ = some (.int .i64 c) := by rw [hW0]; exact (topCell _ _ _ B 2 hB.symm).trans rfl
  have hBl : B < W0.heap.size := by rw [hW0, ← hB]; simp
  have HE0 := Lib.hid (he.below hb (Nat.le_refl _))
  have HBL := Lib.hid hb
  have HB := Lib.hid hB
  cases hn : needB a b c with
  | false =>
    have HT : Hid ((⟨#[]⟩ : ByteArray) = txtOf a b c) := Lib.hid (by unfold txtOf; rw [hn]; rfl)
    have hE : needE a b c = 4 := by unfold needE; rw [hn]; rfl
    have HC := Lib.hid (fun W => Check_any a b c W)
    rw [hE] at HC ⊢
    rw [← HT.out]
    clear hn hE he hb
    go_enter Tryz.func26, Tryz.ntmps26
    go_upto_region 1 with fail
    rw [← hW0]
    clear hW0
    clear hB
    go_wp2_with fail
    refine Calls.mono (HC.out _) ?_
    rintro e w1 ⟨rfl, hb1⟩
    have HB1 := Lib.hid hb1
    clear hb1
    go_wp2_with fail
    go_ret2
    exact ⟨rfl, HBL.out.trans (HB1.out.mono HBL.out.size)⟩
  | true =>
    have hE : needE a b c = 0 := by unfold needE; rw [hn]; rfl
    have HC := Lib.hid (fun W => Check_any a b c W)
    have hcan := can_of hn
    obtain ⟨b1, b2, b3⟩ := needB_yes hn
    have HX : Hid (∀ W, Env W → Calls Tryz.prog 57 #[.agg #[.int .i64 a, .int .i64 b, .int .i64 c]] W fun e w' => e = .returned (.string (txtOf a b c)) ∧ Below W.heap.size W w') := Lib.hid (fun W hW => by
      have := text_any a.toNat b.toNat c.toNat hcan W hW
      rw [show ((a.toNat : Nat) : Int) = a from by omega, show ((b.toNat : Nat) : Int) = b from by omega, show ((c.toNat : Nat) : Int) = c from by omega] at this
      unfold txtOf
      rw [hn]
      exact this)
    obtain ⟨T, hT⟩ : ∃ T, txtOf a b c = T := ⟨_, rfl⟩
    rw [hT] at HX ⊢
    rw [hE] at HC ⊢
    clear hn hE he hb hcan b1 b2 b3 hT
    go_enter Tryz.func26, Tryz.ntmps26
    go_upto_region 1 with fail
    rw [← hW0]
    clear hW0
    clear hB
    go_wp2_with fail
    refine Calls.mono (HC.out _) ?_
    rintro e w1 ⟨rfl, hb1⟩
    replace m0 := (hb1.cell (p := ⟨B, 0, none⟩) hBl).trans m0
    replace m1 := (hb1.cell (p := ⟨B, 1, none⟩) hBl).trans m1
    replace m2 := (hb1.cell (p := ⟨B, 2, none⟩) hBl).trans m2
    have HB1 := Lib.hid hb1
    clear hb1
    go_wp2_with fail
    refine Calls.mono (HX.out _ (HE0.out.below HB1.out (Nat.le_refl _))) ?_
    rintro e w2 ⟨rfl, hb2⟩
    have HB2 := Lib.hid hb2
    clear hb2
    go_wp2_with fail
    go_ret2
    exact ⟨rfl, HBL.out.trans ((HB1.out.trans (HB2.out.mono HB1.out.size)).mono HBL.out.size)⟩
end Go.Proofs.YtkemlckmfgacdaaGreatDoor
