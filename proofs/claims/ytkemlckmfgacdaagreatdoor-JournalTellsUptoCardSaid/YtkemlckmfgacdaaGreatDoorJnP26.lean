/- Contract: the document's IntOf. -/
import Derived.Test.YtkemlckmfgacdaaGreatDoorJnP14
import Derived.Deep.CutBlock
import Derived.Deep.DeepCutAuto
import Derived.Test.YtkemlckmfgacdaaGreatDoorJnP17
import Derived.Test.YtkemlckmfgacdaaGreatDoorJnP25
namespace Go.Proofs.YtkemlckmfgacdaaGreatDoor
set_option maxRecDepth 20000
set_option maxHeartbeats 64000000
open Go.ChangeShapes Go.WideShapes Go.ChangeAt Go.RowKit
set_option linter.unusedVariables false
set_option linter.unusedSimpArgs false
open Tp Nt
structure DigTo (d : Bs) (j : Nat) (u : Nat) : Prop where
 all : ∀ c, c ∈ d.take j → isD c
 val : u = Nt.val 0 (d.take j)
 few : j ≤ 19
 small : u < 10 ^ j
theorem DigTo.zero (d : Bs) : DigTo d 0 0 := ⟨(fun c h => by cases h), rfl, by omega, by decide⟩
theorem DigTo.succ {d : Bs} {j u : Nat} {c : UInt8} (h : DigTo d j u) (hx : d[j]? = some c) (hc : isD c) (hj : j ≤ 18) : DigTo d (j + 1) (u * 10 + (c.toNat - 48)) := by
 have ht := take_snoc hx
 refine ⟨fun x hx2 => ?_, ?_, by omega, ?_⟩
 ·rw [ht, List.mem_append] at hx2
  rcases hx2 with h2 | h2
  ·exact h.all x h2
  ·rw [List.mem_singleton] at h2; rw [h2]; exact hc
 ·rw [ht, val_append, ← h.val]; rfl
 ·have := h.small
  unfold isD at hc
  rw [Nat.pow_succ]; omega
theorem DigTo.fin {d : Bs} {j u : Nat} (h : DigTo d j u) (hj : d.length = j) : digs d = some u := by
 have := h.all
 have hv := h.val
 rw [← hj, List.take_length] at this hv
 unfold digs
 rw [if_pos ⟨this, by rw [hj]; exact h.few⟩, hv]
theorem digs_bad {d : Bs} {j : Nat} {c : UInt8} (hx : d[j]? = some c) (h : ¬ isD c ∨ 18 < j) : digs d = none := by
 unfold digs
 rw [if_neg]
 rintro ⟨h1, h2⟩
 rcases h with h | h
 ·exact h (h1 c (List.mem_of_getElem? hx))
 ·have := (List.getElem?_eq_some_iff.1 hx).1
  omega
def IntOfQ (w : World) (s : Bs) (e : Ending) (w' : World) : Prop := ∃ n, e = .returned (.tuple #[.int .i64 n, .bool (intOf s).isSome]) ∧ (∀ v, intOf s = some v → n = v) ∧ Below w.heap.size w w'
theorem intOf_cons (c : UInt8) (r : Bs) : intOf (c :: r) = (match digs (if c = 45 then r else c :: r) with
  | none => none
  | some u => if (if c = 45 then r else c :: r) = [] ∨ 9223372036854775808 < u ∨ (u = 9223372036854775808 ∧ c ≠ 45) then none
   else if decI (if c = 45 then -(u : Int) else u) = c :: r then some (if c = 45 then -(u : Int) else u) else none) := rfl
theorem IntOf_any (s : Bs) (w : World) (hs : s.length ≤ 1099511627776) : Calls Tryz.prog 45 #[.string (bts s)] w fun e w' => IntOfQ w s e w' := by
 cases s with
 | nil =>
  have HV : Hid (intOf [] = none) := hid rfl
  rw [show bts [] = (⟨#[]⟩ : ByteArray) from rfl]
  go_enter Tryz.func45, Tryz.ntmps45
  go_wp2_with fail
  go_rounds 1
  go_wp2_with fail
  go_ret2
  exact ⟨0, rfl, (fun v h => by rw [HV.out] at h; cases h), Below.refl _ _⟩
 | cons c r =>
  obtain ⟨S, hS⟩ : ∃ S, bts (c :: r) = S := ⟨_, rfl⟩
  obtain ⟨d, hd⟩ : ∃ d, (if c = 45 then r else c :: r) = d := ⟨_, rfl⟩
  obtain ⟨Dg, hDg⟩ : ∃ D, bts d = D := ⟨_, rfl⟩
  obtain ⟨low, hlow⟩ : ∃ b, decide (c = 45) = b := ⟨_, rfl⟩
  obtain ⟨k, hk⟩ : ∃ k, d.length = k := ⟨_, rfl⟩
  have hc45 : ((c.toNat : Int) == 45) = low := by
   rw [← hlow]
   by_cases h : c = 45
   ·subst h; rfl
   ·have : ¬ (c.toNat : Int) = 45 := fun e => h (UInt8.toNat_inj.1 (show c.toNat = 45 from by omega))
    simp [h, this]
  have hS0 : S.size = r.length + 1 := by rw [← hS, bts_size]; rfl
  have hSn : ¬ S.size = 0 := by omega
  have hSl : ¬ S.toList = [] := by rw [← hS, bts_toList]; simp
  have hSl2 : S.toList.isEmpty = false := by rw [← hS, bts_toList]; rfl
  have hSc : S[0]'(by omega) = c := lst_at (s := S) (by rw [← hS, lst_bts]; rfl) (by omega)
  have HS := hid hS
  have HD := hid hd
  have HDG := hid hDg
  have HLOW := hid hlow
  have HK := hid hk
  rw [hS]
  clear hd hDg hlow hk
  go_enter Tryz.func45, Tryz.ntmps45
  go_upto_if 17 with fail
  go_cut [5] (fun v W => v = .string Dg ∧ W = w)
  case first =>
   cases low with
   | true =>
    have h45 : c = 45 := of_decide_eq_true HLOW.out
    have hext : S.extract 1 (r.length + 1) = Dg := by
     have e1 := HD.out
     rw [if_pos h45] at e1
     rw [← HDG.out, ← e1, ← HS.out]
     apply ByteArray.ext
     apply Array.toList_inj.1
     show ((bts (c :: r)).extract 1 (r.length + 1)).data.toList = r
     have e : ((bts (c :: r)).extract 1 (r.length + 1)).data.toList = ((c :: r).drop 1).take r.length := by
      show ((bts (c :: r)).extract 1 (r.length + 1)).data.toList = _
      simp [ByteArray.data_extract, Array.toList_extract, bts]
     rw [e]
     simp
    go_wp2_with fail
    go_meet
    exact ⟨by simp [hext], rfl⟩
   | false =>
    have h45 : ¬ c = 45 := of_decide_eq_false HLOW.out
    have e1 := HD.out
    rw [if_neg h45] at e1
    have e2 : Dg = S := by rw [← HDG.out, ← e1, HS.out]
    subst e2
    go_wp2_with fail
    go_meet
    exact ⟨rfl, rfl⟩
  case rest =>
   obtain ⟨rfl, rfl⟩ := hcut
   have hDs : Dg.size = k := by rw [← HDG.out, bts_size, HK.out]
   have hk1 : k ≤ 1099511627776 := by
    have e1 := HD.out
    have e2 := HK.out
    by_cases h : c = 45
    ·rw [if_pos h] at e1; rw [← e2, ← e1]; simp at hs; omega
    ·rw [if_neg h] at e1; rw [← e2, ← e1]; exact hs
   clear hs
   go_wp2_with fail
   go_loopg [6, 22] k (fun g x y wr => ∃ (j u : Nat), j + g = k ∧ y = .int .i64 (j : Int) ∧ x = .int .u64 (u : Int) ∧ Hid (DigTo d j u) ∧ Hid (Below wc.heap.size wc wr))
   case atStart => exact ⟨0, 0, by omega, rfl, rfl, hid (DigTo.zero d), hid (Below.refl _ _)⟩
   case round =>
    obtain ⟨j, u, hj, rfl, rfl, HT, HB⟩ := hrel
    have HJ := hid hj
    by_cases hjk : j < k
    ·obtain ⟨x, hx⟩ : ∃ x, d[j]? = some x := ⟨_, List.getElem?_eq_getElem (by rw [HK.out]; exact hjk)⟩
     have hjs : j < Dg.size := by omega
     have hc1 : Dg[j]'hjs = x := lst_at (s := Dg) (by rw [← HDG.out, lst_bts]; exact hx) hjs
     have hj1 : (0 : Int) ≤ (j : Int) := by omega
     have hj2 : (j : Int) < (k : Int) := by omega
     by_cases hbad : ¬ isD x ∨ 18 < j
     ·have HN : Hid (intOf (c :: r) = none) := hid (by rw [intOf_cons, HD.out, digs_bad hx hbad])
      have hx0 : 0 ≤ (x.toNat : Int) := by omega
      rcases Nat.lt_or_ge x.toNat 48 with h1 | h1
      ·have h1' : (x.toNat : Int) < 48 := by omega
       clear hx hbad hj
       go_wp2_with fail
       go_ret2
       exact ⟨0, by rw [HN.out]; rfl, (fun v h => by rw [HN.out] at h; cases h), HB.out⟩
      ·rcases Nat.lt_or_ge 57 x.toNat with h2 | h2
       ·have h1' : ¬ (x.toNat : Int) < 48 := by omega
        have h2' : (57 : Int) < (x.toNat : Int) := by omega
        clear hx hbad hj
        go_wp2_with fail
        go_ret2
        exact ⟨0, by rw [HN.out]; rfl, (fun v h => by rw [HN.out] at h; cases h), HB.out⟩
       ·have h3 : (18 : Int) < (j : Int) := by
         rcases hbad with h | h
         ·exact absurd ⟨h1, h2⟩ h
         ·omega
        have h1' : ¬ (x.toNat : Int) < 48 := by omega
        have h2' : ¬ (57 : Int) < (x.toNat : Int) := by omega
        clear hx hbad hj
        go_wp2_with fail
        go_ret2
        exact ⟨0, by rw [HN.out]; rfl, (fun v h => by rw [HN.out] at h; cases h), HB.out⟩
     ·have hgood : isD x ∧ j ≤ 18 := ⟨Classical.byContradiction (fun h => hbad (.inl h)), by have := fun h => hbad (.inr h); omega⟩
      have HS1 := hid (HT.out.succ hx hgood.1 hgood.2)
      have hu := HT.out.small
      have hu2 : 10 ^ j ≤ 10 ^ 18 := Nat.pow_le_pow_right (by decide) hgood.2
      have hd := hgood.1
      unfold isD at hd
      have hux : (u : Int) ≤ 1000000000000000000 := by
       have e : (10 : Nat) ^ 18 = 1000000000000000000 := by decide
       omega
      have h1' : ¬ (x.toNat : Int) < 48 := by omega
      have h2' : ¬ (57 : Int) < (x.toNat : Int) := by omega
      have h3' : ¬ (18 : Int) < (j : Int) := by omega
      have w1 : IntKind.u64.wrap ((u : Int) * 10) = (u : Int) * 10 := IntWalk.u64_in _ (by omega)
      have w2 : IntKind.u8.wrap ((x.toNat : Int) - 48) = (x.toNat : Int) - 48 := by rw [IntKind.wrap]; simp [IntKind.signed, IntKind.bits]; omega
      have w3 : IntKind.u64.wrap ((x.toNat : Int) - 48) = (x.toNat : Int) - 48 := IntWalk.u64_in _ (by omega)
      have w4 : IntKind.u64.wrap ((u : Int) * 10 + ((x.toNat : Int) - 48)) = ((u * 10 + (x.toNat - 48) : Nat) : Int) := (IntWalk.u64_in _ (by omega)).trans (by omega)
      clear hx hbad hgood hu hu2 hd hj
      go_wp2_with fail
      go_roundg (k - (j + 1))
      case measure => (have := HJ.out; omega)
      case rel => exact ⟨j + 1, u * 10 + (x.toNat - 48), by have := HJ.out; omega, by simp, by simp, HS1, HB⟩
    ·obtain rfl : j = k := by omega
     have HDIG := hid (HT.out.fin HK.out)
     have hu := HT.out.small
     have hu19 : u < 10000000000000000000 := Nat.lt_of_lt_of_le hu (Nat.le_trans (Nat.pow_le_pow_right (by decide) HT.out.few) (by decide))
     clear hu hj
     go_upto_region 13 with fail
     have HI : Hid (intOf (c :: r) = (if d = [] ∨ 9223372036854775808 < u ∨ (u = 9223372036854775808 ∧ c ≠ 45) then none else if decI (if c = 45 then -(u : Int) else u) = c :: r then some (if c = 45 then -(u : Int) else u) else none)) := hid (by rw [intOf_cons, HD.out, HDIG.out])
     by_cases hd0 : d = []
     ·have HN : Hid (intOf (c :: r) = none) := hid (by rw [HI.out, if_pos (.inl hd0)])
      have hDg0 : Dg = ⟨#[]⟩ := by rw [← HDG.out, hd0]; rfl
      subst hDg0
      clear hd0
      go_wp2_with fail
      go_ret2
      exact ⟨0, by rw [HN.out]; rfl, (fun v h => by rw [HN.out] at h; cases h), HB.out⟩
     ·have hDl : ¬ Dg.toList = [] := by rw [← HDG.out, bts_toList]; exact hd0
      have hDl2 : Dg.toList.isEmpty = false := by rw [← HDG.out, bts_toList]; cases d with | nil => exact absurd rfl hd0 | cons => rfl
      rcases Nat.lt_or_ge 9223372036854775808 u with hbig | hbig
      ·have HN : Hid (intOf (c :: r) = none) := hid (by rw [HI.out, if_pos (.inr (.inl hbig))])
       have hb1 : (9223372036854775808 : Int) < (u : Int) := by omega
       clear hd0 hbig
       go_wp2_with fail
       go_ret2
       exact ⟨0, by rw [HN.out]; rfl, (fun v h => by rw [HN.out] at h; cases h), HB.out⟩
      ·have hb1 : ¬ (9223372036854775808 : Int) < (u : Int) := by omega
       cases low with
       | false =>
        have h45 : ¬ c = 45 := of_decide_eq_false HLOW.out
        by_cases hu63 : u = 9223372036854775808
        ·have HN : Hid (intOf (c :: r) = none) := hid (by rw [HI.out, if_pos (.inr (.inr ⟨hu63, h45⟩))])
         have hb2 : (u : Int) = 9223372036854775808 := by omega
         clear hd0 hbig
         go_wp2_with fail
         go_ret2
         exact ⟨0, by rw [HN.out]; rfl, (fun v h => by rw [HN.out] at h; cases h), HB.out⟩
        ·have HOK : Hid (intOf (c :: r) = if decI (u : Int) = c :: r then some (u : Int) else none) := hid (by rw [HI.out, if_neg (by rintro (h | h | h); exact hd0 h; omega; exact hu63 h.1), if_neg h45])
         have hb2 : ((u : Int) == 9223372036854775808) = false := by simp; omega
         have w1 : IntKind.i64.wrap (u : Int) = (u : Int) := IntWalk.i64_in _ (by omega)
         have hu9 : (u : Int) ≤ 9223372036854775807 := by omega
         clear hd0 hbig hu63
         obtain ⟨V, hV⟩ : ∃ V, bts (decI (u : Int)) = V := ⟨_, rfl⟩
         have HV := hid hV
         have HC := hid (DecimalW_any (u : Int) wr (by omega) (by omega))
         rw [hV] at HC
         have HE : Hid ((V.toList == S.toList) = (intOf (c :: r)).isSome) := hid (by
          rw [HOK.out, ← HV.out, ← HS.out, bts_eq]
          by_cases h : decI (u : Int) = c :: r
          ·rw [if_pos h, decide_eq_true h]; rfl
          ·rw [if_neg h, decide_eq_false h]; rfl)
         clear hV
         go_wp2_with fail
         refine Calls.mono HC.out ?_
         rintro e' W ⟨rfl, hb⟩
         go_wp2_with fail
         go_ret2
         refine ⟨(u : Int), by rw [← HE.out]; rfl, (fun v h => ?_), HB.out.trans (hb.mono HB.out.size)⟩
         rw [HOK.out] at h
         split at h
         ·injection h
         ·cases h
       | true =>
        have h45 : c = 45 := of_decide_eq_true HLOW.out
        have HOK : Hid (intOf (c :: r) = if decI (-(u : Int)) = c :: r then some (-(u : Int)) else none) := hid (by rw [HI.out, if_neg (by rintro (h | h | h); exact hd0 h; omega; exact h.2 h45), if_pos h45])
        by_cases hu63 : u = 9223372036854775808
        ·have w1 : IntKind.i64.wrap (u : Int) = -(u : Int) := by rw [hu63]; decide
         have hb2 : ((u : Int) == 9223372036854775808) = true := by rw [hu63]; decide
         have hr1 : -9223372036854775808 ≤ -(u : Int) := by omega
         have hr2 : -(u : Int) ≤ 9223372036854775807 := by omega
         clear hd0 hbig hu63
         obtain ⟨V, hV⟩ : ∃ V, bts (decI (-(u : Int))) = V := ⟨_, rfl⟩
         have HV := hid hV
         have HC := hid (DecimalW_any (-(u : Int)) wr hr1 hr2)
         rw [hV] at HC
         have HE : Hid ((V.toList == S.toList) = (intOf (c :: r)).isSome) := hid (by
          rw [HOK.out, ← HV.out, ← HS.out, bts_eq]
          by_cases h : decI (-(u : Int)) = c :: r
          ·rw [if_pos h, decide_eq_true h]; rfl
          ·rw [if_neg h, decide_eq_false h]; rfl)
         clear hV
         go_wp2_with fail
         refine Calls.mono HC.out ?_
         rintro e' W ⟨rfl, hb⟩
         go_wp2_with fail
         go_ret2
         refine ⟨(-(u : Int)), by rw [← HE.out]; rfl, (fun v h => ?_), HB.out.trans (hb.mono HB.out.size)⟩
         rw [HOK.out] at h
         split at h
         ·injection h
         ·cases h
        ·have hu9 : (u : Int) ≤ 9223372036854775807 := by omega
         have hb2 : ((u : Int) == 9223372036854775808) = false := by simp; omega
         have w1 : IntKind.i64.wrap (u : Int) = (u : Int) := IntWalk.i64_in _ (by omega)
         have w2 : IntKind.i64.wrap (-(u : Int)) = -(u : Int) := IntWalk.i64_in _ (by omega)
         clear hd0 hbig hu63
         obtain ⟨V, hV⟩ : ∃ V, bts (decI (-(u : Int))) = V := ⟨_, rfl⟩
         have HV := hid hV
         have HC := hid (DecimalW_any (-(u : Int)) wr (by omega) (by omega))
         rw [hV] at HC
         have HE : Hid ((V.toList == S.toList) = (intOf (c :: r)).isSome) := hid (by
          rw [HOK.out, ← HV.out, ← HS.out, bts_eq]
          by_cases h : decI (-(u : Int)) = c :: r
          ·rw [if_pos h, decide_eq_true h]; rfl
          ·rw [if_neg h, decide_eq_false h]; rfl)
         clear hV
         go_wp2_with fail
         refine Calls.mono HC.out ?_
         rintro e' W ⟨rfl, hb⟩
         go_wp2_with fail
         go_ret2
         refine ⟨(-(u : Int)), by rw [← HE.out]; rfl, (fun v h => ?_), HB.out.trans (hb.mono HB.out.size)⟩
         rw [HOK.out] at h
         split at h
         ·injection h
         ·cases h
end Go.Proofs.YtkemlckmfgacdaaGreatDoor
namespace Go.Proofs.YtkemlckmfgacdaaGreatDoor
set_option maxRecDepth 20000
set_option maxHeartbeats 64000000
open Go.ChangeShapes Go.WideShapes Go.ChangeAt Go.RowKit
set_option linter.unusedVariables false
open Tp
def AskAtQ (w : World) (o : Option (Ask × Bs)) (e : Ending) (w' : World) : Prop := Below w.heap.size w w' ∧ match o with
 | some (x, r) => ∃ v, e = .returned (.tuple #[v, .string (bts r), .bool true]) ∧ Five v ∧ AskVP (fun b => w.heap.size ≤ b) w' x v
 | none => ∃ v t, e = .returned (.tuple #[v, .string t, .bool false]) ∧ Five v
def AskAtR (w : World) (o : Option (Ask × Bs)) (bv : Bool) (v : Value) (t : ByteArray) (w' : World) : Prop := match o with
 | some (x, r) => bv = true ∧ bts r = t ∧ AskVP (fun b => w.heap.size ≤ b) w' x v
 | none => bv = false
theorem AskAtQ.form {w w' : World} {o : Option (Ask × Bs)} {e : Ending} (h : AskAtQ w o e w') : Below w.heap.size w w' ∧ ∃ (bv : Bool) (x0 : Int) (x1 x2 : ByteArray) (x3 : Int) (xd : Option Addr) (xl xc : Nat) (t : ByteArray), e = .returned (.tuple #[.agg #[.int .i64 x0, .string x1, .string x2, .int .i64 x3, .slice xd xl xc], .string t, .bool bv]) ∧ AskAtR w o bv (.agg #[.int .i64 x0, .string x1, .string x2, .int .i64 x3, .slice xd xl xc]) t w' := by
 obtain ⟨hb, h⟩ := h
 cases o with
 | none =>
  obtain ⟨v, t, rfl, ⟨x0, x1, x2, x3, xd, xl, xc, rfl⟩⟩ := h
  exact ⟨hb, _, _, _, _, _, _, _, _, _, rfl, rfl⟩
 | some p =>
  obtain ⟨x, r⟩ := p
  obtain ⟨v, rfl, ⟨x0, x1, x2, x3, xd, xl, xc, rfl⟩, h1⟩ := h
  exact ⟨hb, _, _, _, _, _, _, _, _, _, rfl, rfl, rfl, h1⟩
theorem AskAtQ.mk' {w w' : World} {o : Option (Ask × Bs)} {bv : Bool} {x0 : Int} {x1 x2 : ByteArray} {x3 : Int} {xd : Option Addr} {xl xc : Nat} {t : ByteArray} (hb : Below w.heap.size w w') (h : AskAtR w o bv (.agg #[.int .i64 x0, .string x1, .string x2, .int .i64 x3, .slice xd xl xc]) t w') : AskAtQ w o (.returned (.tuple #[.agg #[.int .i64 x0, .string x1, .string x2, .int .i64 x3, .slice xd xl xc], .string t, .bool bv])) w' := by
 refine ⟨hb, ?_⟩
 cases o with
 | none =>
  obtain rfl := h
  exact ⟨_, _, rfl, ⟨_, _, _, _, _, _, _, rfl⟩⟩
 | some p =>
  obtain ⟨x, r⟩ := p
  obtain ⟨rfl, rfl, h2⟩ := h
  exact ⟨_, rfl, ⟨_, _, _, _, _, _, _, rfl⟩, h2⟩
def elseR (A R : Bs) : Option (Ask × Bs) := match R with
 | 62 :: 61 :: t => match Nt.intOf (Ar.word t) with
  | some n => some (.mk 3 A [] n [], Ar.rest t)
  | none => none
 | 61 :: t => some (.mk 2 A (Ar.word t) 0 [], Ar.rest t)
 | _ => none
theorem elseR_is (A t : Bs) : elseR A (61 :: t) = some (.mk 2 A (Ar.word t) 0 [], Ar.rest t) := rfl
theorem elseR_more (A t : Bs) : elseR A (62 :: 61 :: t) = match Nt.intOf (Ar.word t) with | some n => some (.mk 3 A [] n [], Ar.rest t) | none => none := rfl
theorem elseR_no {A R : Bs} (h1 : ∀ t, R ≠ 62 :: 61 :: t) (h2 : ∀ t, R ≠ 61 :: t) : elseR A R = none := by
 unfold elseR
 split
 ·rename_i t; exact absurd rfl (h1 t)
 ·rename_i t; exact absurd rfl (h2 t)
 ·rfl
def secR (k : Int) (a : Ask) (o : Option (Ask × Bs)) : Option (Ask × Bs) := match o with
 | some (b, 41 :: r2) => some (.mk k [] [] 0 [a, b], r2)
 | _ => none
theorem secR_no {k : Int} {a b : Ask} {r : Bs} (h : ∀ t, r ≠ 41 :: t) : secR k a (some (b, r)) = none := by
 unfold secR
 split
 ·rename_i e; injection e with e; injection e with e1 e2; exact absurd e2 (h _)
 ·rfl
def fstR (N : Nat) (a : Ask) (r : Bs) : Option (Ask × Bs) := match r with
 | 124 :: r' => secR 6 a (Ar.askR N r')
 | 38 :: r' => secR 5 a (Ar.askR N r')
 | _ => none
theorem fstR_no {N : Nat} {a : Ask} {r : Bs} (h1 : ∀ t, r ≠ 124 :: t) (h2 : ∀ t, r ≠ 38 :: t) : fstR N a r = none := by
 unfold fstR
 split
 ·rename_i t; exact absurd rfl (h1 t)
 ·rename_i t; exact absurd rfl (h2 t)
 ·rfl
theorem askR_nil (N : Nat) : Ar.askR (N + 1) [] = none := by rw [Ar.askR]
theorem askR_has (N : Nat) (t : Bs) : Ar.askR (N + 1) (63 :: t) = some (.mk 1 (Ar.word t) [] 0 [], Ar.rest t) := by rw [Ar.askR]
theorem askR_not (N : Nat) (t : Bs) : Ar.askR (N + 1) (33 :: t) = match Ar.askR N t with | none => none | some (y, r) => some (.mk 4 [] [] 0 [y], r) := by
 rw [Ar.askR]
 cases Ar.askR N t with
 | none => rfl
 | some p => rfl
theorem askR_two (N : Nat) (t : Bs) : Ar.askR (N + 1) (40 :: t) = match Ar.askR N t with | none => none | some (a, r) => fstR N a r := by
 rw [Ar.askR]
 cases Ar.askR N t with
 | none => rfl
 | some p => rfl
theorem tree_oneA {S c B : Nat} {W : World} {y : Ask} {x0 x3 : Int} {x1 x2 : ByteArray} {xd : Option Addr} {xl xc : Nat} {t' : TypeId} (hS : S ≤ W.heap.size) (hc : c < S) (hB : B ≤ S)
  (HX : AskVP (fun b => S ≤ b) W y (.agg #[.int .i64 x0, .string x1, .string x2, .int .i64 x3, .slice xd xl xc])) (v0 v1 v2 v3 v4 : Value) :
  AskVP (fun b => B ≤ b) (five (W.alloc (.cells #[.int .i64 x0, .string x1, .string x2, .int .i64 x3, .slice xd xl xc] t')) c v0 v1 v2 v3 v4) (.mk 4 [] [] 0 [y]) (.agg #[.int .i64 4, .string ⟨#[]⟩, .string ⟨#[]⟩, .int .i64 0, .slice (some ⟨W.heap.size, 0, none⟩) 1 1]) := by
 have hcell : ∀ i, (five (W.alloc (.cells #[.int .i64 x0, .string x1, .string x2, .int .i64 x3, .slice xd xl xc] t')) c v0 v1 v2 v3 v4).cell? ⟨W.heap.size, i, none⟩ = (#[.int .i64 x0, .string x1, .string x2, .int .i64 x3, .slice xd xl xc] : Array Value)[i]? := fun i => (cell_of_block (p := ⟨W.heap.size, i, none⟩) (five_heap _ _ _ _ _ _ _ _ (by show W.heap.size ≠ c; omega))).trans (cell_top _ _ _ _ _ rfl)
 have hold : ∀ b, b ≠ c → b < W.heap.size → (five (W.alloc (.cells #[.int .i64 x0, .string x1, .string x2, .int .i64 x3, .slice xd xl xc] t')) c v0 v1 v2 v3 v4).heap[b]? = W.heap[b]? := fun b h1 hb => (five_heap _ _ _ _ _ _ _ b h1).trans (Below.heap_alloc _ _ _ hb)
 rw [AskVP]
 refine ⟨_, _, _, rfl, rfl, Nat.le_refl _, by omega, by simp, by simp, fun _ => ⟨_, _, rfl, by rw [five_size]; simp, by show B ≤ W.heap.size; omega, ?_⟩⟩
 rw [AsksVP, AsksVP]
 refine ⟨⟨.agg #[.int .i64 x0, .string x1, .string x2, .int .i64 x3, .slice xd xl xc], ⟨_, _, _, _, _, rfl, (hcell _).trans rfl, (hcell _).trans rfl, (hcell _).trans rfl, (hcell _).trans rfl, (hcell _).trans rfl⟩, ?_⟩, trivial⟩
 exact AskVP.stays (fun b h => Nat.le_trans hB h) (by rw [five_size]; simp) (fun b h hlt => hold b (by omega) hlt) _ _ HX
end Go.Proofs.YtkemlckmfgacdaaGreatDoor
namespace Go.Proofs.YtkemlckmfgacdaaGreatDoor
set_option maxRecDepth 20000
set_option maxHeartbeats 64000000
open Go.ChangeShapes Go.WideShapes Go.ChangeAt Go.RowKit
set_option linter.unusedVariables false
set_option linter.unusedSimpArgs false
open Tp
theorem askAt_none (N : Nat) (s : Bs) (w : World) (hN : N ≤ 61) (hs : s.length ≤ 2000) (h0 : N = 0 ∨ s = []) : Calls Tryz.prog 76 #[.string (bts s), .int .i64 N] w (AskAtQ w none) := by
 obtain ⟨S, hS⟩ : ∃ S, bts s = S := ⟨_, rfl⟩
 obtain ⟨c, hc⟩ : ∃ c, c = w.heap.size := ⟨_, rfl⟩
 obtain ⟨W0, hW0⟩ : ∃ W, W = w.alloc (.cells #[.int .i64 0, .string ⟨#[]⟩, .string ⟨#[]⟩, .int .i64 0, .slice none 0 0] 26) := ⟨_, rfl⟩
 obtain ⟨z, hz⟩ : ∃ z, z = W0.heap.size := ⟨_, rfl⟩
 obtain ⟨W1, hW1⟩ : ∃ W, W = W0.alloc (.cells #[.int .i64 0, .string ⟨#[]⟩, .string ⟨#[]⟩, .int .i64 0, .slice none 0 0] 26) := ⟨_, rfl⟩
 have hb0 : Below w.heap.size w W0 := be0 hW0
 have HB : Hid (Below w.heap.size w W1) := hid (by rw [hW1]; exact hb0.alloc hb0.size _)
 have HBX : Hid (Box5 c W1) := hid (by rw [hW1]; exact (by rw [hW0]; exact Box5.top hc : Box5 c W0).but ((But.refl W0.heap.size W0).alloc _) (by rw [hW0, hc]; simp))
 have HBZ : Hid (Box5 z W1) := hid (by rw [hW1]; exact Box5.top hz)
 have HC : Hid (w.heap.size ≤ c) := hid (Nat.le_of_eq hc.symm)
 obtain ⟨eb, heb⟩ : ∃ b, (S.toList == []) = b := ⟨_, rfl⟩
 have H0 : eb = true ∨ N = 0 := h0.symm.imp (fun h => by rw [← heb, ← hS, h, bts_toList]; rfl) id
 rw [hS]
 clear hb0 hS hs h0
 go_enter Tryz.func76, Tryz.ntmps76
 go_upto_region 1 with fail
 rw [← hW0, ← hc]
 clear hW0 hc
 go_upto_region 2 with fail
 rw [← hW1, ← hz]
 clear hW1 hz
 have r0 := HBX.out.r0
 have r1 := HBX.out.r1
 have r2 := HBX.out.r2
 have r3 := HBX.out.r3
 have r4 := HBX.out.r4
 have q0 := HBX.out.fz 0
 have q1 := HBX.out.fz 1
 have q2 := HBX.out.fz 2
 have q3 := HBX.out.fz 3
 have q4 := HBX.out.fz 4
 have z0 := HBZ.out.r0
 have z1 := HBZ.out.r1
 have z2 := HBZ.out.r2
 have z3 := HBZ.out.r3
 have z4 := HBZ.out.r4
 have hcl := HBX.out.lt
 cases eb with
 | true =>
  clear H0
  go_wp2_with fail
  refine bodyPost_ret (v := .tuple #[.agg #[.int .i64 0, .string ⟨#[]⟩, .string ⟨#[]⟩, .int .i64 0, .slice none 0 0], .string ⟨#[]⟩, .bool false]) (by simp [results, Tryz.results76, go_sem, cell_set, r0, r1, r2, r3, r4, hcl]) rfl ?_
  show AskAtQ w none _ (five W1 c (.int .i64 0) (.string ⟨#[]⟩) (.string ⟨#[]⟩) (.int .i64 0) (.slice none 0 0))
  exact AskAtQ.mk' (five_below HB.out c _ _ _ _ _ HC.out) rfl
 | false =>
  have hn : N = 0 := H0.resolve_left (by simp)
  subst hn
  clear H0
  go_wp2_with fail
  refine bodyPost_ret (v := .tuple #[.agg #[.int .i64 0, .string ⟨#[]⟩, .string ⟨#[]⟩, .int .i64 0, .slice none 0 0], .string ⟨#[]⟩, .bool false]) (by simp [results, Tryz.results76, go_sem, cell_set, r0, r1, r2, r3, r4, hcl]) rfl ?_
  show AskAtQ w none _ (five W1 c (.int .i64 0) (.string ⟨#[]⟩) (.string ⟨#[]⟩) (.int .i64 0) (.slice none 0 0))
  exact AskAtQ.mk' (five_below HB.out c _ _ _ _ _ HC.out) rfl
theorem askAt_has (N : Nat) (t : Bs) (w : World) (hN : N < 61) (hs : t.length ≤ 1999) : Calls Tryz.prog 76 #[.string (bts (63 :: t)), .int .i64 ((N + 1 : Nat) : Int)] w (AskAtQ w (Ar.askR (N + 1) (63 :: t))) := by
 rw [askR_has]
 obtain ⟨S, hS⟩ : ∃ S, bts (63 :: t) = S := ⟨_, rfl⟩
 obtain ⟨n, hn⟩ : ∃ n, S.size = n := ⟨_, rfl⟩
 have hnl : n = t.length + 1 := by rw [← hn, ← hS, bts_size]; rfl
 have hsz : 0 < S.size := by rw [← hS, bts_size]; simp
 have hS0 : S[0]'hsz = 63 := lst_at (s := S) (by rw [← hS, lst_bts]; rfl) hsz
 have hSl : ¬ S.toList = [] := by rw [← hS, bts_toList]; simp
 have hSl2 : (S.toList == []) = false := by rw [← hS, bts_toList]; rfl
 have hext : S.extract 1 n = bts t := by
  rw [← hS, hnl]
  have := Nr.ext_drop (63 :: t) 1
  simpa using this
 have h1n : (1 : Int) ≤ (n : Int) := by omega
 obtain ⟨D, hD⟩ : ∃ D : Int, ((N + 1 : Nat) : Int) = D := ⟨_, rfl⟩
 have hD0 : ¬ D = 0 := by omega
 have hD1 : (D == 0) = false := by simpa using hD0
 obtain ⟨c, hc⟩ : ∃ c, c = w.heap.size := ⟨_, rfl⟩
 obtain ⟨W0, hW0⟩ : ∃ W, W = w.alloc (.cells #[.int .i64 0, .string ⟨#[]⟩, .string ⟨#[]⟩, .int .i64 0, .slice none 0 0] 26) := ⟨_, rfl⟩
 obtain ⟨z, hz⟩ : ∃ z, z = W0.heap.size := ⟨_, rfl⟩
 obtain ⟨W1, hW1⟩ : ∃ W, W = W0.alloc (.cells #[.int .i64 0, .string ⟨#[]⟩, .string ⟨#[]⟩, .int .i64 0, .slice none 0 0] 26) := ⟨_, rfl⟩
 have hb0 : Below w.heap.size w W0 := be0 hW0
 have HB : Hid (Below w.heap.size w W1) := hid (by rw [hW1]; exact hb0.alloc hb0.size _)
 have HBX : Hid (Box5 c W1) := hid (by rw [hW1]; exact (by rw [hW0]; exact Box5.top hc : Box5 c W0).but ((But.refl W0.heap.size W0).alloc _) (by rw [hW0, hc]; simp))
 have HBZ : Hid (Box5 z W1) := hid (by rw [hW1]; exact Box5.top hz)
 have HC : Hid (w.heap.size ≤ c) := hid (Nat.le_of_eq hc.symm)
 have HFR := hid (fun W => front_any t W (by omega))
 have HLW : Hid ((Ar.word t).length ≤ 9223372036854775807) := hid (by have := Ar.word_len t; omega)
 obtain ⟨T, hT⟩ : ∃ T, bts t = T := ⟨_, rfl⟩
 obtain ⟨A, hA⟩ : ∃ T, bts (Ar.word t) = T := ⟨_, rfl⟩
 obtain ⟨R, hR⟩ : ∃ T, bts (Ar.rest t) = T := ⟨_, rfl⟩
 have HA := hid hA
 have HR := hid hR
 rw [hT, hA, hR] at HFR
 rw [hT] at hext
 rw [hS, hD]
 clear hb0 hS hs hnl hT hA hR hD hN
 go_enter Tryz.func76, Tryz.ntmps76
 go_upto_region 1 with fail
 rw [← hW0, ← hc]
 clear hW0 hc
 go_upto_region 2 with fail
 rw [← hW1, ← hz]
 clear hW1 hz
 have r0 := HBX.out.r0
 have r1 := HBX.out.r1
 have r2 := HBX.out.r2
 have r3 := HBX.out.r3
 have r4 := HBX.out.r4
 have q0 := HBX.out.fz 0
 have q1 := HBX.out.fz 1
 have q2 := HBX.out.fz 2
 have q3 := HBX.out.fz 3
 have q4 := HBX.out.fz 4
 have z0 := HBZ.out.r0
 have z1 := HBZ.out.r1
 have z2 := HBZ.out.r2
 have z3 := HBZ.out.r3
 have z4 := HBZ.out.r4
 have hcl := HBX.out.lt
 go_wp2_with fail
 refine Calls.mono (HFR.out _) ?_
 rintro e W2 ⟨rfl, hb2⟩
 have HB2 : Hid (Below w.heap.size w W2) := hid (HB.out.trans (hb2.mono HB.out.size))
 have HBX2 : Hid (Box5 c W2) := hid ⟨Nat.lt_of_lt_of_le HBX.out.lt hb2.size, (hb2.cell (p := ⟨c, 0, none⟩) HBX.out.lt).trans r0, (hb2.cell (p := ⟨c, 1, none⟩) HBX.out.lt).trans r1, (hb2.cell (p := ⟨c, 2, none⟩) HBX.out.lt).trans r2, (hb2.cell (p := ⟨c, 3, none⟩) HBX.out.lt).trans r3, (hb2.cell (p := ⟨c, 4, none⟩) HBX.out.lt).trans r4, fun i => (hb2.frozen (p := ⟨c, i, none⟩) HBX.out.lt).trans (HBX.out.fz i)⟩
 clear hb2 r0 r1 r2 r3 r4 q0 q1 q2 q3 q4 hcl z0 z1 z2 z3 z4
 have r0 := HBX2.out.r0
 have r1 := HBX2.out.r1
 have r2 := HBX2.out.r2
 have r3 := HBX2.out.r3
 have r4 := HBX2.out.r4
 have q0 := HBX2.out.fz 0
 have q1 := HBX2.out.fz 1
 have q2 := HBX2.out.fz 2
 have q3 := HBX2.out.fz 3
 have q4 := HBX2.out.fz 4
 have hcl := HBX2.out.lt
 go_wp2_with fail
 refine bodyPost_ret (v := .tuple #[.agg #[.int .i64 1, .string A, .string ⟨#[]⟩, .int .i64 0, .slice none 0 0], .string R, .bool true]) (by simp [results, Tryz.results76, go_sem, cell_set, r0, r1, r2, r3, r4, hcl]) rfl ?_
 show AskAtQ w _ _ (five W2 c (.int .i64 1) (.string A) (.string ⟨#[]⟩) (.int .i64 0) (.slice none 0 0))
 refine AskAtQ.mk' (five_below HB2.out c _ _ _ _ _ HC.out) ?_
 rw [← HA.out, ← HR.out]
 exact ⟨rfl, rfl, leaf_vp 1 (Ar.word t) [] 0 HLW.out (by simp)⟩
end Go.Proofs.YtkemlckmfgacdaaGreatDoor
