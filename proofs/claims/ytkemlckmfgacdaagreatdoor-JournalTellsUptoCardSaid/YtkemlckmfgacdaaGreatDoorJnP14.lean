/- Contract: the document's Decimal, of any number. -/
import Derived.Test.YtkemlckmfgacdaaGreatDoorJnP13
import Derived.Test.YtkemlckmfgacdaaGreatDoorJnP2
import Derived.Test.YtkemlckmfgacdaaGreatDoorJnP5
import Derived.Deep.CutBlock
import Derived.Deep.DeepCutAuto
import Derived.RegionTactic
import Derived.Deep.RegionWith
namespace Go.Proofs.YtkemlckmfgacdaaGreatDoor
set_option maxRecDepth 20000
set_option maxHeartbeats 64000000
open Go.ChangeShapes Go.WideShapes Go.ChangeAt Go.RowKit
set_option linter.unusedVariables false
open Tp
theorem nt_dec (u : Nat) : Nt.dec u = dec u := rfl
theorem DecimalW_any (n : Int) (w : World) (h1 : -9223372036854775808 ≤ n) (h2 : n ≤ 9223372036854775807) : Calls Tryz.prog 41 #[.int .i64 n] w fun e w' => e = .returned (.string (bts (Nt.decI n))) ∧ Below w.heap.size w w' := by
 by_cases hn : n < 0
 ·obtain ⟨u, hu⟩ : ∃ u : Nat, n = -((u : Nat) : Int) - 1 := ⟨(-n - 1).toNat, by omega⟩
  have HC := hid (plain_all (u + 2) (u + 1) w (by omega) (by omega))
  obtain ⟨V, hV⟩ : ∃ V, bts (dec (u + 1)) = V := ⟨_, rfl⟩
  have hVs : V.size ≤ 20 := by rw [← hV, bts_size]; exact Nat.le_trans (dec_len 18 (u + 1) (by omega)) (by decide)
  have HR : Hid ((⟨#[45]⟩ : ByteArray) ++ V = bts (Nt.decI n)) := hid (by
   unfold Nt.decI
   rw [if_pos hn, show n.natAbs = u + 1 from by omega, nt_dec, ← hV]
   exact bts_append [45] _)
  obtain ⟨R, hR⟩ : ∃ R, bts (Nt.decI n) = R := ⟨_, rfl⟩
  rw [hR] at HR ⊢
  rw [hV] at HC
  have hw1 : IntKind.i64.wrap (n + 1) = n + 1 := IntWalk.i64_in _ (by omega)
  have hneg : -(n + 1) = (u : Int) := by omega
  have hw2 : IntKind.i64.wrap (u : Int) = (u : Int) := IntWalk.i64_in _ (by omega)
  have hw3 : IntKind.u64.wrap (u : Int) = (u : Int) := IntWalk.u64_in _ (by omega)
  have hw4 : IntKind.u64.wrap ((u : Int) + 1) = ((u + 1 : Nat) : Int) := IntWalk.u64_in _ (by omega)
  clear hV hR hu
  go_enter Tryz.func41, Tryz.ntmps41
  go_wp2_with fail
  refine Calls.mono HC.out ?_
  rintro e' W ⟨rfl, hb⟩
  go_wp2_with fail
  go_ret
  exact ⟨by rw [← HR.out]; rfl, hb⟩
 ·obtain ⟨u, rfl⟩ : ∃ u : Nat, n = (u : Int) := ⟨n.toNat, by omega⟩
  have HC := hid (plain_all (u + 1) u w (by omega) (by omega))
  have HV : Hid (Nt.decI (u : Int) = dec u) := hid (by unfold Nt.decI; rw [if_neg (by omega), Int.toNat_natCast]; rfl)
  rw [HV.out]
  obtain ⟨V, hV⟩ : ∃ V, bts (dec u) = V := ⟨_, rfl⟩
  rw [hV] at HC ⊢
  have h0 : ¬ ((u : Int) < 0) := by omega
  have hw2 : IntKind.u64.wrap (u : Int) = (u : Int) := IntWalk.u64_in _ (by omega)
  clear hV
  go_enter Tryz.func41, Tryz.ntmps41
  go_wp2_with fail
  refine Calls.mono HC.out ?_
  rintro e' W ⟨rfl, h1⟩
  go_wp2_with fail
  go_ret
  exact ⟨rfl, h1⟩
open Tp Nt
theorem joinC_snoc (l : List Bs) (x : Bs) : joinC (l ++ [x]) = if l = [] then x else joinC l ++ 44 :: x := by
 induction l with
 | nil => rfl
 | cons a l ih =>
  rw [if_neg (by simp)]
  cases l with
  | nil => rfl
  | cons b l =>
   rw [List.cons_append, List.cons_append, joinC]
   rw [List.cons_append, if_neg (by simp)] at ih
   rw [ih, joinC]
   simp
def entsN (v : V3) : Nat → List Bs
 | 0 => []
 | 1 => ent cpu v.1
 | 2 => ent cpu v.1 ++ ent mem v.2.1
 | _ => ents v
def nmN : Nat → Bs
 | 0 => cpu
 | 1 => mem
 | _ => gpu
def nuN (v : V3) : Nat → Nat
 | 0 => v.1
 | 1 => v.2.1
 | _ => v.2.2
theorem entsN_succ (v : V3) {k : Nat} (h : k < 3) : entsN v (k + 1) = entsN v k ++ ent (nmN k) (nuN v k) := by
 rcases (by omega : k = 0 ∨ k = 1 ∨ k = 2) with rfl | rfl | rfl <;> rfl
theorem entsN_zero {v : V3} {k : Nat} (h : k < 3) (h0 : nuN v k = 0) : entsN v (k + 1) = entsN v k := by
 rw [entsN_succ v h, h0]; simp [ent]
def txtN (v : V3) (k : Nat) : Bs := joinC (entsN v k)
theorem txtN_ne {v : V3} {k : Nat} (h : k < 3) (h0 : nuN v k ≠ 0) : txtN v (k + 1) = if txtN v k = [] then nmN k ++ 61 :: Nt.dec (nuN v k) else txtN v k ++ [44] ++ (nmN k ++ 61 :: Nt.dec (nuN v k)) := by
 have hn : ∀ k, txtN v k = [] ↔ entsN v k = [] := by
  have key : ∀ l : List Bs, (∀ x, x ∈ l → x ≠ []) → (joinC l = [] ↔ l = []) := by
   intro l hl
   cases l with
   | nil => simp [joinC]
   | cons a l =>
    cases l with
    | nil => simp [joinC]; exact hl a (by simp)
    | cons b l => simp [joinC]
  have he : ∀ n u x, x ∈ ent n u → x ≠ [] := by
   intro n u x hx
   unfold ent at hx
   split at hx
   ·cases hx
   ·simp at hx; subst hx; simp
  intro k
  refine key _ ?_
  intro x hx
  match k with
  | 0 => cases hx
  | 1 => exact he _ _ x hx
  | 2 => rw [entsN, List.mem_append] at hx; rcases hx with hx | hx <;> exact he _ _ x hx
  | k + 3 =>
   have hx : x ∈ ents v := hx
   rw [ents, List.mem_append, List.mem_append] at hx
   rcases hx with (hx | hx) | hx <;> exact he _ _ x hx
 have e : ent (nmN k) (nuN v k) = [nmN k ++ 61 :: Nt.dec (nuN v k)] := by unfold ent; rw [if_neg h0]
 have e2 : txtN v (k + 1) = joinC (entsN v k ++ [nmN k ++ 61 :: Nt.dec (nuN v k)]) := by unfold txtN; rw [entsN_succ v h, e]
 rw [e2, joinC_snoc]
 by_cases h1 : entsN v k = []
 ·rw [if_pos h1, if_pos ((hn k).2 h1)]
 ·rw [if_neg h1, if_neg (fun x => h1 ((hn k).1 x))]
  show txtN v k ++ _ = _
  simp
theorem nm_len (k : Nat) : (nmN k).length = 3 := by
 match k with
 | 0 => rfl
 | 1 => rfl
 | k + 2 => rfl
theorem nu_can {v : V3} (hv : Nt.Can v) (k : Nat) : nuN v k < 9223372036854775808 := by
 obtain ⟨h1, h2, h3⟩ := hv
 match k with
 | 0 => exact h1
 | 1 => exact h2
 | k + 2 => exact h3
theorem txtN_len {v : V3} (hv : Nt.Can v) : ∀ k, k ≤ 3 → (txtN v k).length ≤ 24 * k
 | 0, _ => by simp [txtN, entsN, joinC]
 | k + 1, h => by
  have ih := txtN_len hv k (by omega)
  by_cases h0 : nuN v k = 0
  ·have e : txtN v (k + 1) = txtN v k := by unfold txtN; rw [entsN_zero (by omega) h0]
   rw [e]; omega
  ·have hd := Nt.dec_len 18 (nuN v k) (Nat.lt_of_lt_of_le (nu_can hv k) (by decide))
   have hn := nm_len k
   rw [txtN_ne (by omega) h0]
   split <;> simp <;> omega
theorem needText_txt (v : V3) : needText v = if txtN v 3 = [] then [45] else txtN v 3 := by
 unfold needText txtN
 show (if ents v = [] then [45] else joinC (ents v)) = if joinC (ents v) = [] then _ else joinC (ents v)
 by_cases h : ents v = []
 ·rw [if_pos h, h]; rfl
 ·rw [if_neg h, if_neg]
  intro h2
  have : ∀ x, x ∈ ents v → x ≠ [] := by
   have he : ∀ n u x, x ∈ ent n u → x ≠ [] := by
    intro n u x hx
    unfold ent at hx
    split at hx
    ·cases hx
    ·simp at hx; subst hx; simp
   intro x hx
   rw [ents, List.mem_append, List.mem_append] at hx
   rcases hx with (hx | hx) | hx <;> exact he _ _ x hx
  cases he : ents v with
  | nil => exact h he
  | cons a l =>
   rw [he] at h2 this
   cases l with
   | nil => exact this a (by simp) h2
   | cons b l => simp [joinC] at h2
def nmB (k : Nat) : ByteArray := bts (nmN k ++ [61])
theorem NeedText_any (a b c : Nat) (hv : Nt.Can (a, b, c)) (w : World) : Calls Tryz.prog 42 #[.agg #[.int .i64 (a : Int), .int .i64 (b : Int), .int .i64 (c : Int)]] w fun e w' => e = .returned (.string (bts (needText (a, b, c)))) ∧ Below w.heap.size w w' := by
 obtain ⟨i0, i1, i2⟩ := idx3 (a : Int) (b : Int) (c : Int)
 have HA := hid (fun W => amounts_any (a : Int) (b : Int) (c : Int) W)
 have HN0 : Hid (nuN (a, b, c) 0 = a) := hid rfl
 have HN1 : Hid (nuN (a, b, c) 1 = b) := hid rfl
 have HN2 : Hid (nuN (a, b, c) 2 = c) := hid rfl
 obtain ⟨v, hvv⟩ : ∃ v : V3, (a, b, c) = v := ⟨_, rfl⟩
 rw [hvv] at HN0 HN1 HN2 hv ⊢
 clear hvv
 have HV := hid hv
 obtain ⟨R, hR⟩ : ∃ R, bts (needText v) = R := ⟨_, rfl⟩
 have HR := hid hR
 rw [hR]
 clear hR hv
 go_enter Tryz.func42, Tryz.ntmps42
 go_wp2_with fail
 refine Calls.mono (HA.out _) ?_
 rintro e w1 ⟨rfl, hB⟩
 have HB1 : Hid (Below w.heap.size w w1) := hid ((show Below w.heap.size w (w.alloc _) by go_grown).trans (hB.mono (by simp)))
 clear hB
 go_wp2_with fail
 go_loopg [3, 8] 3 (fun g x y wr => ∃ (i : Int) (k : Nat), (k : Int) = i ∧ k + g = 3 ∧ y = .int .i64 i ∧ x = .string (bts (txtN v k)) ∧ Hid (Below w.heap.size w wr))
 case atStart => exact ⟨0, 0, rfl, rfl, rfl, rfl, HB1⟩
 case round =>
  obtain ⟨i, k, hk, hg, rfl, rfl, HB⟩ := hrel
  obtain ⟨S, hS⟩ : ∃ S, bts (txtN v k) = S := ⟨_, rfl⟩
  have HS := hid hS
  rw [hS]
  clear hS
  by_cases hk3 : k < 3
  ·have hnu := nu_can HV.out k
   have hln := txtN_len HV.out k (by omega)
   have hsS : S.size ≤ 72 := by rw [← HS.out, bts_size]; omega
   by_cases h0 : nuN v k = 0
   ·have HX : Hid (txtN v (k + 1) = txtN v k) := hid (by unfold txtN; rw [entsN_zero hk3 h0])
    have HG : Hid (k + gk = 3) := hid hg
    clear hln hnu hg hsS
    rcases (by omega : k = 0 ∨ k = 1 ∨ k = 2) with rfl | rfl | rfl
    ·have e0 : ((a : Int) == 0) = true := by rw [HN0.out.symm.trans h0]; rfl
     obtain rfl : i = 0 := by omega
     clear h0 hk hk3
     go_wp2_with fail
     go_roundg 2
     case measure => (have := HG.out; omega)
     case rel => exact ⟨1, 1, rfl, rfl, rfl, by rw [← HS.out, ← HX.out], HB⟩
    ·have e0 : ((b : Int) == 0) = true := by rw [HN1.out.symm.trans h0]; rfl
     obtain rfl : i = 1 := by omega
     clear h0 hk hk3
     go_wp2_with fail
     go_roundg 1
     case measure => (have := HG.out; omega)
     case rel => exact ⟨2, 2, rfl, rfl, rfl, by rw [← HS.out, ← HX.out], HB⟩
    ·have e0 : ((c : Int) == 0) = true := by rw [HN2.out.symm.trans h0]; rfl
     obtain rfl : i = 2 := by omega
     clear h0 hk hk3
     go_wp2_with fail
     go_roundg 0
     case measure => (have := HG.out; omega)
     case rel => exact ⟨3, 3, rfl, rfl, rfl, by rw [← HS.out, ← HX.out], HB⟩
   ·have HG : Hid (k + gk = 3) := hid hg
    obtain ⟨D, hD⟩ : ∃ D, bts (Nt.dec (nuN v k)) = D := ⟨_, rfl⟩
    have hsD : D.size ≤ 19 := by rw [← hD, bts_size]; exact Nt.dec_len 18 _ (Nat.lt_of_lt_of_le hnu (by decide))
    obtain ⟨N, hN⟩ : ∃ N, nmB k = N := ⟨_, rfl⟩
    have hsN : N.size = 4 := by rw [← hN]; unfold nmB; rw [bts_size]; simp [nm_len]
    have HC : Hid (∀ W, Calls Tryz.prog 41 #[.int .i64 (nuN v k : Int)] W fun e w' => e = .returned (.string D) ∧ Below W.heap.size W w') := hid (fun W => by
     have h := DecimalW_any (nuN v k : Int) W (by omega) (by omega)
     rw [show Nt.decI (nuN v k : Int) = Nt.dec (nuN v k) from by unfold Nt.decI; rw [if_neg (by omega), Int.toNat_natCast], hD] at h
     exact h)
    have hnx := txtN_ne hk3 h0
    by_cases hSe : txtN v k = []
    ·have HX : Hid (S ++ (N ++ D) = bts (txtN v (k + 1))) := hid (by rw [hnx, if_pos hSe, ← HS.out, hSe, ← hN, ← hD]; unfold nmB; rw [bts_append, bts_append]; simp)
     have hSl : S.toList = [] := by rw [← HS.out, bts_toList]; exact hSe
     have hSl2 : S.toList.isEmpty = true := by rw [hSl]; rfl
     have hs1 : N.size + D.size ≤ 9223372036854775807 := by omega
     have hs3 : ¬ 9223372036854775807 < N.size + D.size := by omega
     have hs4 : ¬ 9223372036854775807 < S.size + (N.size + D.size) := by omega
     have hs2 : S.size + (N ++ D).size ≤ 9223372036854775807 := by rw [ByteArray.size_append]; omega
     clear hln hnu hg hsS hsD hsN hD hnx hSe
     rcases (by omega : k = 0 ∨ k = 1 ∨ k = 2) with rfl | rfl | rfl
     ·rw [HN0.out] at HC h0
      have e0 : ((a : Int) == 0) = false := by simpa using h0
      obtain rfl : i = 0 := by omega
      have hN' : (⟨#[99, 112, 117, 61]⟩ : ByteArray) = N := hN
      clear h0 hk hk3 hN
      have HN' := hid hN'
      go_upto_region 8 with fail
      rw [HN'.out]
      clear hN'
      go_region_with ((go_at_call 41; refine Calls.mono (HC.out _) ?_; rintro e' W' ⟨rfl, hb⟩; obtain ⟨hcell, hfrz⟩ := bcell hb; have hb1 : Below wr.heap.size wr W' := (show Below wr.heap.size wr _ from by go_grown).trans (hb.mono (by simp)); have hz1 := hb1.size; clear hb))
      all_goals
       go_wp2_with fail
       go_roundg 2
       case measure => (have := HG.out; omega)
       case rel => exact ⟨1, 1, rfl, rfl, rfl, by rw [← HX.out], hid (HB.out.trans ((show Below wr.heap.size wr _ from by go_grown).mono HB.out.size))⟩
     ·rw [HN1.out] at HC h0
      have e0 : ((b : Int) == 0) = false := by simpa using h0
      obtain rfl : i = 1 := by omega
      have hN' : (⟨#[109, 101, 109, 61]⟩ : ByteArray) = N := hN
      clear h0 hk hk3 hN
      have HN' := hid hN'
      go_upto_region 8 with fail
      rw [HN'.out]
      clear hN'
      go_region_with ((go_at_call 41; refine Calls.mono (HC.out _) ?_; rintro e' W' ⟨rfl, hb⟩; obtain ⟨hcell, hfrz⟩ := bcell hb; have hb1 : Below wr.heap.size wr W' := (show Below wr.heap.size wr _ from by go_grown).trans (hb.mono (by simp)); have hz1 := hb1.size; clear hb))
      all_goals
       go_wp2_with fail
       go_roundg 1
       case measure => (have := HG.out; omega)
       case rel => exact ⟨2, 2, rfl, rfl, rfl, by rw [← HX.out], hid (HB.out.trans ((show Below wr.heap.size wr _ from by go_grown).mono HB.out.size))⟩
     ·rw [HN2.out] at HC h0
      have e0 : ((c : Int) == 0) = false := by simpa using h0
      obtain rfl : i = 2 := by omega
      have hN' : (⟨#[103, 112, 117, 61]⟩ : ByteArray) = N := hN
      clear h0 hk hk3 hN
      have HN' := hid hN'
      go_upto_region 8 with fail
      rw [HN'.out]
      clear hN'
      go_region_with ((go_at_call 41; refine Calls.mono (HC.out _) ?_; rintro e' W' ⟨rfl, hb⟩; obtain ⟨hcell, hfrz⟩ := bcell hb; have hb1 : Below wr.heap.size wr W' := (show Below wr.heap.size wr _ from by go_grown).trans (hb.mono (by simp)); have hz1 := hb1.size; clear hb))
      all_goals
       go_wp2_with fail
       go_roundg 0
       case measure => (have := HG.out; omega)
       case rel => exact ⟨3, 3, rfl, rfl, rfl, by rw [← HX.out], hid (HB.out.trans ((show Below wr.heap.size wr _ from by go_grown).mono HB.out.size))⟩
    ·have HX : Hid (S ++ ⟨#[44]⟩ ++ (N ++ D) = bts (txtN v (k + 1))) := hid (by rw [hnx, if_neg hSe, ← HS.out, ← hN, ← hD]; unfold nmB; rw [show (⟨#[44]⟩ : ByteArray) = bts [44] from rfl, bts_append, bts_append, bts_append]; simp)
     have hSl : ¬ S.toList = [] := by rw [← HS.out, bts_toList]; exact hSe
     have hSl2 : S.toList.isEmpty = false := by rw [← HS.out, bts_toList]; cases h : txtN v k with | nil => exact absurd h hSe | cons => rfl
     have hk0 : k ≠ 0 := fun e => hSe (by rw [e]; rfl)
     have hs1 : N.size + D.size ≤ 9223372036854775807 := by omega
     have hs5 : ¬ 9223372036854775807 < S.size + 1 := by omega
     have hs3 : ¬ 9223372036854775807 < N.size + D.size := by omega
     have hs4 : ¬ 9223372036854775807 < S.size + 1 + (N.size + D.size) := by omega
     have hs2 : (S ++ ⟨#[44]⟩).size + (N ++ D).size ≤ 9223372036854775807 := by have e44 : (⟨#[44]⟩ : ByteArray).size = 1 := rfl; rw [ByteArray.size_append, ByteArray.size_append]; omega
     clear hln hnu hg hsS hsD hsN hD hnx hSe
     rcases (by omega : k = 1 ∨ k = 2) with rfl | rfl
     ·rw [HN1.out] at HC h0
      have e0 : ((b : Int) == 0) = false := by simpa using h0
      obtain rfl : i = 1 := by omega
      have hN' : (⟨#[109, 101, 109, 61]⟩ : ByteArray) = N := hN
      clear h0 hk hk3 hN hk0
      have HN' := hid hN'
      go_upto_region 8 with fail
      rw [HN'.out]
      clear hN'
      go_region_with ((go_at_call 41; refine Calls.mono (HC.out _) ?_; rintro e' W' ⟨rfl, hb⟩; obtain ⟨hcell, hfrz⟩ := bcell hb; have hb1 : Below wr.heap.size wr W' := (show Below wr.heap.size wr _ from by go_grown).trans (hb.mono (by simp)); have hz1 := hb1.size; clear hb))
      all_goals
       go_wp2_with fail
       go_roundg 1
       case measure => (have := HG.out; omega)
       case rel => exact ⟨2, 2, rfl, rfl, rfl, by rw [← HX.out], hid (HB.out.trans ((show Below wr.heap.size wr _ from by go_grown).mono HB.out.size))⟩
     ·rw [HN2.out] at HC h0
      have e0 : ((c : Int) == 0) = false := by simpa using h0
      obtain rfl : i = 2 := by omega
      have hN' : (⟨#[103, 112, 117, 61]⟩ : ByteArray) = N := hN
      clear h0 hk hk3 hN hk0
      have HN' := hid hN'
      go_upto_region 8 with fail
      rw [HN'.out]
      clear hN'
      go_region_with ((go_at_call 41; refine Calls.mono (HC.out _) ?_; rintro e' W' ⟨rfl, hb⟩; obtain ⟨hcell, hfrz⟩ := bcell hb; have hb1 : Below wr.heap.size wr W' := (show Below wr.heap.size wr _ from by go_grown).trans (hb.mono (by simp)); have hz1 := hb1.size; clear hb))
      all_goals
       go_wp2_with fail
       go_roundg 0
       case measure => (have := HG.out; omega)
       case rel => exact ⟨3, 3, rfl, rfl, rfl, by rw [← HX.out], hid (HB.out.trans ((show Below wr.heap.size wr _ from by go_grown).mono HB.out.size))⟩
  ·have hk3 : k = 3 := by omega
   subst hk3
   obtain rfl : i = 3 := by omega
   clear hk hk3 hg
   have hnt := needText_txt v
   by_cases hSe : txtN v 3 = []
   ·have hSl : S.toList = [] := by rw [← HS.out, bts_toList]; exact hSe
    have hSl2 : S.toList.isEmpty = true := by rw [hSl]; rfl
    have HE : Hid ((⟨#[45]⟩ : ByteArray) = R) := hid (by rw [← HR.out, hnt, if_pos hSe]; rfl)
    clear hnt hSe
    go_wp2_with fail
    go_ret
    exact ⟨by rw [← HE.out]; rfl, HB.out⟩
   ·have hSl : ¬ S.toList = [] := by rw [← HS.out, bts_toList]; exact hSe
    have hSl2 : S.toList.isEmpty = false := by rw [← HS.out, bts_toList]; cases h : txtN v 3 with | nil => exact absurd h hSe | cons => rfl
    have HE : Hid (S = R) := hid (by rw [← HR.out, hnt, if_neg hSe, HS.out])
    clear hnt hSe
    go_wp2_with fail
    go_ret
    exact ⟨by rw [← HE.out]; rfl, HB.out⟩
end Go.Proofs.YtkemlckmfgacdaaGreatDoor
