/- Contract: the document's IntOf. -/
import Derived.Test.YtddcaabhbbdbpaaDoorDecW
import Derived.Deep.CutBlock
import Derived.Deep.DeepCutAuto
namespace Go.Proofs.YtddcaabhbbdbpaaDoor
open Go.ChangeShapes Go.WideShapes Go.ChangeAt Go.RowKit
set_option linter.unusedVariables false
set_option linter.unusedSimpArgs false
open Tp Nt
/-- the digits so far -/
structure DigTo (d : Bs) (j : Nat) (u : Nat) : Prop where
  all : ∀ c, c ∈ d.take j → isD c
  val : u = Nt.val 0 (d.take j)
  few : j ≤ 19
  small : u < 10 ^ j
theorem DigTo.zero (d : Bs) : DigTo d 0 0 := ⟨(fun c h => by cases h), rfl, by omega, by decide⟩
theorem DigTo.succ {d : Bs} {j u : Nat} {c : UInt8} (h : DigTo d j u) (hx : d[j]? = some c) (hc : isD c) (hj : j ≤ 18) : DigTo d (j + 1) (u * 10 + (c.toNat - 48)) := by
  have ht := take_snoc hx
  refine ⟨fun x hx2 => ?_, ?_, by omega, ?_⟩
  · rw [ht, List.mem_append] at hx2
    rcases hx2 with h2 | h2
    · exact h.all x h2
    · rw [List.mem_singleton] at h2; rw [h2]; exact hc
  · rw [ht, val_append, ← h.val]; rfl
  · have := h.small
    unfold isD at hc
    rw [Nat.pow_succ]; omega
theorem DigTo.fin {d : Bs} {j u : Nat} (h : DigTo d j u) (hj : d.length = j) : digs d = some u := by
  have := h.all
  have hv := h.val
  rw [← hj, List.take_length] at this hv
  unfold digs
  rw [if_pos ⟨this, by rw [hj]; exact h.few⟩, hv]
theorem digs_bad {d : Bs} {j : Nat} {c : UInt8} (hx : d[j]? = some c) (h : ¬ isD c ∨ 18 < j) : digs d = none := by
  unfold digs
  rw [if_neg]
  rintro ⟨h1, h2⟩
  rcases h with h | h
  · exact h (h1 c (List.mem_of_getElem? hx))
  · have := (List.getElem?_eq_some_iff.1 hx).1
    omega
/-- what IntOf tells -/
def IntOfQ (w : World) (s : Bs) (e : Ending) (w' : World) : Prop := ∃ n, e = .returned (.tuple #[.int .i64 n, .bool (intOf s).isSome]) ∧ (∀ v, intOf s = some v → n = v) ∧ Below w.heap.size w w'
theorem intOf_cons (c : UInt8) (r : Bs) : intOf (c :: r) = (match digs (if c = 45 then r else c :: r) with
    | none => none
    | some u => if (if c = 45 then r else c :: r) = [] ∨ 9223372036854775808 < u ∨ (u = 9223372036854775808 ∧ c ≠ 45) then none
      else if decI (if c = 45 then -(u : Int) else u) = c :: r then some (if c = 45 then -(u : Int) else u) else none) := rfl
set_option maxRecDepth 20000 in
set_option maxHeartbeats 16000000 in
theorem IntOf_any (s : Bs) (w : World) (hs : s.length ≤ 1099511627776) : Calls Tryd.prog 29 #[.string (bts s)] w fun e w' => IntOfQ w s e w' := by
  cases s with
  | nil =>
    have HV : Hid (intOf [] = none) := Lib.hid rfl
    rw [show bts [] = (⟨#[]⟩ : ByteArray) from rfl]
    go_enter Tryd.func29, Tryd.ntmps29
    go_wp2_with fail
    go_rounds 1
    go_wp2_with fail
    go_ret2
    exact ⟨0, rfl, (fun v h => by rw [HV.out] at h; cases h), Below.refl _ _⟩
  | cons c r =>
    obtain ⟨S, hS⟩ : ∃ S, bts (c :: r) = S := ⟨_, rfl⟩
    obtain ⟨d, hd⟩ : ∃ d, (if c = 45 then r else c :: r) = d := ⟨_, rfl⟩
    obtain ⟨Dg, hDg⟩ : ∃ D, bts d = D := ⟨_, rfl⟩
    obtain ⟨low, hlow⟩ : ∃ b, decide (c = 45) = b := ⟨_, rfl⟩
    obtain ⟨k, hk⟩ : ∃ k, d.length = k := ⟨_, rfl⟩
    have hc45 : ((c.toNat : Int) == 45) = low := by
      rw [← hlow]
      by_cases h : c = 45
      · subst h; rfl
      · have : ¬ (c.toNat : Int) = 45 := fun e => h (UInt8.toNat_inj.1 (show c.toNat = 45 from by omega))
        simp [h, this]
    have hS0 : S.size = r.length + 1 := by rw [← hS, bts_size]; rfl
    have hSn : ¬ S.size = 0 := by omega
    have hSl : ¬ S.toList = [] := by rw [← hS, bts_toList]; simp
    have hSl2 : S.toList.isEmpty = false := by rw [← hS, bts_toList]; rfl
    have hSc : S[0]'(by omega) = c := lst_at (s := S) (by rw [← hS, lst_bts]; rfl) (by omega)
    have HS := Lib.hid hS
    have HD := Lib.hid hd
    have HDG := Lib.hid hDg
    have HLOW := Lib.hid hlow
    have HK := Lib.hid hk
    rw [hS]
    clear hd hDg hlow hk
    go_enter Tryd.func29, Tryd.ntmps29
    go_upto_if 17 with fail
    go_cut [5] (fun v W => v = .string Dg ∧ W = w)
    case first =>
      cases low with
      | true =>
        have h45 : c = 45 := of_decide_eq_true HLOW.out
        have hext : S.extract 1 (r.length + 1) = Dg := by
          have e1 := HD.out
          rw [if_pos h45] at e1
          rw [← HDG.out, ← e1, ← HS.out]
          apply ByteArray.ext
          apply Array.toList_inj.1
          show ((bts (c :: r)).extract 1 (r.length + 1)).data.toList = r
          have e : ((bts (c :: r)).extract 1 (r.length + 1)).data.toList = ((c :: r).drop 1).take r.length := by
            show ((bts (c :: r)).extract 1 (r.length + 1)).data.toList = _
            simp [ByteArray.data_extract, Array.toList_extract, bts]
          rw [e]
          simp
        go_wp2_with fail
        go_meet
        exact ⟨by simp [hext], rfl⟩
      | false =>
        have h45 : ¬ c = 45 := of_decide_eq_false HLOW.out
        have e1 := HD.out
        rw [if_neg h45] at e1
        have e2 : Dg = S := by rw [← HDG.out, ← e1, HS.out]
        subst e2
        go_wp2_with fail
        go_meet
        exact ⟨rfl, rfl⟩
    case rest =>
      obtain ⟨rfl, rfl⟩ := hcut
      have hDs : Dg.size = k := by rw [← HDG.out, bts_size, HK.out]
      have hk1 : k ≤ 1099511627776 := by
        have e1 := HD.out
        have e2 := HK.out
        by_cases h : c = 45
        · rw [if_pos h] at e1; rw [← e2, ← e1]; simp at hs; omega
        · rw [if_neg h] at e1; rw [← e2, ← e1]; exact hs
      clear hs
      go_wp2_with fail
      go_loopg [6, 22] k (fun g x y wr => ∃ (j u : Nat), j + g = k ∧ y = .int .i64 (j : Int) ∧ x = .int .u64 (u : Int) ∧ Hid (DigTo d j u) ∧ Hid (Below wc.heap.size wc wr))
      case atStart => exact ⟨0, 0, by omega, rfl, rfl, Lib.hid (DigTo.zero d), Lib.hid (Below.refl _ _)⟩
      case round =>
        obtain ⟨j, u, hj, rfl, rfl, HT, HB⟩ := hrel
        have HJ := Lib.hid hj
        by_cases hjk : j < k
        · obtain ⟨x, hx⟩ : ∃ x, d[j]? = some x := ⟨_, List.getElem?_eq_getElem (by rw [HK.out]; exact hjk)⟩
          have hjs : j < Dg.size := by omega
          have hc1 : Dg[j]'hjs = x := lst_at (s := Dg) (by rw [← HDG.out, lst_bts]; exact hx) hjs
          have hj1 : (0 : Int) ≤ (j : Int) := by omega
          have hj2 : (j : Int) < (k : Int) := by omega
          by_cases hbad : ¬ isD x ∨ 18 < j
          · have HN : Hid (intOf (c :: r) = none) := Lib.hid (by rw [intOf_cons, HD.out, digs_bad hx hbad])
            have hx0 : 0 ≤ (x.toNat : Int) := by omega
            rcases Nat.lt_or_ge x.toNat 48 with h1 | h1
            · have h1' : (x.toNat : Int) < 48 := by omega
              clear hx hbad hj
              go_wp2_with fail
              go_ret2
              exact ⟨0, by rw [HN.out]; rfl, (fun v h => by rw [HN.out] at h; cases h), HB.out⟩
            · rcases Nat.lt_or_ge 57 x.toNat with h2 | h2
              · have h1' : ¬ (x.toNat : Int) < 48 := by omega
                have h2' : (57 : Int) < (x.toNat : Int) := by omega
                clear hx hbad hj
                go_wp2_with fail
                go_ret2
                exact ⟨0, by rw [HN.out]; rfl, (fun v h => by rw [HN.out] at h; cases h), HB.out⟩
              · have h3 : (18 : Int) < (j : Int) := by
                  rcases hbad with h | h
                  · exact absurd ⟨h1, h2⟩ h
                  · omega
                have h1' : ¬ (x.toNat : Int) < 48 := by omega
                have h2' : ¬ (57 : Int) < (x.toNat : Int) := by omega
                clear hx hbad hj
                go_wp2_with fail
                go_ret2
                exact ⟨0, by rw [HN.out]; rfl, (fun v h => by rw [HN.out] at h; cases h), HB.out⟩
          · have hgood : isD x ∧ j ≤ 18 := ⟨Classical.byContradiction (fun h => hbad (.inl h)), by have := fun h => hbad (.inr h); omega⟩
            have HS1 := Lib.hid (HT.out.succ hx hgood.1 hgood.2)
            have hu := HT.out.small
            have hu2 : 10 ^ j ≤ 10 ^ 18 := Nat.pow_le_pow_right (by decide) hgood.2
            have hd := hgood.1
            unfold isD at hd
            have hux : (u : Int) ≤ 1000000000000000000 := by
              have e : (10 : Nat) ^ 18 = 1000000000000000000 := by decide
              omega
            have h1' : ¬ (x.toNat : Int) < 48 := by omega
            have h2' : ¬ (57 : Int) < (x.toNat : Int) := by omega
            have h3' : ¬ (18 : Int) < (j : Int) := by omega
            have w1 : IntKind.u64.wrap ((u : Int) * 10) = (u : Int) * 10 := IntWalk.u64_in _ (by omega)
            have w2 : IntKind.u8.wrap ((x.toNat : Int) - 48) = (x.toNat : Int) - 48 := by rw [IntKind.wrap]; simp [IntKind.signed, IntKind.bits]; omega
            have w3 : IntKind.u64.wrap ((x.toNat : Int) - 48) = (x.toNat : Int) - 48 := IntWalk.u64_in _ (by omega)
            have w4 : IntKind.u64.wrap ((u : Int) * 10 + ((x.toNat : Int) - 48)) = ((u * 10 + (x.toNat - 48) : Nat) : Int) := (IntWalk.u64_in _ (by omega)).trans (by omega)
            clear hx hbad hgood hu hu2 hd hj
            go_wp2_with fail
            go_roundg (k - (j + 1))
            case measure => (have := HJ.out; omega)
            case rel => exact ⟨j + 1, u * 10 + (x.toNat - 48), by have := HJ.out; omega, by simp, by simp, HS1, HB⟩
        · obtain rfl : j = k := by omega
          have HDIG := Lib.hid (HT.out.fin HK.out)
          have hu := HT.out.small
          have hu19 : u < 10000000000000000000 := Nat.lt_of_lt_of_le hu (Nat.le_trans (Nat.pow_le_pow_right (by decide) HT.out.few) (by decide))
          clear hu hj
          go_upto_region 13 with fail
          have HI : Hid (intOf (c :: r) = (if d = [] ∨ 9223372036854775808 < u ∨ (u = 9223372036854775808 ∧ c ≠ 45) then none else if decI (if c = 45 then -(u : Int) else u) = c :: r then some (if c = 45 then -(u : Int) else u) else none)) := Lib.hid (by rw [intOf_cons, HD.out, HDIG.out])
          by_cases hd0 : d = []
          · have HN : Hid (intOf (c :: r) = none) := Lib.hid (by rw [HI.out, if_pos (.inl hd0)])
            have hDg0 : Dg = ⟨#[]⟩ := by rw [← HDG.out, hd0]; rfl
            subst hDg0
            clear hd0
            go_wp2_with fail
            go_ret2
            exact ⟨0, by rw [HN.out]; rfl, (fun v h => by rw [HN.out] at h; cases h), HB.out⟩
          · have hDl : ¬ Dg.toList = [] := by rw [← HDG.out, bts_toList]; exact hd0
            have hDl2 : Dg.toList.isEmpty = false := by rw [← HDG.out, bts_toList]; cases d with | nil => exact absurd rfl hd0 | cons => rfl
            rcases Nat.lt_or_ge 9223372036854775808 u with hbig | hbig
            · have HN : Hid (intOf (c :: r) = none) := Lib.hid (by rw [HI.out, if_pos (.inr (.inl hbig))])
              have hb1 : (9223372036854775808 : Int) < (u : Int) := by omega
              clear hd0 hbig
              go_wp2_with fail
              go_ret2
              exact ⟨0, by rw [HN.out]; rfl, (fun v h => by rw [HN.out] at h; cases h), HB.out⟩
            · have hb1 : ¬ (9223372036854775808 : Int) < (u : Int) := by omega
              cases low with
              | false =>
                have h45 : ¬ c = 45 := of_decide_eq_false HLOW.out
                by_cases hu63 : u = 9223372036854775808
                · have HN : Hid (intOf (c :: r) = none) := Lib.hid (by rw [HI.out, if_pos (.inr (.inr ⟨hu63, h45⟩))])
                  have hb2 : (u : Int) = 9223372036854775808 := by omega
                  clear hd0 hbig
                  go_wp2_with fail
                  go_ret2
                  exact ⟨0, by rw [HN.out]; rfl, (fun v h => by rw [HN.out] at h; cases h), HB.out⟩
                · have HOK : Hid (intOf (c :: r) = if decI (u : Int) = c :: r then some (u : Int) else none) := Lib.hid (by rw [HI.out, if_neg (by rintro (h | h | h); exact hd0 h; omega; exact hu63 h.1), if_neg h45])
                  have hb2 : ((u : Int) == 9223372036854775808) = false := by simp; omega
                  have w1 : IntKind.i64.wrap (u : Int) = (u : Int) := IntWalk.i64_in _ (by omega)
                  have hu9 : (u : Int) ≤ 9223372036854775807 := by omega
                  clear hd0 hbig hu63
                  obtain ⟨V, hV⟩ : ∃ V, bts (decI (u : Int)) = V := ⟨_, rfl⟩
                  have HV := Lib.hid hV
                  have HC := Lib.hid (DecimalW_any (u : Int) wr (by omega) (by omega))
                  rw [hV] at HC
                  have HE : Hid ((V.toList == S.toList) = (intOf (c :: r)).isSome) := Lib.hid (by
                    rw [HOK.out, ← HV.out, ← HS.out, bts_eq]
                    by_cases h : decI (u : Int) = c :: r
                    · rw [if_pos h, decide_eq_true h]; rfl
                    · rw [if_neg h, decide_eq_false h]; rfl)
                  clear hV
                  go_wp2_with fail
                  refine Calls.mono HC.out ?_
                  rintro e' W ⟨rfl, hb⟩
                  go_wp2_with fail
                  go_ret2
                  refine ⟨(u : Int), by rw [← HE.out]; rfl, (fun v h => ?_), HB.out.trans (hb.mono HB.out.size)⟩
                  rw [HOK.out] at h
                  split at h
                  · injection h
                  · cases h
              | true =>
                have h45 : c = 45 := of_decide_eq_true HLOW.out
                have HOK : Hid (intOf (c :: r) = if decI (-(u : Int)) = c :: r then some (-(u : Int)) else none) := Lib.hid (by rw [HI.out, if_neg (by rintro (h | h | h); exact hd0 h; omega; exact h.2 h45), if_pos h45])
                by_cases hu63 : u = 9223372036854775808
                · have w1 : IntKind.i64.wrap (u : Int) = -(u : Int) := by rw [hu63]; decide
                  have hb2 : ((u : Int) == 9223372036854775808) = true := by rw [hu63]; decide
                  have hr1 : -9223372036854775808 ≤ -(u : Int) := by omega
                  have hr2 : -(u : Int) ≤ 9223372036854775807 := by omega
                  clear hd0 hbig hu63
                  obtain ⟨V, hV⟩ : ∃ V, bts (decI (-(u : Int))) = V := ⟨_, rfl⟩
                  have HV := Lib.hid hV
                  have HC := Lib.hid (DecimalW_any (-(u : Int)) wr hr1 hr2)
                  rw [hV] at HC
                  have HE : Hid ((V.toList == S.toList) = (intOf (c :: r)).isSome) := Lib.hid (by
                    rw [HOK.out, ← HV.out, ← HS.out, bts_eq]
                    by_cases h : decI (-(u : Int)) = c :: r
                    · rw [if_pos h, decide_eq_true h]; rfl
                    · rw [if_neg h, decide_eq_false h]; rfl)
                  clear hV
                  go_wp2_with fail
                  refine Calls.mono HC.out ?_
                  rintro e' W ⟨rfl, hb⟩
                  go_wp2_with fail
                  go_ret2
                  refine ⟨(-(u : Int)), by rw [← HE.out]; rfl, (fun v h => ?_), HB.out.trans (hb.mono HB.out.size)⟩
                  rw [HOK.out] at h
                  split at h
                  · injection h
                  · cases h
                · have hu9 : (u : Int) ≤ 9223372036854775807 := by omega
                  have hb2 : ((u : Int) == 9223372036854775808) = false := by simp; omega
                  have w1 : IntKind.i64.wrap (u : Int) = (u : Int) := IntWalk.i64_in _ (by omega)
                  have w2 : IntKind.i64.wrap (-(u : Int)) = -(u : Int) := IntWalk.i64_in _ (by omega)
                  clear hd0 hbig hu63
                  obtain ⟨V, hV⟩ : ∃ V, bts (decI (-(u : Int))) = V := ⟨_, rfl⟩
                  have HV := Lib.hid hV
                  have HC := Lib.hid (DecimalW_any (-(u : Int)) wr (by omega) (by omega))
                  rw [hV] at HC
                  have HE : Hid ((V.toList == S.toList) = (intOf (c :: r)).isSome) := Lib.hid (by
                    rw [HOK.out, ← HV.out, ← HS.out, bts_eq]
                    by_cases h : decI (-(u : Int)) = c :: r
                    · rw [if_pos h, decide_eq_true h]; rfl
                    · rw [if_neg h, decide_eq_false h]; rfl)
                  clear hV
                  go_wp2_with fail
                  refine Calls.mono HC.out ?_
                  rintro e' W ⟨rfl, hb⟩
                  go_wp2_with fail
                  go_ret2
                  refine ⟨(-(u : Int)), by rw [← HE.out]; rfl, (fun v h => ?_), HB.out.trans (hb.mono HB.out.size)⟩
                  rw [HOK.out] at h
                  split at h
                  · injection h
                  · cases h
end Go.Proofs.YtddcaabhbbdbpaaDoor
