/- Contract: the document's front: a text up to one of some signs. -/
import Derived.Test.YtkemlckmfgacdaaGreatDoorEvP5
import Derived.Test.YtkemlckmfgacdaaGreatDoorEvP9
import Derived.BigQuiet
import Derived.Deep.QuietTactic
import Derived.Deep.LoopGhost
import Derived.Deep.CutBlock
import Derived.Deep.DeepCutAuto
import Derived.Test.YtkemlckmfgacdaaGreatDoorEvP14
import Derived.Test.YtkemlckmfgacdaaGreatDoorEvP17
namespace Go.Proofs.YtkemlckmfgacdaaGreatDoor
open Go.ChangeShapes Go.WideShapes Go.ChangeAt Go.RowKit
set_option linter.unusedVariables false
open Tp
def NoSf (s : Bs) (i : Nat) : Prop := ∀ (j : Nat) (b : UInt8), j < i → s[j]? = some b → Ar.sgn b = false
theorem front_hit {s : Bs} {i : Nat} {b : UInt8} (h : NoSf s i) (hb : s[i]? = some b) (hs : Ar.sgn b = true) : Ar.word s = s.take i ∧ Ar.rest s = s.drop i := by
  have e : s = s.take i ++ s.drop i := (List.take_append_drop i s).symm
  have h1 : ∀ c, c ∈ s.take i → Ar.sgn c = false := fun c hc => by
    obtain ⟨j, hj, e2⟩ := List.mem_iff_getElem.1 hc
    have hj2 : j < i := by rw [List.length_take] at hj; omega
    refine h j c hj2 ?_
    rw [← e2, List.getElem_take]
    exact List.getElem?_eq_getElem _
  have h2 : Ar.Stop (s.drop i) := .inr ⟨b, s.drop (i + 1), drop_some hb, hs⟩
  have := Ar.word_stop h1 h2
  rwa [← e] at this
theorem front_none {s : Bs} (h : NoSf s s.length) : Ar.word s = s ∧ Ar.rest s = [] := by
  have h1 : ∀ c, c ∈ s → Ar.sgn c = false := fun c hc => by
    obtain ⟨j, hj, e2⟩ := List.mem_iff_getElem.1 hc
    exact h j c hj (by rw [← e2]; exact List.getElem?_eq_getElem _)
  have := Ar.word_stop h1 (.inl rfl : Ar.Stop [])
  rwa [List.append_nil] at this
theorem signs_at {k : Nat} {c : UInt8} (h : Ar.signs[k]? = some c) : Ar.sgn c = true := by
  rw [← Ar.sgn_signs, List.contains_iff_mem]
  exact List.mem_of_getElem? h
theorem signs_none {c : UInt8} (h : ∀ (k : Nat), k < 8 → Ar.signs[k]? ≠ some c) : Ar.sgn c = false := by
  rw [← Ar.sgn_signs]
  cases hc : Ar.signs.contains c with
  | false => rfl
  | true =>
    rw [List.contains_iff_mem] at hc
    obtain ⟨k, hk, e⟩ := List.mem_iff_getElem.1 hc
    exact absurd (by rw [← e]; exact List.getElem?_eq_getElem hk) (h k hk)
set_option maxRecDepth 100000 in
set_option maxHeartbeats 8000000 in
theorem front_any (s : Bs) (w : World) (hl : s.length ≤ 1099511627776) : Calls Tryz.prog 95 #[.string (bts s), .string (bts Ar.signs)] w fun e w' => e = .returned (.tuple #[.string (bts (Ar.word s)), .string (bts (Ar.rest s))]) ∧ Below w.heap.size w w' := by
  obtain ⟨S, hS⟩ : ∃ S, bts s = S := ⟨_, rfl⟩
  obtain ⟨G, hG⟩ : ∃ S, bts Ar.signs = S := ⟨_, rfl⟩
  obtain ⟨n, hn⟩ : ∃ n, S.size = n := ⟨_, rfl⟩
  have hns : s.length = n := by rw [← hn, ← hS, bts_size]
  have hG8 : G.size = 8 := by rw [← hG]; rfl
  have HS := Lib.hid hS
  have HG := Lib.hid hG
  have HNS := Lib.hid hns
  have HN := Lib.hid hn
  have HG8 := Lib.hid hG8
  obtain ⟨A, hA⟩ : ∃ A, bts (Ar.word s) = A := ⟨_, rfl⟩
  obtain ⟨R, hR⟩ : ∃ A, bts (Ar.rest s) = A := ⟨_, rfl⟩
  have HA := Lib.hid hA
  have HR := Lib.hid hR
  have hnI : (n : Int) ≤ 1099511627776 := by omega
  rw [hA, hR, hS, hG]
  clear hS hG hns hA hR hl
  go_enter Tryz.func95, Tryz.ntmps95
  go_wp2_with fail
  clear hn hG8
  go_loopg [10] n (fun g y wr => ∃ i : Nat, i + g = n ∧ y = .int .i64 (i : Int) ∧ Hid (NoSf s i) ∧ Hid (Below w.heap.size w wr))
  case atStart => exact ⟨0, by omega, rfl, Lib.hid (fun j b hj => absurd hj (by omega)), Lib.hid (Below.refl _ _)⟩
  case round =>
    obtain ⟨i, hig, rfl, HNO, HB⟩ := hrel
    have HIG := Lib.hid hig
    clear hig
    by_cases hin : i < n
    · have hi : i < S.size := by rw [HN.out]; exact hin
      obtain ⟨x, hx⟩ : ∃ x, s[i]? = some x := ⟨_, List.getElem?_eq_getElem (by rw [HNS.out]; exact hin)⟩
      have hc1 : S[i]'hi = x := lst_at (s := S) (by rw [← HS.out, lst_bts]; exact hx) hi
      have HX := Lib.hid hx
      have HIN := Lib.hid hin
      have hi1 : (0 : Int) ≤ (i : Int) := by omega
      have hi2 : (i : Int) < (n : Int) := by omega
      have hi3 : (i : Int) ≤ (n : Int) := by omega
      have hsz : S.size = n := HN.out
      have hgz : G.size = 8 := HG8.out
      clear hx hin
      go_wp2_with fail
      clear hsz hgz
      go_loopg [15] 8 (fun g y wr2 => ∃ k : Nat, k + g = 8 ∧ y = .int .i64 (k : Int) ∧ Hid (∀ j, j < k → Ar.signs[j]? ≠ some x) ∧ Hid (Below w.heap.size w wr2))
      case atStart => exact ⟨0, by omega, rfl, Lib.hid (fun j hj => absurd hj (by omega)), HB⟩
      case round =>
        obtain ⟨k, hk, rfl, HK, HB2⟩ := hrel
        have HKG := Lib.hid hk
        clear hk
        by_cases hk8 : k < 8
        · have hkG : k < G.size := by rw [HG8.out]; exact hk8
          obtain ⟨y, hy⟩ : ∃ y, Ar.signs[k]? = some y := ⟨_, List.getElem?_eq_getElem hk8⟩
          have hc2 : G[k]'hkG = y := lst_at (s := G) (by rw [← HG.out, lst_bts]; exact hy) hkG
          have HY := Lib.hid hy
          have hk1 : (0 : Int) ≤ (k : Int) := by omega
          have hk2 : (k : Int) < 8 := by omega
          have HK8 := Lib.hid hk8
          have hsz : S.size = n := HN.out
          have hgz : G.size = 8 := HG8.out
          by_cases hxy : x = y
          · have hcmp : ((x.toNat : Int) == (y.toNat : Int)) = true := by rw [hxy]; simp
            have HH := Lib.hid (front_hit HNO.out HX.out (by rw [hxy]; exact signs_at hy))
            have hx1 : S.extract 0 i = A := by rw [← HA.out, ← HS.out, HH.out.1]; exact Nr.ext_take s i
            have hx2 : S.extract i n = R := by rw [← HR.out, ← HS.out, HH.out.2, ← HNS.out]; exact Nr.ext_drop s i
            clear hy hk8 hxy
            go_wp2_with fail
            go_quiet (fail)
            go_wp2_with fail
            go_quiet (fail)
            go_wp2_with fail
            go_ret2
            exact ⟨rfl, below_drewN (below_drewN HB2.out _) _⟩
          · have hcmp : ((x.toNat : Int) == (y.toNat : Int)) = false := by
              simp only [beq_eq_false_iff_ne]
              intro e
              exact hxy (UInt8.toNat_inj.1 (by omega))
            have HK2 : Hid (∀ j, j < k + 1 → Ar.signs[j]? ≠ some x) := Lib.hid (fun j hj e => by
              rcases Nat.lt_or_ge j k with h | h
              · exact HK.out j h e
              · obtain rfl : j = k := by omega
                rw [HY.out] at e; cases e; exact hxy rfl)
            clear hy hk8 hxy
            go_wp2_with fail
            go_quiet (fail)
            go_wp2_with fail
            go_roundg (8 - (k + 1))
            case measure => (have := HKG.out; have := HK8.out; omega)
            case rel => exact ⟨k + 1, by have := HKG.out; have := HK8.out; omega, by simp, HK2, Lib.hid (below_drewN HB2.out _)⟩
        · obtain rfl : k = 8 := by have := HKG.out; omega
          have HN2 : Hid (NoSf s (i + 1)) := Lib.hid (fun j b hj hb => by
            rcases Nat.lt_or_ge j i with h | h
            · exact HNO.out j b h hb
            · obtain rfl : j = i := by omega
              rw [HX.out] at hb; cases hb
              exact signs_none HK.out)
          clear hk8
          go_wp2_with fail
          go_roundg (n - (i + 1))
          case measure => (have := HIG.out; have := HIN.out; omega)
          case rel => exact ⟨i + 1, by have := HIG.out; have := HIN.out; omega, by simp, HN2, HB2⟩
    · obtain rfl : i = n := by have := HIG.out; omega
      have HH := Lib.hid (front_none (s := s) (by rw [HNS.out]; exact HNO.out))
      have e1 : Hid (S = A) := Lib.hid (by rw [← HA.out, HH.out.1, HS.out])
      have e2 : Hid ((⟨#[]⟩ : ByteArray) = R) := Lib.hid (by rw [← HR.out, HH.out.2]; rfl)
      clear hin
      go_wp2_with fail
      go_ret2
      exact ⟨by rw [← e1.out, ← e2.out]; rfl, HB.out⟩
end Go.Proofs.YtkemlckmfgacdaaGreatDoor
namespace Go.Proofs.YtkemlckmfgacdaaGreatDoor
open Go.ChangeShapes Go.WideShapes Go.ChangeAt Go.RowKit
set_option linter.unusedVariables false
set_option linter.unusedSimpArgs false
open Tp Nt
structure DigTo (d : Bs) (j : Nat) (u : Nat) : Prop where
  all : ∀ c, c ∈ d.take j → isD c
  val : u = Nt.val 0 (d.take j)
  few : j ≤ 19
  small : u < 10 ^ j
theorem DigTo.zero (d : Bs) : DigTo d 0 0 := ⟨(fun c h => by cases h), rfl, by omega, by decide⟩
theorem DigTo.succ {d : Bs} {j u : Nat} {c : UInt8} (h : DigTo d j u) (hx : d[j]? = some c) (hc : isD c) (hj : j ≤ 18) : DigTo d (j + 1) (u * 10 + (c.toNat - 48)) := by
  have ht := take_snoc hx
  refine ⟨fun x hx2 => ?_, ?_, by omega, ?_⟩
  · rw [ht, List.mem_append] at hx2
    rcases hx2 with h2 | h2
    · exact h.all x h2
    · rw [List.mem_singleton] at h2; rw [h2]; exact hc
  · rw [ht, val_append, ← h.val]; rfl
  · have := h.small
    unfold isD at hc
    rw [Nat.pow_succ]; omega
theorem DigTo.fin {d : Bs} {j u : Nat} (h : DigTo d j u) (hj : d.length = j) : digs d = some u := by
  have := h.all
  have hv := h.val
  rw [← hj, List.take_length] at this hv
  unfold digs
  rw [if_pos ⟨this, by rw [hj]; exact h.few⟩, hv]
theorem digs_bad {d : Bs} {j : Nat} {c : UInt8} (hx : d[j]? = some c) (h : ¬ isD c ∨ 18 < j) : digs d = none := by
  unfold digs
  rw [if_neg]
  rintro ⟨h1, h2⟩
  rcases h with h | h
  · exact h (h1 c (List.mem_of_getElem? hx))
  · have := (List.getElem?_eq_some_iff.1 hx).1
    omega
def IntOfQ (w : World) (s : Bs) (e : Ending) (w' : World) : Prop := ∃ n, e = .returned (.tuple #[.int .i64 n, .bool (intOf s).isSome]) ∧ (∀ v, intOf s = some v → n = v) ∧ Below w.heap.size w w'
theorem intOf_cons (c : UInt8) (r : Bs) : intOf (c :: r) = (match digs (if c = 45 then r else c :: r) with
    | none => none
    | some u => if (if c = 45 then r else c :: r) = [] ∨ 9223372036854775808 < u ∨ (u = 9223372036854775808 ∧ c ≠ 45) then none
      else if decI (if c = 45 then -(u : Int) else u) = c :: r then some (if c = 45 then -(u : Int) else u) else none) := rfl
set_option maxRecDepth 20000 in
set_option maxHeartbeats 16000000 in
theorem IntOf_any (s : Bs) (w : World) (hs : s.length ≤ 1099511627776) : Calls Tryz.prog 45 #[.string (bts s)] w fun e w' => IntOfQ w s e w' := by
  cases s with
  | nil =>
    have HV : Hid (intOf [] = none) := Lib.hid rfl
    rw [show bts [] = (⟨#[]⟩ : ByteArray) from rfl]
    go_enter Tryz.func45, Tryz.ntmps45
    go_wp2_with fail
    go_rounds 1
    go_wp2_with fail
    go_ret2
    exact ⟨0, rfl, (fun v h => by rw [HV.out] at h; cases h), Below.refl _ _⟩
  | cons c r =>
    obtain ⟨S, hS⟩ : ∃ S, bts (c :: r) = S := ⟨_, rfl⟩
    obtain ⟨d, hd⟩ : ∃ d, (if c = 45 then r else c :: r) = d := ⟨_, rfl⟩
    obtain ⟨Dg, hDg⟩ : ∃ D, bts d = D := ⟨_, rfl⟩
    obtain ⟨low, hlow⟩ : ∃ b, decide (c = 45) = b := ⟨_, rfl⟩
    obtain ⟨k, hk⟩ : ∃ k, d.length = k := ⟨_, rfl⟩
    have hc45 : ((c.toNat : Int) == 45) = low := by
      rw [← hlow]
      by_cases h : c = 45
      · subst h; rfl
      · have : ¬ (c.toNat : Int) = 45 := fun e => h (UInt8.toNat_inj.1 (show c.toNat = 45 from by omega))
        simp [h, this]
    have hS0 : S.size = r.length + 1 := by rw [← hS, bts_size]; rfl
    have hSn : ¬ S.size = 0 := by omega
    have hSl : ¬ S.toList = [] := by rw [← hS, bts_toList]; simp
    have hSl2 : S.toList.isEmpty = false := by rw [← hS, bts_toList]; rfl
    have hSc : S[0]'(by omega) = c := lst_at (s := S) (by rw [← hS, lst_bts]; rfl) (by omega)
    have HS := Lib.hid hS
    have HD := Lib.hid hd
    have HDG := Lib.hid hDg
    have HLOW := Lib.hid hlow
    have HK := Lib.hid hk
    rw [hS]
    clear hd hDg hlow hk
    go_enter Tryz.func45, Tryz.ntmps45
    go_upto_if 17 with fail
    go_cut [5] (fun v W => v = .string Dg ∧ W = w)
    case first =>
      cases low with
      | true =>
        have h45 : c = 45 := of_decide_eq_true HLOW.out
        have hext : S.extract 1 (r.length + 1) = Dg := by
          have e1 := HD.out
          rw [if_pos h45] at e1
          rw [← HDG.out, ← e1, ← HS.out]
          apply ByteArray.ext
          apply Array.toList_inj.1
          show ((bts (c :: r)).extract 1 (r.length + 1)).data.toList = r
          have e : ((bts (c :: r)).extract 1 (r.length + 1)).data.toList = ((c :: r).drop 1).take r.length := by
            show ((bts (c :: r)).extract 1 (r.length + 1)).data.toList = _
            simp [ByteArray.data_extract, Array.toList_extract, bts]
          rw [e]
          simp
        go_wp2_with fail
        go_meet
        exact ⟨by simp [hext], rfl⟩
      | false =>
        have h45 : ¬ c = 45 := of_decide_eq_false HLOW.out
        have e1 := HD.out
        rw [if_neg h45] at e1
        have e2 : Dg = S := by rw [← HDG.out, ← e1, HS.out]
        subst e2
        go_wp2_with fail
        go_meet
        exact ⟨rfl, rfl⟩
    case rest =>
      obtain ⟨rfl, rfl⟩ := hcut
      have hDs : Dg.size = k := by rw [← HDG.out, bts_size, HK.out]
      have hk1 : k ≤ 1099511627776 := by
        have e1 := HD.out
        have e2 := HK.out
        by_cases h : c = 45
        · rw [if_pos h] at e1; rw [← e2, ← e1]; simp at hs; omega
        · rw [if_neg h] at e1; rw [← e2, ← e1]; exact hs
      clear hs
      go_wp2_with fail
      go_loopg [6, 22] k (fun g x y wr => ∃ (j u : Nat), j + g = k ∧ y = .int .i64 (j : Int) ∧ x = .int .u64 (u : Int) ∧ Hid (DigTo d j u) ∧ Hid (Below wc.heap.size wc wr))
      case atStart => exact ⟨0, 0, by omega, rfl, rfl, Lib.hid (DigTo.zero d), Lib.hid (Below.refl _ _)⟩
      case round =>
        obtain ⟨j, u, hj, rfl, rfl, HT, HB⟩ := hrel
        have HJ := Lib.hid hj
        by_cases hjk : j < k
        · obtain ⟨x, hx⟩ : ∃ x, d[j]? = some x := ⟨_, List.getElem?_eq_getElem (by rw [HK.out]; exact hjk)⟩
          have hjs : j < Dg.size := by omega
          have hc1 : Dg[j]'hjs = x := lst_at (s := Dg) (by rw [← HDG.out, lst_bts]; exact hx) hjs
          have hj1 : (0 : Int) ≤ (j : Int) := by omega
          have hj2 : (j : Int) < (k : Int) := by omega
          by_cases hbad : ¬ isD x ∨ 18 < j
          · have HN : Hid (intOf (c :: r) = none) := Lib.hid (by rw [intOf_cons, HD.out, digs_bad hx hbad])
            have hx0 : 0 ≤ (x.toNat : Int) := by omega
            rcases Nat.lt_or_ge x.toNat 48 with h1 | h1
            · have h1' : (x.toNat : Int) < 48 := by omega
              clear hx hbad hj
              go_wp2_with fail
              go_ret2
              exact ⟨0, by rw [HN.out]; rfl, (fun v h => by rw [HN.out] at h; cases h), HB.out⟩
            · rcases Nat.lt_or_ge 57 x.toNat with h2 | h2
              · have h1' : ¬ (x.toNat : Int) < 48 := by omega
                have h2' : (57 : Int) < (x.toNat : Int) := by omega
                clear hx hbad hj
                go_wp2_with fail
                go_ret2
                exact ⟨0, by rw [HN.out]; rfl, (fun v h => by rw [HN.out] at h; cases h), HB.out⟩
              · have h3 : (18 : Int) < (j : Int) := by
                  rcases hbad with h | h
                  · exact absurd ⟨h1, h2⟩ h
                  · omega
                have h1' : ¬ (x.toNat : Int) < 48 := by omega
                have h2' : ¬ (57 : Int) < (x.toNat : Int) := by omega
                clear hx hbad hj
                go_wp2_with fail
                go_ret2
                exact ⟨0, by rw [HN.out]; rfl, (fun v h => by rw [HN.out] at h; cases h), HB.out⟩
          · have hgood : isD x ∧ j ≤ 18 := ⟨Classical.byContradiction (fun h => hbad (.inl h)), by have := fun h => hbad (.inr h); omega⟩
            have HS1 := Lib.hid (HT.out.succ hx hgood.1 hgood.2)
            have hu := HT.out.small
            have hu2 : 10 ^ j ≤ 10 ^ 18 := Nat.pow_le_pow_right (by decide) hgood.2
            have hd := hgood.1
            unfold isD at hd
            have hux : (u : Int) ≤ 1000000000000000000 := by
              have e : (10 : Nat) ^ 18 = 1000000000000000000 := by decide
              omega
            have h1' : ¬ (x.toNat : Int) < 48 := by omega
            have h2' : ¬ (57 : Int) < (x.toNat : Int) := by omega
            have h3' : ¬ (18 : Int) < (j : Int) := by omega
            have w1 : IntKind.u64.wrap ((u : Int) * 10) = (u : Int) * 10 := IntWalk.u64_in _ (by omega)
            have w2 : IntKind.u8.wrap ((x.toNat : Int) - 48) = (x.toNat : Int) - 48 := by rw [IntKind.wrap]; simp [IntKind.signed, IntKind.bits]; omega
            have w3 : IntKind.u64.wrap ((x.toNat : Int) - 48) = (x.toNat : Int) - 48 := IntWalk.u64_in _ (by omega)
            have w4 : IntKind.u64.wrap ((u : Int) * 10 + ((x.toNat : Int) - 48)) = ((u * 10 + (x.toNat - 48) : Nat) : Int) := (IntWalk.u64_in _ (by omega)).trans (by omega)
            clear hx hbad hgood hu hu2 hd hj
            go_wp2_with fail
            go_roundg (k - (j + 1))
            case measure => (have := HJ.out; omega)
            case rel => exact ⟨j + 1, u * 10 + (x.toNat - 48), by have := HJ.out; omega, by simp, by simp, HS1, HB⟩
        · obtain rfl : j = k := by omega
          have HDIG := Lib.hid (HT.out.fin HK.out)
          have hu := HT.out.small
          have hu19 : u < 10000000000000000000 := Nat.lt_of_lt_of_le hu (Nat.le_trans (Nat.pow_le_pow_right (by decide) HT.out.few) (by decide))
          clear hu hj
          go_upto_region 13 with fail
          have HI : Hid (intOf (c :: r) = (if d = [] ∨ 9223372036854775808 < u ∨ (u = 9223372036854775808 ∧ c ≠ 45) then none else if decI (if c = 45 then -(u : Int) else u) = c :: r then some (if c = 45 then -(u : Int) else u) else none)) := Lib.hid (by rw [intOf_cons, HD.out, HDIG.out])
          by_cases hd0 : d = []
          · have HN : Hid (intOf (c :: r) = none) := Lib.hid (by rw [HI.out, if_pos (.inl hd0)])
            have hDg0 : Dg = ⟨#[]⟩ := by rw [← HDG.out, hd0]; rfl
            subst hDg0
            clear hd0
            go_wp2_with fail
            go_ret2
            exact ⟨0, by rw [HN.out]; rfl, (fun v h => by rw [HN.out] at h; cases h), HB.out⟩
          · have hDl : ¬ Dg.toList = [] := by rw [← HDG.out, bts_toList]; exact hd0
            have hDl2 : Dg.toList.isEmpty = false := by rw [← HDG.out, bts_toList]; cases d with | nil => exact absurd rfl hd0 | cons => rfl
            rcases Nat.lt_or_ge 9223372036854775808 u with hbig | hbig
            · have HN : Hid (intOf (c :: r) = none) := Lib.hid (by rw [HI.out, if_pos (.inr (.inl hbig))])
              have hb1 : (9223372036854775808 : Int) < (u : Int) := by omega
              clear hd0 hbig
              go_wp2_with fail
              go_ret2
              exact ⟨0, by rw [HN.out]; rfl, (fun v h => by rw [HN.out] at h; cases h), HB.out⟩
            · have hb1 : ¬ (9223372036854775808 : Int) < (u : Int) := by omega
              cases low with
              | false =>
                have h45 : ¬ c = 45 := of_decide_eq_false HLOW.out
                by_cases hu63 : u = 9223372036854775808
                · have HN : Hid (intOf (c :: r) = none) := Lib.hid (by rw [HI.out, if_pos (.inr (.inr ⟨hu63, h45⟩))])
                  have hb2 : (u : Int) = 9223372036854775808 := by omega
                  clear hd0 hbig
                  go_wp2_with fail
                  go_ret2
                  exact ⟨0, by rw [HN.out]; rfl, (fun v h => by rw [HN.out] at h; cases h), HB.out⟩
                · have HOK : Hid (intOf (c :: r) = if decI (u : Int) = c :: r then some (u : Int) else none) := Lib.hid (by rw [HI.out, if_neg (by rintro (h | h | h); exact hd0 h; omega; exact hu63 h.1), if_neg h45])
                  have hb2 : ((u : Int) == 9223372036854775808) = false := by simp; omega
                  have w1 : IntKind.i64.wrap (u : Int) = (u : Int) := IntWalk.i64_in _ (by omega)
                  have hu9 : (u : Int) ≤ 9223372036854775807 := by omega
                  clear hd0 hbig hu63
                  obtain ⟨V, hV⟩ : ∃ V, bts (decI (u : Int)) = V := ⟨_, rfl⟩
                  have HV := Lib.hid hV
                  have HC := Lib.hid (DecimalW_any (u : Int) wr (by omega) (by omega))
                  rw [hV] at HC
                  have HE : Hid ((V.toList == S.toList) = (intOf (c :: r)).isSome) := Lib.hid (by
                    rw [HOK.out, ← HV.out, ← HS.out, bts_eq]
                    by_cases h : decI (u : Int) = c :: r
                    · rw [if_pos h, decide_eq_true h]; rfl
                    · rw [if_neg h, decide_eq_false h]; rfl)
                  clear hV
                  go_wp2_with fail
                  refine Calls.mono HC.out ?_
                  rintro e' W ⟨rfl, hb⟩
                  go_wp2_with fail
                  go_ret2
                  refine ⟨(u : Int), by rw [← HE.out]; rfl, (fun v h => ?_), HB.out.trans (hb.mono HB.out.size)⟩
                  rw [HOK.out] at h
                  split at h
                  · injection h
                  · cases h
              | true =>
                have h45 : c = 45 := of_decide_eq_true HLOW.out
                have HOK : Hid (intOf (c :: r) = if decI (-(u : Int)) = c :: r then some (-(u : Int)) else none) := Lib.hid (by rw [HI.out, if_neg (by rintro (h | h | h); exact hd0 h; omega; exact h.2 h45), if_pos h45])
                by_cases hu63 : u = 9223372036854775808
                · have w1 : IntKind.i64.wrap (u : Int) = -(u : Int) := by rw [hu63]; decide
                  have hb2 : ((u : Int) == 9223372036854775808) = true := by rw [hu63]; decide
                  have hr1 : -9223372036854775808 ≤ -(u : Int) := by omega
                  have hr2 : -(u : Int) ≤ 9223372036854775807 := by omega
                  clear hd0 hbig hu63
                  obtain ⟨V, hV⟩ : ∃ V, bts (decI (-(u : Int))) = V := ⟨_, rfl⟩
                  have HV := Lib.hid hV
                  have HC := Lib.hid (DecimalW_any (-(u : Int)) wr hr1 hr2)
                  rw [hV] at HC
                  have HE : Hid ((V.toList == S.toList) = (intOf (c :: r)).isSome) := Lib.hid (by
                    rw [HOK.out, ← HV.out, ← HS.out, bts_eq]
                    by_cases h : decI (-(u : Int)) = c :: r
                    · rw [if_pos h, decide_eq_true h]; rfl
                    · rw [if_neg h, decide_eq_false h]; rfl)
                  clear hV
                  go_wp2_with fail
                  refine Calls.mono HC.out ?_
                  rintro e' W ⟨rfl, hb⟩
                  go_wp2_with fail
                  go_ret2
                  refine ⟨(-(u : Int)), by rw [← HE.out]; rfl, (fun v h => ?_), HB.out.trans (hb.mono HB.out.size)⟩
                  rw [HOK.out] at h
                  split at h
                  · injection h
                  · cases h
                · have hu9 : (u : Int) ≤ 9223372036854775807 := by omega
                  have hb2 : ((u : Int) == 9223372036854775808) = false := by simp; omega
                  have w1 : IntKind.i64.wrap (u : Int) = (u : Int) := IntWalk.i64_in _ (by omega)
                  have w2 : IntKind.i64.wrap (-(u : Int)) = -(u : Int) := IntWalk.i64_in _ (by omega)
                  clear hd0 hbig hu63
                  obtain ⟨V, hV⟩ : ∃ V, bts (decI (-(u : Int))) = V := ⟨_, rfl⟩
                  have HV := Lib.hid hV
                  have HC := Lib.hid (DecimalW_any (-(u : Int)) wr (by omega) (by omega))
                  rw [hV] at HC
                  have HE : Hid ((V.toList == S.toList) = (intOf (c :: r)).isSome) := Lib.hid (by
                    rw [HOK.out, ← HV.out, ← HS.out, bts_eq]
                    by_cases h : decI (-(u : Int)) = c :: r
                    · rw [if_pos h, decide_eq_true h]; rfl
                    · rw [if_neg h, decide_eq_false h]; rfl)
                  clear hV
                  go_wp2_with fail
                  refine Calls.mono HC.out ?_
                  rintro e' W ⟨rfl, hb⟩
                  go_wp2_with fail
                  go_ret2
                  refine ⟨(-(u : Int)), by rw [← HE.out]; rfl, (fun v h => ?_), HB.out.trans (hb.mono HB.out.size)⟩
                  rw [HOK.out] at h
                  split at h
                  · injection h
                  · cases h
end Go.Proofs.YtkemlckmfgacdaaGreatDoor
namespace Go.Proofs.YtkemlckmfgacdaaGreatDoor
open Go.ChangeShapes Go.WideShapes Go.ChangeAt Go.RowKit
set_option linter.unusedVariables false
open Tp
def AskAtQ (w : World) (o : Option (Ask × Bs)) (e : Ending) (w' : World) : Prop := Below w.heap.size w w' ∧ match o with
  | some (x, r) => ∃ v, e = .returned (.tuple #[v, .string (bts r), .bool true]) ∧ Five v ∧ AskVP (fun b => w.heap.size ≤ b) w' x v
  | none => ∃ v t, e = .returned (.tuple #[v, .string t, .bool false]) ∧ Five v
def AskAtR (w : World) (o : Option (Ask × Bs)) (bv : Bool) (v : Value) (t : ByteArray) (w' : World) : Prop := match o with
  | some (x, r) => bv = true ∧ bts r = t ∧ AskVP (fun b => w.heap.size ≤ b) w' x v
  | none => bv = false
theorem AskAtQ.form {w w' : World} {o : Option (Ask × Bs)} {e : Ending} (h : AskAtQ w o e w') : Below w.heap.size w w' ∧ ∃ (bv : Bool) (x0 : Int) (x1 x2 : ByteArray) (x3 : Int) (xd : Option Addr) (xl xc : Nat) (t : ByteArray), e = .returned (.tuple #[.agg #[.int .i64 x0, .string x1, .string x2, .int .i64 x3, .slice xd xl xc], .string t, .bool bv]) ∧ AskAtR w o bv (.agg #[.int .i64 x0, .string x1, .string x2, .int .i64 x3, .slice xd xl xc]) t w' := by
  obtain ⟨hb, h⟩ := h
  cases o with
  | none =>
    obtain ⟨v, t, rfl, ⟨x0, x1, x2, x3, xd, xl, xc, rfl⟩⟩ := h
    exact ⟨hb, _, _, _, _, _, _, _, _, _, rfl, rfl⟩
  | some p =>
    obtain ⟨x, r⟩ := p
    obtain ⟨v, rfl, ⟨x0, x1, x2, x3, xd, xl, xc, rfl⟩, h1⟩ := h
    exact ⟨hb, _, _, _, _, _, _, _, _, _, rfl, rfl, rfl, h1⟩
theorem AskAtQ.mk' {w w' : World} {o : Option (Ask × Bs)} {bv : Bool} {x0 : Int} {x1 x2 : ByteArray} {x3 : Int} {xd : Option Addr} {xl xc : Nat} {t : ByteArray} (hb : Below w.heap.size w w') (h : AskAtR w o bv (.agg #[.int .i64 x0, .string x1, .string x2, .int .i64 x3, .slice xd xl xc]) t w') : AskAtQ w o (.returned (.tuple #[.agg #[.int .i64 x0, .string x1, .string x2, .int .i64 x3, .slice xd xl xc], .string t, .bool bv])) w' := by
  refine ⟨hb, ?_⟩
  cases o with
  | none =>
    obtain rfl := h
    exact ⟨_, _, rfl, ⟨_, _, _, _, _, _, _, rfl⟩⟩
  | some p =>
    obtain ⟨x, r⟩ := p
    obtain ⟨rfl, rfl, h2⟩ := h
    exact ⟨_, rfl, ⟨_, _, _, _, _, _, _, rfl⟩, h2⟩
def elseR (A R : Bs) : Option (Ask × Bs) := match R with
  | 62 :: 61 :: t => match Nt.intOf (Ar.word t) with
    | some n => some (.mk 3 A [] n [], Ar.rest t)
    | none => none
  | 61 :: t => some (.mk 2 A (Ar.word t) 0 [], Ar.rest t)
  | _ => none
theorem elseR_is (A t : Bs) : elseR A (61 :: t) = some (.mk 2 A (Ar.word t) 0 [], Ar.rest t) := rfl
theorem elseR_more (A t : Bs) : elseR A (62 :: 61 :: t) = match Nt.intOf (Ar.word t) with | some n => some (.mk 3 A [] n [], Ar.rest t) | none => none := rfl
theorem elseR_no {A R : Bs} (h1 : ∀ t, R ≠ 62 :: 61 :: t) (h2 : ∀ t, R ≠ 61 :: t) : elseR A R = none := by
  unfold elseR
  split
  · rename_i t; exact absurd rfl (h1 t)
  · rename_i t; exact absurd rfl (h2 t)
  · rfl
def secR (k : Int) (a : Ask) (o : Option (Ask × Bs)) : Option (Ask × Bs) := match o with
  | some (b, 41 :: r2) => some (.mk k [] [] 0 [a, b], r2)
  | _ => none
theorem secR_no {k : Int} {a b : Ask} {r : Bs} (h : ∀ t, r ≠ 41 :: t) : secR k a (some (b, r)) = none := by
  unfold secR
  split
  · rename_i e; injection e with e; injection e with e1 e2; exact absurd e2 (h _)
  · rfl
def fstR (N : Nat) (a : Ask) (r : Bs) : Option (Ask × Bs) := match r with
  | 124 :: r' => secR 6 a (Ar.askR N r')
  | 38 :: r' => secR 5 a (Ar.askR N r')
  | _ => none
theorem fstR_no {N : Nat} {a : Ask} {r : Bs} (h1 : ∀ t, r ≠ 124 :: t) (h2 : ∀ t, r ≠ 38 :: t) : fstR N a r = none := by
  unfold fstR
  split
  · rename_i t; exact absurd rfl (h1 t)
  · rename_i t; exact absurd rfl (h2 t)
  · rfl
theorem askR_nil (N : Nat) : Ar.askR (N + 1) [] = none := by rw [Ar.askR]
theorem askR_has (N : Nat) (t : Bs) : Ar.askR (N + 1) (63 :: t) = some (.mk 1 (Ar.word t) [] 0 [], Ar.rest t) := by rw [Ar.askR]
theorem askR_not (N : Nat) (t : Bs) : Ar.askR (N + 1) (33 :: t) = match Ar.askR N t with | none => none | some (y, r) => some (.mk 4 [] [] 0 [y], r) := by
  rw [Ar.askR]
  cases Ar.askR N t with
  | none => rfl
  | some p => rfl
theorem askR_two (N : Nat) (t : Bs) : Ar.askR (N + 1) (40 :: t) = match Ar.askR N t with | none => none | some (a, r) => fstR N a r := by
  rw [Ar.askR]
  cases Ar.askR N t with
  | none => rfl
  | some p => rfl
theorem tree_oneA {S c B : Nat} {W : World} {y : Ask} {x0 x3 : Int} {x1 x2 : ByteArray} {xd : Option Addr} {xl xc : Nat} {t' : TypeId} (hS : S ≤ W.heap.size) (hc : c < S) (hB : B ≤ S)
    (HX : AskVP (fun b => S ≤ b) W y (.agg #[.int .i64 x0, .string x1, .string x2, .int .i64 x3, .slice xd xl xc])) (v0 v1 v2 v3 v4 : Value) :
    AskVP (fun b => B ≤ b) (five (W.alloc (.cells #[.int .i64 x0, .string x1, .string x2, .int .i64 x3, .slice xd xl xc] t')) c v0 v1 v2 v3 v4) (.mk 4 [] [] 0 [y]) (.agg #[.int .i64 4, .string ⟨#[]⟩, .string ⟨#[]⟩, .int .i64 0, .slice (some ⟨W.heap.size, 0, none⟩) 1 1]) := by
  have hcell : ∀ i, (five (W.alloc (.cells #[.int .i64 x0, .string x1, .string x2, .int .i64 x3, .slice xd xl xc] t')) c v0 v1 v2 v3 v4).cell? ⟨W.heap.size, i, none⟩ = (#[.int .i64 x0, .string x1, .string x2, .int .i64 x3, .slice xd xl xc] : Array Value)[i]? := fun i => (cell_of_block (p := ⟨W.heap.size, i, none⟩) (five_heap _ _ _ _ _ _ _ _ (by show W.heap.size ≠ c; omega))).trans (cell_top _ _ _ _ _ rfl)
  have hold : ∀ b, b ≠ c → b < W.heap.size → (five (W.alloc (.cells #[.int .i64 x0, .string x1, .string x2, .int .i64 x3, .slice xd xl xc] t')) c v0 v1 v2 v3 v4).heap[b]? = W.heap[b]? := fun b h1 hb => (five_heap _ _ _ _ _ _ _ b h1).trans (Below.heap_alloc _ _ _ hb)
  rw [AskVP]
  refine ⟨_, _, _, rfl, rfl, Nat.le_refl _, by omega, by simp, by simp, fun _ => ⟨_, _, rfl, by rw [five_size]; simp, by show B ≤ W.heap.size; omega, ?_⟩⟩
  rw [AsksVP, AsksVP]
  refine ⟨⟨.agg #[.int .i64 x0, .string x1, .string x2, .int .i64 x3, .slice xd xl xc], ⟨_, _, _, _, _, rfl, (hcell _).trans rfl, (hcell _).trans rfl, (hcell _).trans rfl, (hcell _).trans rfl, (hcell _).trans rfl⟩, ?_⟩, trivial⟩
  exact AskVP.stays (fun b h => Nat.le_trans hB h) (by rw [five_size]; simp) (fun b h hlt => hold b (by omega) hlt) _ _ HX
end Go.Proofs.YtkemlckmfgacdaaGreatDoor
