/- Contract: the document's front: a text up to one of some signs. -/
import Derived.Test.YtddcaabhbbdbpaaDoorAskWord
import Derived.Test.YtddcaabhbbdbpaaDoorNeedRd0
import Derived.BigQuiet
import Derived.Deep.QuietTactic
import Derived.Deep.LoopGhost
import Derived.Deep.CutBlock
import Derived.Deep.DeepCutAuto
namespace Go.Proofs.YtddcaabhbbdbpaaDoor
open Go.ChangeShapes Go.WideShapes Go.ChangeAt Go.RowKit
set_option linter.unusedVariables false
open Tp
/-- none of the signs stands ahead of place i -/
def NoSf (s : Bs) (i : Nat) : Prop := ∀ (j : Nat) (b : UInt8), j < i → s[j]? = some b → Ar.sgn b = false
theorem front_hit {s : Bs} {i : Nat} {b : UInt8} (h : NoSf s i) (hb : s[i]? = some b) (hs : Ar.sgn b = true) : Ar.word s = s.take i ∧ Ar.rest s = s.drop i := by
  have e : s = s.take i ++ s.drop i := (List.take_append_drop i s).symm
  have h1 : ∀ c, c ∈ s.take i → Ar.sgn c = false := fun c hc => by
    obtain ⟨j, hj, e2⟩ := List.mem_iff_getElem.1 hc
    have hj2 : j < i := by rw [List.length_take] at hj; omega
    refine h j c hj2 ?_
    rw [← e2, List.getElem_take]
    exact List.getElem?_eq_getElem _
  have h2 : Ar.Stop (s.drop i) := .inr ⟨b, s.drop (i + 1), drop_some hb, hs⟩
  have := Ar.word_stop h1 h2
  rwa [← e] at this
theorem front_none {s : Bs} (h : NoSf s s.length) : Ar.word s = s ∧ Ar.rest s = [] := by
  have h1 : ∀ c, c ∈ s → Ar.sgn c = false := fun c hc => by
    obtain ⟨j, hj, e2⟩ := List.mem_iff_getElem.1 hc
    exact h j c hj (by rw [← e2]; exact List.getElem?_eq_getElem _)
  have := Ar.word_stop h1 (.inl rfl : Ar.Stop [])
  rwa [List.append_nil] at this
theorem signs_at {k : Nat} {c : UInt8} (h : Ar.signs[k]? = some c) : Ar.sgn c = true := by
  rw [← Ar.sgn_signs, List.contains_iff_mem]
  exact List.mem_of_getElem? h
theorem signs_none {c : UInt8} (h : ∀ (k : Nat), k < 8 → Ar.signs[k]? ≠ some c) : Ar.sgn c = false := by
  rw [← Ar.sgn_signs]
  cases hc : Ar.signs.contains c with
  | false => rfl
  | true =>
    rw [List.contains_iff_mem] at hc
    obtain ⟨k, hk, e⟩ := List.mem_iff_getElem.1 hc
    exact absurd (by rw [← e]; exact List.getElem?_eq_getElem hk) (h k hk)
set_option maxRecDepth 100000 in
set_option maxHeartbeats 8000000 in
theorem front_any (s : Bs) (w : World) (hl : s.length ≤ 1099511627776) : Calls Tryd.prog 28 #[.string (bts s), .string (bts Ar.signs)] w fun e w' => e = .returned (.tuple #[.string (bts (Ar.word s)), .string (bts (Ar.rest s))]) ∧ Below w.heap.size w w' := by
  obtain ⟨S, hS⟩ : ∃ S, bts s = S := ⟨_, rfl⟩
  obtain ⟨G, hG⟩ : ∃ S, bts Ar.signs = S := ⟨_, rfl⟩
  obtain ⟨n, hn⟩ : ∃ n, S.size = n := ⟨_, rfl⟩
  have hns : s.length = n := by rw [← hn, ← hS, bts_size]
  have hG8 : G.size = 8 := by rw [← hG]; rfl
  have HS := Lib.hid hS
  have HG := Lib.hid hG
  have HNS := Lib.hid hns
  have HN := Lib.hid hn
  have HG8 := Lib.hid hG8
  obtain ⟨A, hA⟩ : ∃ A, bts (Ar.word s) = A := ⟨_, rfl⟩
  obtain ⟨R, hR⟩ : ∃ A, bts (Ar.rest s) = A := ⟨_, rfl⟩
  have HA := Lib.hid hA
  have HR := Lib.hid hR
  have hnI : (n : Int) ≤ 1099511627776 := by omega
  rw [hA, hR, hS, hG]
  clear hS hG hns hA hR hl
  go_enter Tryd.func28, Tryd.ntmps28
  go_wp2_with fail
  clear hn hG8
  go_loopg [10] n (fun g y wr => ∃ i : Nat, i + g = n ∧ y = .int .i64 (i : Int) ∧ Hid (NoSf s i) ∧ Hid (Below w.heap.size w wr))
  case atStart => exact ⟨0, by omega, rfl, Lib.hid (fun j b hj => absurd hj (by omega)), Lib.hid (Below.refl _ _)⟩
  case round =>
    obtain ⟨i, hig, rfl, HNO, HB⟩ := hrel
    have HIG := Lib.hid hig
    clear hig
    by_cases hin : i < n
    · have hi : i < S.size := by rw [HN.out]; exact hin
      obtain ⟨x, hx⟩ : ∃ x, s[i]? = some x := ⟨_, List.getElem?_eq_getElem (by rw [HNS.out]; exact hin)⟩
      have hc1 : S[i]'hi = x := lst_at (s := S) (by rw [← HS.out, lst_bts]; exact hx) hi
      have HX := Lib.hid hx
      have HIN := Lib.hid hin
      have hi1 : (0 : Int) ≤ (i : Int) := by omega
      have hi2 : (i : Int) < (n : Int) := by omega
      have hi3 : (i : Int) ≤ (n : Int) := by omega
      have hsz : S.size = n := HN.out
      have hgz : G.size = 8 := HG8.out
      clear hx hin
      go_wp2_with fail
      clear hsz hgz
      go_loopg [15] 8 (fun g y wr2 => ∃ k : Nat, k + g = 8 ∧ y = .int .i64 (k : Int) ∧ Hid (∀ j, j < k → Ar.signs[j]? ≠ some x) ∧ Hid (Below w.heap.size w wr2))
      case atStart => exact ⟨0, by omega, rfl, Lib.hid (fun j hj => absurd hj (by omega)), HB⟩
      case round =>
        obtain ⟨k, hk, rfl, HK, HB2⟩ := hrel
        have HKG := Lib.hid hk
        clear hk
        by_cases hk8 : k < 8
        · have hkG : k < G.size := by rw [HG8.out]; exact hk8
          obtain ⟨y, hy⟩ : ∃ y, Ar.signs[k]? = some y := ⟨_, List.getElem?_eq_getElem hk8⟩
          have hc2 : G[k]'hkG = y := lst_at (s := G) (by rw [← HG.out, lst_bts]; exact hy) hkG
          have HY := Lib.hid hy
          have hk1 : (0 : Int) ≤ (k : Int) := by omega
          have hk2 : (k : Int) < 8 := by omega
          have HK8 := Lib.hid hk8
          have hsz : S.size = n := HN.out
          have hgz : G.size = 8 := HG8.out
          by_cases hxy : x = y
          · have hcmp : ((x.toNat : Int) == (y.toNat : Int)) = true := by rw [hxy]; simp
            have HH := Lib.hid (front_hit HNO.out HX.out (by rw [hxy]; exact signs_at hy))
            have hx1 : S.extract 0 i = A := by rw [← HA.out, ← HS.out, HH.out.1]; exact Nr.ext_take s i
            have hx2 : S.extract i n = R := by rw [← HR.out, ← HS.out, HH.out.2, ← HNS.out]; exact Nr.ext_drop s i
            clear hy hk8 hxy
            go_wp2_with fail
            go_quiet (fail)
            go_wp2_with fail
            go_quiet (fail)
            go_wp2_with fail
            go_ret2
            exact ⟨rfl, below_drewN (below_drewN HB2.out _) _⟩
          · have hcmp : ((x.toNat : Int) == (y.toNat : Int)) = false := by
              simp only [beq_eq_false_iff_ne]
              intro e
              exact hxy (UInt8.toNat_inj.1 (by omega))
            have HK2 : Hid (∀ j, j < k + 1 → Ar.signs[j]? ≠ some x) := Lib.hid (fun j hj e => by
              rcases Nat.lt_or_ge j k with h | h
              · exact HK.out j h e
              · obtain rfl : j = k := by omega
                rw [HY.out] at e; cases e; exact hxy rfl)
            clear hy hk8 hxy
            go_wp2_with fail
            go_quiet (fail)
            go_wp2_with fail
            go_roundg (8 - (k + 1))
            case measure => (have := HKG.out; have := HK8.out; omega)
            case rel => exact ⟨k + 1, by have := HKG.out; have := HK8.out; omega, by simp, HK2, Lib.hid (below_drewN HB2.out _)⟩
        · obtain rfl : k = 8 := by have := HKG.out; omega
          have HN2 : Hid (NoSf s (i + 1)) := Lib.hid (fun j b hj hb => by
            rcases Nat.lt_or_ge j i with h | h
            · exact HNO.out j b h hb
            · obtain rfl : j = i := by omega
              rw [HX.out] at hb; cases hb
              exact signs_none HK.out)
          clear hk8
          go_wp2_with fail
          go_roundg (n - (i + 1))
          case measure => (have := HIG.out; have := HIN.out; omega)
          case rel => exact ⟨i + 1, by have := HIG.out; have := HIN.out; omega, by simp, HN2, HB2⟩
    · obtain rfl : i = n := by have := HIG.out; omega
      have HH := Lib.hid (front_none (s := s) (by rw [HNS.out]; exact HNO.out))
      have e1 : Hid (S = A) := Lib.hid (by rw [← HA.out, HH.out.1, HS.out])
      have e2 : Hid ((⟨#[]⟩ : ByteArray) = R) := Lib.hid (by rw [← HR.out, HH.out.2]; rfl)
      clear hin
      go_wp2_with fail
      go_ret2
      exact ⟨by rw [← e1.out, ← e2.out]; rfl, HB.out⟩
end Go.Proofs.YtddcaabhbbdbpaaDoor
