/- Contract: the document's count of pairs. -/
import Derived.Test.YtfjoakhcgpckgaaDoorMatchRef
namespace Go.Proofs.YtfjoakhcgpckgaaDoor
open Go.ChangeShapes Go.WideShapes Go.ChangeAt Go.RowKit
set_option linter.unusedVariables false
open Gr (El)
open Mt
/-- how many of the first q have somebody -/
def cntO (h : Hs) (m : Nat) : Nat → Nat
  | 0 => 0
  | q + 1 => cntO h m q + (if outK h m q = -1 then 0 else 1)
theorem cntO_le (h : Hs) (m : Nat) : ∀ q, cntO h m q ≤ q
  | 0 => Nat.le_refl _
  | q + 1 => by have := cntO_le h m q; unfold cntO; split <;> omega
def edB (L : El) (t i k : Nat) : Bool := decide (((i : Int), (k : Int)) ∈ L.take t)
theorem edB_next {L : El} {t i k : Nat} {x y : Int} (h : L[t]? = some (x, y)) : edB L (t + 1) i k = (edB L t i k || (x == (i : Int) && y == (k : Int))) := by
  unfold edB
  rw [List.take_add_one, h]
  simp only [Option.toList_some, List.mem_append, List.mem_singleton, Prod.mk.injEq]
  rw [Bool.eq_iff_iff]
  simp only [decide_eq_true_eq, Bool.or_eq_true, Bool.and_eq_true, beq_iff_eq]
  constructor
  · rintro (h | ⟨h1, h2⟩)
    · exact .inl h
    · exact .inr ⟨h1.symm, h2.symm⟩
  · rintro (h | ⟨h1, h2⟩)
    · exact .inl h
    · exact .inr ⟨h1.symm, h2.symm⟩
theorem outAt {w : World} {a : Option Addr} {n m : Nat} {h : Hs} (hv : Vals w a (outV n m h)) {q : Nat} (hq : q < n) : ∃ b off, a = some ⟨b, off, none⟩ ∧ b < w.heap.size ∧ ∀ j, j < n → w.cell? ⟨b, off + j, none⟩ = some (.int .i64 (outK h m j)) := by
  obtain ⟨b, off, h1, h2, h3⟩ := hv (by simp [outV]; omega)
  exact ⟨b, off, h1, h2, fun j hj => h3 j _ (by rw [outV, List.getElem?_map, List.getElem?_range hj]; rfl)⟩
set_option maxRecDepth 20000 in
set_option maxHeartbeats 3200000 in
theorem pairsOf_any (n m : Nat) (L : El) (h : Hs) (a : Option Addr) (l cap go : Nat) (w : World) (hn : n ≤ 60) (hm : m ≤ 60) (hl : l = L.length) (hl4 : l ≤ 400) (hL : Edges w a L) (hO2 : Ok2 n m L) (hO : Mt.Ok (Ed (Gr.rowN L)) n m h) (hV : Vals w (some ⟨go, 0, none⟩) (outV n m h)) :
    Calls Tryd.prog 10 #[.int .i64 (n : Int), .int .i64 (m : Int), .slice a l cap, .slice (some ⟨go, 0, none⟩) n n] w fun e w' => e = .returned (.int .i64 (cntO h m n : Int)) ∧ Below w.heap.size w w' := by
  have HL := Lib.hid hL
  have HN := Lib.hid hl
  have HV := Lib.hid hV
  have HO := Lib.hid hO
  have HED : Hid (∀ i k : Nat, h k = (i : Int) → ((i : Int), (k : Int)) ∈ L) := Lib.hid (fun i k e => (rowN_ed hO2 hn hm i k).1 (hO.edge k i e).2.2)
  have hnn : ((n : Int) != (n : Int)) = false := by simp
  clear hL hl hV hO hO2
  go_enter Tryd.func10, Tryd.ntmps10
  go_wp2_with fail
  go_loopg [9, 23] n (fun gk y x wr => ∃ q : Nat, q + gk = n ∧ x = .int .i64 (q : Int) ∧ y = .int .i64 (cntO h m q : Int) ∧ Hid (Below w.heap.size w wr))
  case atStart => exact ⟨0, by omega, rfl, rfl, Lib.hid (Below.refl _ _)⟩
  case round =>
    obtain ⟨q, hq, rfl, rfl, HB⟩ := hrel
    have hcl := cntO_le h m q
    obtain ⟨c, hc⟩ : ∃ c, cntO h m q = c := ⟨_, rfl⟩
    have HC := Lib.hid hc
    rw [hc] at hcl ⊢
    clear hc
    by_cases hqn : q < n
    · have hqn2 : (q : Int) < (n : Int) := by omega
      have hq0 : (0 : Int) ≤ (q : Int) := by omega
      obtain ⟨bo, oo, e0, hbo, hat⟩ := outAt HV.out hqn
      cases e0
      have HAT : Hid (∀ W, Below w.heap.size w W → ∀ j, j < n → W.cell? ⟨go, 0 + j, none⟩ = some (.int .i64 (outK h m j))) := Lib.hid (fun W hb j hj => (hb.cell (p := ⟨go, 0 + j, none⟩) hbo).trans (hat j hj))
      have c1 := HAT.out wr HB.out q hqn
      have hbw : go < wr.heap.size := by have := HB.out.size; omega
      rw [Nat.zero_add] at c1
      obtain ⟨y, hy⟩ : ∃ y, outK h m q = y := ⟨_, rfl⟩
      rw [hy] at c1
      have HY := Lib.hid hy
      by_cases hy1 : y = -1
      · subst hy1
        have HC2 : Hid ((cntO h m (q + 1) : Int) = (c : Int)) := Lib.hid (by unfold cntO; rw [HC.out, if_pos HY.out]; rfl)
        clear hy hat
        go_wp2_with fail
        go_roundg (gk - 1)
        case measure => omega
        case rel => exact ⟨q + 1, by omega, by simp, by rw [HC2.out], HB⟩
      · have hyb : (y == -1) = false := by simp [hy1]
        obtain ⟨k, hkm, hk1, hk2⟩ : ∃ k : Nat, k < m ∧ outK h m q = (k : Int) ∧ h k = (q : Int) := by
          rcases outK_spec h q m with ⟨h1, _⟩ | h2
          · rw [hy] at h1; exact (hy1 h1).elim
          · exact h2
        rw [hy] at hk1
        subst hk1
        have HC2 : Hid ((cntO h m (q + 1) : Int) = (c : Int) + 1) := Lib.hid (by
          have : ¬ outK h m q = -1 := by rw [hy]; exact hy1
          unfold cntO; rw [HC.out, if_neg this]; rfl)
        have HK := Lib.hid hk2
        have HE := Lib.hid (HED.out q k hk2)
        have HM0 : Hid (false = edB L 0 q k) := Lib.hid (by simp [edB])
        clear hy hat hk2 hy1
        obtain ⟨gq, rfl⟩ : ∃ g, g = gk := ⟨_, rfl⟩
        obtain ⟨wq, rfl⟩ : ∃ x, x = wr := ⟨_, rfl⟩
        go_wp2_with fail
        go_loopg [12, 32] l (fun gk y x wr => ∃ (t : Nat) (fl : Bool), t + gk = l ∧ x = .int .i64 (t : Int) ∧ y = .bool fl ∧ Hid (fl = edB L t q k) ∧ Hid (Below w.heap.size w wr))
        case atStart => exact ⟨0, false, by omega, rfl, rfl, HM0, HB⟩
        case round =>
          clear HM0 HB c1 hbw
          obtain ⟨t, fl, ht, rfl, rfl, HM, HB⟩ := hrel
          by_cases htl : t < l
          · have htl2 : (t : Int) < (l : Int) := by omega
            have ht0 : (0 : Int) ≤ (t : Int) := by omega
            obtain ⟨b, off, rfl, hb, hat⟩ := HL.out (by have := HN.out; omega)
            obtain ⟨⟨x, y⟩, hx⟩ : ∃ x, L[t]? = some x := ⟨_, List.getElem?_eq_getElem (by have := HN.out; omega)⟩
            obtain ⟨q0, q1⟩ := hat.below HB.out hb t x y hx
            have hbr : b < wr.heap.size := Nat.lt_of_lt_of_le hb HB.out.size
            have HX := Lib.hid (edB_next (i := q) (k := k) hx)
            have HB2 := Lib.hid (HB.out.alloc HB.out.size (.cells #[.int .i64 x, .int .i64 y] 34))
            clear hat hx
            cases fl with
            | true =>
              have HM2 : Hid (true = edB L (t + 1) q k) := Lib.hid (by rw [HX.out, ← HM.out]; rfl)
              go_wp2_with fail
              go_roundg (gk - 1)
              case measure => omega
              case rel => exact ⟨t + 1, true, by omega, by simp, rfl, HM2, HB2⟩
            | false =>
              by_cases hxq : x = (q : Int)
              · by_cases hyk : y = (k : Int)
                · have e1 : (x == (q : Int)) = true := by simp [hxq]
                  have e2 : (y == (k : Int)) = true := by simp [hyk]
                  have HM2 : Hid (true = edB L (t + 1) q k) := Lib.hid (by rw [HX.out, e1, e2]; simp)
                  clear hxq hyk
                  go_wp2_with fail
                  go_roundg (gk - 1)
                  case measure => omega
                  case rel => exact ⟨t + 1, true, by omega, by simp, rfl, HM2, HB2⟩
                · have e1 : (x == (q : Int)) = true := by simp [hxq]
                  have e2 : (y == (k : Int)) = false := by simp [hyk]
                  have HM2 : Hid (false = edB L (t + 1) q k) := Lib.hid (by rw [HX.out, e1, e2, ← HM.out]; rfl)
                  clear hxq hyk
                  go_wp2_with fail
                  go_roundg (gk - 1)
                  case measure => omega
                  case rel => exact ⟨t + 1, false, by omega, by simp, rfl, HM2, HB2⟩
              · have e1 : (x == (q : Int)) = false := by simp [hxq]
                have HM2 : Hid (false = edB L (t + 1) q k) := Lib.hid (by rw [HX.out, e1, ← HM.out]; rfl)
                clear hxq
                go_wp2_with fail
                go_roundg (gk - 1)
                case measure => omega
                case rel => exact ⟨t + 1, false, by omega, by simp, rfl, HM2, HB2⟩
          · obtain rfl : t = l := by omega
            have htl2 : ¬ (t : Int) < (t : Int) := by omega
            have hfl : fl = true := by
              rw [HM.out, edB, List.take_of_length_le (by have := HN.out; omega), decide_eq_true_eq]
              exact HE.out
            subst hfl
            have hqn3 : (q : Int) ≤ (n : Int) := by omega
            obtain ⟨ww, rfl⟩ : ∃ x, x = wr := ⟨_, rfl⟩
            have hq61 : q ≤ n := by omega
            go_wp2_with fail
            go_loopg [12, 49] q (fun gk y x wr => ∃ j : Nat, j + gk = q ∧ x = .int .i64 (j : Int) ∧ y = .bool true ∧ wr = ww)
            case atStart => exact ⟨0, by omega, rfl, rfl, rfl⟩
            case round =>
              obtain ⟨j, hj, rfl, rfl, rfl⟩ := hrel
              by_cases hjq : j < q
              · have hjq2 : (j : Int) < (q : Int) := by omega
                have hj0 : (0 : Int) ≤ (j : Int) := by omega
                have c2 := HAT.out wr HB.out j (by omega)
                rw [Nat.zero_add] at c2
                have hgw : go < wr.heap.size := by have := HB.out.size; omega
                obtain ⟨z, hz⟩ : ∃ z, outK h m j = z := ⟨_, rfl⟩
                rw [hz] at c2
                have hzk : (z != (k : Int)) = true := by
                  rw [bne_iff_ne]
                  intro e
                  rcases outK_spec h j m with ⟨h1, _⟩ | ⟨k', _, h1, h2⟩
                  · rw [hz] at h1; omega
                  · rw [hz, e] at h1
                    have e2 := Int.ofNat_inj.1 h1
                    subst e2
                    rw [HK.out] at h2
                    omega
                clear hz
                go_wp2_with fail
                go_roundg (gk - 1)
                case measure => omega
                case rel => exact ⟨j + 1, by omega, by simp, rfl, rfl⟩
              · obtain rfl : j = q := by omega
                have hjq2 : ¬ (j : Int) < (j : Int) := by omega
                have wc : IntKind.i64.wrap ((c : Int) + 1) = (c : Int) + 1 := IntWalk.i64_in _ (by omega)
                go_wp2_with fail
                go_roundg (gq - 1)
                case measure => omega
                case rel => exact ⟨j + 1, by omega, by simp, by rw [HC2.out], HB⟩
    · obtain rfl : q = n := by omega
      have hqn2 : ¬ (q : Int) < (q : Int) := by omega
      go_wp2_with fail
      go_ret
      exact ⟨by rw [HC.out]; rfl, HB.out⟩
end Go.Proofs.YtfjoakhcgpckgaaDoor
