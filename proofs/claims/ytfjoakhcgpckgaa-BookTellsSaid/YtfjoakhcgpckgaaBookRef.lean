/- Contracts: what is booked at a time, are slots right, the most from a time to another; the document's. -/
import Derived.Test.YtfjoakhcgpckgaaBookCheck
namespace Go.Proofs.Ytfjoakhcgpckgaa
open Go.ChangeShapes Go.WideShapes Go.ChangeAt Go.RowKit
set_option linter.unusedVariables false
open Bk
namespace Bk
/-- the most from a to b -/
structure IsMost (L : List Sl) (a b m : Int) : Prop where
  all : ∀ t, a ≤ t → t < b → bk L t ≤ m
  is : ∃ t, a ≤ t ∧ t < b ∧ bk L t = m
theorem IsMost.uniq {L : List Sl} {a b m m' : Int} (h : IsMost L a b m) (h' : IsMost L a b m') : m = m' := by
  obtain ⟨t, h1, h2, h3⟩ := h.is
  obtain ⟨u, g1, g2, g3⟩ := h'.is
  have := h.all u g1 g2
  have := h'.all t h1 h2
  omega
structure MB (L : List Sl) (a b : Int) (j : Nat) (m : Int) : Prop where
  is : ∃ t, a ≤ t ∧ t < b ∧ bk L t = m
  low : bk L a ≤ m
  all : ∀ i s, i < j → L[i]? = some s → a ≤ s.fr → s.fr < b → bk L s.fr ≤ m
theorem MB.zero {L : List Sl} {a b : Int} (h : a < b) : MB L a b 0 (bk L a) := ⟨⟨a, Int.le_refl _, h, rfl⟩, Int.le_refl _, fun i s hi => absurd hi (by omega)⟩
theorem MB.skip {L : List Sl} {a b m : Int} {j : Nat} {s : Sl} (h : MB L a b j m) (hs : L[j]? = some s) (hn : ¬ (a ≤ s.fr ∧ s.fr < b)) : MB L a b (j + 1) m := ⟨h.is, h.low, fun i s' hi hs' h1 h2 => by
  by_cases e : i = j
  · subst e; rw [hs] at hs'; cases hs'; exact absurd ⟨h1, h2⟩ hn
  · exact h.all i s' (by omega) hs' h1 h2⟩
theorem MB.keep {L : List Sl} {a b m : Int} {j : Nat} {s : Sl} (h : MB L a b j m) (hs : L[j]? = some s) (hn : bk L s.fr ≤ m) : MB L a b (j + 1) m := ⟨h.is, h.low, fun i s' hi hs' h1 h2 => by
  by_cases e : i = j
  · subst e; rw [hs] at hs'; cases hs'; exact hn
  · exact h.all i s' (by omega) hs' h1 h2⟩
theorem MB.more {L : List Sl} {a b m : Int} {j : Nat} {s : Sl} (h : MB L a b j m) (hs : L[j]? = some s) (h1 : a ≤ s.fr) (h2 : s.fr < b) (hn : m < bk L s.fr) : MB L a b (j + 1) (bk L s.fr) := ⟨⟨_, h1, h2, rfl⟩, by have := h.low; omega, fun i s' hi hs' g1 g2 => by
  by_cases e : i = j
  · subst e; rw [hs] at hs'; cases hs'; exact Int.le_refl _
  · have := h.all i s' (by omega) hs' g1 g2; omega⟩
theorem MB.done {L : List Sl} {a b m : Int} (h : MB L a b L.length m) (hS : Sane L) : IsMost L a b m := ⟨fun t h1 h2 => by
  obtain ⟨u, u1, u2, u3, u4⟩ := bk_from hS h1
  rcases u3 with rfl | ⟨s, hs, rfl⟩
  · have := h.low; omega
  · obtain ⟨i, hi, rfl⟩ := List.getElem_of_mem hs
    have := h.all i _ hi (List.getElem?_eq_getElem hi) u1 (by omega)
    omega, h.is⟩
end Bk
set_option maxRecDepth 20000 in
set_option maxHeartbeats 2000000 in
theorem rBooked_any (L : List Sl) (t : Int) (a : Option Addr) (n cap : Nat) (w : World) (hn : n = L.length) (hl : n ≤ 101) (hS : Sane L) (hL : Slots w a L) :
    Calls Try.prog 165 #[.slice a n cap, .int .i64 t] w fun e w' => e = .returned (.int .i64 (bk L t)) ∧ Below w.heap.size w w' := by
  have HN := Lib.hid hn
  have HS := Lib.hid hS
  have HL := Lib.hid hL
  clear hn hS hL
  go_enter Try.func165, Try.ntmps165
  go_wp2_with fail
  go_loopg [5, 10] n (fun gk x y wr => ∃ j : Nat, j + gk = n ∧ y = .int .i64 (j : Int) ∧ x = .int .i64 (bk (L.take j) t) ∧ Hid (Below w.heap.size w wr))
  case atStart => exact ⟨0, by omega, rfl, by simp [bk], Lib.hid (Below.refl _ _)⟩
  case round =>
    obtain ⟨j, hj, rfl, rfl, HB⟩ := hrel
    by_cases hjn : j < n
    · obtain ⟨s, hs⟩ : ∃ s, L[j]? = some s := ⟨_, List.getElem?_eq_getElem (by have := HN.out; omega)⟩
      obtain ⟨b, off, rfl, hb, hat⟩ := HL.out (by have := HN.out; omega)
      obtain ⟨q0, q1, q2⟩ := (hat.below HB.out hb) j s hs
      have hbr : b < wr.heap.size := Nat.lt_of_lt_of_le hb HB.out.size
      have HX := Lib.hid hs
      have hj1 : (0 : Int) ≤ (j : Int) := by omega
      have hj2 : (j : Int) < (n : Int) := by omega
      have HBA : Hid (Below w.heap.size w (wr.alloc (.cells #[.int .i64 s.fr, .int .i64 s.to, .int .i64 s.n] 130))) := Lib.hid (HB.out.alloc HB.out.size _)
      have HSUC := Lib.hid (bk_take hs t)
      obtain ⟨v, hv⟩ : ∃ v, bk (L.take j) t = v := ⟨_, rfl⟩
      have hvb := bk_small HS.out (by have := HN.out; omega) j t
      rw [hv] at hvb HSUC ⊢
      have hsb := (HS.out.at' HX.out).2.2.2
      clear hat hs hv
      by_cases hon1 : s.fr ≤ t
      · by_cases hon2 : t < s.to
        · have HQ : Hid (bk (L.take (j + 1)) t = v + s.n) := Lib.hid (by rw [HSUC.out, on, if_pos ⟨hon1, hon2⟩])
          have hw : IntKind.i64.wrap (v + s.n) = v + s.n := IntWalk.i64_in _ (by omega)
          go_wp2_with fail
          go_roundg (n - (j + 1))
          case measure => omega
          case rel => exact ⟨j + 1, by omega, by simp, by rw [HQ.out], HBA⟩
        · have HQ : Hid (bk (L.take (j + 1)) t = v) := Lib.hid (by rw [HSUC.out, on, if_neg (fun h => hon2 h.2), Int.add_zero])
          go_wp2_with fail
          go_roundg (n - (j + 1))
          case measure => omega
          case rel => exact ⟨j + 1, by omega, by simp, by rw [HQ.out], HBA⟩
      · have HQ : Hid (bk (L.take (j + 1)) t = v) := Lib.hid (by rw [HSUC.out, on, if_neg (fun h => hon1 h.1), Int.add_zero])
        go_wp2_with fail
        go_roundg (n - (j + 1))
        case measure => omega
        case rel => exact ⟨j + 1, by omega, by simp, by rw [HQ.out], HBA⟩
    · obtain rfl : j = n := by omega
      have HTK : Hid (L.take j = L) := Lib.hid (by rw [HN.out, List.take_length])
      rw [HTK.out]
      go_wp2_with fail
      go_ret
      exact ⟨rfl, HB.out⟩
theorem rFault1_any (size : Int) (s : Sl) (w : World) :
    Calls Try.prog 164 #[.int .i64 size, .agg #[.int .i64 s.fr, .int .i64 s.to, .int .i64 s.n]] w fun e w' => e = .returned (.int .i64 (if slB size s then 0 else 4)) ∧ Below w.heap.size w w' := by
  have HB : Hid (Below w.heap.size w (w.alloc (.cells #[.int .i64 s.fr, .int .i64 s.to, .int .i64 s.n] 130))) := Lib.hid ((Below.refl _ _).alloc (Nat.le_refl _) _)
  cases hg : slB size s with
  | true =>
    obtain ⟨r1, r2, r3, r4, r5⟩ := slB_yes hg
    clear hg
    go_enter Try.func164, Try.ntmps164
    go_wp2_with fail
    go_ret
    exact ⟨rfl, HB.out⟩
  | false =>
    have hcase : s.fr < 0 ∨ (0 ≤ s.fr ∧ 1000000 < s.to) ∨ (0 ≤ s.fr ∧ s.to ≤ 1000000 ∧ s.to ≤ s.fr) ∨ (0 ≤ s.fr ∧ s.to ≤ 1000000 ∧ s.fr < s.to ∧ s.n < 1) ∨ (0 ≤ s.fr ∧ s.to ≤ 1000000 ∧ s.fr < s.to ∧ 1 ≤ s.n ∧ size < s.n) := by
      have := slB_no hg
      omega
    clear hg
    rcases hcase with p1 | ⟨p1, p2⟩ | ⟨p1, p2, p3⟩ | ⟨p1, p2, p3, p4⟩ | ⟨p1, p2, p3, p4, p5⟩
    all_goals
      go_enter Try.func164, Try.ntmps164
      go_wp2_with fail
      go_ret
      exact ⟨rfl, HB.out⟩
/-- none of the first j has too much at its begin -/
def NoOver (size : Int) (L : List Sl) (j : Nat) : Prop := ∀ i s, i < j → L[i]? = some s → bk L s.fr ≤ size
theorem NoOver.zero (size : Int) (L : List Sl) : NoOver size L 0 := fun i s h _ => absurd h (by omega)
theorem NoOver.succ {size : Int} {L : List Sl} {j : Nat} {s : Sl} (h : NoOver size L j) (hi : L[j]? = some s) (hb : bk L s.fr ≤ size) : NoOver size L (j + 1) := fun i s' h1 h2 => by
  by_cases e : i = j
  · subst e; rw [hi] at h2; cases h2; exact hb
  · exact h i s' (by omega) h2
theorem NoOver.all {size : Int} {L : List Sl} (h : NoOver size L L.length) : overB size L = false := by
  cases ho : overB size L with
  | false => rfl
  | true =>
    obtain ⟨s, hs, h1⟩ := List.any_eq_true.1 ho
    obtain ⟨i, hi, rfl⟩ := List.getElem_of_mem hs
    have := h i _ hi (List.getElem?_eq_getElem hi)
    simp at h1
    omega
set_option maxRecDepth 20000 in
set_option maxHeartbeats 4000000 in
theorem rSlots_any (size : Int) (L : List Sl) (a : Option Addr) (n cap : Nat) (w : World) (hn : n = L.length) (hmax : n ≤ 9223372036854775807) (hL : Slots w a L) :
    Calls Try.prog 85 #[.int .i64 size, .slice a n cap] w fun e w' => e = .returned (.int .i64 (slotsE size L)) ∧ Below w.heap.size w w' := by
  have HL := Lib.hid hL
  have HN := Lib.hid hn
  clear hL hn
  by_cases hz : size < 1 ∨ 1099511627776 < size
  · have HV := Lib.hid (show (1 : Int) = slotsE size L from by rw [slotsE, if_pos hz])
    have hcase : size < 1 ∨ (1 ≤ size ∧ 1099511627776 < size) := by omega
    clear hz
    rcases hcase with p1 | ⟨p1, p2⟩
    all_goals
      go_enter Try.func85, Try.ntmps85
      go_wp2_with fail
      go_ret
      exact ⟨ret_int HV.out, by go_grown⟩
  obtain ⟨z0, z1⟩ : 1 ≤ size ∧ size ≤ 1099511627776 := by omega
  clear hz
  by_cases h100 : 100 < n
  · have HV := Lib.hid (show (2 : Int) = slotsE size L from by rw [slotsE, if_neg (by omega), if_pos (by have := HN.out; omega)])
    have h100' : (n : Int) > 100 := by omega
    go_enter Try.func85, Try.ntmps85
    go_wp2_with fail
    go_ret
    exact ⟨ret_int HV.out, by go_grown⟩
  have h100' : n ≤ 100 := by omega
  have h100b : ¬ (n : Int) > 100 := by omega
  clear h100
  go_enter Try.func85, Try.ntmps85
  go_wp2_with fail
  go_loopw [21] (fun i wr => ∃ j : Nat, j ≤ n ∧ i = .int .i64 j ∧ Hid (GoodS size L j) ∧ Below w.heap.size w wr) (fun i _ => n - (intOf i).toNat)
  case atStart => exact ⟨0, by omega, rfl, Lib.hid (GoodS.zero size L), Below.refl _ _⟩
  case round =>
    obtain ⟨j, hj, rfl, HG, hB⟩ := hrel
    by_cases hlt : j < n
    · obtain ⟨b, off, rfl, hb, hat⟩ := HL.out (by have := HN.out; omega)
      obtain ⟨s, hx⟩ : ∃ x, L[j]? = some x := ⟨_, List.getElem?_eq_getElem (by have := HN.out; omega)⟩
      obtain ⟨q0, q1, q2⟩ := hat.below hB hb j s hx
      have HX := Lib.hid hx
      have hbr : b < wr.heap.size := Nat.lt_of_lt_of_le hb hB.size
      have hsz := hB.size
      clear hat hx
      cases hg : slB size s with
      | true =>
        have HI := Lib.hid (HG.out.succ HX.out hg)
        have HC := Lib.hid (fun w2 => rFault1_any size s w2)
        rw [hg] at HC
        clear hg
        go_wp2_with (go_at_call 164; refine Calls.mono (HC.out _) ?_; rintro e w3 ⟨rfl, h1⟩; have HB3 := Lib.hid ((hB.alloc hsz _).trans (h1.mono (by simp; omega))); clear h1)
        go_roundw
        case rel => exact ⟨j + 1, by omega, rfl, HI, HB3.out⟩
        case measure => simp [intOf]; omega
      | false =>
        have HI := Lib.hid (slotsE_bad (by omega) (by have := HN.out; omega) HX.out hg).symm
        have HC := Lib.hid (fun w2 => rFault1_any size s w2)
        rw [hg] at HC
        clear hg
        go_wp2_with (go_at_call 164; refine Calls.mono (HC.out _) ?_; rintro e w3 ⟨rfl, h1⟩; have HB3 := Lib.hid ((hB.alloc hsz _).trans (h1.mono (by simp; omega))); clear h1)
        go_ret
        exact ⟨ret_int HI.out, HB3.out⟩
    · have HA : Hid (L.all (slB size) = true) := Lib.hid (by
        have e : j = L.length := by have := HN.out; omega
        exact GoodS.all (e ▸ HG.out))
      have HV := Lib.hid (slotsE_fin (by omega) (by have := HN.out; omega) HA.out)
      have HS := Lib.hid (slots_sane HA.out z1)
      have HB1 := Lib.hid hB
      clear hB
      go_wp2_with fail
      go_loopw [34] (fun i wr => ∃ j : Nat, j ≤ n ∧ i = .int .i64 j ∧ Hid (NoOver size L j) ∧ Below w.heap.size w wr) (fun i _ => n - (intOf i).toNat)
      case atStart => exact ⟨0, by omega, rfl, Lib.hid (NoOver.zero size L), HB1.out⟩
      case round =>
        clear HB1
        obtain ⟨m, hm, rfl, HO, hB⟩ := hrel
        by_cases hlt2 : m < n
        · obtain ⟨b, off, rfl, hb, hat⟩ := HL.out (by have := HN.out; omega)
          obtain ⟨s, hx⟩ : ∃ x, L[m]? = some x := ⟨_, List.getElem?_eq_getElem (by have := HN.out; omega)⟩
          obtain ⟨q0, q1, q2⟩ := hat.below hB hb m s hx
          have HX := Lib.hid hx
          have hbr : b < wr.heap.size := Nat.lt_of_lt_of_le hb hB.size
          have hsz := hB.size
          have HBA : Hid (Below w.heap.size w (wr.alloc (.cells #[.int .i64 s.fr, .int .i64 s.to, .int .i64 s.n] 130))) := Lib.hid (hB.alloc hsz _)
          have HC := Lib.hid (rBooked_any L s.fr (some ⟨b, off, none⟩) n cap _ HN.out (by omega) HS.out (HL.out.below HBA.out (Nat.le_refl _)))
          obtain ⟨v, hv⟩ : ∃ v, bk L s.fr = v := ⟨_, rfl⟩
          rw [hv] at HC
          have HVV := Lib.hid hv
          clear hat hx hv
          by_cases ho : size < v
          · have HOV : Hid (overB size L = true) := Lib.hid (List.any_eq_true.2 ⟨s, List.mem_of_getElem? HX.out, by rw [HVV.out]; simpa using ho⟩)
            go_wp2_with (go_at_call 165; refine Calls.mono HC.out ?_; rintro e w3 ⟨rfl, h1⟩; have HB3 := Lib.hid (HBA.out.trans (h1.mono HBA.out.size)); clear h1)
            go_ret
            exact ⟨ret_int (by rw [HV.out, HOV.out]; rfl), HB3.out⟩
          · have HI := Lib.hid (HO.out.succ HX.out (by rw [HVV.out]; omega))
            go_wp2_with (go_at_call 165; refine Calls.mono HC.out ?_; rintro e w3 ⟨rfl, h1⟩; have HB3 := Lib.hid (HBA.out.trans (h1.mono HBA.out.size)); clear h1)
            go_roundw
            case rel => exact ⟨m + 1, by omega, rfl, HI, HB3.out⟩
            case measure => simp [intOf]; omega
        · have HOV : Hid (overB size L = false) := Lib.hid (by
            have e : m = L.length := by have := HN.out; omega
            exact NoOver.all (e ▸ HO.out))
          go_wp2_with fail
          go_ret
          exact ⟨ret_int (by rw [HV.out, HOV.out]; rfl), hB⟩
set_option maxRecDepth 20000 in
set_option maxHeartbeats 4000000 in
theorem rMost_any (L : List Sl) (x y : Int) (a : Option Addr) (n cap : Nat) (w : World) (hn : n = L.length) (hl : n ≤ 101) (hS : Sane L) (hL : Slots w a L) (hxy : x < y) :
    Calls Try.prog 87 #[.slice a n cap, .int .i64 x, .int .i64 y] w fun e w' => ∃ m, e = .returned (.int .i64 m) ∧ IsMost L x y m ∧ Below w.heap.size w w' := by
  have HN := Lib.hid hn
  have HS := Lib.hid hS
  have HL := Lib.hid hL
  have HM0 := Lib.hid (MB.zero (L := L) hxy)
  clear hn hS hL
  go_enter Try.func87, Try.ntmps87
  go_wp2_with (go_at_call 165; refine Calls.mono (rBooked_any L x a n cap w HN.out hl HS.out HL.out) ?_; rintro e w1 ⟨rfl, h1⟩; have HB1 := Lib.hid h1; clear h1)
  go_loopg [7, 15] n (fun gk u v wr => ∃ (j : Nat) (m : Int), j + gk = n ∧ v = .int .i64 (j : Int) ∧ u = .int .i64 m ∧ Hid (MB L x y j m) ∧ Hid (Below w.heap.size w wr))
  case atStart => exact ⟨0, bk L x, by omega, rfl, rfl, HM0, HB1⟩
  case round =>
    clear HB1 HM0
    obtain ⟨j, m, hj, rfl, rfl, HM, HB⟩ := hrel
    by_cases hjn : j < n
    · obtain ⟨s, hs⟩ : ∃ s, L[j]? = some s := ⟨_, List.getElem?_eq_getElem (by have := HN.out; omega)⟩
      obtain ⟨b, off, rfl, hb, hat⟩ := HL.out (by have := HN.out; omega)
      obtain ⟨q0, q1, q2⟩ := (hat.below HB.out hb) j s hs
      have hbr : b < wr.heap.size := Nat.lt_of_lt_of_le hb HB.out.size
      have HX := Lib.hid hs
      have hj1 : (0 : Int) ≤ (j : Int) := by omega
      have hj2 : (j : Int) < (n : Int) := by omega
      have HBA : Hid (Below w.heap.size w (wr.alloc (.cells #[.int .i64 s.fr, .int .i64 s.to, .int .i64 s.n] 130))) := Lib.hid (HB.out.alloc HB.out.size _)
      have HC := Lib.hid (rBooked_any L s.fr (some ⟨b, off, none⟩) n cap _ HN.out hl HS.out (HL.out.below HBA.out (Nat.le_refl _)))
      clear hat hs
      by_cases h1 : x ≤ s.fr
      · by_cases h2 : s.fr < y
        · obtain ⟨v, hv⟩ : ∃ v, bk L s.fr = v := ⟨_, rfl⟩
          rw [hv] at HC
          have hcase : v < m ∨ v = m ∨ m < v := by omega
          have HVV := Lib.hid hv
          clear hv
          rcases hcase with hc | hc | hc
          · have HQ := Lib.hid (HM.out.keep HX.out (by rw [HVV.out]; omega))
            go_wp2_with (go_at_call 165; refine Calls.mono HC.out ?_; rintro e w3 ⟨rfl, h1⟩; have HB3 := Lib.hid (HBA.out.trans (h1.mono HBA.out.size)); clear h1)
            go_roundg (n - (j + 1))
            case measure => omega
            case rel => exact ⟨j + 1, m, by omega, by simp, by first | rfl | (congr 1; omega), HQ, HB3⟩
          · subst hc
            have HQ := Lib.hid (HM.out.keep HX.out (by rw [HVV.out]; exact Int.le_refl _))
            go_wp2_with (go_at_call 165; refine Calls.mono HC.out ?_; rintro e w3 ⟨rfl, h1⟩; have HB3 := Lib.hid (HBA.out.trans (h1.mono HBA.out.size)); clear h1)
            go_roundg (n - (j + 1))
            case measure => omega
            case rel => exact ⟨j + 1, v, by omega, by simp, by first | rfl | (congr 1; omega), HQ, HB3⟩
          · have HQ := Lib.hid (HM.out.more HX.out h1 h2 (by rw [HVV.out]; omega))
            rw [HVV.out] at HQ
            go_wp2_with (go_at_call 165; refine Calls.mono HC.out ?_; rintro e w3 ⟨rfl, h1⟩; have HB3 := Lib.hid (HBA.out.trans (h1.mono HBA.out.size)); clear h1)
            go_roundg (n - (j + 1))
            case measure => omega
            case rel => exact ⟨j + 1, v, by omega, by simp, by first | rfl | (congr 1; omega), HQ, HB3⟩
        · have HQ := Lib.hid (HM.out.skip HX.out (fun h => h2 h.2))
          go_wp2_with fail
          go_roundg (n - (j + 1))
          case measure => omega
          case rel => exact ⟨j + 1, m, by omega, by simp, rfl, HQ, HBA⟩
      · have HQ := Lib.hid (HM.out.skip HX.out (fun h => h1 h.1))
        go_wp2_with fail
        go_roundg (n - (j + 1))
        case measure => omega
        case rel => exact ⟨j + 1, m, by omega, by simp, rfl, HQ, HBA⟩
    · obtain rfl : j = n := by omega
      have HD : Hid (IsMost L x y m) := Lib.hid ((HN.out ▸ HM.out).done HS.out)
      go_wp2_with fail
      go_ret
      exact ⟨m, rfl, HD.out, HB.out⟩
end Go.Proofs.Ytfjoakhcgpckgaa
