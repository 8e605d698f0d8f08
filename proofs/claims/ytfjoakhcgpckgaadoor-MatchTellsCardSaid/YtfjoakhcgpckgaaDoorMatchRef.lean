/- Contracts: what the law asks of rows of numbers. -/
import Derived.Test.YtfjoakhcgpckgaaDoorMatchOps
namespace Go.Proofs.YtfjoakhcgpckgaaDoor
open Go.ChangeShapes Go.WideShapes Go.ChangeAt Go.RowKit
set_option linter.unusedVariables false
open Gr (El)
open Mt
theorem natAt {w : World} {a : Option Addr} {l : List Nat} (h : Vals w a (nats l)) {q x : Nat} (hq : l[q]? = some x) : ∃ b off, a = some ⟨b, off, none⟩ ∧ b < w.heap.size ∧ w.cell? ⟨b, off + q, none⟩ = some (.int .i64 (x : Int)) := by
  have hl : 0 < (nats l).length := by rw [nats_length]; have := (List.getElem?_eq_some_iff.1 hq).1; omega
  obtain ⟨b, off, h1, h2, h3⟩ := h hl
  exact ⟨b, off, h1, h2, h3 q _ (by rw [nats, List.getElem?_map, hq]; rfl)⟩
set_option maxRecDepth 20000 in
set_option maxHeartbeats 1600000 in
theorem rising_any (l : List Nat) (n : Nat) (v : Value) (w : World) (hv : IsVals w v (nats l)) (hl : l.length ≤ 64) (hn : n ≤ 60) (hb : ∀ x, x ∈ l → x < n) (hp : l.Pairwise (· < ·)) :
    Calls Tryd.prog 12 #[v, .int .i64 (n : Int)] w fun e w' => e = .returned (.bool true) ∧ w' = w := by
  obtain ⟨a, cap, rfl, hV⟩ := hv
  rw [nats_length]
  have HV := Lib.hid hV
  have HB := Lib.hid hb
  have HP := Lib.hid hp
  obtain ⟨k, hk⟩ : ∃ k, l.length = k := ⟨_, rfl⟩
  have HK := Lib.hid hk
  rw [hk] at hl ⊢
  clear hV hb hp hk
  go_enter Tryd.func12, Tryd.ntmps12
  go_wp2_with fail
  go_loopg [9] k (fun gk x wr => ∃ q : Nat, q + gk = k ∧ x = .int .i64 (q : Int) ∧ wr = w)
  case atStart => exact ⟨0, by omega, rfl, rfl⟩
  case round =>
    obtain ⟨q, hq, rfl, rfl⟩ := hrel
    by_cases hqk : q < k
    · have hqk2 : (q : Int) < (k : Int) := by omega
      have hq0 : (0 : Int) ≤ (q : Int) := by omega
      obtain ⟨x, hx⟩ : ∃ x, l[q]? = some x := ⟨_, List.getElem?_eq_getElem (by have := HK.out; omega)⟩
      have hxn := HB.out x (List.mem_of_getElem? hx)
      obtain ⟨b, off, rfl, hb, c1⟩ := natAt HV.out hx
      have e1 : decide ((x : Int) < 0) = false := by simp
      have e2 : decide ((n : Int) ≤ (x : Int)) = false := by simp; omega
      by_cases hq1 : q = 0
      · subst hq1
        rw [Nat.add_zero] at c1
        clear hx
        go_wp2_with fail
        go_roundg (gk - 1)
        case measure => omega
        case rel => exact ⟨1, by omega, by simp, rfl⟩
      · obtain ⟨p, hp⟩ : ∃ p, p + 1 = q := ⟨q - 1, by omega⟩
        obtain ⟨y, hy⟩ : ∃ y, l[p]? = some y := ⟨_, List.getElem?_eq_getElem (by have := HK.out; omega)⟩
        obtain ⟨b', off', e9, hb', c2⟩ := natAt HV.out hy
        cases e9
        have hyx : y < x := by
          obtain ⟨h1, h2⟩ := List.getElem?_eq_some_iff.1 hy
          obtain ⟨h3, h4⟩ := List.getElem?_eq_some_iff.1 hx
          have := List.pairwise_iff_getElem.1 HP.out p q h1 h3 (by omega)
          omega
        have e3 : decide ((x : Int) ≤ (y : Int)) = false := by simp; omega
        have e4 : IntKind.i64.wrap ((q : Int) - 1) = (p : Int) := by rw [IntWalk.i64_in _ (by omega)]; omega
        have e5 : decide ((0 : Int) < (q : Int)) = true := by simp; omega
        have e6 : (p : Int) < (k : Int) := by omega
        have e7 : (0 : Int) ≤ (p : Int) := by omega
        have HPQ := Lib.hid hp
        clear hx hy hp
        go_wp2_with fail
        go_roundg (gk - 1)
        case measure => omega
        case rel => exact ⟨q + 1, by omega, by simp, rfl⟩
    · obtain rfl : q = k := by omega
      have hqk2 : ¬ (q : Int) < (q : Int) := by omega
      go_wp2_with fail
      go_ret
      exact ⟨rfl, rfl⟩
def IxP (l : List Nat) (x : Nat) (e : Ending) : Prop := ∃ z : Int, e = .returned (.int .i64 z) ∧ (decide ((0 : Int) ≤ z) = decide (x ∈ l))
set_option maxRecDepth 20000 in
set_option maxHeartbeats 1600000 in
theorem indexN_any (l : List Nat) (x : Nat) (v : Value) (w : World) (hv : IsVals w v (nats l)) (hl : l.length ≤ 1000) :
    Calls Tryd.prog 29 #[v, .int .i64 (x : Int)] w fun e w' => IxP l x e ∧ w' = w := by
  obtain ⟨a, cap, rfl, hV⟩ := hv
  rw [nats_length]
  have HV := Lib.hid hV
  obtain ⟨k, hk⟩ : ∃ k, l.length = k := ⟨_, rfl⟩
  have HK := Lib.hid hk
  rw [hk] at hl ⊢
  clear hV hk
  go_enter Tryd.func29, Tryd.ntmps29
  go_wp2_with fail
  go_loopg [8] k (fun gk y wr => ∃ q : Nat, q + gk = k ∧ y = .int .i64 (q : Int) ∧ Hid (x ∉ l.take q) ∧ wr = w)
  case atStart => exact ⟨0, by omega, rfl, Lib.hid (by simp), rfl⟩
  case round =>
    obtain ⟨q, hq, rfl, HN, rfl⟩ := hrel
    by_cases hqk : q < k
    · have hqk2 : (q : Int) < (k : Int) := by omega
      have hq0 : (0 : Int) ≤ (q : Int) := by omega
      obtain ⟨y, hy⟩ : ∃ y, l[q]? = some y := ⟨_, List.getElem?_eq_getElem (by have := HK.out; omega)⟩
      obtain ⟨b, off, rfl, hb, c1⟩ := natAt HV.out hy
      by_cases hxy : x = y
      · have hb2 : ((x : Int) == (y : Int)) = true := by simp [hxy]
        have HQ : Hid (decide ((0 : Int) ≤ (q : Int)) = decide (x ∈ l)) := Lib.hid (by
          have : x ∈ l := by rw [hxy]; exact List.mem_of_getElem? hy
          simp [this])
        clear hy hxy
        go_wp2_with fail
        go_ret
        exact ⟨⟨_, rfl, HQ.out⟩, rfl⟩
      · have hb2 : ((x : Int) == (y : Int)) = false := by simp; omega
        have HN2 : Hid (x ∉ l.take (q + 1)) := Lib.hid (by
          rw [List.take_add_one, hy]
          simp only [Option.toList_some, List.mem_append, List.mem_singleton]
          rintro (h | h)
          · exact HN.out h
          · exact hxy h)
        clear hy hxy
        go_wp2_with fail
        go_roundg (gk - 1)
        case measure => omega
        case rel => exact ⟨q + 1, by omega, by simp, HN2, rfl⟩
    · obtain rfl : q = k := by omega
      have hqk2 : ¬ (q : Int) < (q : Int) := by omega
      have HQ : Hid (decide ((0 : Int) ≤ (-1 : Int)) = decide (x ∈ l)) := Lib.hid (by
        have := HN.out
        rw [List.take_of_length_le (by have := HK.out; omega)] at this
        simp [this])
      go_wp2_with fail
      go_ret
      exact ⟨⟨_, rfl, HQ.out⟩, rfl⟩
theorem contains_any (l : List Nat) (x : Nat) (v : Value) (w : World) (hv : IsVals w v (nats l)) (hl : l.length ≤ 1000) :
    Calls Tryd.prog 13 #[v, .int .i64 (x : Int)] w fun e w' => e = .returned (.bool (decide (x ∈ l))) ∧ w' = w := by
  have HC := Lib.hid (indexN_any l x v w hv hl)
  clear hv
  go_enter Tryd.func13, Tryd.ntmps13
  go_wp2_with (go_at_call 29; refine Calls.mono HC.out ?_; rintro e w1 ⟨⟨z, rfl, hz⟩, hw⟩; obtain rfl := hw.symm; have HZ := Lib.hid hz; clear hz)
  go_ret
  exact ⟨by rw [← HZ.out]; rfl, rfl⟩
theorem good1_any (x : Int) (w : World) : Calls Tryd.prog 28 #[.int .i64 x] w fun e w' => e = .returned (.bool (x != 0)) ∧ w' = w := by
  go_enter Tryd.func28, Tryd.ntmps28
  go_wp2_with fail
  go_ret
  exact ⟨rfl, rfl⟩
set_option maxRecDepth 20000 in
set_option maxHeartbeats 1600000 in
theorem goodIx_any (g : Nat) (w : World) (h0 : w.cell? ⟨g, 0, none⟩ = some (.int .i64 0)) (h1 : w.cell? ⟨g, 1, none⟩ = some (.int .i64 0)) (h2 : w.cell? ⟨g, 2, none⟩ = some (.int .i64 0)) :
    Calls Tryd.prog 49 #[.slice (some ⟨g, 0, none⟩) 3 3, .func (.func 28) #[] #[]] w fun e w' => e = .returned (.int .i64 (-1)) ∧ w' = w := by
  have HG := Lib.hid (fun w => good1_any 0 w)
  go_enter Tryd.func49, Tryd.ntmps49
  go_wp2_with fail
  go_loopg [8] 3 (fun gk y wr => ∃ q : Nat, q + gk = 3 ∧ y = .int .i64 (q : Int) ∧ wr = w)
  case atStart => exact ⟨0, rfl, rfl, rfl⟩
  case round =>
    obtain ⟨q, hq, rfl, rfl⟩ := hrel
    have hcase : (q = 0 ∧ gk = 3) ∨ (q = 1 ∧ gk = 2) ∨ (q = 2 ∧ gk = 1) ∨ (q = 3 ∧ gk = 0) := by omega
    clear hq
    rcases hcase with ⟨rfl, rfl⟩ | ⟨rfl, rfl⟩ | ⟨rfl, rfl⟩ | ⟨rfl, rfl⟩
    · go_wp2_with (go_at_call 28; refine Calls.mono (HG.out _) ?_; rintro e w1 ⟨rfl, hw⟩; obtain rfl := hw.symm)
      go_roundg 2
      case measure => omega
      case rel => exact ⟨1, rfl, by simp, rfl⟩
    · go_wp2_with (go_at_call 28; refine Calls.mono (HG.out _) ?_; rintro e w1 ⟨rfl, hw⟩; obtain rfl := hw.symm)
      go_roundg 1
      case measure => omega
      case rel => exact ⟨2, rfl, by simp, rfl⟩
    · go_wp2_with (go_at_call 28; refine Calls.mono (HG.out _) ?_; rintro e w1 ⟨rfl, hw⟩; obtain rfl := hw.symm)
      go_roundg 0
      case measure => omega
      case rel => exact ⟨3, rfl, by simp, rfl⟩
    · go_wp2_with fail
      go_ret
      exact ⟨rfl, rfl⟩
theorem good_any (g : Nat) (w : World) (h0 : w.cell? ⟨g, 0, none⟩ = some (.int .i64 0)) (h1 : w.cell? ⟨g, 1, none⟩ = some (.int .i64 0)) (h2 : w.cell? ⟨g, 2, none⟩ = some (.int .i64 0)) :
    Calls Tryd.prog 11 #[.slice (some ⟨g, 0, none⟩) 3 3] w fun e w' => e = .returned (.bool true) ∧ w' = w := by
  have HC := Lib.hid (goodIx_any g w h0 h1 h2)
  have HF : Hid (Calls Tryd.prog 27 #[.slice (some ⟨g, 0, none⟩) 3 3, .func (.func 28) #[] #[]] w fun e w' => e = .returned (.bool false) ∧ w' = w) := Lib.hid (by
    clear h0 h1 h2
    go_enter Tryd.func27, Tryd.ntmps27
    go_wp2_with (go_at_call 49; refine Calls.mono HC.out ?_; rintro e w1 ⟨rfl, hw⟩; obtain rfl := hw.symm)
    go_ret
    exact ⟨rfl, rfl⟩)
  clear h0 h1 h2 HC
  go_enter Tryd.func11, Tryd.ntmps11
  go_wp2_with (go_at_call 27; refine Calls.mono HF.out ?_; rintro e w1 ⟨rfl, hw⟩; obtain rfl := hw.symm)
  go_ret
  exact ⟨rfl, rfl⟩
end Go.Proofs.YtfjoakhcgpckgaaDoor
