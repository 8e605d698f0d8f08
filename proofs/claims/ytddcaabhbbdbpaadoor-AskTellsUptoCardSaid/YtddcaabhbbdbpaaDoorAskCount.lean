/- Contracts: how many asks are in one; the program's and the document's. -/
import Derived.Test.YtddcaabhbbdbpaaDoorAskM
namespace Go.Proofs.YtddcaabhbbdbpaaDoor
open Go.ChangeShapes Go.WideShapes Go.ChangeAt Go.RowKit
set_option linter.unusedVariables false
open Tp
set_option maxRecDepth 20000 in
set_option maxHeartbeats 4000000 in
theorem count_all : ∀ (N : Nat) (x : Ask) (v : Value) (w : World), x.size ≤ N → x.size ≤ 1000000000 → AskV w x v → Calls Tryd.prog 15 #[v] w fun e w' => e = .returned (.int .i64 (x.size : Int)) ∧ Below w.heap.size w w' := by
  intro N
  induction N with
  | zero => intro x v w h; have := Ask.one_le x; omega
  | succ N ih =>
    intro x v w hN hbig hv
    cases x with
    | mk k ka va nu l =>
    rw [AskV] at hv
    obtain ⟨ad, n, cap, rfl, hn, hcap, hmax, _, _, hrow⟩ := hv
    have HIH := Lib.hid ih
    have HR := Lib.hid hrow
    have HN := Lib.hid hn
    rw [Ask.size] at hN hbig
    obtain ⟨z, hz⟩ : ∃ z, Ask.sizes l = z := ⟨_, rfl⟩
    have HZ := Lib.hid hz
    have HSZ : Hid ((Ask.mk k ka va nu l).size = 1 + z) := Lib.hid (by rw [Ask.size, hz])
    rw [hz] at hN hbig
    obtain ⟨a1, ha1⟩ : ∃ a, bts ka = a := ⟨_, rfl⟩
    obtain ⟨a2, ha2⟩ : ∃ a, bts va = a := ⟨_, rfl⟩
    rw [ha1, ha2]
    rw [HSZ.out]
    clear ih hrow hn hz ha1 ha2
    go_enter Tryd.func15, Tryd.ntmps15
    go_wp2_with fail
    go_loopg [3, 9] n (fun g x y wr => ∃ (j : Nat) (q : Nat), j + g = n ∧ y = .int .i64 (j : Int) ∧ x = .int .i64 (q : Int) ∧ Hid (q = 1 + Ask.sizes (l.take j)) ∧ q ≤ 1000000000 ∧ Hid (Below w.heap.size w wr))
    case atStart => exact ⟨0, 1, by omega, rfl, rfl, Lib.hid (by simp [Ask.sizes]), by omega, Lib.hid ((Below.refl _ _).alloc (Nat.le_refl _) _)⟩
    case round =>
      obtain ⟨j, q, hj, rfl, rfl, HQ, hq, HB⟩ := hrel
      by_cases hjn : j < n
      · obtain ⟨y, hy⟩ : ∃ y, l[j]? = some y := ⟨_, List.getElem?_eq_getElem (by rw [← HN.out]; exact hjn)⟩
        obtain ⟨b, off, rfl, hb, hat⟩ := HR.out (by omega)
        obtain ⟨ad', len', cap', c0, c1, c2, c3, c4, hyv⟩ := (AsksV.below HB.out l b off hb hat).get hy
        have hbr : b < wr.heap.size := Nat.lt_of_lt_of_le hb HB.out.size
        have hj1 : (0 : Int) ≤ (j : Int) := by omega
        have hj2 : (j : Int) < (n : Int) := by omega
        obtain ⟨s, hs⟩ : ∃ s, y.size = s := ⟨_, rfl⟩
        have hs1 := Ask.sizes_at hy
        have hs2 : q + s ≤ 1 + z := by
          have := Ask.sizes_take hy
          have h3 := Ask.sizes_take_le l (j + 1)
          have := HQ.out
          have := HZ.out
          omega
        have HS : Hid (q + s = 1 + Ask.sizes (l.take (j + 1))) := Lib.hid (by
          have := Ask.sizes_take hy
          have := HQ.out
          omega)
        obtain ⟨k1, hk1⟩ : ∃ a, bts y.key = a := ⟨_, rfl⟩
        obtain ⟨k2, hk2⟩ : ∃ a, bts y.val = a := ⟨_, rfl⟩
        obtain ⟨k0, hk0⟩ : ∃ a, y.kind = a := ⟨_, rfl⟩
        obtain ⟨k3, hk3⟩ : ∃ a, y.num = a := ⟨_, rfl⟩
        rw [hk0] at c0 hyv
        rw [hk1] at c1 hyv
        rw [hk2] at c2 hyv
        rw [hk3] at c3 hyv
        obtain ⟨wx, hwx⟩ : ∃ wx, wx = wr.alloc (.cells #[.int .i64 k0, .string k1, .string k2, .int .i64 k3, .slice ad' len' cap'] 24) := ⟨_, rfl⟩
        have hb9 : Below wr.heap.size wr wx := by rw [hwx]; exact (Below.refl _ _).alloc (Nat.le_refl _) _
        have HBX : Hid (Below w.heap.size w wx) := Lib.hid (HB.out.trans (hb9.mono HB.out.size))
        have HC := Lib.hid (HIH.out y _ wx (by have := HZ.out; omega) (by have := HZ.out; omega) (AskV.below hb9 _ _ hyv))
        rw [hs] at HC
        have hw : IntKind.i64.wrap ((q : Int) + (s : Int)) = ((q + s : Nat) : Int) := by rw [IntWalk.i64_in _ (by omega)]; omega
        clear hat hy hyv hs hk0 hk1 hk2 hk3 hb9
        go_wp2_with fail
        rw [← hwx]
        refine Calls.mono HC.out ?_
        rintro e' W3 ⟨rfl, h1⟩
        have HB3 := Lib.hid (HBX.out.trans (h1.mono HBX.out.size))
        clear h1
        go_wp2_with fail
        go_roundg (n - (j + 1))
        case measure => omega
        case rel => exact ⟨j + 1, q + s, by omega, by simp, by simp, HS, by omega, HB3⟩
      · obtain rfl : j = n := by omega
        have HQ2 : Hid ((q : Int) = ((1 + z : Nat) : Int)) := Lib.hid (by
          have := HQ.out
          rw [HN.out, List.take_length, HZ.out] at this
          omega)
        go_wp2_with fail
        go_ret
        exact ⟨ret_int HQ2.out, HB.out⟩
set_option maxRecDepth 20000 in
set_option maxHeartbeats 4000000 in
theorem askSize_all : ∀ (N : Nat) (x : Ask) (v : Value) (w : World), x.size ≤ N → x.size ≤ 1000000000 → AskV w x v → Calls Tryd.prog 13 #[v] w fun e w' => e = .returned (.int .i64 (x.size : Int)) ∧ Below w.heap.size w w' := by
  intro N
  induction N with
  | zero => intro x v w h; have := Ask.one_le x; omega
  | succ N ih =>
    intro x v w hN hbig hv
    cases x with
    | mk k ka va nu l =>
    rw [AskV] at hv
    obtain ⟨ad, n, cap, rfl, hn, hcap, hmax, _, _, hrow⟩ := hv
    have HIH := Lib.hid ih
    have HR := Lib.hid hrow
    have HN := Lib.hid hn
    rw [Ask.size] at hN hbig
    obtain ⟨z, hz⟩ : ∃ z, Ask.sizes l = z := ⟨_, rfl⟩
    have HZ := Lib.hid hz
    have HSZ : Hid ((Ask.mk k ka va nu l).size = 1 + z) := Lib.hid (by rw [Ask.size, hz])
    rw [hz] at hN hbig
    obtain ⟨a1, ha1⟩ : ∃ a, bts ka = a := ⟨_, rfl⟩
    obtain ⟨a2, ha2⟩ : ∃ a, bts va = a := ⟨_, rfl⟩
    rw [ha1, ha2]
    rw [HSZ.out]
    clear ih hrow hn hz ha1 ha2
    go_enter Tryd.func13, Tryd.ntmps13
    go_wp2_with fail
    go_loopg [3, 9] n (fun g x y wr => ∃ (j : Nat) (q : Nat), j + g = n ∧ y = .int .i64 (j : Int) ∧ x = .int .i64 (q : Int) ∧ Hid (q = 1 + Ask.sizes (l.take j)) ∧ q ≤ 1000000000 ∧ Hid (Below w.heap.size w wr))
    case atStart => exact ⟨0, 1, by omega, rfl, rfl, Lib.hid (by simp [Ask.sizes]), by omega, Lib.hid ((Below.refl _ _).alloc (Nat.le_refl _) _)⟩
    case round =>
      obtain ⟨j, q, hj, rfl, rfl, HQ, hq, HB⟩ := hrel
      by_cases hjn : j < n
      · obtain ⟨y, hy⟩ : ∃ y, l[j]? = some y := ⟨_, List.getElem?_eq_getElem (by rw [← HN.out]; exact hjn)⟩
        obtain ⟨b, off, rfl, hb, hat⟩ := HR.out (by omega)
        obtain ⟨ad', len', cap', c0, c1, c2, c3, c4, hyv⟩ := (AsksV.below HB.out l b off hb hat).get hy
        have hbr : b < wr.heap.size := Nat.lt_of_lt_of_le hb HB.out.size
        have hj1 : (0 : Int) ≤ (j : Int) := by omega
        have hj2 : (j : Int) < (n : Int) := by omega
        obtain ⟨s, hs⟩ : ∃ s, y.size = s := ⟨_, rfl⟩
        have hs1 := Ask.sizes_at hy
        have hs2 : q + s ≤ 1 + z := by
          have := Ask.sizes_take hy
          have h3 := Ask.sizes_take_le l (j + 1)
          have := HQ.out
          have := HZ.out
          omega
        have HS : Hid (q + s = 1 + Ask.sizes (l.take (j + 1))) := Lib.hid (by
          have := Ask.sizes_take hy
          have := HQ.out
          omega)
        obtain ⟨k1, hk1⟩ : ∃ a, bts y.key = a := ⟨_, rfl⟩
        obtain ⟨k2, hk2⟩ : ∃ a, bts y.val = a := ⟨_, rfl⟩
        obtain ⟨k0, hk0⟩ : ∃ a, y.kind = a := ⟨_, rfl⟩
        obtain ⟨k3, hk3⟩ : ∃ a, y.num = a := ⟨_, rfl⟩
        rw [hk0] at c0 hyv
        rw [hk1] at c1 hyv
        rw [hk2] at c2 hyv
        rw [hk3] at c3 hyv
        obtain ⟨wx, hwx⟩ : ∃ wx, wx = wr.alloc (.cells #[.int .i64 k0, .string k1, .string k2, .int .i64 k3, .slice ad' len' cap'] 24) := ⟨_, rfl⟩
        have hb9 : Below wr.heap.size wr wx := by rw [hwx]; exact (Below.refl _ _).alloc (Nat.le_refl _) _
        have HBX : Hid (Below w.heap.size w wx) := Lib.hid (HB.out.trans (hb9.mono HB.out.size))
        have HC := Lib.hid (HIH.out y _ wx (by have := HZ.out; omega) (by have := HZ.out; omega) (AskV.below hb9 _ _ hyv))
        rw [hs] at HC
        have hw : IntKind.i64.wrap ((q : Int) + (s : Int)) = ((q + s : Nat) : Int) := by rw [IntWalk.i64_in _ (by omega)]; omega
        clear hat hy hyv hs hk0 hk1 hk2 hk3 hb9
        go_wp2_with fail
        rw [← hwx]
        refine Calls.mono HC.out ?_
        rintro e' W3 ⟨rfl, h1⟩
        have HB3 := Lib.hid (HBX.out.trans (h1.mono HBX.out.size))
        clear h1
        go_wp2_with fail
        go_roundg (n - (j + 1))
        case measure => omega
        case rel => exact ⟨j + 1, q + s, by omega, by simp, by simp, HS, by omega, HB3⟩
      · obtain rfl : j = n := by omega
        have HQ2 : Hid ((q : Int) = ((1 + z : Nat) : Int)) := Lib.hid (by
          have := HQ.out
          rw [HN.out, List.take_length, HZ.out] at this
          omega)
        go_wp2_with fail
        go_ret
        exact ⟨ret_int HQ2.out, HB.out⟩
theorem count_any (x : Ask) (v : Value) (w : World) (hs : x.size ≤ 1000000000) (hv : AskV w x v) : Calls Tryd.prog 15 #[v] w fun e w' => e = .returned (.int .i64 (x.size : Int)) ∧ Below w.heap.size w w' := count_all x.size x v w (Nat.le_refl _) hs hv
theorem askSize_any (x : Ask) (v : Value) (w : World) (hs : x.size ≤ 1000000000) (hv : AskV w x v) : Calls Tryd.prog 13 #[v] w fun e w' => e = .returned (.int .i64 (x.size : Int)) ∧ Below w.heap.size w w' := askSize_all x.size x v w (Nat.le_refl _) hs hv
end Go.Proofs.YtddcaabhbbdbpaaDoor
