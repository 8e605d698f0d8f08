/- The walk of the law QueueSorts: for every row of items it answers true. -/
import Derived.Test.YtfjoakhcgpckgaaQueueSort
namespace Go.Proofs.Ytfjoakhcgpckgaa
open Go.ChangeShapes Go.WideShapes Go.ChangeAt Go.RowKit
set_option linter.unusedVariables false
open Hp
set_option maxHeartbeats 1600000 in
theorem eqItems (os : List Th) (v1 v2 : Value) (w : World) (hm : os.length ≤ 1000) (h1 : IsRow w v1 os.length (items os)) (h2 : IsRow w v2 os.length (items os)) :
    Calls Try.prog 15 #[v1, v2] w fun e w' => e = .returned (.bool true) ∧ Below w.heap.size w w' := by
  obtain ⟨a1, c1, rfl, hA⟩ := h1
  obtain ⟨a2, c2, rfl, hB⟩ := h2
  have HA := Lib.hid hA
  have HB := Lib.hid hB
  obtain ⟨n, hn⟩ : ∃ n, os.length = n := ⟨_, rfl⟩
  have HN := Lib.hid hn
  rw [hn] at hm ⊢
  clear hA hB hn
  have hnb : ((n : Int) != n) = false := by simp
  go_enter Try.func15, Try.ntmps15
  go_wp2_with fail
  go_loopw [13] (fun x wr => ∃ i : Nat, i ≤ n ∧ x = .int .i64 i ∧ Below w.heap.size w wr) (fun x _ => n - (intOf x).toNat)
  case atStart => exact ⟨0, by omega, rfl, Below.refl _ _⟩
  case round =>
    obtain ⟨i, hi, rfl, hW⟩ := hrel
    by_cases hin : i < n
    · obtain ⟨b1, o1, rfl, hb1, hc1⟩ := HA.out (by rw [items_length]; have := HN.out; omega)
      obtain ⟨b2, o2, rfl, hb2, hc2⟩ := HB.out (by rw [items_length]; have := HN.out; omega)
      obtain ⟨t, ht⟩ : ∃ p, os[i]? = some p := ⟨_, List.getElem?_eq_getElem (by have := HN.out; omega)⟩
      obtain ⟨f1, f2⟩ := items_at ht
      have q1 := (hW.cell (p := ⟨b1, o1 + i * 2, none⟩) hb1).trans (hc1 (i * 2) _ f1)
      have q2 := (hW.cell (p := ⟨b1, o1 + i * 2 + 1, none⟩) hb1).trans (hc1 (i * 2 + 1) _ f2)
      have q3 := (hW.cell (p := ⟨b2, o2 + i * 2, none⟩) hb2).trans (hc2 (i * 2) _ f1)
      have q4 := (hW.cell (p := ⟨b2, o2 + i * 2 + 1, none⟩) hb2).trans (hc2 (i * 2 + 1) _ f2)
      have hi1 : (0 : Int) ≤ (i : Int) := by omega
      have hi2 : (i : Int) < (n : Int) := by omega
      have hx1 : (t.prio == t.prio) = true := by simp
      have hy1 : (t.id == t.id) = true := by simp
      clear hc1 hc2 ht f1 f2
      go_wp2_with fail
      go_quiet (fail)
      go_wp2_with fail
      go_roundw
      case rel => exact ⟨i + 1, by omega, rfl, by refine below_drewN ?_ _; exact hW⟩
      case measure => simp [intOf]; omega
    · go_wp2_with fail
      go_ret
      exact ⟨rfl, hW⟩
/-- an empty queue of the document -/
theorem rq_new (w : World) : RQ (fun k => w.heap.size ≤ k) w.heap.size (.slice none 0 0) [] (w.alloc (.cells #[.slice none 0 0] 28)) :=
  ⟨World.rowIs_alloc w #[.slice none 0 0] 28 _ (fun i hi => by
    have hi : i < 1 := hi
    obtain rfl : i = 0 := by omega
    rfl), Nat.le_refl _, spanRow.nil _ _ _ _, fun k hk => by simp [Value.ownBlock] at hk⟩
/-- what the law's loop keeps -/
structure Lawing (A gr k : Nat) (ls : List Th) (v : Value) (w1 wr : World) : Prop where
  rq : RQ (fun x => A ≤ x) gr v (ls.take k) wr
  new : ∀ (j : Nat) (t u : Th), j < k → ls[j]? = some t → u ∈ ls.take j → u.id ≠ t.id
  below : Below A w1 wr
set_option maxRecDepth 20000 in
set_option maxHeartbeats 4000000 in
theorem sortsLaw (ls : List Th) (a : Option Addr) (n cap : Nat) (w : World) (hn : n = ls.length) (hmax : n ≤ 9223372036854775807) (hW : Vals w a (items ls)) (h1 : Row1 ls) (hid : ∀ t, t ∈ ls → (Lit.int .i64 t.id).wf = true) :
    Calls Try.prog 3 #[.slice a n cap] w fun e w' => e = .returned (.bool true) ∧ Below w.heap.size w w' := by
  have HW := Lib.hid hW
  have HN := Lib.hid hn
  have HR1 := Lib.hid h1
  have HID := Lib.hid hid
  clear hW hn h1 hid
  by_cases hl : 200 < n
  · have hl1 : (n : Int) > 200 := by omega
    go_enter Try.func3, Try.ntmps3
    go_wp2_with (go_at_call 13; refine Calls.mono (Sort_any ls a n cap _ HN.out HW.out HR1.out HID.out) ?_; rintro e w1 ⟨v, z, rfl, hE, hb⟩; have HB := Lib.hid hb; clear hb; rcases hE with ⟨_, rfl, rfl⟩ | ⟨h9, _⟩ | ⟨h9, _⟩; rotate_left; (have := HN.out; omega); (have := HN.out; omega))
    go_ret
    exact ⟨rfl, HB.out⟩
  · have hl1 : ¬ (n : Int) > 200 := by omega
    obtain ⟨B, hB⟩ : ∃ B, B = w.heap.size := ⟨_, rfl⟩
    have HB0 := Lib.hid hB
    clear hB
    go_enter Try.func3, Try.ntmps3
    go_upto_region 5 with (go_at_call 13; refine Calls.mono (Sort_any ls a n cap _ HN.out HW.out HR1.out HID.out) ?_; rintro e w1 ⟨v, z, rfl, hE, hb⟩; have HB := Lib.hid hb; have HE := Lib.hid hE; clear hb hE)
    obtain ⟨A, hA⟩ : ∃ A, A = w1.heap.size := ⟨_, rfl⟩
    obtain ⟨W2, hW2⟩ : ∃ W, W = w1.alloc (.cells #[.slice none 0 0] 28) := ⟨_, rfl⟩
    rw [← hW2]
    have hB2 : Below w1.heap.size w1 W2 := by rw [hW2]; exact (Below.refl _ _).alloc (Nat.le_refl _) _
    have HL0 : Hid (Lawing A A 0 ls (.slice none 0 0) w1 W2) := Lib.hid ⟨by rw [hA, hW2]; exact rq_new w1, fun j t u hj => absurd hj (by omega), by rw [hA]; exact hB2⟩
    rw [← hA]
    have HA0 := Lib.hid hA
    have HAA := Lib.hid (show B ≤ A ∧ w.heap.size ≤ w1.heap.size from by have := HB.out.size; have := HB0.out; omega)
    clear hB2 hW2 hA
    obtain ⟨gr, hgr⟩ : ∃ gr, gr = A := ⟨_, rfl⟩
    rw [← hgr]
    rw (occs := .pos [2]) [← hgr] at HL0
    clear hgr
    go_wp2_with fail
    go_loopw [27] (fun x wr => ∃ (k : Nat) (v : Value), k ≤ n ∧ x = .int .i64 k ∧ Hid (Lawing A gr k ls v w1 wr)) (fun v _ => n - (intOf v).toNat)
    case atStart => exact ⟨0, _, by omega, rfl, HL0⟩
    case round =>
      clear HL0
      obtain ⟨k, vr, hk, rfl, HL⟩ := hrel
      have hsz := HL.out.below.size
      by_cases hkn : k < n
      · obtain ⟨t, ht⟩ : ∃ t, ls[k]? = some t := ⟨_, List.getElem?_eq_getElem (by have := HN.out; omega)⟩
        have hwr : Below w.heap.size w wr := HB.out.trans (HL.out.below.mono (by have := HAA.out; have := HB0.out; omega))
        obtain ⟨b, off, rfl, hb, t0, t1⟩ := valsCells (HW.out.below hwr (Nat.le_refl _)) ht
        have HT := Lib.hid ht
        obtain ⟨W3, hW3⟩ : ∃ W, W = wr.alloc (.cells #[.int .i64 t.prio, .int .i64 t.id] 30) := ⟨_, rfl⟩
        have HWR := Lib.hid hwr
        clear ht hwr
        go_upto_region 8 with fail
        rw [← hW3]
        have hB3 : Below wr.heap.size wr W3 := by rw [hW3]; exact (Below.refl _ _).alloc (Nat.le_refl _) _
        have d0 : W3.cell? ⟨wr.heap.size, 0, none⟩ = some (.int .i64 t.prio) := by rw [hW3]; simp
        have d1 : W3.cell? ⟨wr.heap.size, 1, none⟩ = some (.int .i64 t.id) := by rw [hW3]; simp
        have l0 : wr.heap.size < W3.heap.size := by rw [hW3]; simp
        have HR3 := Lib.hid (HL.out.rq.below hB3)
        have HB3 := Lib.hid (HL.out.below.trans (hB3.mono (by have := HA0.out; omega)))
        have HW3 := Lib.hid (HWR.out.trans (hB3.mono HWR.out.size))
        have hkl : (ls.take k).length ≤ 200 := by rw [List.length_take]; omega
        have hkl2 : (ls.take k).length < 200 := by rw [List.length_take]; omega
        clear hW3 hB3 t0 t1
        by_cases hu : ∃ u, u ∈ ls.take k ∧ u.id = t.id
        · obtain ⟨u, hu1, hu2⟩ := hu
          have hE := HE.out
          rcases hE with ⟨h9, _⟩ | ⟨_, _, rfl, rfl⟩ | ⟨_, hnd, _⟩
          · exact absurd h9 (by rw [← HN.out]; exact hl)
          · clear HE
            go_wp2_with (go_at_call 14; refine Calls.mono (rPut_there _ gr vr (ls.take k) _ t.prio t.id HR3.out hkl hu1 hu2) ?_; rintro e w4 ⟨rfl, hb4⟩; have HB4 := Lib.hid hb4; clear hb4)
            go_ret
            exact ⟨rfl, HW3.out.trans (HB4.out.mono HW3.out.size)⟩
          · exact (hnd ⟨k, t, u, HT.out, hu1, hu2⟩).elim
        · have HNE : Hid (∀ u, u ∈ ls.take k → u.id ≠ t.id) := Lib.hid fun u h1 h2 => hu ⟨u, h1, h2⟩
          go_wp2_with (go_at_call 14; refine Calls.mono (rPut_good _ gr vr (ls.take k) _ t HR3.out hkl2 HNE.out) ?_; rintro e w4 ⟨rfl, v', hq4, hk4⟩; have HQ4 := Lib.hid hq4; have HK4 := Lib.hid hk4; clear hq4 hk4)
          have HL4 : Hid (Lawing A gr (k + 1) ls v' w1 w4) := Lib.hid (by
            have hs3 := HB3.out.size
            refine ⟨?_, fun j t' u' hj hj2 hu' => ?_, HB3.out.trans (HK4.out.toBelow (by have := HA0.out; omega) (fun x hx => hx))⟩
            · have h := HQ4.out.wide (H := fun x => A ≤ x) (fun x hx => by
                rcases hx with hx | hx
                · exact hx
                · have := HA0.out; omega)
              rw [List.take_add_one, HT.out]
              exact h
            · by_cases e : j = k
              · subst e
                rw [HT.out] at hj2
                cases hj2
                exact HNE.out u' hu'
              · exact HL.out.new j t' u' (by omega) hj2 hu')
          go_roundw
          case rel => exact ⟨k + 1, _, by omega, rfl, HL4⟩
          case measure => simp [intOf]; omega
      · obtain rfl : k = n := by omega
        have hE := HE.out
        rcases hE with ⟨h9, _⟩ | ⟨_, ⟨j, t, u, e1, e2, e3⟩, _⟩ | ⟨_, _, rfl, os, p1, p2, a1, cap1, rfl, hv1⟩
        · exact absurd h9 (by rw [← HN.out]; exact hl)
        · exact (HL.out.new j t u (by have := (List.getElem?_eq_some_iff.1 e1).1; have := HN.out; omega) e1 e2 e3).elim
        · clear HE
          have HP := Lib.hid (show os.Perm ls ∧ os.Pairwise le from ⟨p1, p2⟩)
          have HRQ := Lib.hid (show RQ (fun x => A ≤ x) gr vr ls wr from by have h := HL.out.rq; rwa [HN.out, List.take_length] at h)
          obtain ⟨ra, rcap, rfl, hwt⟩ := HRQ.out.row.waits
          have c0 : wr.cell? ⟨gr, 0, none⟩ = some (.slice ra ls.length rcap) := HRQ.out.var.cell (i := 0) (by omega)
          have lr := HRQ.out.var.lt
          have HWT := Lib.hid hwt
          have HC0 := Lib.hid c0
          have HI1 := Lib.hid (show IsRow wr (.slice a1 os.length cap1) os.length (items os) from IsRow.below ⟨a1, cap1, rfl, hv1⟩ HL.out.below (by have := HA0.out; omega))
          have hos : os.length ≤ 1000 := by rw [p1.length_eq, ← HN.out]; omega
          have hls : ls.length ≤ 1000 := by rw [← HN.out]; omega
          have HWR := Lib.hid (show Below w.heap.size w wr from HB.out.trans (HL.out.below.mono (by have := HAA.out; have := HB0.out; omega)))
          clear p1 p2 hv1 hwt c0
          go_wp2_with (first
            | (go_at_call 16; refine Calls.mono (Row_any gr ls ra _ rcap _ HC0.out lr rfl hls HWT.out HR1.out.sorted) ?_; rintro e w5 ⟨os2, v2, rfl, p1, p2, hi2, hb5⟩; obtain rfl : os2 = os := row_uniq (p1.trans HP.out.1.symm) ((p1.map Th.born).nodup_iff.2 (nodup_of_lt HR1.out.sorted)) p2 HP.out.2; have HI2 := Lib.hid hi2; have HB5 := Lib.hid hb5; have HI15 := Lib.hid (HI1.out.below hb5 (Nat.le_refl _)); clear p1 p2 hi2 hb5)
            | (go_at_call 15; refine Calls.mono (eqItems os2 _ v2 _ hos HI15.out HI2.out) ?_; rintro e w6 ⟨rfl, hb6⟩; have HB6 := Lib.hid hb6; clear hb6))
          go_ret
          exact ⟨rfl, HWR.out.trans ((HB5.out.mono HWR.out.size).trans (HB6.out.mono (Nat.le_trans HWR.out.size HB5.out.size)))⟩
end Go.Proofs.Ytfjoakhcgpckgaa
