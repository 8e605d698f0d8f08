/- Contract: the document's row of those that wait. -/
import Derived.Test.YtfjoakhcgpckgaaQueueList
import Derived.Test.YtfjoakhcgpckgaaFullRow
namespace Go.Proofs.Ytfjoakhcgpckgaa
open Go.ChangeShapes Go.WideShapes Go.ChangeAt Go.RowKit
set_option linter.unusedVariables false
open Hp
/-- a slice that is only read: things, as items of two cells -/
structure Waits (w : World) (a : Option Addr) (cap : Nat) (qs : List Th) : Prop where
  cap' : qs.length ≤ cap ∧ cap ≤ 9223372036854775807
  nil' : a = none → qs.length = 0 ∧ cap = 0
  spot : ∀ b, a = some b → b.spot = none
  vals : Vals w a (items qs)
theorem Waits.below {w w' : World} {a : Option Addr} {cap : Nat} {qs : List Th} (h : Waits w a cap qs) {B : Nat} (hb : Below B w w') (hB : w.heap.size ≤ B) : Waits w' a cap qs := ⟨h.cap', h.nil', h.spot, h.vals.below hb hB⟩
/-- two cells of the j-th -/
theorem valsCells {w : World} {a : Option Addr} {qs : List Th} (h : Vals w a (items qs)) {j : Nat} {t : Th} (hj : qs[j]? = some t) : ∃ b off, a = some ⟨b, off, none⟩ ∧ b < w.heap.size ∧ w.cell? ⟨b, off + j * 2, none⟩ = some (.int .i64 t.prio) ∧ w.cell? ⟨b, off + j * 2 + 1, none⟩ = some (.int .i64 t.id) := by
  have hl := (List.getElem?_eq_some_iff.1 hj).1
  obtain ⟨b, off, e, hb, hv⟩ := h (by rw [items_length]; omega)
  obtain ⟨h1, h2⟩ := items_at hj
  exact ⟨b, off, e, hb, hv _ _ h1, by rw [Nat.add_assoc]; exact hv _ _ h2⟩
theorem Waits.cells {w : World} {a : Option Addr} {cap : Nat} {qs : List Th} (h : Waits w a cap qs) {j : Nat} {t : Th} (hj : qs[j]? = some t) : ∃ b off, a = some ⟨b, off, none⟩ ∧ b < w.heap.size ∧ w.cell? ⟨b, off + j * 2, none⟩ = some (.int .i64 t.prio) ∧ w.cell? ⟨b, off + j * 2 + 1, none⟩ = some (.int .i64 t.id) := valsCells h.vals hj
/-- what the outer loop keeps -/
structure RowS (B : Nat) (qs out left : List Th) (vo : Value) (la : Option Addr) (lcap : Nat) (w wr : World) : Prop where
  taken : Taken qs out left
  sorted : (left.map Th.born).Pairwise (· < ·)
  own : wr.ownsRow B 30 2 vo out.length (items out)
  wait : Waits wr la lcap left
  far : ∀ b, la = some b → vo.ownBlock ≠ some b.block
  below : Below B w wr
theorem RowS.step {B : Nat} {qs out left : List Th} {vo : Value} {la : Option Addr} {lcap : Nat} {w wr wx : World} (h : RowS B qs out left vo la lcap w wr) (hb : Below wr.heap.size wr wx) (hB : B ≤ wr.heap.size) : RowS B qs out left vo la lcap w wx :=
  ⟨h.taken, h.sorted, ownsRow_below h.own hb, h.wait.below hb (Nat.le_refl _), h.far, h.below.trans (hb.mono hB)⟩
theorem Vals.take {w : World} {a : Option Addr} {xs ys : List Value} (h : Vals w a (xs ++ ys)) : Vals w a xs := fun hp => by
  obtain ⟨b, off, e, hb, hv⟩ := h (by rw [List.length_append]; omega)
  exact ⟨b, off, e, hb, fun i v hi => hv i v (by rw [List.getElem?_append_left (List.getElem?_eq_some_iff.1 hi).1]; exact hi)⟩
theorem Vals.drop {w : World} {b off : Nat} {xs ys : List Value} (h : Vals w (some ⟨b, off, none⟩) (xs ++ ys)) : Vals w (some ⟨b, off + xs.length, none⟩) ys := fun hp => by
  obtain ⟨b', off', e, hb, hv⟩ := h (by rw [List.length_append]; omega)
  cases e
  exact ⟨b, off + xs.length, rfl, hb, fun i v hi => by
    rw [Nat.add_assoc]
    exact hv _ v (by rw [List.getElem?_append_right (by omega), Nat.add_sub_cancel_left]; exact hi)⟩
theorem Vals.grown {w w' : World} {a : Option Addr} {xs : List Value} (h : Vals w a xs) {row : Option Nat} (hg : w.grownBy w' row) (hr : ∀ b, a = some b → row ≠ some b.block) : Vals w' a xs := fun hp => by
  obtain ⟨b, off, e, hb, hv⟩ := h hp
  exact ⟨b, off, e, Nat.lt_of_lt_of_le hb hg.size, fun i v hi => hg.cell (hv i v hi) (fun e2 => hr _ e e2.symm)⟩
theorem Waits.grown {w w' : World} {a : Option Addr} {cap : Nat} {qs : List Th} (h : Waits w a cap qs) {row : Option Nat} (hg : w.grownBy w' row) (hr : ∀ b, a = some b → row ≠ some b.block) : Waits w' a cap qs := ⟨h.cap', h.nil', h.spot, h.vals.grown hg hr⟩
theorem items_split (qs : List Th) (b : Nat) (t : Th) (h : qs[b]? = some t) : items qs = items (qs.take b) ++ ([.int .i64 t.prio, .int .i64 t.id] ++ items (qs.drop (b + 1))) := by
  obtain ⟨hb, rfl⟩ := List.getElem?_eq_some_iff.1 h
  have h1 : qs = qs.take b ++ (qs[b] :: qs.drop (b + 1)) := by rw [← List.drop_eq_getElem_cons hb, List.take_append_drop]
  conv => lhs; rw [h1]
  rw [items_app]
  simp only [items, List.flatMap_cons]
/-- what an append behind it leaves -/
theorem RowS.pushed {B : Nat} {qs out left : List Th} {vo : Value} {la : Option Addr} {lcap b m : Nat} {x : Th} {w wr w2 w3 : World} {g cap : Nat} {ga : Option Addr} {cap3 : Nat} (h : RowS B qs out left vo la lcap w wr) (hb : Best left m b x) (hm : left.length = m) (hB : B ≤ wr.heap.size)
    (ho : w2.ownsRow B 30 2 (.slice (some ⟨g, 0, none⟩) (out.length + 1) cap) (out.length + 1) (items out ++ [.int .i64 x.prio, .int .i64 x.id])) (hgr : wr.grownBy w2 vo.ownBlock) (hgb : vo.ownBlock = some g ∨ wr.heap.size ≤ g)
    (hlt : ∀ c, la = some c → c.block < wr.heap.size) (hw3 : Below w2.heap.size w2 w3) (h1 : b + (m - (b + 1)) ≤ cap3 ∧ cap3 ≤ maxLen) (h2 : ga = none → b + (m - (b + 1)) = 0 ∧ cap3 = 0) (h3 : ∀ c, ga = some c → c.spot = none) (hv : Vals w3 ga (items (left.take b) ++ items (left.drop (b + 1)))) (h4 : ga = la ∨ ∃ c, ga = some c ∧ w2.heap.size ≤ c.block) :
    RowS B qs (out ++ [x]) (left.take b ++ left.drop (b + 1)) (.slice (some ⟨g, 0, none⟩) (out.length + 1) cap) ga cap3 w w3 := by
  have hbl := (List.getElem?_eq_some_iff.1 hb.at').1
  have hel : (left.take b ++ left.drop (b + 1)).length = b + (m - (b + 1)) := by simp; omega
  have hml : maxLen = 9223372036854775807 := rfl
  have hgl := (ho.lt g rfl).2
  refine ⟨h.taken.step (erase_perm hb.at') (Best.first (hm ▸ hb) h.sorted), erase_sorted b h.sorted, ?_, ⟨by rw [hel]; omega, by rw [hel]; exact h2, h3, by rw [items_app]; exact hv⟩, fun c hc => ?_, ?_⟩
  · rw [List.length_append, items_push]
    exact ownsRow_below ho hw3
  · show some g ≠ some c.block
    rcases h4 with h4 | ⟨c', h4, h5⟩
    · have h6 := h.far c (by rw [← h4]; exact hc)
      have h7 := hlt c (by rw [← h4]; exact hc)
      rcases hgb with h8 | h8
      · rw [← h8]; exact h6
      · intro e; cases e; omega
    · rw [hc] at h4; cases h4
      intro e; cases e; omega
  · have hbw : Below B wr w2 := (Below.refl B wr).grown hgr hB (ownBlock_ge h.own (Nat.le_refl _))
    exact h.below.trans (hbw.trans (hw3.mono (by have := hbw.size; omega)))
set_option maxRecDepth 20000 in
set_option maxHeartbeats 4000000 in
theorem Row_any (gr : Nat) (qs : List Th) (a : Option Addr) (l cap : Nat) (w : World) (hc : w.cell? ⟨gr, 0, none⟩ = some (.slice a l cap)) (lr : gr < w.heap.size) (hn : l = qs.length) (hmax : l ≤ 1000) (hW : Waits w a cap qs) (hs : (qs.map Th.born).Pairwise (· < ·)) :
    Calls Try.prog 16 #[.pointer (some ⟨gr, 0, none⟩)] w fun e w' => ∃ os vo, e = .returned vo ∧ os.Perm qs ∧ os.Pairwise le ∧ IsRow w' vo os.length (items os) ∧ Below w.heap.size w w' := by
  have HW := Lib.hid hW
  have HN := Lib.hid hn
  have HS := Lib.hid hs
  obtain ⟨B, hB⟩ : ∃ B, B = w.heap.size := ⟨_, rfl⟩
  have HB0 := Lib.hid hB
  clear hW hn hs hB
  go_enter Try.func16, Try.ntmps16
  go_wp2_with (at_builtin; go_loud (refine wpList_append_full _ (by rfl) _ _ 22 (by rfl) 30 (.agg #[.int .i64 0, .int .i64 0]) 2 16 Try.underlying22 infoItem (by rfl) (by decide) none 0 [] (by rfl) (fun _ => rfl) (fun b hb => by cases hb) (by rfl) (Vals.nil _ _) a l cap (items qs) (by rfl) (fun e => by have := HW.out.nil' e; rw [← HN.out] at this; exact this) HW.out.spot (by rw [items_length, HN.out]) HW.out.vals (by unfold maxLen; omega) (by omega) ?_; intro la lcap w1 h1 h2 h3 hv1 hb1 h4; have HV1 := Lib.hid hv1; have HB1 := Lib.hid hb1; have H1 := Lib.hid h1; have H2 := Lib.hid h2; have H3 := Lib.hid h3; clear h1 h2 h3 h4 hv1 hb1))
  have HR0 : Hid (RowS B qs [] qs (.slice none 0 0) la lcap w w1) := Lib.hid (by
    rw [HB0.out]
    refine ⟨Taken.start qs, HS.out, World.ownsRow_nil _ _ _ _, ⟨by have h := H1.out; rw [Nat.zero_add, HN.out] at h; exact h, fun e => by have h := H2.out e; rw [Nat.zero_add, HN.out] at h; exact h, H3.out, HV1.out⟩, fun b hb => (by simp [Value.ownBlock]), HB1.out⟩)
  clear HV1 H1 H2 H3
  go_loopg [3, 4] l (fun g x y wr => ∃ (out left : List Th) (la : Option Addr) (lcap m : Nat), m ≤ g ∧ m ≤ 1000 ∧ y = .slice la m lcap ∧ Hid (left.length = m) ∧ Hid (RowS B qs out left x la lcap w wr))
  case atStart => exact ⟨[], qs, la, lcap, l, by omega, by omega, rfl, Lib.hid HN.out.symm, HR0⟩
  case round =>
    clear HR0
    obtain ⟨out, left, la, lcap, m, hg, hm, rfl, HM, HR⟩ := hrel
    have hsz := HR.out.below.size
    by_cases hm0 : 0 < m
    · obtain ⟨x0, hx0⟩ : ∃ x, left[0]? = some x := ⟨_, List.getElem?_eq_getElem (by have := HM.out; omega)⟩
      have HBE := Lib.hid (Best.start hx0)
      clear hx0
      obtain ⟨gq', rfl⟩ : ∃ q, q = gk := ⟨_, rfl⟩
      have hgt : ((m : Int) > 0) := by omega
      go_wp2_with fail
      go_loopg [5, 18] m (fun q v x wx => ∃ (b k : Nat) (xb : Th), k ≤ m ∧ q + k = m ∧ b < m ∧ v = .int .i64 b ∧ x = .int .i64 k ∧ Hid (Best left k b xb) ∧ Below wr.heap.size wr wx)
      case atStart => exact ⟨0, 0, x0, by omega, by omega, hm0, rfl, rfl, HBE, Below.refl _ _⟩
      case round =>
        clear HBE
        obtain ⟨b, k, xb, hk, hq, hbm, rfl, rfl, HBE, hbx⟩ := hrel
        have hsx := hbx.size
        have hwx := HR.out.wait.below hbx (Nat.le_refl _)
        by_cases hkm : k < m
        · obtain ⟨t, ht⟩ : ∃ t, left[k]? = some t := ⟨_, List.getElem?_eq_getElem (by have := HM.out; omega)⟩
          obtain ⟨ab, off, rfl, hlt, t0, t1⟩ := hwx.cells ht
          obtain ⟨ab', off', e, _, b0, b1⟩ := hwx.cells HBE.out.at'
          cases e
          obtain ⟨W2, hW2⟩ : ∃ W, W = wr.alloc (.cells #[.int .i64 t.prio, .int .i64 t.id] 30) := ⟨_, rfl⟩
          go_upto_region 8 with fail
          rw [← hW2]
          have hB2 : Below wr.heap.size wr W2 := by rw [hW2]; exact (Below.refl _ _).alloc (Nat.le_refl _) _
          have d0 : W2.cell? ⟨wr.heap.size, 0, none⟩ = some (.int .i64 t.prio) := by rw [hW2]; simp
          have l0 : wr.heap.size < W2.heap.size := by rw [hW2]; simp
          have d1 := ((hB2.cell (p := ⟨ab, off + b * 2, none⟩) hlt).trans b0)
          have lb : ab < W2.heap.size := by omega
          have HB2 := Lib.hid (hbx.trans (hB2.mono hsx))
          have hb1 : (0 : Int) ≤ (b : Int) := by omega
          have hb2 : (b : Int) < (m : Int) := by omega
          have HT := Lib.hid ht
          clear b0 b1 t0 t1 hW2 hB2 ht hwx
          cases hgt2 : decide (xb.prio < t.prio) with
          | true =>
            have HBE2 := Lib.hid (HBE.out.next HT.out (by simpa using hgt2))
            go_quiet (fail)
            go_wp2_with fail
            go_roundg (m - (k + 1))
            case measure => omega
            case rel => exact ⟨k, k + 1, t, by omega, by omega, hkm, rfl, rfl, HBE2, below_drewN HB2.out _⟩
          | false =>
            have HBE2 := Lib.hid (HBE.out.keep HT.out (by simpa using hgt2))
            go_quiet (fail)
            go_wp2_with fail
            go_roundg (m - (k + 1))
            case measure => omega
            case rel => exact ⟨b, k + 1, xb, by omega, by omega, hbm, rfl, rfl, HBE2, below_drewN HB2.out _⟩
        · obtain rfl : k = m := by omega
          have HRX := Lib.hid (HR.out.step hbx (by have := HB0.out; omega))
          obtain ⟨ab, off, rfl, hlt, b0, b1⟩ := HRX.out.wait.cells HBE.out.at'
          have hcap := HRX.out.wait.cap'
          rw [HM.out] at hcap
          obtain ⟨no, hno⟩ : ∃ no, out.length = no := ⟨_, rfl⟩
          have HNO := Lib.hid hno
          have hno2 : no ≤ 1000 := by have h1 := HRX.out.taken.len; have := HN.out; omega
          have HB9 : Hid (B ≤ wr.heap.size) := Lib.hid (by have := HB0.out; omega)
          clear hno hwx
          go_upto_region 12 with (at_builtin; go_loud (refine wpList_pushN _ (by rfl) _ _ 22 (by rfl) B 30 (.agg #[.int .i64 0, .int .i64 0]) 2 16 Try.underlying22 infoItem (by rfl) (by decide) u3 no _ [.int .i64 xb.prio, .int .i64 xb.id] _ rfl (by rfl) (by rw [← HNO.out]; exact HRX.out.own) (by rfl) (by rfl) (by intro u hu; simp at hu; rcases hu with rfl | rfl <;> rfl) (by unfold maxLen; omega) (by omega) HB9.out ?_; intro gg cap2 w2 hown1 hgrow1 hgb hgl; have HO7 := Lib.hid hown1; have HG7 := Lib.hid hgrow1; have HGB := Lib.hid hgb; clear hown1 hgrow1 hgb))
          have hsp := items_split left b xb HBE.out.at'
          have hl1 : (items (left.take b)).length = b * 2 := by rw [items_length, List.length_take, HM.out]; omega
          have hl2 : (items (left.drop (b + 1))).length = (k - (b + 1)) * 2 := by rw [items_length, List.length_drop, HM.out]
          have hwv := (HRX.out.wait.grown HG7.out HRX.out.far).vals
          rw [hsp] at hwv
          have HV1 := Lib.hid hwv.take
          have HV2 : Hid (Vals w2 (some ⟨ab, off + (b + 1) * 2, none⟩) (items (left.drop (b + 1)))) := Lib.hid (by
            have h := hwv.drop.drop
            rw [hl1] at h
            simpa [show off + b * 2 + 2 = off + (b + 1) * 2 from by omega] using h)
          have HL1 := Lib.hid hl1
          have HL2 := Lib.hid hl2
          clear hsp hwv hl1 hl2 b0 b1
          have hwr : IntKind.i64.wrap ((b : Int) + 1) = (b : Int) + 1 := IntWalk.i64_in _ (by omega)
          have i1 : (0 : Int) ≤ (b : Int) := by omega
          have i2 : (b : Int) ≤ (lcap : Int) := by omega
          have i3 : (0 : Int) ≤ (b : Int) + 1 := by omega
          have i4 : (b : Int) + 1 ≤ (k : Int) := by omega
          have i5 : (k : Int) ≤ (lcap : Int) := by omega
          have HXN : Hid ((if lcap = b + 1 then some (⟨ab, off, none⟩ : Addr) else some ⟨ab, off + (b + 1) * 2, none⟩) = none → k - (b + 1) = 0 ∧ lcap - (b + 1) = 0) := Lib.hid (fun e => by split at e <;> cases e)
          have HXS : Hid (∀ c, (if lcap = b + 1 then some (⟨ab, off, none⟩ : Addr) else some ⟨ab, off + (b + 1) * 2, none⟩) = some c → c.spot = none) := Lib.hid (fun c e => by split at e <;> (cases e; rfl))
          have HXV : Hid (Vals w2.drew (if lcap = b + 1 then some (⟨ab, off, none⟩ : Addr) else some ⟨ab, off + (b + 1) * 2, none⟩) (items (left.drop (b + 1)))) := Lib.hid (by
            split
            · intro hp
              rw [HL2.out] at hp
              omega
            · exact HV2.out.below (Below.refl _ _).drew (Nat.le_refl _))
          go_still_tail 8, (by kernel_rfl)
          change wpList _ _ _ _ _ w2.drew
          go_wp2_with (at_builtin; go_loud (refine wpList_append_full _ (by rfl) _ _ 22 (by rfl) 30 (.agg #[.int .i64 0, .int .i64 0]) 2 16 Try.underlying22 infoItem (by rfl) (by decide) (some ⟨ab, off, none⟩) b (items (left.take b)) (by rfl) (fun e => by cases e) (fun c e => by cases e; rfl) HL1.out (HV1.out.below (Below.refl _ _).drew (Nat.le_refl _)) (if lcap = b + 1 then some ⟨ab, off, none⟩ else some ⟨ab, off + (b + 1) * 2, none⟩) (k - (b + 1)) (lcap - (b + 1)) (items (left.drop (b + 1))) (by rfl) HXN.out HXS.out HL2.out HXV.out (by unfold maxLen; omega) (by omega) ?_; intro ga cap3 w3 h1 h2 h3 hv3 hb3 h4; have HP := Lib.hid (HRX.out.pushed HBE.out HM.out HB9.out (by rw [HNO.out]; exact HO7.out) HG7.out HGB.out (fun c e => by cases e; exact hlt) (show Below w2.heap.size w2 w3 from ((Below.refl w2.heap.size w2).drew).trans hb3) h1 h2 h3 hv3 h4); clear h1 h2 h3 h4 hv3 hb3))
          all_goals
            rw [HNO.out] at HP
            go_roundg (gq' - 1)
            case measure => omega
            case rel => exact ⟨out ++ [xb], left.take b ++ left.drop (b + 1), ga, cap3, b + (k - (b + 1)), by omega, by omega, rfl, Lib.hid (by rw [List.length_append, List.length_take, List.length_drop, HM.out]; omega), HP⟩
    · have HR2 := Lib.hid (show Taken qs out [] from by
        have h0 : left = [] := List.eq_nil_of_length_eq_zero (by have := HM.out; omega)
        have := HR.out.taken
        rwa [h0] at this)
      go_wp2_with fail
      go_ret
      exact ⟨out, _, rfl, HR2.out.done.1, HR2.out.done.2, IsRow.own (by decide) HR.out.own, HB0.out ▸ HR.out.below⟩
end Go.Proofs.Ytfjoakhcgpckgaa
