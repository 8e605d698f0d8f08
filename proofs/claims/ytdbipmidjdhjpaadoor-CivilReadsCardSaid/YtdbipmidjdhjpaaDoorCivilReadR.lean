/- Contract: the document's reading of a day. -/
import Derived.Test.YtdbipmidjdhjpaaDoorCivilRead
namespace Go.Proofs.YtdbipmidjdhjpaaDoor
open Go.ChangeShapes Go.WideShapes Go.ChangeAt Go.RowKit Civ
set_option linter.unusedVariables false
def RdR (s : ByteArray) (w wr : World) (j : Nat) (a b c : Int) : Prop := Par s j a b c ∧ Upto s j ∧ Cells3 w wr a b c
theorem cells3_one (w : World) (t : TypeId) : Cells3 w (w.alloc (.cells #[.int .i64 0, .int .i64 0, .int .i64 0] t)) 0 0 0 := by
  refine ⟨by go_grown, by simp, ?_, ?_, ?_, ?_, ?_, ?_⟩
  all_goals simp
theorem RdR.drew {s : ByteArray} {w wr : World} {j : Nat} {a b c : Int} (h : RdR s w wr j a b c) : RdR s w wr.drew j a b c :=
  ⟨h.1, h.2.1, below_drewN h.2.2.1 1, h.2.2.2⟩
set_option maxHeartbeats 1000000 in
theorem dateRead_any (s : ByteArray) (w : World) : Calls Tryd.prog 21 #[.string s] w fun e w' => e = .returned (.tuple #[.int .i64 (readV s), .int .i64 (readE s)]) ∧ Below w.heap.size w w' := by
  by_cases hs : s.size = 10
  · obtain ⟨y4, hy4⟩ : ∃ y, y = byt s 4 := ⟨_, rfl⟩
    obtain ⟨y7, hy7⟩ : ∃ y, y = byt s 7 := ⟨_, rfl⟩
    have g4 : ∀ h : 4 < s.size, ((s[4]'h).toNat : Int) = y4 := fun h => by rw [hy4]; exact byt_at s 4 h
    have g7 : ∀ h : 7 < s.size, ((s[7]'h).toNat : Int) = y7 := fun h => by rw [hy7]; exact byt_at s 7 h
    by_cases h4 : y4 = 45
    · by_cases h7 : y7 = 45
      · have O4 := Lib.hid (show OkAt s 4 from (okAt_dash (.inl rfl)).2 (by rw [← hy4]; exact h4))
        have O7 := Lib.hid (show OkAt s 7 from (okAt_dash (.inr rfl)).2 (by rw [← hy7]; exact h7))
        clear hy4 hy7
        subst h4 h7
        go_enter Tryd.func21, Tryd.ntmps21
        go_wp2_with fail
        clear g4 g7
        go_loopw [23] (fun i wr => ∃ (j : Nat) (a b c : Int), j ≤ 10 ∧ i = .int .i64 j ∧ RdR s w wr j a b c) (fun i _ => 10 - (intOf i).toNat)
        case atStart => exact ⟨0, 0, 0, 0, by omega, rfl, Par.zero s, Upto.zero s, cells3_one w _⟩
        case round =>
          obtain ⟨j, a, b, c, hj, rfl, ⟨hP, hU, hC⟩⟩ := hrel
          obtain ⟨hB, h2, c0, c1, c2, f0, f1, f2⟩ := id hC
          by_cases h10 : j < 10
          · obtain ⟨z, hz⟩ : ∃ z, z = byt s j := ⟨_, rfl⟩
            obtain ⟨zb1, zb2⟩ := byt_bd s j
            rw [← hz] at zb1 zb2
            have gj : ∀ h : j < s.size, ((s[j]'h).toNat : Int) = z := fun h => by rw [hz]; exact byt_at s j h
            obtain ⟨ba, bb, bc⟩ := hP.bd hU hj
            by_cases hd : j = 4 ∨ j = 7
            · have HP := Lib.hid (hP.dash hd)
              have HU := Lib.hid hU
              have HC := Lib.hid hC
              clear ba bb bc hP hU hC hz
              rcases hd with rfl | rfl
              · go_wp2
                exact ⟨⟨5, a, b, c, by omega, rfl, HP.out, HU.out.succ O4.out, HC.out⟩, by simp [intOf]⟩
              · go_wp2
                exact ⟨⟨8, a, b, c, by omega, rfl, HP.out, HU.out.succ O7.out, HC.out⟩, by simp [intOf]⟩
            · have n4 : ((j : Int) == 4) = false := by simp; omega
              have n7 : ((j : Int) == 7) = false := by simp; omega
              by_cases hg : 48 ≤ z ∧ z ≤ 57
              · have hO : OkAt s j := (okAt_dig hd).2 (by rw [← hz]; exact hg)
                obtain ⟨z1, z2⟩ := hg
                have hcl : j < 4 ∨ (4 < j ∧ j < 7) ∨ 7 < j := by omega
                rcases hcl with hc | hc | hc
                · obtain ⟨v1, v2⟩ := ba hc
                  have hq : (j : Int) / 5 = 0 := by omega
                  have HI := Lib.hid (show RdR s w (wr.setCell ⟨w.heap.size, 0, none⟩ (.int .i64 (a * 10 + (z - 48)))) (j + 1) (10 * a + (z - 48)) (b) (c) from ⟨by rw [hz]; exact hP.a hc, hU.succ hO, by have := hC.set 0 (by omega) (10 * a + (z - 48)); rw [show a * 10 + (z - 48) = 10 * a + (z - 48) from by omega]; exact this⟩)
                  clear ba bb bc hP hU hC hz hO
                  go_wp2
                  go_region
                  go_wp2
                  exact ⟨⟨j + 1, 10 * a + (z - 48), b, c, by omega, rfl, HI.out.drew⟩, by simp [intOf]; omega⟩
                · obtain ⟨v1, v2⟩ := bb hc.1 hc.2
                  have hq : (j : Int) / 5 = 1 := by omega
                  have HI := Lib.hid (show RdR s w (wr.setCell ⟨w.heap.size, 1, none⟩ (.int .i64 (b * 10 + (z - 48)))) (j + 1) (a) (10 * b + (z - 48)) (c) from ⟨by rw [hz]; exact hP.b hc.1 hc.2, hU.succ hO, by have := hC.set 1 (by omega) (10 * b + (z - 48)); rw [show b * 10 + (z - 48) = 10 * b + (z - 48) from by omega]; exact this⟩)
                  clear ba bb bc hP hU hC hz hO
                  go_wp2
                  go_region
                  go_wp2
                  exact ⟨⟨j + 1, a, 10 * b + (z - 48), c, by omega, rfl, HI.out.drew⟩, by simp [intOf]; omega⟩
                · obtain ⟨v1, v2⟩ := bc hc h10
                  have hq : (j : Int) / 5 = 1 := by omega
                  have HI := Lib.hid (show RdR s w (wr.setCell ⟨w.heap.size, 2, none⟩ (.int .i64 (c * 10 + (z - 48)))) (j + 1) (a) (b) (10 * c + (z - 48)) from ⟨by rw [hz]; exact hP.c hc, hU.succ hO, by have := hC.set 2 (by omega) (10 * c + (z - 48)); rw [show c * 10 + (z - 48) = 10 * c + (z - 48) from by omega]; exact this⟩)
                  clear ba bb bc hP hU hC hz hO
                  go_wp2
                  go_region
                  go_wp2
                  exact ⟨⟨j + 1, a, b, 10 * c + (z - 48), by omega, rfl, HI.out.drew⟩, by simp [intOf]; omega⟩
              · have HB := Lib.hid (not_good h10 (fun h => hg (by rw [hz]; exact (okAt_dig hd).1 h)))
                have HG := Lib.hid hg
                have hcl : j < 4 ∨ (4 < j ∧ j < 7) ∨ 7 < j := by omega
                clear ba bb bc hP hU hC hg hz
                by_cases z1 : z < 48
                · rcases hcl with hc | hc | hc
                  all_goals
                    go_wp2
                    go_ret2
                    exact ⟨ret_ii HB.out.1.symm HB.out.2.symm, by go_grown⟩
                · have z2 : 57 < z := by have := HG.out; omega
                  rcases hcl with hc | hc | hc
                  all_goals
                    go_wp2
                    go_ret2
                    exact ⟨ret_ii HB.out.1.symm HB.out.2.symm, by go_grown⟩
          · obtain rfl : j = 10 := by omega
            have HR := Lib.hid (read_good ⟨hs, hU⟩)
            have HP := Lib.hid hP
            clear hP hU hC
            go_wp2_with fail
            go_quiet ((go_at_call 12; first | exact quiet_left (dayOf_any _ _ _ _) | exact quiet_add_left (dayOf_any _ _ _ _)))
            go_wp2
            go_ret2
            exact ⟨ret_ii (by rw [HR.out.1, HP.out.1, HP.out.2.1, HP.out.2.2]; rfl) (by rw [HR.out.2, HP.out.1, HP.out.2.1, HP.out.2.2]; rfl), below_drewN hB _⟩
      · have HV := Lib.hid (not_good (s := s) (i := 7) (by omega) (fun h => h7 (by rw [hy7]; exact (okAt_dash (.inr rfl)).1 h)))
        clear hy4 hy7
        go_enter Tryd.func21, Tryd.ntmps21
        go_wp2_with fail
        go_ret2
        exact ⟨ret_ii HV.out.1.symm HV.out.2.symm, Below.refl _ _⟩
    · have HV := Lib.hid (not_good (s := s) (i := 4) (by omega) (fun h => h4 (by rw [hy4]; exact (okAt_dash (.inl rfl)).1 h)))
      clear hy4 hy7
      go_enter Tryd.func21, Tryd.ntmps21
      go_wp2_with fail
      go_ret2
      exact ⟨ret_ii HV.out.1.symm HV.out.2.symm, Below.refl _ _⟩
  · have HV := Lib.hid (read_bad (s := s) (fun h => hs h.1))
    go_enter Tryd.func21, Tryd.ntmps21
    go_wp2_with fail
    go_ret2
    exact ⟨ret_ii HV.out.1.symm HV.out.2.symm, Below.refl _ _⟩
end Go.Proofs.YtdbipmidjdhjpaaDoor
