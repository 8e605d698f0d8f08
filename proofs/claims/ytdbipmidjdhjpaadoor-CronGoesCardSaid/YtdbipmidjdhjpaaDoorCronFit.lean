/- Contracts: does a cron name a day? The program's and the document's. -/
import Derived.Test.YtdbipmidjdhjpaaDoorCronDay
namespace Go.Proofs.YtdbipmidjdhjpaaDoor
open Go.ChangeShapes Go.WideShapes Go.ChangeAt Go.RowKit Civ
set_option linter.unusedVariables false
set_option linter.unusedSimpArgs false
theorem tab_on {w wr : World} (h : Tab w) (hb : Below w.heap.size w wr) : Tab wr := fun i hi => by
  have h0 := h i hi
  rw [hb.cell (p := ⟨0, i, none⟩) (World.block_lt_of_cell? w _ h0)]
  exact h0
theorem bruijn_on {w wr : World} (h : Bruijn w) (hb : Below w.heap.size w wr) : Bruijn wr := fun i hi => by
  have h0 := h i hi
  rw [hb.cell (p := ⟨1, i, none⟩) (World.block_lt_of_cell? w _ h0)]
  exact h0
theorem dayB_mon {S : Nat → Nat} {m d k : Int} (h : bit (S 3) m.toNat = false) : dayB S m d k = false := by simp [dayB, h]
theorem dayB_dow {S : Nat → Nat} {m d k : Int} (h : bit (S 3) m.toNat = true) (h2 : S 2 = spanN 1 31) : dayB S m d k = bit (S 4) k.toNat := by simp [dayB, h, h2]
theorem dayB_dom {S : Nat → Nat} {m d k : Int} (h : bit (S 3) m.toNat = true) (h2 : ¬ S 2 = spanN 1 31) (h4 : S 4 = spanN 0 6) : dayB S m d k = bit (S 2) d.toNat := by simp [dayB, h, h2, h4]
theorem dayB_or {S : Nat → Nat} {m d k : Int} (h : bit (S 3) m.toNat = true) (h2 : ¬ S 2 = spanN 1 31) (h4 : ¬ S 4 = spanN 0 6) : dayB S m d k = (bit (S 2) d.toNat || bit (S 4) k.toNat) := by simp [dayB, h, h2, h4]
theorem span31 (w : World) : Calls Tryd.prog 62 #[.int .i64 1, .int .i64 31] w fun e w' => e = .returned (.int .u64 4294967294) ∧ Drawn w w' := span_any 1 31 w (by decide)
theorem span6 (w : World) : Calls Tryd.prog 62 #[.int .i64 0, .int .i64 6] w fun e w' => e = .returned (.int .u64 127) ∧ Drawn w w' := span_any 0 6 w (by decide)
theorem spanN31 : spanN 1 31 = 4294967294 := by decide
theorem spanN6 : spanN 0 6 = 127 := by decide
set_option maxHeartbeats 4000000 in
theorem day_core (S : Nat → Nat) (n y m d : Int) (w : World) (hS : Sets S) (hT : Tab w) (h0 : 0 ≤ n) (h1 : n ≤ 3652058) (hD : IsDate n y m d) :
    Calls Tryd.prog 54 #[cronV S, .int .i64 n] w fun e w' => e = .returned (.bool (dayB S m d ((n + 1) % 7))) ∧ Below w.heap.size w w' := by
  have hDI := Lib.hid (show DateIs n y m d 0 from .inl ⟨h0, h1, hD, rfl⟩)
  obtain ⟨-, m1, m12, d1, dl, -⟩ := hD
  have dl2 := (len_bd y m).2
  have hwk : weekV n = (n + 1) % 7 := by simp [weekV, h0, h1]
  have HWK := Lib.hid hwk
  have k0 : 0 ≤ (n + 1) % 7 := by omega
  have k1 : (n + 1) % 7 < 7 := by omega
  generalize hk : (n + 1) % 7 = k at *
  have s2 := hS 2
  have s3 := hS 3
  have s4 := hS 4
  have HT := Lib.hid hT
  clear hk hwk hT hS
  unfold cronV
  cases hm : bit (S 3) m.toNat with
  | false =>
    have HM := Lib.hid hm
    have HV := Lib.hid (dayB_mon (d := d) (k := k) hm)
    clear hm
    go_enter Tryd.func54, Tryd.ntmps54
    go_wp2_with (first
      | (go_at_call 10; refine Calls.mono (Date_any n y m d 0 _ (tab_on HT.out (by go_grown)) hDI.out) ?_; rintro e w1 ⟨rfl, p3, rfl⟩)
      | (go_at_call 11; refine Calls.mono (Weekday_any n _) ?_; rintro e w1 ⟨rfl, rfl⟩; rw [HWK.out])
      | (go_at_call 53; refine Calls.mono (has_any (S 3) m _ s3 (by omega) (by omega)) ?_; rintro e w1 ⟨rfl, rfl⟩; rw [HM.out]))
    go_ret
    exact ⟨ret_bool HV.out.symm, (by (repeat (with_reducible apply below_drewN)); go_grown)⟩
  | true =>
    have HM := Lib.hid hm
    clear hm
    go_enter Tryd.func54, Tryd.ntmps54
    go_wp2_with (first
      | (go_at_call 10; refine Calls.mono (Date_any n y m d 0 _ (tab_on HT.out (by go_grown)) hDI.out) ?_; rintro e w1 ⟨rfl, p3, rfl⟩)
      | (go_at_call 11; refine Calls.mono (Weekday_any n _) ?_; rintro e w1 ⟨rfl, rfl⟩; rw [HWK.out])
      | (go_at_call 53; refine Calls.mono (has_any (S 3) m _ s3 (by omega) (by omega)) ?_; rintro e w1 ⟨rfl, rfl⟩; rw [HM.out]))
    go_quiet ((go_at_call 62; first | exact quiet_drawn (span31 _) | exact quiet_add_drawn (span31 _)))
    by_cases h2 : S 2 = spanN 1 31
    · have e2 : (((S 2 : Nat) : Int) == 4294967294) = true := by simp [h2, spanN31]
      have HV := Lib.hid (dayB_dow (d := d) (k := k) HM.out h2)
      clear h2
      go_wp2_with (go_at_call 53; refine Calls.mono (has_any (S 4) k _ s4 (by omega) (by omega)) ?_; rintro e w1 ⟨rfl, rfl⟩)
      go_ret
      exact ⟨ret_bool HV.out.symm, (by (repeat (with_reducible apply below_drewN)); go_grown)⟩
    · have e2 : (((S 2 : Nat) : Int) == 4294967294) = false := by rw [spanN31] at h2; simp; omega
      go_wp2_with fail
      go_quiet ((go_at_call 62; first | exact quiet_drawn (span6 _) | exact quiet_add_drawn (span6 _)))
      by_cases h4 : S 4 = spanN 0 6
      · have e4 : (((S 4 : Nat) : Int) == 127) = true := by simp [h4, spanN6]
        have HV := Lib.hid (dayB_dom (d := d) (k := k) HM.out h2 h4)
        clear h2 h4
        go_wp2_with (go_at_call 53; refine Calls.mono (has_any (S 2) d _ s2 (by omega) (by omega)) ?_; rintro e w1 ⟨rfl, rfl⟩)
        go_ret
        exact ⟨ret_bool HV.out.symm, (by (repeat (with_reducible apply below_drewN)); go_grown)⟩
      · have e4 : (((S 4 : Nat) : Int) == 127) = false := by rw [spanN6] at h4; simp; omega
        have HV := Lib.hid (dayB_or (d := d) (k := k) HM.out h2 h4)
        clear h2 h4
        cases hb : bit (S 2) d.toNat with
        | true =>
          have HB := Lib.hid hb
          clear hb
          go_wp2_with (go_at_call 53; refine Calls.mono (has_any (S 2) d _ s2 (by omega) (by omega)) ?_; rintro e w1 ⟨rfl, rfl⟩; rw [HB.out])
          go_ret
          exact ⟨ret_bool (by rw [HV.out, HB.out]; rfl), (by (repeat (with_reducible apply below_drewN)); go_grown)⟩
        | false =>
          have HB := Lib.hid hb
          clear hb
          go_wp2_with (first
            | (go_at_call_of 53 d; refine Calls.mono (has_any (S 2) d _ s2 (by omega) (by omega)) ?_; rintro e w1 ⟨rfl, rfl⟩; rw [HB.out])
            | (go_at_call 53; refine Calls.mono (has_any (S 4) k _ s4 (by omega) (by omega)) ?_; rintro e w1 ⟨rfl, rfl⟩))
          go_ret
          exact ⟨ret_bool (by rw [HV.out, HB.out]; rfl), (by (repeat (with_reducible apply below_drewN)); go_grown)⟩
end Go.Proofs.YtdbipmidjdhjpaaDoor
