/- Contract: does a cron name a day? The document's. -/
import Derived.Test.YtdbipmidjdhjpaaDoorCronFit
import Derived.IntWalk
namespace Go.Proofs.YtdbipmidjdhjpaaDoor
open Go.ChangeShapes Go.WideShapes Go.ChangeAt Go.RowKit Civ
set_option linter.unusedVariables false
set_option linter.unusedSimpArgs false
theorem in_bit (s : Nat) (n : Int) (w : World) (hs : s < 18446744073709551616) (h0 : 0 ≤ n) (h1 : n < 64) : Calls Tryd.prog 57 #[.int .u64 s, .int .i64 n] w fun e w' => e = .returned (.bool (bit s n.toNat)) ∧ w = w' := by
  have := in_any s n w hs
  rwa [inB_eq h0 h1] at this
set_option maxHeartbeats 4000000 in
theorem fits_core (S : Nat → Nat) (n y m d : Int) (w : World) (hS : Sets S) (hC : cronB S = true) (h0 : 0 ≤ n) (h1 : n ≤ 3652058) (hD : IsDate n y m d) :
    Calls Tryd.prog 58 #[cronV S, .int .i64 n] w fun e w' => e = .returned (.bool (dayB S m d ((n + 1) % 7))) ∧ Below w.heap.size w w' := by
  have hDI := Lib.hid (show DateIs n y m d 0 from .inl ⟨h0, h1, hD, rfl⟩)
  obtain ⟨-, m1, m12, d1, dl, -⟩ := hD
  have dl2 := (len_bd y m).2
  have k0 : 0 ≤ (n + 1) % 7 := by omega
  have k1 : (n + 1) % 7 < 7 := by omega
  have hkm : (n + 1).tmod 7 = (n + 1) % 7 := by rw [Int.tmod_eq_emod_of_nonneg (by omega)]
  have hwr : IntKind.i64.wrap (n + 1) = n + 1 := IntWalk.i64_in _ (by omega)
  generalize hk : (n + 1) % 7 = k at *
  have s2 := hS 2
  have s3 := hS 3
  have s4 := hS 4
  have F2 := Lib.hid (cron_at hC (j := 2) (by omega))
  have F4 := Lib.hid (cron_at hC (j := 4) (by omega))
  have HKM := Lib.hid hkm
  have HWR := Lib.hid hwr
  clear hk hS hC hkm hwr
  unfold cronV
  cases hm : bit (S 3) m.toNat with
  | false =>
    have HM := Lib.hid hm
    have HV := Lib.hid (dayB_mon (d := d) (k := k) hm)
    clear hm
    go_enter Tryd.func58, Tryd.ntmps58
    go_wp2_with (first
      | (go_at_call 13; refine Calls.mono (dateOf_any n y m d 0 _ hDI.out) ?_; rintro e w1 ⟨rfl, rfl⟩)
      | (go_at_call 57; refine Calls.mono (in_bit (S 3) m _ s3 (by omega) (by omega)) ?_; rintro e w1 ⟨rfl, rfl⟩; rw [HM.out]))
    go_ret
    exact ⟨ret_bool HV.out.symm, (by (repeat (with_reducible apply below_drewN)); go_grown)⟩
  | true =>
    have HM := Lib.hid hm
    clear hm
    go_enter Tryd.func58, Tryd.ntmps58
    go_wp2_with (first
      | (go_at_call 13; refine Calls.mono (dateOf_any n y m d 0 _ hDI.out) ?_; rintro e w1 ⟨rfl, rfl⟩)
      | (go_at_call 57; refine Calls.mono (in_bit (S 3) m _ s3 (by omega) (by omega)) ?_; rintro e w1 ⟨rfl, rfl⟩; rw [HM.out]))
    have hwr := HWR.out
    have hkm := HKM.out
    go_quiet ((first
      | (go_at_call_of 57 d; first
        | exact quiet_left (in_bit (S 2) d _ s2 (by omega) (by omega))
        | exact quiet_add_left (in_bit (S 2) d _ s2 (by omega) (by omega)))
      | (go_at_call_of 57 k; first
        | exact quiet_left (in_bit (S 4) k _ s4 (by omega) (by omega))
        | exact quiet_add_left (in_bit (S 4) k _ s4 (by omega) (by omega)))))
    clear hwr hkm
    by_cases h2 : S 2 = spanN 1 31
    · have HV := Lib.hid (dayB_dow (d := d) (k := k) HM.out h2)
      have H2 := Lib.hid (show decide (S 2 = spanN (lo 2) (hi 2)) = true from decide_eq_true h2)
      clear h2
      go_wp2_with (go_at_call 63; refine Calls.mono (full_any (S 2) 2 1 31 _ (by omega) s2 F2.out rfl rfl) ?_; rintro e w1 ⟨rfl, rfl⟩; rw [H2.out])
      go_ret
      exact ⟨ret_bool HV.out.symm, (by (repeat (with_reducible apply below_drewN)); go_grown)⟩
    · have H2 := Lib.hid (show decide (S 2 = spanN (lo 2) (hi 2)) = false from decide_eq_false h2)
      by_cases h4 : S 4 = spanN 0 6
      · have H4 := Lib.hid (show decide (S 4 = spanN (lo 4) (hi 4)) = true from decide_eq_true h4)
        have HV := Lib.hid (dayB_dom (d := d) (k := k) HM.out h2 h4)
        clear h2 h4
        go_wp2_with (first
          | (go_at_call_of 63 (S 2); refine Calls.mono (full_any (S 2) 2 1 31 _ (by omega) s2 F2.out rfl rfl) ?_; rintro e w1 ⟨rfl, rfl⟩; rw [H2.out])
          | (go_at_call 63; refine Calls.mono (full_any (S 4) 4 0 6 _ (by omega) s4 F4.out rfl rfl) ?_; rintro e w1 ⟨rfl, rfl⟩; rw [H4.out]))
        go_ret
        exact ⟨ret_bool HV.out.symm, (by (repeat (with_reducible apply below_drewN)); go_grown)⟩
      · have H4 := Lib.hid (show decide (S 4 = spanN (lo 4) (hi 4)) = false from decide_eq_false h4)
        have HV := Lib.hid (dayB_or (d := d) (k := k) HM.out h2 h4)
        clear h2 h4
        cases hb : bit (S 2) d.toNat
        all_goals
          have HB := Lib.hid hb
          clear hb
          go_wp2_with (first
            | (go_at_call_of 63 (S 2); refine Calls.mono (full_any (S 2) 2 1 31 _ (by omega) s2 F2.out rfl rfl) ?_; rintro e w1 ⟨rfl, rfl⟩; rw [H2.out])
            | (go_at_call 63; refine Calls.mono (full_any (S 4) 4 0 6 _ (by omega) s4 F4.out rfl rfl) ?_; rintro e w1 ⟨rfl, rfl⟩; rw [H4.out]))
          go_ret
          exact ⟨ret_bool (by rw [HV.out, HB.out]; rfl), (by (repeat (with_reducible apply below_drewN)); go_grown)⟩
end Go.Proofs.YtdbipmidjdhjpaaDoor
