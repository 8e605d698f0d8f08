/- Contract: two rows in order become one (symMerge), where the second is one number alone. -/
import Derived.Test.YtfjoakhcgpckgaaStableSym
namespace Go.Proofs.Ytfjoakhcgpckgaa
open Go.ChangeShapes Go.WideShapes Go.ChangeAt Go.RowKit
set_option linter.unusedVariables false
open St
set_option maxRecDepth 20000 in
set_option maxHeartbeats 1600000 in
theorem symR_any (K : FuncId) (hE : Enters K) (cv : Value) (cz : Int → Int → Int) (kf : Int → Int) (g cp : Nat) (w0 : World) (L0 A U B : List Int) (v : Int) (a m b n : Nat) (w : World) (hC : CmpOk K cv cz g w0 L0) (hZ : CmpBy cz kf L0) (h : Srt g cp w0 L0 (A ++ U ++ [v] ++ B) w) (hU : Srtd kf U) (hL : Less2 U [v]) (ha : A.length = a) (hm : a + U.length = m) (hb : m + 1 = b) (hn : (A ++ U ++ [v] ++ B).length = n) (h4 : n ≤ 1000) (hk1 : U.length ≠ 1) :
    Calls Try.prog 215 #[.slice (some ⟨g, 0, none⟩) n cp, .int .i64 a, .int .i64 m, .int .i64 b, .func (.func K) #[] #[cv]] w fun e w' => e = .returned (.tuple #[]) ∧ ∃ S, Srt g cp w0 L0 (A ++ S ++ B) w' ∧ Merged kf U [v] S := by
  have HC := Lib.hid hC
  have HZ := Lib.hid hZ
  have HU := Lib.hid hU
  have HL := Lib.hid hL
  have HN := Lib.hid hn
  have HA := Lib.hid ha
  have HS := Lib.hid h
  have hbn : b ≤ n := by rw [← hn]; simp; omega
  obtain ⟨k, hk⟩ : ∃ k, U.length = k := ⟨_, rfl⟩
  have HK := Lib.hid hk
  rw [hk] at hm hk1
  have v0 : (m : Int) - (a : Int) = (k : Int) := by omega
  have v1 : ((k : Int) == 1) = false := by simp; omega
  have v2 : IntKind.i64.wrap (k : Int) = (k : Int) := IntWalk.i64_in _ (by omega)
  have v3 : (b : Int) - (m : Int) = 1 := by omega
  clear hC hZ h hU hL ha hn hk hk1
  unfold Enters at hE
  go_enter Try.func215, Try.ntmps215
  go_upto_region 15 with fail
  go_loopg [14, 15] k (fun gk x y wr => ∃ (i j : Nat), i ≤ j ∧ j ≤ k ∧ j - i ≤ gk ∧ x = .int .i64 ((a + i : Nat) : Int) ∧ y = .int .i64 ((a + j : Nat) : Int) ∧ Hid (Place kf U v i j) ∧ Hid (Srt g cp w0 L0 (A ++ U ++ [v] ++ B) wr))
  case atStart => exact ⟨0, k, by omega, by omega, by omega, by simp, by simp; omega, Lib.hid (by have := Place.start (kf := kf) (V := U) (u := v); rwa [HK.out] at this), HS⟩
  case round =>
    clear HS
    obtain ⟨i, j, hij, hjk, hg, rfl, rfl, HP, HS⟩ := hrel
    obtain ⟨p, hp⟩ : ∃ p, a + i = p := ⟨_, rfl⟩
    obtain ⟨q, hq⟩ : ∃ q, a + j = q := ⟨_, rfl⟩
    rw [hp, hq]
    have hlen : A.length + U.length = m := by have := HA.out; have := HK.out; omega
    have HLE := Lib.hid hlen
    clear hlen
    by_cases hlt : i < j
    · obtain ⟨h, hh1, hh2⟩ : ∃ h, 2 * h ≤ p + q ∧ p + q < 2 * h + 2 := ⟨(p + q) / 2, by omega, by omega⟩
      have vh : ((p : Int) + (q : Int)) / 2 = (h : Int) := by omega
      obtain ⟨t, hmt⟩ : ∃ t, a + t = h := ⟨h - a, by omega⟩
      obtain ⟨u, hu⟩ : ∃ u, U[t]? = some u := ⟨_, List.getElem?_eq_getElem (by have := HK.out; omega)⟩
      have c1 : wr.cell? ⟨g, h, none⟩ = some (.int .i64 u) := HS.out.cell (by have := idx_left (A := A) (V := [v]) (B := B) hu; rwa [HA.out, hmt] at this)
      have c2 : wr.cell? ⟨g, m, none⟩ = some (.int .i64 v) := HS.out.cell (by have := idx_right (A := A) (U := U) (V := [v]) (B := B) (t := 0) (x := v) rfl; rwa [HLE.out] at this)
      have lg := HS.out.lt
      have HUU := Lib.hid hu
      have HHX : Hid (v ∈ L0 ∧ u ∈ L0 ∧ u < v) := Lib.hid ⟨HS.out.perm.mem_iff.1 (by simp), HS.out.perm.mem_iff.1 (by have := List.mem_of_getElem? hu; simp [this]), HL.out u (List.mem_of_getElem? hu) v (by simp)⟩
      have i1 : (0 : Int) ≤ (h : Int) := by omega
      have i2 : (h : Int) < (n : Int) := by omega
      have i3 : (0 : Int) ≤ (m : Int) := by omega
      have i4 : (m : Int) < (n : Int) := by omega
      have wh : IntKind.i64.wrap ((h : Int) + 1) = ((h + 1 : Nat) : Int) := by rw [IntWalk.i64_in _ (by omega)]; omega
      clear hu
      cases hcz : decide (cz v u < 0) with
      | true =>
        have HP2 := Lib.hid (HP.out.down HU.out HUU.out ((bef_vu HHX.out.2.2).2 (by have h1 := HZ.out v u HHX.out.1 HHX.out.2.1; rw [hcz] at h1; simpa using h1.symm)))
        go_upto_region 17 with fail
        go_quiet ((exact quiet_drawn (HC.out _ (HS.out.kept.drewN _) v u HHX.out.1 HHX.out.2.1)))
        go_wp2_with fail
        go_roundg (gk - 1)
        case measure => omega
        case rel => exact ⟨i, t, by omega, by omega, by omega, by rw [hp], by rw [hmt], HP2, Lib.hid (HS.out.drewN _)⟩
      | false =>
        have HP2 := Lib.hid (HP.out.up HU.out HUU.out ((bef_uv HHX.out.2.2).2 (by have h1 := HZ.out v u HHX.out.1 HHX.out.2.1; rw [hcz] at h1; simpa using h1.symm)))
        go_upto_region 17 with fail
        go_quiet ((exact quiet_drawn (HC.out _ (HS.out.kept.drewN _) v u HHX.out.1 HHX.out.2.1)))
        go_wp2_with fail
        go_roundg (gk - 1)
        case measure => omega
        case rel => exact ⟨t + 1, j, by omega, hjk, by omega, by simp; omega, by rw [hq], HP2, Lib.hid (HS.out.drewN _)⟩
    · obtain rfl : i = j := by omega
      obtain rfl : p = q := by omega
      obtain ⟨U1, U2, hU1, hU2⟩ : ∃ U1 U2, U1 = U.take i ∧ U2 = U.drop i := ⟨_, _, rfl, rfl⟩
      have hUe : U = U1 ++ U2 := by rw [hU1, hU2, List.take_append_drop]
      have hUl : U1.length = i := by rw [hU1, List.length_take]; have := HK.out; omega
      have hUl2 : U2.length = k - i := by rw [hU2, List.length_drop, HK.out]
      obtain ⟨pl1, pl2⟩ := HP.out.split
      have HME := Lib.hid (show Merged kf U [v] (U1 ++ v :: U2) from by
        rw [hUe]
        exact merged_one_right (hUe ▸ HU.out) (hU1 ▸ pl1) (hU2 ▸ pl2))
      have HS0 : Hid (Srt g cp w0 L0 (rolled (A ++ U1) U2 [] B v (k - i)) wr) := Lib.hid (by
        have h1 := HS.out
        rw [hUe] at h1
        unfold rolled
        rw [List.take_of_length_le (by omega), List.drop_eq_nil_of_le (by omega)]
        simpa using h1)
      have HVL := Lib.hid hUl
      have HVL2 := Lib.hid hUl2
      clear hU1 hU2 hUe hUl hUl2 pl1 pl2 HP
      go_wp2_with fail
      go_loopg [17] (k - i) (fun gk x wx => ∃ (t s : Nat), t ≤ k - i ∧ t ≤ gk ∧ p + t = s ∧ x = .int .i64 (s : Int) ∧ Hid (Srt g cp w0 L0 (rolled (A ++ U1) U2 [] B v t) wx))
      case atStart => exact ⟨k - i, m, by omega, by omega, by omega, rfl, HS0⟩
      case round =>
        clear HS0
        obtain ⟨t, s, hti, htg, hts, rfl, HT⟩ := hrel
        by_cases ht0 : 0 < t
        · obtain ⟨r, hr⟩ : ∃ r, r + 1 = t := ⟨t - 1, by omega⟩
          obtain ⟨z, hz⟩ : ∃ z, z + 1 = s := ⟨s - 1, by omega⟩
          obtain ⟨x, hx⟩ : ∃ x, U2[r]? = some x := ⟨_, List.getElem?_eq_getElem (by have := HVL2.out; omega)⟩
          obtain ⟨e1, e2⟩ := rolled_step (A := A ++ U1) (V2 := []) (B := B) (u := v) hx
          rw [hr] at e1 e2
          have hs := HT.out
          rw [e2] at hs
          have hl1 : (A ++ U1 ++ U2.take r).length = z := by rw [List.length_append, List.length_append, List.length_take, HA.out, HVL.out, HVL2.out]; omega
          have hl2 : (A ++ U1 ++ U2.take r).length + 1 + ([] : List Int).length = s := by rw [hl1]; simp; omega
          have c1 : wr.cell? ⟨g, z, none⟩ = some (.int .i64 x) := hs.cell (by rw [← hl1]; exact at_fst _ _ _)
          have c2 : wr.cell? ⟨g, s, none⟩ = some (.int .i64 v) := hs.cell (by rw [← hl2]; exact at_snd _ _ _ _ _)
          have f1 := hs.frozen z
          have f2 := hs.frozen s
          have lg := hs.lt
          obtain ⟨s1, s2⟩ := hs.drew.sw hl1 hl2
          rw [← e1] at s1 s2
          have HS1 := Lib.hid s1
          have HS2 := Lib.hid s2
          have hsn : s < n := by omega
          have i1 : (0 : Int) ≤ (s : Int) := by omega
          have i2 : (s : Int) < (n : Int) := by omega
          have i3 : (0 : Int) ≤ (z : Int) := by omega
          have i4 : (z : Int) < (n : Int) := by omega
          have ws : (s : Int) - 1 = (z : Int) := by omega
          have wz : IntKind.i64.wrap (z : Int) = (z : Int) := IntWalk.i64_in _ (by omega)
          have hgt : (s : Int) > (p : Int) := by omega
          have hne : ¬ z = s := by omega
          have hne2 : ¬ s = z := by omega
          clear hs e1 e2 s1 s2 hl1 hl2 hx
          go_upto_region 23 with fail
          go_region
          all_goals
            go_wp2_with fail
            go_roundg (t - 1)
            case measure => omega
            case rel => exact ⟨r, z, by omega, by omega, by omega, rfl, by first | exact HS1 | exact HS2⟩
        · obtain rfl : t = 0 := by omega
          have hgt : ¬ ((s : Int) > (p : Int)) := by omega
          have HSE := Lib.hid (show Srt g cp w0 L0 (A ++ (U1 ++ v :: U2) ++ B) wr from by
            have h1 := HT.out
            unfold rolled at h1
            simpa using h1)
          go_wp2_with fail
          refine bodyPost_ret (results_none (by rfl) _ _ _) rfl ?_
          exact ⟨rfl, _, by simpa using HSE.out, HME.out⟩
end Go.Proofs.Ytfjoakhcgpckgaa
