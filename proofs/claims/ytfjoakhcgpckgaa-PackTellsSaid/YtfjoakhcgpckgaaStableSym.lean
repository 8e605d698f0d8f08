/- Contracts: two rows in order become one (symMerge), where one of them is one number alone. -/
import Derived.Test.YtfjoakhcgpckgaaStableIns
namespace Go.Proofs.Ytfjoakhcgpckgaa
open Go.ChangeShapes Go.WideShapes Go.ChangeAt Go.RowKit
set_option linter.unusedVariables false
open St
/-- all of the first are less, as numbers -/
def Less2 (U V : List Int) : Prop := ∀ u, u ∈ U → ∀ v, v ∈ V → u < v
theorem bef_vu {kf : Int → Int} {u v : Int} (h : u < v) : bef kf v u ↔ kf v < kf u := by unfold bef; omega
theorem bef_uv {kf : Int → Int} {u v : Int} (h : u < v) : bef kf u v ↔ ¬ kf v < kf u := by unfold bef; omega
/-- the place of u in V -/
structure Place (kf : Int → Int) (V : List Int) (u : Int) (i j : Nat) : Prop where
  lo : ∀ (t : Nat) (v : Int), t < i → V[t]? = some v → bef kf v u
  hi : ∀ (t : Nat) (v : Int), j ≤ t → V[t]? = some v → bef kf u v
theorem Place.start {kf : Int → Int} {V : List Int} {u : Int} : Place kf V u 0 V.length :=
  ⟨fun t v h => absurd h (by omega), fun t v h hv => by have := (List.getElem?_eq_some_iff.1 hv).1; omega⟩
theorem Place.up {kf : Int → Int} {V : List Int} {u : Int} {i j h : Nat} (p : Place kf V u i j) (hV : Srtd kf V) {v : Int} (hv : V[h]? = some v) (hb : bef kf v u) : Place kf V u (h + 1) j :=
  ⟨fun t x ht hx => by
    by_cases e : t = h
    · subst e; rw [hv] at hx; cases hx; exact hb
    · exact bef_trans (srtd_at hV hx hv (by omega)) hb, p.hi⟩
theorem Place.down {kf : Int → Int} {V : List Int} {u : Int} {i j h : Nat} (p : Place kf V u i j) (hV : Srtd kf V) {v : Int} (hv : V[h]? = some v) (hb : bef kf u v) : Place kf V u i h :=
  ⟨p.lo, fun t x ht hx => by
    by_cases e : t = h
    · subst e; rw [hv] at hx; cases hx; exact hb
    · exact bef_trans hb (srtd_at hV hv hx (by omega))⟩
theorem Place.split {kf : Int → Int} {V : List Int} {u : Int} {i : Nat} (p : Place kf V u i i) : (∀ v, v ∈ V.take i → bef kf v u) ∧ ∀ v, v ∈ V.drop i → bef kf u v := by
  refine ⟨fun v hv => ?_, fun v hv => ?_⟩
  · obtain ⟨t, ht⟩ := List.getElem?_of_mem hv
    rw [List.getElem?_take] at ht
    split at ht
    · exact p.lo t v (by assumption) ht
    · cases ht
  · obtain ⟨t, ht⟩ := List.getElem?_of_mem hv
    rw [List.getElem?_drop] at ht
    exact p.hi (i + t) v (by omega) ht
theorem idx_left {A U V B : List Int} {t : Nat} {x : Int} (h : U[t]? = some x) : (A ++ U ++ V ++ B)[A.length + t]? = some x := by
  have hl := (List.getElem?_eq_some_iff.1 h).1
  rw [List.append_assoc, List.append_assoc, List.getElem?_append_right (by omega), Nat.add_sub_cancel_left, List.getElem?_append_left hl]
  exact h
theorem idx_right {A U V B : List Int} {t : Nat} {x : Int} (h : V[t]? = some x) : (A ++ U ++ V ++ B)[A.length + U.length + t]? = some x := by
  have hl := (List.getElem?_eq_some_iff.1 h).1
  rw [List.append_assoc (A ++ U), List.getElem?_append_right (by rw [List.length_append]; omega), List.length_append, Nat.add_sub_cancel_left, List.getElem?_append_left hl]
  exact h
/-- u has gone behind the first t -/
def rolled (A V1 V2 B : List Int) (u : Int) (t : Nat) : List Int := (A ++ V1.take t) ++ u :: (V1.drop t ++ (V2 ++ B))
theorem rolled_step {A V1 V2 B : List Int} {u v : Int} {t : Nat} (h : V1[t]? = some v) : rolled A V1 V2 B u t = (A ++ V1.take t) ++ u :: ([] ++ v :: (V1.drop (t + 1) ++ (V2 ++ B))) ∧ rolled A V1 V2 B u (t + 1) = (A ++ V1.take t) ++ v :: ([] ++ u :: (V1.drop (t + 1) ++ (V2 ++ B))) := by
  obtain ⟨x1, x2⟩ := take_drop_at h
  unfold rolled
  rw [x1, x2]
  simp
set_option maxRecDepth 20000 in
set_option maxHeartbeats 1600000 in
theorem symL_any (K : FuncId) (hE : Enters K) (cv : Value) (cz : Int → Int → Int) (kf : Int → Int) (g cp : Nat) (w0 : World) (L0 A V B : List Int) (u : Int) (a m b n : Nat) (w : World) (hC : CmpOk K cv cz g w0 L0) (hZ : CmpBy cz kf L0) (h : Srt g cp w0 L0 (A ++ [u] ++ V ++ B) w) (hV : Srtd kf V) (hL : Less2 [u] V) (ha : A.length = a) (hm : a + 1 = m) (hb : m + V.length = b) (hn : (A ++ [u] ++ V ++ B).length = n) (h4 : n ≤ 1000) :
    Calls Try.prog 215 #[.slice (some ⟨g, 0, none⟩) n cp, .int .i64 a, .int .i64 m, .int .i64 b, .func (.func K) #[] #[cv]] w fun e w' => e = .returned (.tuple #[]) ∧ ∃ S, Srt g cp w0 L0 (A ++ S ++ B) w' ∧ Merged kf [u] V S := by
  have HC := Lib.hid hC
  have HZ := Lib.hid hZ
  have HV := Lib.hid hV
  have HL := Lib.hid hL
  have HN := Lib.hid hn
  have HA := Lib.hid ha
  have HS := Lib.hid h
  have hbn : b ≤ n := by rw [← hn]; simp; omega
  obtain ⟨k, hk⟩ : ∃ k, V.length = k := ⟨_, rfl⟩
  have HK := Lib.hid hk
  rw [hk] at hb
  have v0 : (m : Int) - (a : Int) = 1 := by omega
  clear hC hZ h hV hL ha hn hk
  unfold Enters at hE
  go_enter Try.func215, Try.ntmps215
  go_upto_region 3 with fail
  go_loopg [10, 11] k (fun gk x y wr => ∃ (i j : Nat), i ≤ j ∧ j ≤ k ∧ j - i ≤ gk ∧ x = .int .i64 ((m + i : Nat) : Int) ∧ y = .int .i64 ((m + j : Nat) : Int) ∧ Hid (Place kf V u i j) ∧ Hid (Srt g cp w0 L0 (A ++ [u] ++ V ++ B) wr))
  case atStart => exact ⟨0, k, by omega, by omega, by omega, by simp, by simp; omega, Lib.hid (by have := Place.start (kf := kf) (V := V) (u := u); rwa [HK.out] at this), HS⟩
  case round =>
    clear HS
    obtain ⟨i, j, hij, hjk, hg, rfl, rfl, HP, HS⟩ := hrel
    obtain ⟨p, hp⟩ : ∃ p, m + i = p := ⟨_, rfl⟩
    obtain ⟨q, hq⟩ : ∃ q, m + j = q := ⟨_, rfl⟩
    rw [hp, hq]
    have hlen : A.length + ([u] : List Int).length = m := by have := HA.out; simp; omega
    have HLE := Lib.hid hlen
    clear hlen
    by_cases hlt : i < j
    · obtain ⟨h, hh1, hh2⟩ : ∃ h, 2 * h ≤ p + q ∧ p + q < 2 * h + 2 := ⟨(p + q) / 2, by omega, by omega⟩
      have vh : ((p : Int) + (q : Int)) / 2 = (h : Int) := by omega
      obtain ⟨t, hmt⟩ : ∃ t, m + t = h := ⟨h - m, by omega⟩
      obtain ⟨v, hv⟩ : ∃ v, V[t]? = some v := ⟨_, List.getElem?_eq_getElem (by have := HK.out; omega)⟩
      have c1 : wr.cell? ⟨g, h, none⟩ = some (.int .i64 v) := HS.out.cell (by have := idx_right (A := A) (U := [u]) (B := B) hv; rwa [HLE.out, hmt] at this)
      have c2 : wr.cell? ⟨g, a, none⟩ = some (.int .i64 u) := HS.out.cell (by have := idx_left (A := A) (U := [u]) (V := V) (B := B) (t := 0) (x := u) rfl; rwa [HA.out] at this)
      have lg := HS.out.lt
      have HVV := Lib.hid hv
      have HHX : Hid (v ∈ L0 ∧ u ∈ L0 ∧ u < v) := Lib.hid ⟨HS.out.perm.mem_iff.1 (by have := List.mem_of_getElem? hv; simp [this]), HS.out.perm.mem_iff.1 (by simp), HL.out u (by simp) v (List.mem_of_getElem? hv)⟩
      have i1 : (0 : Int) ≤ (h : Int) := by omega
      have i2 : (h : Int) < (n : Int) := by omega
      have i3 : (0 : Int) ≤ (a : Int) := by omega
      have i4 : (a : Int) < (n : Int) := by omega
      have wh : IntKind.i64.wrap ((h : Int) + 1) = ((h + 1 : Nat) : Int) := by rw [IntWalk.i64_in _ (by omega)]; omega
      clear hv
      cases hcz : decide (cz v u < 0) with
      | true =>
        have HP2 := Lib.hid (HP.out.up HV.out HVV.out ((bef_vu HHX.out.2.2).2 (by have h1 := HZ.out v u HHX.out.1 HHX.out.2.1; rw [hcz] at h1; simpa using h1.symm)))
        go_upto_region 5 with fail
        go_quiet ((exact quiet_drawn (HC.out _ (HS.out.kept.drewN _) v u HHX.out.1 HHX.out.2.1)))
        go_wp2_with fail
        go_roundg (gk - 1)
        case measure => omega
        case rel => exact ⟨t + 1, j, by omega, hjk, by omega, by simp; omega, by rw [hq], HP2, Lib.hid (HS.out.drewN _)⟩
      | false =>
        have HP2 := Lib.hid (HP.out.down HV.out HVV.out ((bef_uv HHX.out.2.2).2 (by have h1 := HZ.out v u HHX.out.1 HHX.out.2.1; rw [hcz] at h1; simpa using h1.symm)))
        go_upto_region 5 with fail
        go_quiet ((exact quiet_drawn (HC.out _ (HS.out.kept.drewN _) v u HHX.out.1 HHX.out.2.1)))
        go_wp2_with fail
        go_roundg (gk - 1)
        case measure => omega
        case rel => exact ⟨i, t, by omega, by omega, by omega, by rw [hp], by rw [hmt], HP2, Lib.hid (HS.out.drewN _)⟩
    · obtain rfl : i = j := by omega
      obtain rfl : p = q := by omega
      obtain ⟨z, hz⟩ : ∃ z, z + 1 = p := ⟨p - 1, by omega⟩
      have vz : (p : Int) - 1 = (z : Int) := by omega
      have wz : IntKind.i64.wrap (z : Int) = (z : Int) := IntWalk.i64_in _ (by omega)
      obtain ⟨V1, V2, hVV⟩ : ∃ V1 V2, V1 = V.take i ∧ V2 = V.drop i := ⟨_, _, rfl, rfl⟩
      obtain ⟨hV1, hV2⟩ := hVV
      have hVe : V = V1 ++ V2 := by rw [hV1, hV2, List.take_append_drop]
      have hVl : V1.length = i := by rw [hV1, List.length_take]; have := HK.out; omega
      obtain ⟨pl1, pl2⟩ := HP.out.split
      have HME := Lib.hid (show Merged kf [u] V (V1 ++ u :: V2) from by
        rw [hVe]
        exact merged_one_left (hVe ▸ HV.out) (hV1 ▸ pl1) (hV2 ▸ pl2))
      have HS0 : Hid (Srt g cp w0 L0 (rolled A V1 V2 B u 0) wr) := Lib.hid (by
        have h1 := HS.out
        rw [hVe] at h1
        simpa [rolled] using h1)
      have HVL := Lib.hid hVl
      clear hV1 hV2 hVe hVl pl1 pl2 HP
      go_wp2_with fail
      go_loopw [13] (fun x wx => ∃ (t s : Nat), t ≤ i ∧ a + t = s ∧ x = .int .i64 (s : Int) ∧ Hid (Srt g cp w0 L0 (rolled A V1 V2 B u t) wx)) (fun v _ => z - (intOf v).toNat)
      case atStart => exact ⟨0, a, by omega, by omega, rfl, HS0⟩
      case round =>
        clear HS0
        obtain ⟨t, s, hti, hts, rfl, HT⟩ := hrel
        by_cases hlt2 : s < z
        · obtain ⟨v, hv⟩ : ∃ v, V1[t]? = some v := ⟨_, List.getElem?_eq_getElem (by have := HVL.out; omega)⟩
          obtain ⟨e1, e2⟩ := rolled_step (A := A) (V2 := V2) (B := B) (u := u) hv
          have hs := HT.out
          rw [e1] at hs
          have hl1 : (A ++ V1.take t).length = s := by rw [List.length_append, List.length_take, HA.out, HVL.out]; omega
          have hl2 : (A ++ V1.take t).length + 1 + ([] : List Int).length = s + 1 := by rw [hl1]; simp
          have c1 : wr.cell? ⟨g, s, none⟩ = some (.int .i64 u) := hs.cell (by rw [← hl1]; exact at_fst _ _ _)
          have c2 : wr.cell? ⟨g, s + 1, none⟩ = some (.int .i64 v) := hs.cell (by rw [← hl2]; exact at_snd _ _ _ _ _)
          have f1 := hs.frozen s
          have f2 := hs.frozen (s + 1)
          have lg := hs.lt
          obtain ⟨s1, s2⟩ := hs.drew.sw hl1 hl2
          rw [← e2] at s1 s2
          have HS1 := Lib.hid s1
          have HS2 := Lib.hid s2
          have i1 : (0 : Int) ≤ (s : Int) := by omega
          have i2 : (s : Int) < (n : Int) := by omega
          have i3 : (0 : Int) ≤ (s : Int) + 1 := by omega
          have i4 : (s : Int) + 1 < (n : Int) := by omega
          have ws : IntKind.i64.wrap ((s : Int) + 1) = (s : Int) + 1 := IntWalk.i64_in _ (by omega)
          have ts : ((s : Int) + 1).toNat = s + 1 := by omega
          clear hs e1 e2 s1 s2 hl1 hl2 hv
          go_upto_region 11 with fail
          go_region
          all_goals
            go_wp2_with fail
            go_roundw
            case rel => exact ⟨t + 1, s + 1, by omega, by omega, by simp, by first | exact HS1 | exact HS2⟩
            case measure => simp [intOf]; omega
        · obtain rfl : t = i := by omega
          have HSE := Lib.hid (show Srt g cp w0 L0 (A ++ (V1 ++ u :: V2) ++ B) wr from by
            have h1 := HT.out
            unfold rolled at h1
            rw [List.take_of_length_le (by have := HVL.out; omega), List.drop_eq_nil_of_le (by have := HVL.out; omega)] at h1
            simpa using h1)
          go_wp2_with fail
          refine bodyPost_ret (results_none (by rfl) _ _ _) rfl ?_
          exact ⟨rfl, _, by simpa using HSE.out, HME.out⟩
end Go.Proofs.Ytfjoakhcgpckgaa
