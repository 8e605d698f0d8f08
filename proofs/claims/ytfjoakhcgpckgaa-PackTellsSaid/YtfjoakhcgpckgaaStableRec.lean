/- Contract: two rows in order become one (symMerge). -/
import Derived.Test.YtfjoakhcgpckgaaStableSymR
namespace Go.Proofs.Ytfjoakhcgpckgaa
open Go.ChangeShapes Go.WideShapes Go.ChangeAt Go.RowKit
set_option linter.unusedVariables false
open St
/-- where both rows are cut, so that h numbers lie in front -/
structure CutI (kf : Int → Int) (U V : List Int) (h s r : Nat) : Prop where
  lo : ∀ (x y : Nat) (u v : Int), x < s → x + y + 1 = h → U[x]? = some u → V[y]? = some v → bef kf u v
  hi : ∀ (x y : Nat) (u v : Int), r ≤ x → x + y + 1 = h → U[x]? = some u → V[y]? = some v → bef kf v u
theorem CutI.start {kf : Int → Int} {U V : List Int} {h s r : Nat} (hs : s = h - V.length) (hr : h ≤ r ∨ U.length ≤ r) : CutI kf U V h s r :=
  ⟨fun x y u v h1 h2 h3 h4 => by have := (List.getElem?_eq_some_iff.1 h4).1; omega, fun x y u v h1 h2 h3 h4 => by have := (List.getElem?_eq_some_iff.1 h3).1; omega⟩
theorem srtd_le {kf : Int → Int} {L : List Int} (h : Srtd kf L) {i j : Nat} {x y : Int} (hi : L[i]? = some x) (hj : L[j]? = some y) (hij : i ≤ j) : x = y ∨ bef kf x y := by
  by_cases e : i = j
  · subst e; rw [hi] at hj; exact .inl (Option.some.inj hj)
  · exact .inr (srtd_at h hi hj (by omega))
theorem bef_le {kf : Int → Int} {x y z w : Int} (h1 : x = y ∨ bef kf x y) (h2 : bef kf y z) (h3 : z = w ∨ bef kf z w) : bef kf x w := by
  rcases h1 with rfl | h1 <;> rcases h3 with rfl | h3
  · exact h2
  · exact bef_trans h2 h3
  · exact bef_trans h1 h2
  · exact bef_trans h1 (bef_trans h2 h3)
theorem CutI.up {kf : Int → Int} {U V : List Int} {h s r x y : Nat} {u v : Int} (c : CutI kf U V h s r) (hU : Srtd kf U) (hV : Srtd kf V) (hxy : x + y + 1 = h) (hu : U[x]? = some u) (hv : V[y]? = some v) (hb : bef kf u v) : CutI kf U V h (x + 1) r :=
  ⟨fun x' y' u' v' h1 h2 h3 h4 => bef_le (srtd_le hU h3 hu (by omega)) hb (srtd_le hV hv h4 (by omega)), c.hi⟩
theorem CutI.down {kf : Int → Int} {U V : List Int} {h s r x y : Nat} {u v : Int} (c : CutI kf U V h s r) (hU : Srtd kf U) (hV : Srtd kf V) (hxy : x + y + 1 = h) (hu : U[x]? = some u) (hv : V[y]? = some v) (hb : bef kf v u) : CutI kf U V h s x :=
  ⟨c.lo, fun x' y' u' v' h1 h2 h3 h4 => bef_le (srtd_le hV h4 hv (by omega)) hb (srtd_le hU hu h3 (by omega))⟩
theorem CutI.done {kf : Int → Int} {U V : List Int} {h s : Nat} (c : CutI kf U V h s s) (hU : Srtd kf U) (hV : Srtd kf V) (h1 : h - V.length ≤ s) (h2 : s ≤ h) (h3 : s ≤ U.length) :
    (∀ u, u ∈ U.take s → ∀ v, v ∈ V.drop (h - s) → bef kf u v) ∧ ∀ v, v ∈ V.take (h - s) → ∀ u, u ∈ U.drop s → bef kf v u := by
  refine ⟨fun u hu v hv => ?_, fun v hv u hu => ?_⟩
  · obtain ⟨x, hx⟩ := List.getElem?_of_mem hu
    obtain ⟨y, hy⟩ := List.getElem?_of_mem hv
    rw [List.getElem?_take] at hx
    rw [List.getElem?_drop] at hy
    split at hx
    · rename_i hxs
      have hyl := (List.getElem?_eq_some_iff.1 hy).1
      have e1 : U[s - 1]? = some U[s - 1] := List.getElem?_eq_getElem (by omega)
      have e2 : V[h - s]? = some V[h - s] := List.getElem?_eq_getElem (by omega)
      exact bef_le (srtd_le hU hx e1 (by omega)) (c.lo (s - 1) (h - s) _ _ (by omega) (by omega) e1 e2) (srtd_le hV e2 hy (by omega))
    · cases hx
  · obtain ⟨y, hy⟩ := List.getElem?_of_mem hv
    obtain ⟨x, hx⟩ := List.getElem?_of_mem hu
    rw [List.getElem?_take] at hy
    rw [List.getElem?_drop] at hx
    split at hy
    · rename_i hys
      have hxl := (List.getElem?_eq_some_iff.1 hx).1
      have e1 : U[s]? = some U[s] := List.getElem?_eq_getElem (by omega)
      have e2 : V[h - s - 1]? = some V[h - s - 1] := List.getElem?_eq_getElem (by omega)
      exact bef_le (srtd_le hV hy e2 (by omega)) (c.hi s (h - s - 1) _ _ (Nat.le_refl _) (by omega) e1 e2) (srtd_le hU e1 hx (by omega))
    · cases hy
/-- the contract, for rows that are shorter -/
def SymFor (K : FuncId) (cv : Value) (kf : Int → Int) (g cp : Nat) (w0 : World) (L0 : List Int) (n N : Nat) : Prop :=
  ∀ (A U V B : List Int) (a m b : Nat) (w : World), U.length + V.length < N → Srt g cp w0 L0 (A ++ U ++ V ++ B) w → Srtd kf U → Srtd kf V → Less2 U V → A.length = a → a + U.length = m → m + V.length = b → (A ++ U ++ V ++ B).length = n → 0 < U.length → 0 < V.length →
    Calls Try.prog 215 #[.slice (some ⟨g, 0, none⟩) n cp, .int .i64 a, .int .i64 m, .int .i64 b, .func (.func K) #[] #[cv]] w fun e w' => e = .returned (.tuple #[]) ∧ ∃ S, Srt g cp w0 L0 (A ++ S ++ B) w' ∧ Merged kf U V S
set_option maxRecDepth 20000 in
set_option maxHeartbeats 1600000 in
theorem symN_any (K : FuncId) (hE : Enters K) (cv : Value) (cz : Int → Int → Int) (kf : Int → Int) (g cp : Nat) (w0 : World) (L0 A U V B : List Int) (a m b n N : Nat) (w : World) (hC : CmpOk K cv cz g w0 L0) (hZ : CmpBy cz kf L0) (hI : SymFor K cv kf g cp w0 L0 n N) (hNN : U.length + V.length = N) (hS : Srt g cp w0 L0 (A ++ U ++ V ++ B) w) (hU : Srtd kf U) (hV : Srtd kf V) (hL : Less2 U V) (ha : A.length = a) (hm : a + U.length = m) (hb : m + V.length = b) (hn : (A ++ U ++ V ++ B).length = n) (h4 : n ≤ 1000) (hk1 : 1 < U.length) (hk2 : 1 < V.length) :
    Calls Try.prog 215 #[.slice (some ⟨g, 0, none⟩) n cp, .int .i64 a, .int .i64 m, .int .i64 b, .func (.func K) #[] #[cv]] w fun e w' => e = .returned (.tuple #[]) ∧ ∃ S, Srt g cp w0 L0 (A ++ S ++ B) w' ∧ Merged kf U V S := by
  have HC := Lib.hid hC
  have HZ := Lib.hid hZ
  have HI := Lib.hid hI
  have HU := Lib.hid hU
  have HV := Lib.hid hV
  have HL := Lib.hid hL
  have HN := Lib.hid hn
  have HNN0 := Lib.hid hn
  have HA := Lib.hid ha
  have HS := Lib.hid hS
  have hbn : b ≤ n := by rw [← hn]; simp; omega
  obtain ⟨ku, hku⟩ : ∃ k, U.length = k := ⟨_, rfl⟩
  obtain ⟨kv, hkv⟩ : ∃ k, V.length = k := ⟨_, rfl⟩
  have HKU := Lib.hid hku
  have HKV := Lib.hid hkv
  rw [hku] at hm hk1 hNN
  rw [hkv] at hb hk2 hNN
  have v0 : (m : Int) - (a : Int) = (ku : Int) := by omega
  have v1 : ((ku : Int) == 1) = false := by simp; omega
  have v2 : IntKind.i64.wrap (ku : Int) = (ku : Int) := IntWalk.i64_in _ (by omega)
  have v3 : (b : Int) - (m : Int) = (kv : Int) := by omega
  have v4 : ((kv : Int) == 1) = false := by simp; omega
  have v5 : IntKind.i64.wrap (kv : Int) = (kv : Int) := IntWalk.i64_in _ (by omega)
  obtain ⟨h, hh1, hh2⟩ : ∃ h, 2 * h ≤ ku + kv ∧ ku + kv < 2 * h + 2 := ⟨(ku + kv) / 2, by omega, by omega⟩
  obtain ⟨mid, hmid⟩ : ∃ mid, a + h = mid := ⟨_, rfl⟩
  obtain ⟨nn, hnn⟩ : ∃ nn, mid + m = nn := ⟨_, rfl⟩
  obtain ⟨p, hp⟩ : ∃ p, p + 1 = nn := ⟨nn - 1, by omega⟩
  have v6 : ((a : Int) + (b : Int)) / 2 = (mid : Int) := by omega
  have v7 : (mid : Int) + (m : Int) = (nn : Int) := by omega
  have v8 : IntKind.i64.wrap (nn : Int) = (nn : Int) := IntWalk.i64_in _ (by omega)
  have v9 : (nn : Int) - 1 = (p : Int) := by omega
  have v10 : IntKind.i64.wrap (p : Int) = (p : Int) := IntWalk.i64_in _ (by omega)
  clear hC hZ hI hS hU hV hL ha hn hku hkv
  unfold Enters at hE
  go_enter Try.func215, Try.ntmps215
  obtain ⟨s0, hs0⟩ : ∃ s0, s0 + 0 = h - kv := ⟨_, rfl⟩
  obtain ⟨r0, hr0⟩ : ∃ r0, r0 + 0 = min h ku := ⟨_, rfl⟩
  go_upto_if 140 with fail
  go_cut [20, 21] (fun x y W => x = .int .i64 ((a + s0 : Nat) : Int) ∧ y = .int .i64 ((a + r0 : Nat) : Int) ∧ W = w)
  case first => as_aux_lemma =>
    by_cases hgt : h < ku
    · have b1 : mid < m := by omega
      have b1' : decide (mid < m) = true := by simp [b1]
      obtain ⟨st, hst⟩ : ∃ st, st + b = nn := ⟨nn - b, by omega⟩
      have b2 : (nn : Int) - (b : Int) = (st : Int) := by omega
      have b3 : IntKind.i64.wrap (st : Int) = (st : Int) := IntWalk.i64_in _ (by omega)
      go_wp2_with fail
      go_meet
      exact ⟨by rw [show a + s0 = st from by omega], by rw [show a + r0 = mid from by omega], rfl⟩
    · have b1 : ¬ mid < m := by omega
      have b1' : decide (mid < m) = false := by simp [b1]
      go_wp2_with fail
      go_meet
      exact ⟨by rw [show a + s0 = a from by omega], by rw [show a + r0 = m from by omega], rfl⟩
  case rest => as_aux_lemma =>
    obtain ⟨rfl, rfl, rfl⟩ := hcut
    clear v0 v1 v2 v3 v4 v5 v6
    have HC0 : Hid (CutI kf U V h s0 r0) := Lib.hid (CutI.start (by have := HKV.out; omega) (by have := HKU.out; omega))
    have hr1 : r0 ≤ h := by omega
    have hr2 : r0 ≤ ku := by omega
    have hs1 : h ≤ s0 + kv := by omega
    have hsr : s0 ≤ r0 := by omega
    clear hr0 hs0
    go_upto_region 33 with fail
    go_loopg [20, 21] (r0 - s0) (fun gk x y wr => ∃ (i j : Nat), s0 ≤ i ∧ i ≤ j ∧ j ≤ r0 ∧ j - i ≤ gk ∧ x = .int .i64 ((a + i : Nat) : Int) ∧ y = .int .i64 ((a + j : Nat) : Int) ∧ Hid (CutI kf U V h i j) ∧ Hid (Srt g cp w0 L0 (A ++ U ++ V ++ B) wr))
    case atStart => exact ⟨s0, r0, by omega, by omega, by omega, by omega, rfl, rfl, HC0, HS⟩
    case round => as_aux_lemma =>
      clear HS HC0
      obtain ⟨i, j, hi0, hij, hjr, hg, rfl, rfl, HP, HS⟩ := hrel
      obtain ⟨st, hst⟩ : ∃ st, a + i = st := ⟨_, rfl⟩
      obtain ⟨rt, hrt⟩ : ∃ rt, a + j = rt := ⟨_, rfl⟩
      rw [hst, hrt]
      have hlen : A.length + U.length = m := by have := HA.out; have := HKU.out; omega
      have HLE := Lib.hid hlen
      clear hlen
      by_cases hlt : i < j
      · obtain ⟨c, hc1, hc2⟩ : ∃ c, 2 * c ≤ st + rt ∧ st + rt < 2 * c + 2 := ⟨(st + rt) / 2, by omega, by omega⟩
        have vc : ((st : Int) + (rt : Int)) / 2 = (c : Int) := by omega
        obtain ⟨x, hxc⟩ : ∃ x, a + x = c := ⟨c - a, by omega⟩
        obtain ⟨d, hd⟩ : ∃ d, d + c = p := ⟨p - c, by omega⟩
        obtain ⟨y, hyd⟩ : ∃ y, m + y = d := ⟨d - m, by omega⟩
        have hxy : x + y + 1 = h := by omega
        obtain ⟨u, hu⟩ : ∃ u, U[x]? = some u := ⟨_, List.getElem?_eq_getElem (by have := HKU.out; omega)⟩
        obtain ⟨v, hv⟩ : ∃ v, V[y]? = some v := ⟨_, List.getElem?_eq_getElem (by have := HKV.out; omega)⟩
        have c1 : wr.cell? ⟨g, c, none⟩ = some (.int .i64 u) := HS.out.cell (by have := idx_left (A := A) (V := V) (B := B) hu; rwa [HA.out, hxc] at this)
        have c2 : wr.cell? ⟨g, d, none⟩ = some (.int .i64 v) := HS.out.cell (by have := idx_right (A := A) (U := U) (B := B) hv; rwa [HLE.out, hyd] at this)
        have lg := HS.out.lt
        have HUU := Lib.hid hu
        have HVV := Lib.hid hv
        have HXY := Lib.hid hxy
        have HHX : Hid (v ∈ L0 ∧ u ∈ L0 ∧ u < v) := Lib.hid ⟨HS.out.perm.mem_iff.1 (by have := List.mem_of_getElem? hv; simp [this]), HS.out.perm.mem_iff.1 (by have := List.mem_of_getElem? hu; simp [this]), HL.out u (List.mem_of_getElem? hu) v (List.mem_of_getElem? hv)⟩
        have i1 : (0 : Int) ≤ (c : Int) := by omega
        have i2 : (c : Int) < (n : Int) := by omega
        have i3 : (0 : Int) ≤ (d : Int) := by omega
        have i4 : (d : Int) < (n : Int) := by omega
        have wd : (p : Int) - (c : Int) = (d : Int) := by omega
        have wd2 : IntKind.i64.wrap (d : Int) = (d : Int) := IntWalk.i64_in _ (by omega)
        have wh : IntKind.i64.wrap ((c : Int) + 1) = ((c + 1 : Nat) : Int) := by rw [IntWalk.i64_in _ (by omega)]; omega
        clear hu hv
        cases hcz : decide (cz v u < 0) with
        | true => as_aux_lemma =>
          have HP2 := Lib.hid (HP.out.down HU.out HV.out HXY.out HUU.out HVV.out ((bef_vu HHX.out.2.2).2 (by have h1 := HZ.out v u HHX.out.1 HHX.out.2.1; rw [hcz] at h1; simpa using h1.symm)))
          go_upto_region 35 with fail
          go_quiet ((exact quiet_drawn (HC.out _ (HS.out.kept.drewN _) v u HHX.out.1 HHX.out.2.1)))
          go_wp2_with fail
          go_roundg (gk - 1)
          case measure => omega
          case rel => exact ⟨i, x, by omega, by omega, by omega, by omega, by rw [hst], by rw [hxc], HP2, Lib.hid (HS.out.drewN _)⟩
        | false => as_aux_lemma =>
          have HP2 := Lib.hid (HP.out.up HU.out HV.out HXY.out HUU.out HVV.out ((bef_uv HHX.out.2.2).2 (by have h1 := HZ.out v u HHX.out.1 HHX.out.2.1; rw [hcz] at h1; simpa using h1.symm)))
          go_upto_region 35 with fail
          go_quiet ((exact quiet_drawn (HC.out _ (HS.out.kept.drewN _) v u HHX.out.1 HHX.out.2.1)))
          go_wp2_with fail
          go_roundg (gk - 1)
          case measure => omega
          case rel => exact ⟨x + 1, j, by omega, by omega, by omega, by omega, by simp; omega, by rw [hrt], HP2, Lib.hid (HS.out.drewN _)⟩
      · obtain rfl : i = j := by omega
        obtain rfl : st = rt := by omega
        obtain ⟨en, hen⟩ : ∃ en, en + st = nn := ⟨nn - st, by omega⟩
        have ve : (nn : Int) - (st : Int) = (en : Int) := by omega
        have we : IntKind.i64.wrap (en : Int) = (en : Int) := IntWalk.i64_in _ (by omega)
        obtain ⟨U1, U2, hU1, hU2⟩ : ∃ U1 U2, U1 = U.take i ∧ U2 = U.drop i := ⟨_, _, rfl, rfl⟩
        obtain ⟨V1, V2, hV1, hV2⟩ : ∃ V1 V2, V1 = V.take (h - i) ∧ V2 = V.drop (h - i) := ⟨_, _, rfl, rfl⟩
        have hUe : U = U1 ++ U2 := by rw [hU1, hU2, List.take_append_drop]
        have hVe : V = V1 ++ V2 := by rw [hV1, hV2, List.take_append_drop]
        have HLU : Hid (U1.length = i ∧ U2.length = ku - i ∧ V1.length = h - i ∧ V2.length = kv - (h - i)) := Lib.hid ⟨by rw [hU1, List.length_take]; have := HKU.out; omega, by rw [hU2, List.length_drop, HKU.out], by rw [hV1, List.length_take]; have := HKV.out; omega, by rw [hV2, List.length_drop, HKV.out]⟩
        have HD := Lib.hid (show (∀ u, u ∈ U1 → ∀ v, v ∈ V2 → bef kf u v) ∧ ∀ v, v ∈ V1 → ∀ u, u ∈ U2 → bef kf v u from by
          rw [hU1, hU2, hV1, hV2]
          exact HP.out.done HU.out HV.out (by have := HKV.out; omega) (by omega) (by have := HKU.out; omega))
        have HE1 := Lib.hid hUe
        have HE2 := Lib.hid hVe
        have HS1 : Hid (Srt g cp w0 L0 ((A ++ U1) ++ U2 ++ V1 ++ (V2 ++ B)) wr) := Lib.hid (by
          have h1 := HS.out
          rw [hUe, hVe] at h1
          simpa using h1)
        have HN1 : Hid (((A ++ U1) ++ U2 ++ V1 ++ (V2 ++ B)).length = n) := Lib.hid (by
          have h1 := HN.out
          rw [hUe, hVe] at h1
          simpa using h1)
        have HA1 : Hid ((A ++ U1).length = st) := Lib.hid (by rw [List.length_append, HA.out, HLU.out.1]; exact hst)
        clear hU1 hU2 hV1 hV2 hUe hVe HP HS HN
        go_upto_region 39 with fail
        go_cut [185] (fun x W => x = .bool (decide (st < m ∧ m < en)) ∧ W = wr)
        case first => as_aux_lemma =>
          by_cases q1 : st < m
          · by_cases q2 : m < en
            · have q1' : decide (st < m) = true := by simp [q1]
              have q2' : decide (m < en) = true := by simp [q2]
              go_wp2_with fail
              go_meet
              exact ⟨by simp [q1, q2], rfl⟩
            · have q1' : decide (st < m) = true := by simp [q1]
              have q2' : decide (m < en) = false := by simp [q2]
              go_wp2_with fail
              go_meet
              exact ⟨by simp [q1, q2], rfl⟩
          · have q1' : decide (st < m) = false := by simp [q1]
            go_wp2_with fail
            go_meet
            exact ⟨by simp [q1], rfl⟩
        case rest => as_aux_lemma =>
          obtain ⟨rfl, rfl⟩ := hcut
          go_upto_if 185 with fail
          go_cut [] (fun W => Srt g cp w0 L0 (A ++ U1 ++ V1 ++ (U2 ++ V2 ++ B)) W)
          case first => as_aux_lemma =>
            by_cases q : st < m ∧ m < en
            · have qd : decide (st < m ∧ m < en) = true := by simp [q]
              have HX : Hid (st + U2.length = m ∧ m + V1.length = en ∧ 0 < U2.length ∧ 0 < V1.length) := Lib.hid (by have := HLU.out; omega)
              go_wp2_with (go_at_call 232; refine Calls.mono (rot_any g cp w0 L0 (A ++ U1) U2 V1 (V2 ++ B) st m en n _ _ HS1.out HA1.out HX.out.1 HX.out.2.1 HX.out.2.2.1 HX.out.2.2.2 HN1.out h4) ?_; rintro e w2 ⟨rfl, hs⟩; have HS2 := Lib.hid hs; clear hs)
              go_meet
              have h1 := HS2.out
              simpa using h1
            · have qd : decide (st < m ∧ m < en) = false := by simp only [q, decide_false]
              have HX : Hid (U2 = [] ∨ V1 = []) := Lib.hid (by
                have hl := HLU.out
                by_cases q1 : st < m
                · exact .inr (List.eq_nil_of_length_eq_zero (by omega))
                · exact .inl (List.eq_nil_of_length_eq_zero (by omega)))
              go_wp2_with fail
              go_meet
              have h1 := HS1.out
              rcases HX.out with e | e <;> (rw [e] at h1 ⊢; simpa using h1)
          case rest => as_aux_lemma =>
            have HS2 := Lib.hid hcut
            clear HS1 HN1 hcut
            go_upto_region 41 with fail
            go_cut [199] (fun x W => x = .bool (decide (a < st ∧ st < mid)) ∧ W = wc)
            case first => as_aux_lemma =>
              by_cases q1 : a < st
              · by_cases q2 : st < mid
                · have q1' : decide (a < st) = true := by simp [q1]
                  have q2' : decide (st < mid) = true := by simp [q2]
                  go_wp2_with fail
                  go_meet
                  exact ⟨by simp [q1, q2], rfl⟩
                · have q1' : decide (a < st) = true := by simp [q1]
                  have q2' : decide (st < mid) = false := by simp [q2]
                  go_wp2_with fail
                  go_meet
                  exact ⟨by simp [q1, q2], rfl⟩
              · have q1' : decide (a < st) = false := by simp [q1]
                go_wp2_with fail
                go_meet
                exact ⟨by simp [q1], rfl⟩
            case rest => as_aux_lemma =>
              obtain ⟨rfl, rfl⟩ := hcut
              go_upto_if 199 with fail
              go_cut [] (fun W => ∃ W1, Srt g cp w0 L0 (A ++ W1 ++ (U2 ++ V2 ++ B)) W ∧ Merged kf U1 V1 W1)
              case first => as_aux_lemma =>
                by_cases q : a < st ∧ st < mid
                · have qd : decide (a < st ∧ st < mid) = true := by simp [q]
                  have HX : Hid (U1.length + V1.length < N ∧ a + U1.length = st ∧ st + V1.length = mid ∧ 0 < U1.length ∧ 0 < V1.length) := Lib.hid (by have := HLU.out; omega)
                  have HSU : Hid (Srtd kf U1 ∧ Srtd kf V1 ∧ Less2 U1 V1) := Lib.hid ⟨by have h1 := HU.out; rw [HE1.out] at h1; exact (srtd_app.1 h1).1, by have h1 := HV.out; rw [HE2.out] at h1; exact (srtd_app.1 h1).1, fun u hu v hv => HL.out u (by rw [HE1.out]; exact List.mem_append_left _ hu) v (by rw [HE2.out]; exact List.mem_append_left _ hv)⟩
                  have HNX : Hid ((A ++ U1 ++ V1 ++ (U2 ++ V2 ++ B)).length = n) := Lib.hid (by have h1 := HNN0.out; rw [HE1.out, HE2.out] at h1; simp only [List.length_append] at h1 ⊢; omega)
                  go_wp2_with (go_at_call 215; refine Calls.mono (HI.out A U1 V1 (U2 ++ V2 ++ B) a st mid _ HX.out.1 HS2.out HSU.out.1 HSU.out.2.1 HSU.out.2.2 HA.out HX.out.2.1 HX.out.2.2.1 HNX.out HX.out.2.2.2.1 HX.out.2.2.2.2) ?_; rintro e w2 ⟨rfl, S, hs, hm1⟩; have HS3 := Lib.hid hs; have HM3 := Lib.hid hm1; clear hs hm1)
                  go_meet
                  exact ⟨S, HS3.out, HM3.out⟩
                · have qd : decide (a < st ∧ st < mid) = false := by simp only [q, decide_false]
                  have HX : Hid (Merged kf U1 V1 (U1 ++ V1)) := Lib.hid (by
                    have hl := HLU.out
                    have s1 : Srtd kf U1 := by have h1 := HU.out; rw [HE1.out] at h1; exact (srtd_app.1 h1).1
                    have s2 : Srtd kf V1 := by have h1 := HV.out; rw [HE2.out] at h1; exact (srtd_app.1 h1).1
                    by_cases q1 : a < st
                    · have e : V1 = [] := List.eq_nil_of_length_eq_zero (by omega)
                      rw [e, List.append_nil]; exact merged_nil_right s1
                    · have e : U1 = [] := List.eq_nil_of_length_eq_zero (by omega)
                      rw [e, List.nil_append]; exact merged_nil_left s2)
                  go_wp2_with fail
                  go_meet
                  exact ⟨U1 ++ V1, by have h1 := HS2.out; simpa using h1, HX.out⟩
              case rest => as_aux_lemma =>
                obtain ⟨W1, hs3, hm3⟩ := hcut
                have HS3 := Lib.hid hs3
                have HM3 := Lib.hid hm3
                clear HS2 hs3 hm3
                go_upto_region 43 with fail
                go_cut [213] (fun x W => x = .bool (decide (mid < en ∧ en < b)) ∧ W = wc)
                case first => as_aux_lemma =>
                  by_cases q1 : mid < en
                  · by_cases q2 : en < b
                    · have q1' : decide (mid < en) = true := by simp [q1]
                      have q2' : decide (en < b) = true := by simp [q2]
                      go_wp2_with fail
                      go_meet
                      exact ⟨by simp [q1, q2], rfl⟩
                    · have q1' : decide (mid < en) = true := by simp [q1]
                      have q2' : decide (en < b) = false := by simp [q2]
                      go_wp2_with fail
                      go_meet
                      exact ⟨by simp [q1, q2], rfl⟩
                  · have q1' : decide (mid < en) = false := by simp [q1]
                    go_wp2_with fail
                    go_meet
                    exact ⟨by simp [q1], rfl⟩
                case rest => as_aux_lemma =>
                  obtain ⟨rfl, rfl⟩ := hcut
                  go_upto_if 213 with fail
                  by_cases q : mid < en ∧ en < b
                  · have qd : decide (mid < en ∧ en < b) = true := by simp [q]
                    have HX : Hid (U2.length + V2.length < N ∧ (A ++ W1).length = mid ∧ mid + U2.length = en ∧ en + V2.length = b ∧ 0 < U2.length ∧ 0 < V2.length) := Lib.hid (by have h1 := HLU.out; have h2 := HM3.out.len; have h3 := HA.out; rw [List.length_append]; omega)
                    have HSU : Hid (Srtd kf U2 ∧ Srtd kf V2 ∧ Less2 U2 V2) := Lib.hid ⟨by have h1 := HU.out; rw [HE1.out] at h1; exact (srtd_app.1 h1).2.1, by have h1 := HV.out; rw [HE2.out] at h1; exact (srtd_app.1 h1).2.1, fun u hu v hv => HL.out u (by rw [HE1.out]; exact List.mem_append_right _ hu) v (by rw [HE2.out]; exact List.mem_append_right _ hv)⟩
                    have HNX : Hid ((A ++ W1 ++ U2 ++ V2 ++ B).length = n) := Lib.hid (by have h1 := HNN0.out; have h2 := HM3.out.len; rw [HE1.out, HE2.out] at h1; simp only [List.length_append] at h1 ⊢; omega)
                    have HS4 : Hid (Srt g cp w0 L0 (A ++ W1 ++ U2 ++ V2 ++ B) wc) := Lib.hid (by have h1 := HS3.out; simpa using h1)
                    go_wp2_with (go_at_call 215; refine Calls.mono (HI.out (A ++ W1) U2 V2 B mid en b _ HX.out.1 HS4.out HSU.out.1 HSU.out.2.1 HSU.out.2.2 HX.out.2.1 HX.out.2.2.1 HX.out.2.2.2.1 HNX.out HX.out.2.2.2.2.1 HX.out.2.2.2.2.2) ?_; rintro e w2 ⟨rfl, S, hs, hm1⟩; have HS5 := Lib.hid hs; have HM5 := Lib.hid hm1; clear hs hm1)
                    go_end0
                    refine ⟨rfl, W1 ++ S, by have h1 := HS5.out; simpa using h1, ?_⟩
                    rw [HE1.out, HE2.out]
                    exact merged_join (HE1.out ▸ HU.out) (HE2.out ▸ HV.out) HM3.out HM5.out HD.out.1 HD.out.2
                  · have qd : decide (mid < en ∧ en < b) = false := by simp only [q, decide_false]
                    have HX : Hid (Merged kf U2 V2 (U2 ++ V2)) := Lib.hid (by
                      have hl := HLU.out
                      have s1 : Srtd kf U2 := by have h1 := HU.out; rw [HE1.out] at h1; exact (srtd_app.1 h1).2.1
                      have s2 : Srtd kf V2 := by have h1 := HV.out; rw [HE2.out] at h1; exact (srtd_app.1 h1).2.1
                      by_cases q1 : mid < en
                      · have e : V2 = [] := List.eq_nil_of_length_eq_zero (by omega)
                        rw [e, List.append_nil]; exact merged_nil_right s1
                      · have e : U2 = [] := List.eq_nil_of_length_eq_zero (by omega)
                        rw [e, List.nil_append]; exact merged_nil_left s2)
                    go_wp2_with fail
                    go_end0
                    refine ⟨rfl, W1 ++ (U2 ++ V2), by have h1 := HS3.out; simpa using h1, ?_⟩
                    rw [HE1.out, HE2.out]
                    exact merged_join (HE1.out ▸ HU.out) (HE2.out ▸ HV.out) HM3.out HX.out HD.out.1 HD.out.2
end Go.Proofs.Ytfjoakhcgpckgaa
