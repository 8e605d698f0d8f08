/- Contracts: what a row of jobs costs; the program's. -/
import Derived.Test.YtjmpfkolpgbebaaAssignCheck
namespace Go.Proofs.Ytjmpfkolpgbebaa
open Go.ChangeShapes Go.WideShapes Go.ChangeAt Go.RowKit
set_option linter.unusedVariables false
open As
theorem As.costU_bound {n : Nat} {C : Nat → Nat → Int} {T : List Int} (hF : Fine n C) : ∀ i s, i ≤ n → costU C n T i = some s → -(1000000000 * (i : Int)) ≤ s ∧ s ≤ 1000000000 * (i : Int)
  | 0, s, _, h => by
    have : s = 0 := by simpa [costU] using h.symm
    omega
  | i + 1, s, hi, h => by
    rw [costU] at h
    cases hc : costU C n T i with
    | none => rw [hc] at h; cases h
    | some s0 =>
      rw [hc, Option.bind_some] at h
      have ih := As.costU_bound hF i s0 (by omega) hc
      split at h
      · rename_i hk
        have h2 := hF i (T.getD i 0).toNat (by omega) (by omega)
        have : s = s0 + C i (T.getD i 0).toNat := (Option.some.inj h).symm
        omega
      · cases h
def CostQ (C : Nat → Nat → Int) (n : Nat) (T : List Int) (s z : Int) : Prop := (costE C n T = some s ∧ z = 0) ∨ (costE C n T = none ∧ s = 0 ∧ z = 1)
def usedB (T : List Int) (i : Nat) (k : Nat) : Bool := decide ((k : Int) ∈ T.take i)
theorem used_step {T : List Int} {i : Nat} {kk : Nat} (h : T[i]? = some (kk : Int)) (j : Nat) : usedB T (i + 1) j = if j = kk then true else usedB T i j := by
  unfold usedB
  rw [List.take_add_one, h]
  by_cases e : j = kk
  · subst e; simp
  · rw [if_neg e]
    have : ¬ (j : Int) = (kk : Int) := by omega
    simp [this]
theorem aCost_bad (R : List (List Int)) (a a2 : Option Addr) (n cap n2 cap2 : Nat) (w : World) (hn : n = R.length) (hmax : n ≤ 9223372036854775807) (hT : Tbl w a R) (hb : costsE R ≠ 0) :
    Calls Try.prog 6 #[.slice a n cap, .slice a2 n2 cap2] w fun e w' => e = .returned (.tuple #[.int .i64 0, .int .i64 (costsE R)]) ∧ Below w.heap.size w w' := by
  have C := Lib.hid (aCheck_any R a n cap w hn hmax hT)
  obtain ⟨z, hz⟩ : ∃ z, costsE R = z := ⟨_, rfl⟩
  rw [hz] at C hb ⊢
  have hb2 : (z != 0) = true := by simpa using hb
  clear hT hn hz
  go_enter Try.func6, Try.ntmps6
  go_wp2_with (go_at_call 8; refine Calls.mono C.out ?_; rintro e w1 ⟨rfl, h1⟩; have HB := Lib.hid h1; clear h1)
  go_ret2
  exact ⟨rfl, HB.out⟩
set_option maxRecDepth 20000 in
set_option maxHeartbeats 4000000 in
theorem aCost_good (R : List (List Int)) (T : List Int) (a a2 : Option Addr) (n cap n2 cap2 : Nat) (w : World) (hn : n = R.length) (hmax : n ≤ 9223372036854775807) (hT : Tbl w a R) (hE : costsE R = 0) (hn2 : n2 = T.length) (hV : Vals w a2 (ints64 T)) :
    Calls Try.prog 6 #[.slice a n cap, .slice a2 n2 cap2] w fun e w' => ∃ s z, e = .returned (.tuple #[.int .i64 s, .int .i64 z]) ∧ CostQ (cst R) n T s z ∧ Below w.heap.size w w' := by
  have C := Lib.hid (aCheck_any R a n cap w hn hmax hT)
  obtain ⟨h12, hsq, hF⟩ := costsE_good hE
  rw [hE] at C
  rw [← hn] at h12 hsq hF
  have HN := Lib.hid hn
  have HN2 := Lib.hid hn2
  have HSQ := Lib.hid hsq
  have HF := Lib.hid hF
  have HT := Lib.hid hT
  have HV := Lib.hid hV
  clear hn hn2 hsq hF hT hE hV
  by_cases hlen : n2 = n
  · subst hlen
    have hlb : ((n2 : Int) != (n2 : Int)) = false := by simp
    have hmkB := run_make_row' (P := Try.prog) 42 4 (.bool false) 1 Try.underlying42 infoBool rfl .i64 .i64 n2 (by omega) (by omega)
    go_enter Try.func6, Try.ntmps6
    go_upto_region 8 with (go_at_call 8; refine Calls.mono C.out ?_; rintro e w1 ⟨rfl, h1⟩; have HB1 := Lib.hid h1; clear h1)
    obtain ⟨gz, hgz⟩ : ∃ g, g = w1.heap.size := ⟨_, rfl⟩
    obtain ⟨W2, hW2⟩ : ∃ W, W = w1.alloc (.cells (madeCells #[.bool false] n2) 4) := ⟨_, rfl⟩
    have HR0 : Hid (W2.rowIs gz 4 n2 (bools (usedB T 0))) := Lib.hid (by
      rw [hW2]
      exact (rowIs_made_at _ _ _ _ hgz.symm).congr (fun i _ => by simp [bools, usedB]))
    have HB2 : Hid (Below w.heap.size w W2) := Lib.hid (by rw [hW2]; exact HB1.out.alloc HB1.out.size _)
    have HGZ : Hid (w.heap.size ≤ gz) := Lib.hid (by rw [hgz]; exact HB1.out.size)
    rw [← hW2, ← hgz]
    clear hW2 hgz hmkB
    go_wp2_with fail
    go_loopg [7, 26] n2 (fun g x y wr => ∃ (i : Nat) (s : Int), i + g = n2 ∧ y = .int .i64 (i : Int) ∧ x = .int .i64 s ∧ Hid (costU (cst R) n2 T i = some s) ∧ Hid (wr.rowIs gz 4 n2 (bools (usedB T i))) ∧ Hid (Below w.heap.size w wr))
    case atStart => exact ⟨0, 0, by omega, rfl, rfl, Lib.hid rfl, HR0, HB2⟩
    case round =>
      clear HR0 HB2
      obtain ⟨i, s, hi, rfl, rfl, HS, HR, HB⟩ := hrel
      by_cases hin : i < n2
      · obtain ⟨k, hk⟩ : ∃ k, T[i]? = some k := ⟨_, List.getElem?_eq_getElem (by have := HN2.out; omega)⟩
        obtain ⟨b, off, rfl, l0, c0⟩ := i64atR (HV.out.below HB.out (Nat.le_refl _)) hk
        have hi1 : (0 : Int) ≤ (i : Int) := by omega
        have hi2 : (i : Int) < (n2 : Int) := by omega
        have HK := Lib.hid hk
        clear hk
        have HNO : Hid (¬ (0 ≤ k ∧ k < (n2 : Int) ∧ k ∉ T.take i) → CostQ (cst R) n2 T 0 1) := Lib.hid (fun hb => .inr ⟨by rw [costE, if_pos HN2.out.symm]; exact costU_none (costU_bad HS.out HK.out hb) n2 (by omega), rfl, rfl⟩)
        by_cases k1 : k < 0
        · have HQ := Lib.hid (HNO.out (by omega))
          go_wp2_with fail
          go_ret2
          exact ⟨0, 1, rfl, HQ.out, HB.out⟩
        · by_cases k2 : (n2 : Int) ≤ k
          · have HQ := Lib.hid (HNO.out (by omega))
            go_wp2_with fail
            go_ret2
            exact ⟨0, 1, rfl, HQ.out, HB.out⟩
          · obtain ⟨kk, rfl⟩ := Int.eq_ofNat_of_zero_le (show 0 ≤ k by omega)
            have hkn : kk < n2 := by omega
            have cz := HR.out.cell (i := kk) hkn
            unfold bools at cz
            have fz := HR.out.frozen kk
            have lz := HR.out.lt
            have hk1 : (0 : Int) ≤ (kk : Int) := by omega
            have hk2 : (kk : Int) < (n2 : Int) := by omega
            cases hu : usedB T i kk with
            | true =>
              have HQ := Lib.hid (HNO.out (fun h => h.2.2 (by simpa [usedB] using hu)))
              rw [hu] at cz
              clear hu k1 k2
              go_wp2_with fail
              go_ret2
              exact ⟨0, 1, rfl, HQ.out, HB.out⟩
            | false =>
              have HOK := Lib.hid (costU_ok HS.out HK.out hk1 hk2 (by simpa [usedB] using hu))
              rw [hu] at cz
              clear hu k1 k2
              obtain ⟨ab, ao, rb, ro, rc, rfl, l1, c1, hrc, hrc2, l2, c2⟩ := (HT.out.below HB.out (Nat.le_refl _)).at' (p := i) (k := kk) HN.out HSQ.out hin hkn
              obtain ⟨cc, hcc⟩ : ∃ x, cst R i kk = x := ⟨_, rfl⟩
              rw [Int.toNat_natCast, hcc] at HOK
              rw [hcc] at c2
              have hsb := costU_bound HF.out i s (by omega) HS.out
              have hcb := HF.out i kk hin hkn
              rw [hcc] at hcb
              have hw : IntKind.i64.wrap (s + cc) = s + cc := IntWalk.i64_in _ (by omega)
              go_upto_region 14 with fail
              obtain ⟨W3, hW3⟩ : ∃ W, W = wr.setCell ⟨gz, kk, none⟩ (.bool true) := ⟨_, rfl⟩
              have HR3 : Hid (W3.rowIs gz 4 n2 (bools (usedB T (i + 1)))) := Lib.hid (by
                rw [hW3]
                exact (HR.out.set kk (.bool true)).congr (fun j _ => by unfold bools; rw [used_step HK.out]; split <;> rfl))
              have HB3 : Hid (Below w.heap.size w W3) := Lib.hid (by rw [hW3]; exact HB.out.setCell (p := ⟨gz, kk, none⟩) HGZ.out _)
              rw [← hW3]
              obtain ⟨ab', ao', rb', ro', rc', hae, l1', c1', _, _, l2', c2'⟩ := (HT.out.below HB3.out (Nat.le_refl _)).at' (p := i) (k := kk) HN.out HSQ.out hin hkn
              cases hae
              rw [hcc] at c2'
              clear hW3 cz fz lz hcc c0 l0 l1 c1 hrc hrc2 l2 c2
              go_wp2_with fail
              go_roundg (n2 - (i + 1))
              case measure => omega
              case rel => exact ⟨i + 1, s + cc, by omega, by simp, rfl, HOK, HR3, HB3⟩
      · obtain rfl : i = n2 := by omega
        have HQ : Hid (CostQ (cst R) i T s 0) := Lib.hid (.inl ⟨by rw [costE, if_pos HN2.out.symm]; exact HS.out, rfl⟩)
        go_wp2_with fail
        go_ret2
        exact ⟨s, 0, rfl, HQ.out, HB.out⟩
  · have hlb : ((n2 : Int) != (n : Int)) = true := by simp; omega
    have HQ : Hid (CostQ (cst R) n T 0 1) := Lib.hid (.inr ⟨by rw [costE, if_neg (by rw [← HN2.out]; exact hlen)], rfl, rfl⟩)
    go_enter Try.func6, Try.ntmps6
    go_wp2_with (go_at_call 8; refine Calls.mono C.out ?_; rintro e w1 ⟨rfl, h1⟩; have HB1 := Lib.hid h1; clear h1)
    go_ret2
    exact ⟨0, 1, rfl, HQ.out, HB1.out⟩
set_option maxHeartbeats 1600000 in
theorem hasInt_any (L : List Int) (x : Int) (a : Option Addr) (n cap : Nat) (w : World) (hn : n = L.length) (hmax : n ≤ 1000) (hV : Vals w a (ints64 L)) :
    Calls Try.prog 13 #[.slice a n cap, .int .i64 x] w fun e w' => e = .returned (.bool (decide (x ∈ L))) ∧ Below w.heap.size w w' := by
  have HN := Lib.hid hn
  have HV := Lib.hid hV
  clear hn hV
  go_enter Try.func13, Try.ntmps13
  go_wp2_with fail
  go_loopg [9] n (fun g y wr => ∃ q : Nat, q + g = n ∧ y = .int .i64 (q : Int) ∧ Hid (x ∉ L.take q) ∧ Hid (Below w.heap.size w wr))
  case atStart => exact ⟨0, by omega, rfl, Lib.hid (by simp), Lib.hid (Below.refl _ _)⟩
  case round =>
    obtain ⟨q, hq, rfl, HQ, HB⟩ := hrel
    by_cases hqn : q < n
    · obtain ⟨y, hy⟩ : ∃ y, L[q]? = some y := ⟨_, List.getElem?_eq_getElem (by have := HN.out; omega)⟩
      obtain ⟨b, off, rfl, l0, c0⟩ := i64atR (HV.out.below HB.out (Nat.le_refl _)) hy
      have hq1 : (0 : Int) ≤ (q : Int) := by omega
      have hq2 : (q : Int) < (n : Int) := by omega
      have HY := Lib.hid hy
      clear hy
      by_cases hxy : y = x
      · subst hxy
        have HD : Hid (decide (y ∈ L) = true) := Lib.hid (by simpa using List.mem_of_getElem? HY.out)
        go_wp2_with fail
        go_ret
        exact ⟨ret_bool HD.out.symm, HB.out⟩
      · have hb : (y == x) = false := by simpa using hxy
        have HQ2 : Hid (x ∉ L.take (q + 1)) := Lib.hid (by
          rw [List.take_add_one, HY.out]
          intro hm
          rcases List.mem_append.1 hm with h | h
          · exact HQ.out h
          · simp at h; exact hxy h.symm)
        go_wp2_with fail
        go_roundg (n - (q + 1))
        case measure => omega
        case rel => exact ⟨q + 1, by omega, by simp, HQ2, HB⟩
    · obtain rfl : q = n := by omega
      have HD : Hid (decide (x ∈ L) = false) := Lib.hid (by
        have := HQ.out
        rw [HN.out, List.take_length] at this
        simpa using this)
      go_wp2_with fail
      go_ret
      exact ⟨ret_bool HD.out.symm, HB.out⟩
def CostR (C : Nat → Nat → Int) (n : Nat) (T : List Int) (s : Int) (z : Bool) : Prop := (costE C n T = some s ∧ z = true) ∨ (costE C n T = none ∧ s = 0 ∧ z = false)
def CostRP (C : Nat → Nat → Int) (n : Nat) (T : List Int) (w : World) (e : Ending) (w' : World) : Prop := ∃ s z, e = .returned (.tuple #[.int .i64 s, .bool z]) ∧ CostR C n T s z ∧ Below w.heap.size w w'
theorem vals_take {w : World} {b off : Nat} {T : List Int} (h : Vals w (some ⟨b, off, none⟩) (ints64 T)) (i : Nat) : Vals w (some ⟨b, off, none⟩) (ints64 (T.take i)) := fun hl => by
  have hl2 : 0 < T.length := by
    simp [ints64] at hl
    omega
  obtain ⟨b', off', e, hb, hc⟩ := h (by simp [ints64]; omega)
  refine ⟨b', off', e, hb, fun j v hv => hc j v ?_⟩
  have hj : j < (T.take i).length := by have := (List.getElem?_eq_some_iff.1 hv).1; simpa [ints64] using this
  rw [List.length_take] at hj
  rw [ints64, List.getElem?_map] at hv ⊢
  rwa [List.getElem?_take, if_pos (by omega)] at hv
set_option maxRecDepth 20000 in
set_option maxHeartbeats 4000000 in
theorem rCost_good (R : List (List Int)) (T : List Int) (a a2 : Option Addr) (n cap n2 cap2 : Nat) (w : World) (hn : n = R.length) (hT : Tbl w a R) (hE : costsE R = 0) (hn2 : n2 = T.length) (hc2 : n2 ≤ cap2) (hc3 : cap2 ≤ 9223372036854775807) (hV : Vals w a2 (ints64 T)) :
    Calls Try.prog 9 #[.slice a n cap, .slice a2 n2 cap2] w fun e w' => CostRP (cst R) n T w e w' := by
  obtain ⟨h12, hsq, hF⟩ := costsE_good hE
  rw [← hn] at h12 hsq hF
  have HN := Lib.hid hn
  have HN2 := Lib.hid hn2
  have HSQ := Lib.hid hsq
  have HF := Lib.hid hF
  have HT := Lib.hid hT
  have HV := Lib.hid hV
  clear hn hn2 hsq hF hT hE hV
  by_cases hlen : n2 = n
  · subst hlen
    have hlb : ((n2 : Int) != (n2 : Int)) = false := by simp
    go_enter Try.func9, Try.ntmps9
    go_wp2_with fail
    go_loopg [6, 16] n2 (fun g x y wr => ∃ (i : Nat) (s : Int), i + g = n2 ∧ y = .int .i64 (i : Int) ∧ x = .int .i64 s ∧ Hid (costU (cst R) n2 T i = some s) ∧ Hid (Below w.heap.size w wr))
    case atStart => exact ⟨0, 0, by omega, rfl, rfl, Lib.hid rfl, Lib.hid (Below.refl _ _)⟩
    case round =>
      obtain ⟨i, s, hi, rfl, rfl, HS, HB⟩ := hrel
      by_cases hin : i < n2
      · obtain ⟨k, hk⟩ : ∃ k, T[i]? = some k := ⟨_, List.getElem?_eq_getElem (by have := HN2.out; omega)⟩
        obtain ⟨b, off, rfl, l0, c0⟩ := i64atR (HV.out.below HB.out (Nat.le_refl _)) hk
        have hi1 : (0 : Int) ≤ (i : Int) := by omega
        have hi2 : (i : Int) < (n2 : Int) := by omega
        have hi3 : (i : Int) ≤ (cap2 : Int) := by omega
        have HK := Lib.hid hk
        clear hk
        have HNO : Hid (¬ (0 ≤ k ∧ k < (n2 : Int) ∧ k ∉ T.take i) → CostR (cst R) n2 T 0 false) := Lib.hid (fun hb => .inr ⟨by rw [costE, if_pos HN2.out.symm]; exact costU_none (costU_bad HS.out HK.out hb) n2 (by omega), rfl, rfl⟩)
        by_cases k1 : k < 0
        · have HQ := Lib.hid (HNO.out (by omega))
          go_wp2_with fail
          go_ret2
          exact ⟨0, false, rfl, HQ.out, HB.out⟩
        · by_cases k2 : (n2 : Int) ≤ k
          · have HQ := Lib.hid (HNO.out (by omega))
            go_wp2_with fail
            go_ret2
            exact ⟨0, false, rfl, HQ.out, HB.out⟩
          · obtain ⟨kk, rfl⟩ := Int.eq_ofNat_of_zero_le (show 0 ≤ k by omega)
            have hkn : kk < n2 := by omega
            have hk1 : (0 : Int) ≤ (kk : Int) := by omega
            have hk2 : (kk : Int) < (n2 : Int) := by omega
            have CH := Lib.hid (hasInt_any (T.take i) (kk : Int) (some ⟨b, off, none⟩) i cap2 wr (by have := HN2.out; rw [List.length_take]; omega) (by omega) (vals_take (HV.out.below HB.out (Nat.le_refl _)) i))
            cases hu : decide ((kk : Int) ∈ T.take i) with
            | true =>
              have HQ := Lib.hid (HNO.out (fun h => h.2.2 (by simpa using hu)))
              rw [hu] at CH
              clear hu k1 k2
              go_wp2_with (go_at_call 13; refine Calls.mono CH.out ?_; rintro e w2 ⟨rfl, h1⟩; have HB2 := Lib.hid (HB.out.trans (h1.mono HB.out.size)); clear h1)
              go_ret2
              exact ⟨0, false, rfl, HQ.out, HB2.out⟩
            | false =>
              have HOK := Lib.hid (costU_ok HS.out HK.out hk1 hk2 (by simpa using hu))
              rw [hu] at CH
              clear hu k1 k2
              obtain ⟨cc, hcc⟩ : ∃ x, cst R i kk = x := ⟨_, rfl⟩
              rw [Int.toNat_natCast, hcc] at HOK
              have hsb := costU_bound HF.out i s (by omega) HS.out
              have hcb := HF.out i kk hin hkn
              rw [hcc] at hcb
              have HCC := Lib.hid hcc
              have hw : IntKind.i64.wrap (s + cc) = s + cc := IntWalk.i64_in _ (by omega)
              clear hcc
              go_upto_region 9 with (go_at_call 13; refine Calls.mono CH.out ?_; rintro e w2 ⟨rfl, h1⟩; have HB2 := Lib.hid (HB.out.trans (h1.mono HB.out.size)); clear h1)
              obtain ⟨ab', ao', rb', ro', rc', rfl, l1', c1', _, _, l2', c2'⟩ := (HT.out.below HB2.out (Nat.le_refl _)).at' (p := i) (k := kk) HN.out HSQ.out hin hkn
              rw [HCC.out] at c2'
              go_wp2_with fail
              go_roundg (n2 - (i + 1))
              case measure => omega
              case rel => exact ⟨i + 1, s + cc, by omega, by simp, rfl, HOK, HB2⟩
      · obtain rfl : i = n2 := by omega
        have HQ : Hid (CostR (cst R) i T s true) := Lib.hid (.inl ⟨by rw [costE, if_pos HN2.out.symm]; exact HS.out, rfl⟩)
        go_wp2_with fail
        go_ret2
        exact ⟨s, true, rfl, HQ.out, HB.out⟩
  · have hlb : ((n2 : Int) != (n : Int)) = true := by simp; omega
    have HQ : Hid (CostR (cst R) n T 0 false) := Lib.hid (.inr ⟨by rw [costE, if_neg (by rw [← HN2.out]; exact hlen)], rfl, rfl⟩)
    go_enter Try.func9, Try.ntmps9
    go_wp2_with fail
    go_ret2
    exact ⟨0, false, rfl, HQ.out, Below.refl _ _⟩
end Go.Proofs.Ytjmpfkolpgbebaa
