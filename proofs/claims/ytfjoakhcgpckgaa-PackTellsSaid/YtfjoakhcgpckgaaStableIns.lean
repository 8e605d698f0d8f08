/- Contract: insertion sort of a part of a row, by a comparison that is handed in. -/
import Derived.Test.YtfjoakhcgpckgaaStableRot
import Derived.Laws.EntriesVeiled
namespace Go.Proofs.Ytfjoakhcgpckgaa
open Go.ChangeShapes Go.WideShapes Go.ChangeAt Go.RowKit
set_option linter.unusedVariables false
open St
/-- the comparison, while nothing but the row turns -/
def CmpOk (K : FuncId) (cv : Value) (cz : Int → Int → Int) (g : Nat) (w0 : World) (L0 : List Int) : Prop :=
  ∀ w, Kept (fun k => k = g) w0 w → ∀ x y, x ∈ L0 → y ∈ L0 → Calls Try.prog K #[.int .i64 x, .int .i64 y, cv] w fun e w' => e = .returned (.int .i64 (cz x y)) ∧ Drawn w w'
/-- a function of the program, not of the machine -/
def Enters (K : FuncId) : Prop := ∀ (args : Array Value) (w : World), (callFunc K args).run Try.prog w = .ok (.enter K args) w
def CmpBy (cz : Int → Int → Int) (kf : Int → Int) (L0 : List Int) : Prop := ∀ x y, x ∈ L0 → y ∈ L0 → decide (cz x y < 0) = decide (kf x < kf y)
theorem last_cases (P : List Int) : P = [] ∨ ∃ P' y, P = P' ++ [y] := by
  rcases List.eq_nil_or_concat P with h | ⟨P', y, h⟩
  · exact .inl h
  · exact .inr ⟨P', y, by rw [h, List.concat_eq_append]⟩
/-- rising as numbers -/
def Asc (X : List Int) : Prop := X.Pairwise (· < ·)
/-- what the outer loop keeps: q of the part are in order -/
structure InsO (g cp : Nat) (w0 : World) (kf : Int → Int) (L0 A X B : List Int) (q : Nat) (S : List Int) (w : World) : Prop where
  srt : Srt g cp w0 L0 (A ++ (S ++ (X.drop q ++ B))) w
  srtd : Srtd kf S
  perm : S.Perm (X.take q)
theorem InsO.drewN {g cp : Nat} {w0 : World} {kf : Int → Int} {L0 A X B : List Int} {q : Nat} {S : List Int} {w : World} (h : InsO g cp w0 kf L0 A X B q S w) (m : Nat) : Hid (InsO g cp w0 kf L0 A X B q S (w.drewN m)) := Lib.hid ⟨h.srt.drewN m, h.srtd, h.perm⟩
/-- .. and the inner one -/
structure InsN (g cp : Nat) (w0 : World) (kf : Int → Int) (L0 A S R : List Int) (x : Int) (P Q : List Int) (w : World) : Prop where
  srt : Srt g cp w0 L0 (A ++ (P ++ x :: (Q ++ R))) w
  ins : InsI kf A S R x P Q (A ++ (P ++ x :: (Q ++ R)))
theorem InsO.start {g cp : Nat} {w0 : World} {kf : Int → Int} {L0 A X B : List Int} {w : World} {x : Int} {X' : List Int} (h : Srt g cp w0 L0 (A ++ X ++ B) w) (hX : X = x :: X') : InsO g cp w0 kf L0 A X B 1 [x] w := by
  subst hX
  exact ⟨by simpa using h, by simp [Srtd], by simp⟩
theorem InsO.inner {g cp : Nat} {w0 : World} {kf : Int → Int} {L0 A X B : List Int} {q : Nat} {S : List Int} {w : World} (h : InsO g cp w0 kf L0 A X B q S w) {x : Int} (hx : X[q]? = some x) : InsN g cp w0 kf L0 A S (X.drop (q + 1) ++ B) x S [] w := by
  have h1 := h.srt
  rw [(take_drop_at hx).1] at h1
  exact ⟨by simpa using h1, by simpa using InsI.start⟩
theorem InsN.outer {g cp : Nat} {w0 : World} {kf : Int → Int} {L0 A X B : List Int} {q : Nat} {S : List Int} {w w' : World} {x : Int} {P Q : List Int} (k : InsN g cp w0 kf L0 A S (X.drop (q + 1) ++ B) x P Q w') (h : InsO g cp w0 kf L0 A X B q S w) (hx : X[q]? = some x) (hP : P = [] ∨ ∃ P' z, P = P' ++ [z] ∧ bef kf z x) : ∃ S', InsO g cp w0 kf L0 A X B (q + 1) S' w' := by
  obtain ⟨S', e, h1, h2⟩ := k.ins.done h.srtd hP
  refine ⟨S', by have := k.srt; rw [e] at this; exact this, h1, h2.trans ?_⟩
  rw [(take_drop_at hx).2]
  exact List.Perm.append_right _ h.perm
theorem InsO.mem {g cp : Nat} {w0 : World} {kf : Int → Int} {L0 A X B : List Int} {q : Nat} {S : List Int} {w : World} (h : InsO g cp w0 kf L0 A X B q S w) (hA : Asc X) {x y : Int} (hx : X[q]? = some x) (hy : y ∈ S) : y < x ∧ x ∈ L0 ∧ y ∈ L0 := by
  have hyt := h.perm.mem_iff.1 hy
  obtain ⟨i, hi⟩ := List.getElem?_of_mem hyt
  rw [List.getElem?_take] at hi
  split at hi
  · rename_i hiq
    obtain ⟨h1, rfl⟩ := List.getElem?_eq_some_iff.1 hi
    obtain ⟨h2, rfl⟩ := List.getElem?_eq_some_iff.1 hx
    refine ⟨List.pairwise_iff_getElem.1 hA i q h1 h2 hiq, h.srt.perm.mem_iff.1 ?_, h.srt.perm.mem_iff.1 ?_⟩
    · exact List.mem_append_right _ (List.mem_append_right _ (List.mem_append_left _ (by rw [List.drop_eq_getElem_cons h2]; exact List.mem_cons_self ..)))
    · exact List.mem_append_right _ (List.mem_append_left _ hy)
  · cases hi
set_option maxRecDepth 20000 in
set_option maxHeartbeats 1600000 in
theorem ins_any (K : FuncId) (hE : Enters K) (cv : Value) (cz : Int → Int → Int) (kf : Int → Int) (g cp : Nat) (w0 : World) (L0 A X B : List Int) (a b n : Nat) (w : World) (hC : CmpOk K cv cz g w0 L0) (hZ : CmpBy cz kf L0) (h : Srt g cp w0 L0 (A ++ X ++ B) w) (hA : Asc X) (ha : A.length = a) (hb : a + X.length = b) (hn : (A ++ X ++ B).length = n) (h4 : n ≤ 1000) (hp : 0 < X.length) :
    Calls Try.prog 214 #[.slice (some ⟨g, 0, none⟩) n cp, .int .i64 a, .int .i64 b, .func (.func K) #[] #[cv]] w fun e w' => e = .returned (.tuple #[]) ∧ ∃ S, Srt g cp w0 L0 (A ++ S ++ B) w' ∧ Srtd kf S ∧ S.Perm X := by
  have HC := Lib.hid hC
  have HZ := Lib.hid hZ
  have HA := Lib.hid hA
  have HN := Lib.hid hn
  have HLA := Lib.hid ha
  have hbn : b ≤ n := by rw [← hn]; simp; omega
  obtain ⟨x0, X', hX⟩ : ∃ x X', X = x :: X' := by cases X with | nil => simp at hp | cons x X' => exact ⟨x, X', rfl⟩
  obtain ⟨k, hk⟩ : ∃ k, X.length = k := ⟨_, rfl⟩
  have HK := Lib.hid hk
  rw [hk] at hb hp
  have HO0 := Lib.hid (InsO.start (kf := kf) h hX)
  have w1 : IntKind.i64.wrap ((a : Int) + 1) = (a : Int) + 1 := IntWalk.i64_in _ (by omega)
  clear hC hZ h hA ha hn hX hk
  unfold Enters at hE
  go_enter Try.func214, Try.ntmps214
  go_wp2_with fail
  go_loopg [8] (k - 1) (fun gk v wr => ∃ (q t : Nat) (S : List Int), 1 ≤ q ∧ q + gk = k ∧ a + q = t ∧ v = .int .i64 (t : Int) ∧ Hid (InsO g cp w0 kf L0 A X B q S wr))
  case atStart => exact ⟨1, a + 1, [x0], by omega, by omega, rfl, by simp, HO0⟩
  case round =>
    clear HO0 w1
    obtain ⟨q, t, S, hq1, hqk, hqt, rfl, HO⟩ := hrel
    by_cases hlt : q < k
    · obtain ⟨x, hx⟩ : ∃ x, X[q]? = some x := ⟨_, List.getElem?_eq_getElem (by have := HK.out; omega)⟩
      have HX := Lib.hid hx
      have HN0 := Lib.hid (HO.out.inner hx)
      have hlt2 : (t : Int) < (b : Int) := by omega
      obtain ⟨gq, rfl⟩ : ∃ q, q = gk := ⟨_, rfl⟩
      have HSL : Hid (S.length = q) := Lib.hid (by rw [HO.out.perm.length_eq, List.length_take, HK.out]; omega)
      have wt : IntKind.i64.wrap ((t : Int) + 1) = ((t + 1 : Nat) : Int) := by rw [IntWalk.i64_in _ (by omega)]; omega
      clear hx
      go_wp2_with fail
      go_loopg [9] q (fun gk v wx => ∃ (j s : Nat) (P Q : List Int), j ≤ gk ∧ j ≤ q ∧ a + j = s ∧ v = .int .i64 (s : Int) ∧ Hid (P.length = j) ∧ Hid (InsN g cp w0 kf L0 A S (X.drop (q + 1) ++ B) x P Q wx))
      case atStart => exact ⟨q, t, S, [], by omega, by omega, hqt, rfl, HSL, HN0⟩
      case round =>
        clear HN0
        obtain ⟨j, s, P, Q, hjg, hjq, hjs, rfl, HPL, HI⟩ := hrel
        rcases last_cases P with rfl | ⟨P', y, rfl⟩
        · have hj0 : j ≤ 0 := by have := HPL.out; simp at this; omega
          have hgt : ¬ ((s : Int) > (a : Int)) := by omega
          obtain ⟨S', hO'⟩ := HI.out.outer HO.out HX.out (.inl rfl)
          have HO' := Lib.hid hO'
          clear hO'
          go_upto_region 4 with fail
          go_quiet (fail)
          go_wp2_with fail
          go_roundg (gq - 1)
          case measure => omega
          case rel => exact ⟨q + 1, t + 1, S', by omega, by omega, by omega, rfl, HO'.out.drewN _⟩
        · have hjp : 0 < j := by have := HPL.out; simp at this; omega
          have hgt : (s : Int) > (a : Int) := by omega
          obtain ⟨r, hr⟩ : ∃ r, r + 1 = s := ⟨s - 1, by omega⟩
          have hPL' : (A ++ P').length = r := by have h1 := HPL.out; have h2 := HLA.out; simp at h1 ⊢; omega
          have hyS : y ∈ S := by rw [← HI.out.ins.split]; simp
          obtain ⟨hyx, hx0, hy0⟩ := HO.out.mem HA.out HX.out hyS
          have hform : A ++ (P' ++ [y] ++ x :: (Q ++ (X.drop (q + 1) ++ B))) = (A ++ P') ++ y :: ([] ++ x :: (Q ++ (X.drop (q + 1) ++ B))) := by simp
          have hs := HI.out.srt
          rw [hform] at hs
          have c1 : wr.cell? ⟨g, r, none⟩ = some (.int .i64 y) := hs.cell (by rw [← hPL']; exact at_fst _ _ _)
          have c2 : wr.cell? ⟨g, s, none⟩ = some (.int .i64 x) := hs.cell (by have := at_snd (A ++ P') [] (Q ++ (X.drop (q + 1) ++ B)) y x; rwa [hPL', show r + 1 + ([] : List Int).length = s from by simp; omega] at this)
          have lg := hs.lt
          have HSR := Lib.hid hs
          have HPR := Lib.hid hPL'
          have hsn : s < n := by omega
          have v1 : (s : Int) - 1 = (r : Int) := by omega
          have v2 : IntKind.i64.wrap (r : Int) = (r : Int) := IntWalk.i64_in _ (by omega)
          have i1 : (0 : Int) ≤ (s : Int) := by omega
          have i2 : (s : Int) < (n : Int) := by omega
          have i3 : (0 : Int) ≤ (r : Int) := by omega
          have i4 : (r : Int) < (n : Int) := by omega
          have HHX := Lib.hid (show x ∈ L0 ∧ y ∈ L0 ∧ y < x from ⟨hx0, hy0, hyx⟩)
          clear hform hs hPL' hyS hyx hx0 hy0
          cases hlt3 : decide (cz x y < 0) with
          | false =>
            have HB : Hid (bef kf y x) := Lib.hid (by
              have h1 := HZ.out x y HHX.out.1 HHX.out.2.1
              rw [hlt3] at h1
              have h2 : ¬ kf x < kf y := by simpa using h1.symm
              have := HHX.out.2.2
              unfold bef; omega)
            obtain ⟨S', hO'⟩ := HI.out.outer HO.out HX.out (.inr ⟨P', y, rfl, HB.out⟩)
            have HO' := Lib.hid hO'
            clear hO'
            go_upto_region 4 with fail
            go_quiet ((exact quiet_drawn (HC.out _ (HSR.out.kept.drewN _) x y HHX.out.1 HHX.out.2.1)))
            go_wp2_with fail
            go_roundg (gq - 1)
            case measure => omega
            case rel => exact ⟨q + 1, t + 1, S', by omega, by omega, by omega, rfl, HO'.out.drewN _⟩
          | true =>
            have HB : Hid (bef kf x y) := Lib.hid (by
              have h1 := HZ.out x y HHX.out.1 HHX.out.2.1
              rw [hlt3] at h1
              have h2 : kf x < kf y := by simpa using h1.symm
              unfold bef; omega)
            go_upto_region 4 with fail
            go_quiet ((exact quiet_drawn (HC.out _ (HSR.out.kept.drewN _) x y HHX.out.1 HHX.out.2.1)))
            obtain ⟨W5, hW5⟩ : ∃ W, W = wr.drewN nq := ⟨_, rfl⟩
            rw [← hW5]
            have HS5 := Lib.hid (show Srt g cp w0 L0 ((A ++ P') ++ y :: ([] ++ x :: (Q ++ (X.drop (q + 1) ++ B)))) W5 from by rw [hW5]; exact HSR.out.drewN _)
            have d1 : W5.cell? ⟨g, r, none⟩ = some (.int .i64 y) := HS5.out.cell (by rw [← HPR.out]; exact at_fst _ _ _)
            have d2 : W5.cell? ⟨g, s, none⟩ = some (.int .i64 x) := HS5.out.cell (by have := at_snd (A ++ P') [] (Q ++ (X.drop (q + 1) ++ B)) y x; rwa [HPR.out, show r + 1 + ([] : List Int).length = s from by simp; omega] at this)
            have f1 := HS5.out.frozen r
            have f2 := HS5.out.frozen s
            have lg5 := HS5.out.lt
            obtain ⟨s1, s2⟩ := HS5.out.drew.sw HPR.out (show (A ++ P').length + 1 + ([] : List Int).length = s from by rw [HPR.out]; simp; omega)
            obtain ⟨m1, m2, m3⟩ := HI.out.ins.step HB.out
            have hf : A ++ (P' ++ x :: (y :: Q ++ (X.drop (q + 1) ++ B))) = (A ++ P') ++ x :: ([] ++ y :: (Q ++ (X.drop (q + 1) ++ B))) := m3
            rw [← hf] at s1 s2
            have HN1 := Lib.hid (show InsN g cp w0 kf L0 A S (X.drop (q + 1) ++ B) x P' (y :: Q) _ from ⟨s1, m1⟩)
            have HN2 := Lib.hid (show InsN g cp w0 kf L0 A S (X.drop (q + 1) ++ B) x P' (y :: Q) _ from ⟨s2, m1⟩)
            have HPJ : Hid (P'.length = j - 1) := Lib.hid (by have h1 := HPL.out; simp at h1; omega)
            have hne : ¬ r = s := by omega
            have hne2 : ¬ s = r := by omega
            clear hW5 c1 c2 lg s1 s2 m1 m2 m3 hf
            go_upto_region 6 with fail
            go_region
            all_goals
              go_wp2_with fail
              go_roundg (j - 1)
              case measure => omega
              case rel => exact ⟨j - 1, r, P', y :: Q, by omega, by omega, by omega, rfl, HPJ, by first | exact HN1 | exact HN2⟩
    · obtain rfl : q = k := by omega
      have hge : ¬ (t : Int) < (b : Int) := by omega
      have HS9 : Hid (Srt g cp w0 L0 (A ++ S ++ B) wr ∧ S.Perm X) := Lib.hid (by
        have h1 := HO.out.srt
        have h2 := HO.out.perm
        rw [List.drop_eq_nil_of_le (by have := HK.out; omega)] at h1
        rw [List.take_of_length_le (by have := HK.out; omega)] at h2
        exact ⟨by simpa using h1, h2⟩)
      go_wp2_with fail
      go_end0
      exact ⟨rfl, S, by simpa using HS9.out.1, HO.out.srtd, HS9.out.2⟩
end Go.Proofs.Ytfjoakhcgpckgaa
