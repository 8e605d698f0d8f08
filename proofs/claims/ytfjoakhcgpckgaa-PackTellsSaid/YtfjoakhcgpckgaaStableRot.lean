/- Contract: two parts of a row change places (rotate). -/
import Derived.Test.YtfjoakhcgpckgaaStable
namespace Go.Proofs.Ytfjoakhcgpckgaa
open Go.ChangeShapes Go.WideShapes Go.ChangeAt Go.RowKit
set_option linter.unusedVariables false
open St
/-- what rotate's loop keeps -/
structure RotI (g cp : Nat) (w0 : World) (L0 A U V B : List Int) (m i j : Nat) (X U' V' Y : List Int) (w : World) : Prop where
  srt : Srt g cp w0 L0 ((A ++ X) ++ U' ++ V' ++ (Y ++ B)) w
  u : U'.length = i
  v : V'.length = j
  at' : (A ++ X).length + i = m
  goal : X ++ (V' ++ (U' ++ Y)) = V ++ U
theorem RotI.len {g cp : Nat} {w0 : World} {L0 A U V B : List Int} {m i j : Nat} {X U' V' Y : List Int} {w : World} (h : RotI g cp w0 L0 A U V B m i j X U' V' Y w) : ((A ++ X) ++ U' ++ V' ++ (Y ++ B)).length = (A ++ U ++ V ++ B).length ∧ m + j ≤ (A ++ U ++ V ++ B).length := by
  have h1 := congrArg List.length h.goal
  have h2 := h.u
  have h3 := h.v
  have h4 := h.at'
  simp only [List.length_append] at *
  omega
theorem split_len {U : List Int} {i j : Nat} (h : U.length = i) (hj : j ≤ i) : ∃ U1 U2, U = U1 ++ U2 ∧ U1.length = j ∧ U2.length = i - j := ⟨U.take j, U.drop j, (List.take_append_drop j U).symm, by rw [List.length_take]; omega, by rw [List.length_drop]; omega⟩
set_option maxRecDepth 20000 in
set_option maxHeartbeats 800000 in
theorem rot_any (g cp : Nat) (w0 : World) (L0 A U V B : List Int) (a m b n : Nat) (cf : Value) (w : World) (h : Srt g cp w0 L0 (A ++ U ++ V ++ B) w) (ha : A.length = a) (hm : a + U.length = m) (hb : m + V.length = b) (hU : 0 < U.length) (hV : 0 < V.length) (hn : (A ++ U ++ V ++ B).length = n) (h4 : n ≤ 1000) :
    Calls Try.prog 232 #[.slice (some ⟨g, 0, none⟩) n cp, .int .i64 a, .int .i64 m, .int .i64 b, cf] w fun e w' => e = .returned (.tuple #[]) ∧ Srt g cp w0 L0 (A ++ V ++ U ++ B) w' := by
  have HN := Lib.hid hn
  have hbn : b ≤ n := by rw [← hn]; simp; omega
  obtain ⟨i0, hi0⟩ : ∃ i, U.length = i := ⟨_, rfl⟩
  obtain ⟨j0, hj0⟩ : ∃ j, V.length = j := ⟨_, rfl⟩
  have HR0 : Hid (RotI g cp w0 L0 A U V B m i0 j0 [] U V [] w) := Lib.hid ⟨by simpa using h, hi0, hj0, by simp [ha]; omega, by simp⟩
  have w1 : IntKind.i64.wrap (i0 : Int) = (i0 : Int) := IntWalk.i64_in _ (by omega)
  have w2 : IntKind.i64.wrap (j0 : Int) = (j0 : Int) := IntWalk.i64_in _ (by omega)
  have e1 : (m : Int) - (a : Int) = (i0 : Int) := by omega
  have e2 : (b : Int) - (m : Int) = (j0 : Int) := by omega
  rw [hi0] at hU
  rw [hj0] at hV
  have hmn : m ≤ n := by omega
  clear h ha hm hb hn hi0 hj0
  go_enter Try.func232, Try.ntmps232
  go_wp2_with fail
  clear w1 w2 e1 e2
  go_loopg [10, 11] (i0 + j0) (fun gk x y wr => ∃ (i j : Nat) (X U' V' Y : List Int), i + j ≤ gk ∧ 0 < i ∧ 0 < j ∧ x = .int .i64 i ∧ y = .int .i64 j ∧ Hid (RotI g cp w0 L0 A U V B m i j X U' V' Y wr))
  case atStart => exact ⟨i0, j0, [], U, V, [], by omega, hU, hV, rfl, rfl, HR0⟩
  case round =>
    clear HR0
    obtain ⟨i, j, X, U', V', Y, hg, hi, hj, rfl, rfl, HR⟩ := hrel
    obtain ⟨l1, l2⟩ := HR.out.len
    rw [HN.out] at l1 l2
    have him : i ≤ m := by have := HR.out.at'; omega
    obtain ⟨p, hp⟩ : ∃ p, p + i = m := ⟨m - i, by omega⟩
    have v1 : IntKind.i64.wrap (p : Int) = (p : Int) := IntWalk.i64_in _ (by omega)
    have v2 : (m : Int) - (i : Int) = (p : Int) := by omega
    have HP : Hid ((A ++ X).length = p) := Lib.hid (by have := HR.out.at'; omega)
    have HL1 := Lib.hid l1
    clear l1
    by_cases hij : i = j
    · subst hij
      have HS : Hid (Srt g cp w0 L0 ((A ++ X) ++ U' ++ [] ++ V' ++ (Y ++ B)) wr) := Lib.hid (by simpa using HR.out.srt)
      have HNL : Hid (((A ++ X) ++ U' ++ [] ++ V' ++ (Y ++ B)).length = n) := Lib.hid (by rw [List.append_nil]; exact HL1.out)
      have hpm : p + i + ([] : List Int).length = m := by simp; omega
      go_wp2_with (go_at_call 247; refine Calls.mono (swapR_any g cp w0 L0 (A ++ X) U' [] V' (Y ++ B) i p m n cf _ HS.out HR.out.u HR.out.v HP.out hpm HNL.out h4) ?_; rintro e w2 ⟨rfl, hs⟩)
      go_end0
      have e : (A ++ X) ++ V' ++ [] ++ U' ++ (Y ++ B) = A ++ V ++ U ++ B := by
        have h := HR.out.goal
        rw [List.append_assoc A V U, ← h]
        simp
      exact ⟨rfl, e ▸ hs⟩
    · have hb1 : ((i : Int) != (j : Int)) = true := by simp; omega
      by_cases hlt : j < i
      · have hgt : ((i : Int) > (j : Int)) := by omega
        obtain ⟨U1, U2, rfl, q1, q2⟩ := split_len HR.out.u (show j ≤ i by omega)
        have HQ := Lib.hid (show U1.length = j ∧ U2.length = i - j from ⟨q1, q2⟩)
        have HS : Hid (Srt g cp w0 L0 ((A ++ X) ++ U1 ++ U2 ++ V' ++ (Y ++ B)) wr) := Lib.hid (by simpa using HR.out.srt)
        have HNL : Hid (((A ++ X) ++ U1 ++ U2 ++ V' ++ (Y ++ B)).length = n) := Lib.hid (by have := HL1.out; simpa using this)
        have hpm : p + j + U2.length = m := by omega
        obtain ⟨r, hr⟩ : ∃ r, r + j = i := ⟨i - j, by omega⟩
        have v3 : IntKind.i64.wrap (r : Int) = (r : Int) := IntWalk.i64_in _ (by omega)
        have v4 : (i : Int) - (j : Int) = (r : Int) := by omega
        clear q1 q2
        go_wp2_with (go_at_call 247; refine Calls.mono (swapR_any g cp w0 L0 (A ++ X) U1 U2 V' (Y ++ B) j p m n cf _ HS.out HQ.out.1 HR.out.v HP.out hpm HNL.out h4) ?_; rintro e w2 ⟨rfl, hs⟩; have HS2 := Lib.hid hs; clear hs)
        have HR2 : Hid (RotI g cp w0 L0 A U V B m r j (X ++ V') U2 U1 Y w2) := Lib.hid ⟨by have := HS2.out; simpa using this, by rw [HQ.out.2]; omega, HQ.out.1, by have h1 := HR.out.at'; have h2 := HR.out.v; simp only [List.length_append] at h1 ⊢; omega, by have := HR.out.goal; simpa using this⟩
        go_roundg (gk - 1)
        case measure => omega
        case rel => exact ⟨r, j, _, _, _, _, by omega, by omega, hj, rfl, rfl, HR2⟩
      · have hgt : ¬ ((i : Int) > (j : Int)) := by omega
        obtain ⟨V1, V2, rfl, q1, q2⟩ := split_len HR.out.v (show j - i ≤ j by omega)
        have HQ := Lib.hid (show V1.length = j - i ∧ V2.length = i from ⟨q1, by omega⟩)
        have HS : Hid (Srt g cp w0 L0 ((A ++ X) ++ U' ++ V1 ++ V2 ++ (Y ++ B)) wr) := Lib.hid (by simpa using HR.out.srt)
        have HNL : Hid (((A ++ X) ++ U' ++ V1 ++ V2 ++ (Y ++ B)).length = n) := Lib.hid (by have := HL1.out; simpa using this)
        obtain ⟨t, ht⟩ : ∃ t, t + i = m + j := ⟨m + j - i, by omega⟩
        have hpm : p + i + V1.length = t := by omega
        obtain ⟨r, hr⟩ : ∃ r, r + i = j := ⟨j - i, by omega⟩
        have v3 : IntKind.i64.wrap (r : Int) = (r : Int) := IntWalk.i64_in _ (by omega)
        have v4 : (j : Int) - (i : Int) = (r : Int) := by omega
        have v5 : IntKind.i64.wrap ((m : Int) + (j : Int)) = (m : Int) + (j : Int) := IntWalk.i64_in _ (by omega)
        have v6 : IntKind.i64.wrap (t : Int) = (t : Int) := IntWalk.i64_in _ (by omega)
        have v7 : (m : Int) + (j : Int) - (i : Int) = (t : Int) := by omega
        clear q1 q2
        go_wp2_with (go_at_call 247; refine Calls.mono (swapR_any g cp w0 L0 (A ++ X) U' V1 V2 (Y ++ B) i p t n cf _ HS.out HR.out.u HQ.out.2 HP.out hpm HNL.out h4) ?_; rintro e w2 ⟨rfl, hs⟩; have HS2 := Lib.hid hs; clear hs)
        have HR2 : Hid (RotI g cp w0 L0 A U V B m i r X V2 V1 (U' ++ Y) w2) := Lib.hid ⟨by have := HS2.out; simpa using this, HQ.out.2, by rw [HQ.out.1]; omega, HR.out.at', by have := HR.out.goal; simpa using this⟩
        go_roundg (gk - 1)
        case measure => omega
        case rel => exact ⟨i, r, _, _, _, _, by omega, hi, by omega, rfl, rfl, HR2⟩
end Go.Proofs.Ytfjoakhcgpckgaa
