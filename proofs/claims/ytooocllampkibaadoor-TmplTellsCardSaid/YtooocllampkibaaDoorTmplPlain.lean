/- Contract: the plain text of a script. -/
import Derived.Test.YtooocllampkibaaDoorTmplFill
namespace Go.Proofs.YtooocllampkibaaDoor
open Go.ChangeShapes Go.WideShapes Go.ChangeAt Go.RowKit
set_option linter.unusedVariables false
open Tp
namespace Tp
theorem scrK_fill (f : Bs → Bs) : ∀ (k : Nat) (s : Bs) (P : List Part), scrK k s = some P → (∀ p, p ∈ P → p.gap = false) → (fill f P).length ≤ s.length
  | 0, s, P, h => by cases h
  | k + 1, [], P, h => by cases h; intro _; simp [fill]
  | k + 1, [c], P, h => by
    rw [scrK] at h
    split at h
    · obtain ⟨Q, hQ, rfl⟩ := Option.map_eq_some_iff.1 h
      intro hp
      have := scrK_fill f k [] Q hQ (fun p h => hp p (by simp [h]))
      simp [fill] at this ⊢; omega
    · cases h
  | k + 1, c :: d :: s', P, h => by
    rw [scrK] at h
    split at h
    · obtain ⟨Q, hQ, rfl⟩ := Option.map_eq_some_iff.1 h
      intro hp
      have := scrK_fill f k _ Q hQ (fun p h => hp p (by simp [h]))
      simp [fill] at this ⊢; omega
    · rw [scrN] at h
      split at h
      · obtain ⟨Q, hQ, rfl⟩ := Option.map_eq_some_iff.1 h
        intro hp
        have := scrK_fill f k _ Q hQ (fun p h => hp p (by simp [h]))
        simp [fill] at this ⊢; omega
      · split at h
        · obtain ⟨Q, hQ, rfl⟩ := Option.map_eq_some_iff.1 h
          intro hp
          have := hp _ (List.mem_cons_self ..)
          cases this
        · cases h
theorem filV_plain {s : Bs} {P : List Part} (h : ¬ 2000 < s.length) (h1 : scr s = some P) (h2 : gapsA [] P = []) : filV s [] = (fill (lookT []) P, 0) := by
  have hg : ∀ p, p ∈ P → p.gap = false := fun p hp => by
    cases hh : p.gap with
    | false => rfl
    | true => have := gapsA_has P [] p hp hh; rw [h2] at this; cases this
  have hl := scrK_fill (lookT []) _ _ _ h1 hg
  exact filV_done h h1 (by simp) rfl (fun g hg => by rw [h2] at hg; cases hg) (by omega)
/-- what Plain answers -/
def plnV (s : Bs) : Bs × Bool :=
  if 2000 < s.length then ([], false) else
  match scr s with
  | none => ([], false)
  | some P => if gapsA [] P = [] then ((filV s []).1, true) else ([], false)
theorem plnV_long {s : Bs} (h : 2000 < s.length) : plnV s = ([], false) := if_pos h
theorem plnV_form {s : Bs} (h : ¬ 2000 < s.length) (h1 : scr s = none) : plnV s = ([], false) := by
  unfold plnV; rw [if_neg h, h1]
theorem plnV_gaps {s : Bs} {P : List Part} (h : ¬ 2000 < s.length) (h1 : scr s = some P) (h2 : gapsA [] P ≠ []) : plnV s = ([], false) := by
  unfold plnV; rw [if_neg h, h1]; exact if_neg h2
theorem plnV_text {s : Bs} {P : List Part} (h : ¬ 2000 < s.length) (h1 : scr s = some P) (h2 : gapsA [] P = []) : plnV s = ((filV s []).1, true) := by
  unfold plnV; rw [if_neg h, h1]; exact if_pos h2
end Tp
/-- what Names has answered -/
def NamV (s : ByteArray) (a : Option Addr) (n : Nat) (e : Int) (w' : World) : Prop :=
  (2000 < s.size ∧ n = 0 ∧ e = 2) ∨ (s.size ≤ 2000 ∧ scr (lst s) = none ∧ n = 0 ∧ e = 3) ∨
    (s.size ≤ 2000 ∧ ∃ P, scr (lst s) = some P ∧ e = 0 ∧ n = (gapsA [] P).length ∧ n ≤ 2001 ∧ Vals w' a (txv (gapsA [] P)))
theorem NamQ.get {s : ByteArray} {B : Nat} {w w' : World} {e : Ending} (h : NamQ s B w e w') : ∃ a n cap x, e = .returned (.tuple #[.slice a n cap, .int .i64 x]) ∧ NamV s a n x w' ∧ Below B w w' := by
  obtain ⟨⟨h1, h2⟩ | ⟨h1, h2, h3⟩ | ⟨h1, P, a, n, cap, h2, h3, h4, h5, h6⟩, hb⟩ := h
  · exact ⟨none, 0, 0, 2, h2, .inl ⟨h1, rfl, rfl⟩, hb⟩
  · exact ⟨none, 0, 0, 3, h3, .inr (.inl ⟨h1, h2, rfl, rfl⟩), hb⟩
  · exact ⟨a, n, cap, 0, h3, .inr (.inr ⟨h1, P, h2, rfl, h4, h5, h6⟩), hb⟩
theorem ret_sb' {a : ByteArray} {c : Bs × Bool} {b : Bool} (h : c = (lst a, b)) : Ending.returned (.tuple #[.string a, .bool b]) = .returned (.tuple #[.string (bts c.1), .bool c.2]) := by rw [h, bts_lst]
set_option maxRecDepth 20000 in
set_option maxHeartbeats 4000000 in
theorem Plain_any (s : ByteArray) (m : Int) (w : World) (hm : w.cell? ⟨0, 0, none⟩ = some (.int .i64 m)) (hs : s.size ≤ 2001) : Calls Tryd.prog 7 #[.string s] w fun e w' => e = .returned (.tuple #[.string (bts (plnV (lst s)).1), .bool (plnV (lst s)).2]) ∧ Below w.heap.size w w' := by
  have HNM := Lib.hid ((Names_any s m w hm hs).mono fun e w' h => NamQ.get h)
  have HM := Lib.hid hm
  have hw0 : 0 < w.heap.size := by
    rcases Nat.eq_zero_or_pos w.heap.size with h | h
    · have : w.heap[0]? = none := Array.getElem?_eq_none (by omega)
      unfold World.cell? at hm
      rw [this] at hm; cases hm
    · exact h
  clear hm
  go_enter Tryd.func7, Tryd.ntmps7
  go_wp2_with fail
  refine Calls.mono HNM.out ?_
  rintro e' W1 ⟨na, nn, nc, ne, rfl, hv, hb⟩
  have HB := Lib.hid hb
  rcases hv with ⟨h1, rfl, rfl⟩ | ⟨h1, h2, rfl, rfl⟩ | ⟨h1, P, h2, rfl, h4, h5, h6⟩
  · have HV := Lib.hid (plnV_long (s := lst s) (by rw [lst_len]; exact h1))
    go_wp2_with fail
    go_ret2
    exact ⟨ret_sb' HV.out, HB.out⟩
  · have HV := Lib.hid (plnV_form (s := lst s) (by rw [lst_len]; omega) h2)
    clear h2
    go_wp2_with fail
    go_ret2
    exact ⟨ret_sb' HV.out, HB.out⟩
  · have HLE : Hid (¬ 2000 < (lst s).length) := Lib.hid (by rw [lst_len]; omega)
    by_cases hg : gapsA [] P = []
    · have HV := Lib.hid (plnV_text HLE.out h2 hg)
      have HP := Lib.hid (filV_plain HLE.out h2 hg)
      obtain rfl : nn = 0 := by rw [h4, hg]; rfl
      have HC := Lib.hid (Fill_any s [] none 0 0 m W1 ((hb.cell (p := ⟨0, 0, none⟩) hw0).trans HM.out) hs rfl (by omega) (Labs.nil _ _) (fun x hx => by cases hx))
      rw [HP.out] at HC HV
      clear h2 h4 h6 hg hb HP
      go_wp2_with fail
      refine Calls.mono HC.out ?_
      rintro e' W2 ⟨rfl, hb2⟩
      have HB2 := Lib.hid (HB.out.trans (hb2.mono HB.out.size))
      clear hb2
      go_wp2_with fail
      go_ret2
      exact ⟨ret_sb' (by rw [lst_bts]; exact HV.out), HB2.out⟩
    · have HV := Lib.hid (plnV_gaps HLE.out h2 hg)
      have hn0 : (nn : Int) > 0 := by have := List.length_pos_iff.2 hg; omega
      clear h2 h4 h6 hg hb
      go_wp2_with fail
      go_ret2
      exact ⟨ret_sb' HV.out, HB.out⟩
end Go.Proofs.YtooocllampkibaaDoor
