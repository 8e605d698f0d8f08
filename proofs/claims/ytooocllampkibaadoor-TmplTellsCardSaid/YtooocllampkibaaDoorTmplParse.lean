/- Contract: parse, by what its two closures do. -/
import Derived.Test.YtooocllampkibaaDoorTmplPre
import Derived.Test.YtooocllampkibaaDoorTmplLabA
import Derived.Laws.EntriesVeiled
namespace Go.Proofs.YtooocllampkibaaDoor
open Go.ChangeShapes Go.WideShapes Go.ChangeAt Go.RowKit
set_option linter.unusedVariables false
open Tp
/-- a function of the program, not of the machine -/
def Enters (K : FuncId) : Prop := ∀ (args : Array Value) (w : World), (callFunc K args).run Tryd.prog w = .ok (.enter K args) w
def ParQ (s : ByteArray) (I : List Part → World → Prop) (e : Ending) (w' : World) : Prop := e = .returned (.bool (scr (lst s)).isSome) ∧ ∃ K, I K w' ∧ ∀ P, scr (lst s) = some P → K = P
/-- what is read -/
def ParS (s r : ByteArray) (K : List Part) : Prop := scr (lst s) = (scr (lst r)).map (K ++ ·)
theorem ParS.zero (s : ByteArray) : ParS s s [] := by
  unfold ParS
  cases scr (lst s) <;> simp
theorem ParS.fin {s r : ByteArray} {K : List Part} (h : ParS s r K) (h1 : (cutB D (lst r)).2.2 = false) : scr (lst s) = some (K ++ chars (cutB D (lst r)).1) := by
  unfold ParS at h
  rw [h, scr_all h1]; rfl
theorem ParS.two {s r : ByteArray} {K : List Part} (h : ParS s r K) (h1 : (cutB D (lst r)).2.2 = true) (h2 : (pre D (cutB D (lst r)).2.1).2 = true) : ParS s (bts (pre D (cutB D (lst r)).2.1).1) (K ++ chars (cutB D (lst r)).1 ++ chars [D]) := by
  unfold ParS at *
  rw [h, scr_front h1, scr_dollar h2, lst_bts]
  cases scr (pre D (cutB D (lst r)).2.1).1 <;> simp [chars]
theorem ParS.bad {s r : ByteArray} {K : List Part} (h : ParS s r K) (h1 : (cutB D (lst r)).2.2 = true) (h2 : (pre D (cutB D (lst r)).2.1).2 = false) (h3 : ¬ ((pre O (cutB E (cutB D (lst r)).2.1).1).2 = true ∧ (cutB E (cutB D (lst r)).2.1).2.2 = true ∧ lab (pre O (cutB E (cutB D (lst r)).2.1).1).1 = true)) : scr (lst s) = none := by
  unfold ParS at *
  rw [h, scr_front h1, scr_name h2, if_neg h3]; rfl
theorem ParS.gap {s r : ByteArray} {K : List Part} (h : ParS s r K) (h1 : (cutB D (lst r)).2.2 = true) (h2 : (pre D (cutB D (lst r)).2.1).2 = false) (h3 : (pre O (cutB E (cutB D (lst r)).2.1).1).2 = true ∧ (cutB E (cutB D (lst r)).2.1).2.2 = true ∧ lab (pre O (cutB E (cutB D (lst r)).2.1).1).1 = true) : ParS s (bts (cutB E (cutB D (lst r)).2.1).2.1) (K ++ chars (cutB D (lst r)).1 ++ [⟨true, (pre O (cutB E (cutB D (lst r)).2.1).1).1⟩]) := by
  unfold ParS at *
  rw [h, scr_front h1, scr_name h2, if_pos h3, lst_bts]
  cases scr (cutB E (cutB D (lst r)).2.1).2.1 <;> simp
theorem Cut_of (r : ByteArray) (c : UInt8) (m : Int) (F R : Bs) (b : Bool) (h1 : (cutB c (lst r)).1 = F) (h2 : (cutB c (lst r)).2.1 = R) (h3 : (cutB c (lst r)).2.2 = b) (hs : r.size ≤ 4000) (w : World) (hm : w.cell? ⟨0, 0, none⟩ = some (.int .i64 m)) :
    Calls Tryd.prog 26 #[.string r, .string ⟨#[c]⟩] w fun e w' => e = .returned (.tuple #[.string (bts F), .string (bts R), .bool b]) ∧ ∃ n, w' = w.drewN n := by
  have h := Cut_any r c m w hs hm
  rw [h1, h2, h3] at h
  exact h
theorem CutPrefix_of (r : ByteArray) (c : UInt8) (T : Bs) (b : Bool) (h1 : (pre c (lst r)).1 = T) (h2 : (pre c (lst r)).2 = b) (w : World) :
    Calls Tryd.prog 27 #[.string r, .string ⟨#[c]⟩] w fun e w' => e = .returned (.tuple #[.string (bts T), .bool b]) ∧ w' = w := by
  have h := CutPrefix_any r c w
  rw [h1, h2] at h
  exact h
/-- what a round of parse finds -/
structure Rnd (r : ByteArray) (F R T N L M : Bs) (more is cl op : Bool) : Prop where
  f : (cutB D (lst r)).1 = F
  r' : (cutB D (lst r)).2.1 = R
  m : (cutB D (lst r)).2.2 = more
  t : (pre D R).1 = T
  i : (pre D R).2 = is
  n : (cutB E R).1 = N
  l : (cutB E R).2.1 = L
  c : (cutB E R).2.2 = cl
  mm : (pre O N).1 = M
  o : (pre O N).2 = op
theorem Rnd.get (r : ByteArray) : ∃ F R T N L M more is cl op, Rnd r F R T N L M more is cl op := ⟨_, _, _, _, _, _, _, _, _, _, rfl, rfl, rfl, rfl, rfl, rfl, rfl, rfl, rfl, rfl⟩
theorem Rnd.lens {r : ByteArray} {F R T N L M : Bs} {more is cl op : Bool} (h : Rnd r F R T N L M more is cl op) : F.length ≤ r.size ∧ R.length ≤ r.size ∧ T.length ≤ R.length ∧ N.length ≤ R.length ∧ L.length ≤ R.length ∧ M.length ≤ N.length ∧ (more = true → F.length + 1 + R.length ≤ r.size) ∧ (is = true → T.length + 1 ≤ R.length) := by
  obtain ⟨rfl, rfl, rfl, rfl, rfl, rfl, rfl, rfl, rfl, rfl⟩ := h
  refine ⟨?_, ?_, pre_len _ _, cutB_fst_len _ _, cutB_len _ _, pre_len _ _, fun hm => ?_, fun hm => ?_⟩
  · have := cutB_fst_len D (lst r); rwa [lst_len] at this
  · have := cutB_len D (lst r); rwa [lst_len] at this
  · have := congrArg List.length (cutB_hit hm).1; rw [lst_len, List.length_append, List.length_cons] at this; omega
  · have := congrArg List.length (pre_yes hm); rw [List.length_cons] at this; omega
set_option maxRecDepth 20000 in
set_option maxHeartbeats 8000000 in
theorem parse_any (KT KG : FuncId) (hET : Enters KT) (hEG : Enters KG) (ct cg : Array Value) (s : ByteArray) (m : Int) (I : List Part → World → Prop) (w : World) (hs : s.size ≤ 2001)
    (hT : ∀ (K : List Part) (f : Bs) w, I K w → f.length ≤ 2001 → K.length ≤ 2001 → Calls Tryd.prog KT (#[.string (bts f)] ++ ct) w fun e w' => e = .returned (.tuple #[]) ∧ I (K ++ chars f) w')
    (hG : ∀ (K : List Part) (f : Bs) w, I K w → f.length ≤ 2001 → K.length ≤ 2001 → Calls Tryd.prog KG (#[.string (bts f)] ++ cg) w fun e w' => e = .returned (.tuple #[]) ∧ I (K ++ [⟨true, f⟩]) w')
    (hB : ∀ (K : List Part) w w', I K w → Below w.heap.size w w' → I K w') (hm : ∀ (K : List Part) w, I K w → w.cell? ⟨0, 0, none⟩ = some (.int .i64 m)) (h0 : I [] w) :
    Calls Tryd.prog 12 #[.string s, .func (.func KT) #[] ct, .func (.func KG) #[] cg] w (ParQ s I) := by
  have HT := Lib.hid hT
  have HG := Lib.hid hG
  have HB := Lib.hid hB
  have HM := Lib.hid hm
  have H0 := Lib.hid h0
  have HS0 := Lib.hid (ParS.zero s)
  obtain ⟨n, hn⟩ : ∃ n, s.size = n := ⟨_, rfl⟩
  rw [hn] at hs
  have HN := Lib.hid hn
  clear hT hG hB hm h0 hn
  unfold Enters at hET hEG
  go_enter Tryd.func12, Tryd.ntmps12
  go_wp2_with fail
  go_loopg [0] n (fun g x wr => ∃ (r : ByteArray) (K : List Part), x = .string r ∧ K.length + g ≤ n ∧ Hid (r.size = g) ∧ Hid (ParS s r K) ∧ Hid (I K wr))
  case atStart => exact ⟨s, [], rfl, by simp, HN, HS0, H0⟩
  case round =>
    clear H0 HS0
    obtain ⟨r, K, rfl, hg, HR, HS, HI⟩ := hrel
    obtain ⟨F, R, T, N, L, M, more, is, cl, op, hrn⟩ := Rnd.get r
    obtain ⟨l1, l2, l3, l4, l5, l6, l7, l8⟩ := hrn.lens
    have lc : (chars F).length = F.length := by simp [chars]
    have HRN := Lib.hid hrn
    rw [HR.out] at l1 l2 l7
    have HC := Lib.hid (Cut_of r 36 m F R more hrn.f hrn.r' hrn.m (by rw [HR.out]; omega))
    have HCP := Lib.hid (CutPrefix_of (bts R) 36 T is hrn.t hrn.i)
    have HC2 := Lib.hid (Cut_of (bts R) 125 m N L cl hrn.n hrn.l hrn.c (by rw [bts_size]; omega))
    have HP2 := Lib.hid (CutPrefix_of (bts N) 123 M op hrn.mm hrn.o)
    have HLB := Lib.hid (fun w => Label_any (bts M) w (by rw [bts_size]; omega))
    rw [lst_bts] at HLB
    have HFIN : Hid (more = false → scr (lst s) = some (K ++ chars F)) := Lib.hid (fun h => by
      rw [HS.out.fin (hrn.m.trans h), hrn.f])
    have HTWO : Hid (more = true → is = true → ParS s (bts T) (K ++ chars F ++ chars [D])) := Lib.hid (fun h h2 => by
      obtain ⟨rfl, rfl, rfl, rfl, rfl, _⟩ := hrn
      exact HS.out.two h h2)
    have HBAD : Hid (more = true → is = false → ¬ (op = true ∧ cl = true ∧ lab M = true) → scr (lst s) = none) := Lib.hid (fun h h2 h3 => by
      obtain ⟨rfl, rfl, rfl, rfl, rfl, rfl, rfl, rfl, rfl, rfl⟩ := hrn
      exact HS.out.bad h h2 h3)
    have HGAP : Hid (more = true → is = false → op = true → cl = true → lab M = true → ParS s (bts L) (K ++ chars F ++ [⟨true, M⟩])) := Lib.hid (fun h h2 h3 h4 h5 => by
      obtain ⟨rfl, rfl, rfl, rfl, rfl, rfl, rfl, rfl, rfl, rfl⟩ := hrn
      exact HS.out.gap h h2 ⟨h3, h4, h5⟩)
    clear hrn HRN HS
    cases more with
    | false =>
      have HV := Lib.hid (HFIN.out rfl)
      have HV2 : Hid ((scr (lst s)).isSome = true) := Lib.hid (by rw [HV.out]; rfl)
      go_wp2_with (go_at_call 26; refine Calls.mono (HC.out _ (HM.out _ _ HI.out)) ?_; rintro e' W3 ⟨rfl, q, rfl⟩)
      refine (HT.out K F _ (HB.out _ _ _ HI.out (below_drewN (Below.refl _ _) _)) (by omega) (by omega)).mono ?_
      rintro e' W4 ⟨rfl, hI4⟩
      have HI4 := Lib.hid hI4
      clear hI4
      go_wp2_with fail
      go_ret
      exact ⟨ret_bool HV2.out.symm, _, HI4.out, fun P hP => by rw [HV.out] at hP; cases hP; rfl⟩
    | true =>
      have hlt := l7 rfl
      cases is with
      | true =>
        have hl8 := l8 rfl
        have HQ := Lib.hid (HTWO.out rfl rfl)
        clear HTWO HBAD HGAP HFIN
        go_wp2_with (go_at_call 26; refine Calls.mono (HC.out _ (HM.out _ _ HI.out)) ?_; rintro e' W3 ⟨rfl, q, rfl⟩)
        refine (HT.out K F _ (HB.out _ _ _ HI.out (below_drewN (Below.refl _ _) _)) (by omega) (by omega)).mono ?_
        rintro e' W4 ⟨rfl, hI4⟩
        have HI4 := Lib.hid hI4
        clear hI4
        go_wp2_with (go_at_call 27; refine Calls.mono (HCP.out _) ?_; rintro e' W3 ⟨rfl, rfl⟩)
        refine (HT.out _ [D] _ HI4.out (by simp) (by rw [List.length_append, lc]; omega)).mono ?_
        rintro e' W5 ⟨rfl, hI5⟩
        have HI5 := Lib.hid hI5
        clear hI5
        go_wp2_with fail
        go_roundg (T.length)
        case measure => omega
        case rel => exact ⟨_, _, rfl, by rw [List.length_append, List.length_append, lc]; simp [chars]; omega, Lib.hid (bts_size _), HQ, HI5⟩
      | false =>
      by_cases hall : op = true ∧ cl = true ∧ lab M = true
      · obtain ⟨rfl, rfl, hlb⟩ := hall
        have HQ := Lib.hid (HGAP.out rfl rfl rfl rfl hlb)
        clear HTWO HBAD HGAP HFIN
        rw [hlb] at HLB
        clear hlb
        go_wp2_with (go_at_call 26; refine Calls.mono (HC.out _ (HM.out _ _ HI.out)) ?_; rintro e' W3 ⟨rfl, q, rfl⟩)
        refine (HT.out K F _ (HB.out _ _ _ HI.out (below_drewN (Below.refl _ _) _)) (by omega) (by omega)).mono ?_
        rintro e' W4 ⟨rfl, hI4⟩
        have HI4 := Lib.hid hI4
        clear hI4
        go_wp2_with fail
        refine Calls.mono (HCP.out _) ?_
        rintro e' W3 ⟨rfl, rfl⟩
        go_wp2_with fail
        refine Calls.mono (HC2.out _ (HM.out _ _ HI4.out)) ?_
        rintro e' W3 ⟨rfl, q2, rfl⟩
        go_wp2_with fail
        refine Calls.mono (HP2.out _) ?_
        rintro e' W3 ⟨rfl, rfl⟩
        go_wp2_with fail
        refine Calls.mono (HLB.out _) ?_
        rintro e' W5 ⟨rfl, h1⟩
        have HI5 := Lib.hid (HB.out _ _ _ (HB.out _ _ _ HI4.out (below_drewN (Below.refl _ _) _)) h1)
        clear h1
        go_wp2_with fail
        refine (HG.out _ M _ HI5.out (by omega) (by rw [List.length_append, lc]; omega)).mono ?_
        rintro e' W6 ⟨rfl, hI6⟩
        have HI6 := Lib.hid hI6
        clear hI6
        go_wp2_with fail
        go_roundg (L.length)
        case measure => omega
        case rel => exact ⟨_, _, rfl, by rw [List.length_append, List.length_append, lc]; simp; omega, Lib.hid (bts_size _), HQ, HI6⟩
      · have HN2 : Hid (scr (lst s) = none) := Lib.hid (HBAD.out rfl rfl hall)
        have HV : Hid ((scr (lst s)).isSome = false) := Lib.hid (by rw [HN2.out]; rfl)
        clear HTWO HBAD HGAP HFIN
        cases op with
        | false =>
          clear hall
          go_wp2_with (go_at_call 26; refine Calls.mono (HC.out _ (HM.out _ _ HI.out)) ?_; rintro e' W3 ⟨rfl, q, rfl⟩)
          refine (HT.out K F _ (HB.out _ _ _ HI.out (below_drewN (Below.refl _ _) _)) (by omega) (by omega)).mono ?_
          rintro e' W4 ⟨rfl, hI4⟩
          have HI4 := Lib.hid hI4
          clear hI4
          go_wp2_with fail
          refine Calls.mono (HCP.out _) ?_
          rintro e' W3 ⟨rfl, rfl⟩
          go_wp2_with fail
          refine Calls.mono (HC2.out _ (HM.out _ _ HI4.out)) ?_
          rintro e' W3 ⟨rfl, q2, rfl⟩
          go_wp2_with fail
          refine Calls.mono (HP2.out _) ?_
          rintro e' W3 ⟨rfl, rfl⟩
          go_wp2_with fail
          go_ret
          exact ⟨ret_bool HV.out.symm, _, HB.out _ _ _ HI4.out (below_drewN (Below.refl _ _) _), fun P hP => by rw [HN2.out] at hP; cases hP⟩
        | true =>
        cases cl with
        | false =>
          clear hall
          go_wp2_with (go_at_call 26; refine Calls.mono (HC.out _ (HM.out _ _ HI.out)) ?_; rintro e' W3 ⟨rfl, q, rfl⟩)
          refine (HT.out K F _ (HB.out _ _ _ HI.out (below_drewN (Below.refl _ _) _)) (by omega) (by omega)).mono ?_
          rintro e' W4 ⟨rfl, hI4⟩
          have HI4 := Lib.hid hI4
          clear hI4
          go_wp2_with fail
          refine Calls.mono (HCP.out _) ?_
          rintro e' W3 ⟨rfl, rfl⟩
          go_wp2_with fail
          refine Calls.mono (HC2.out _ (HM.out _ _ HI4.out)) ?_
          rintro e' W3 ⟨rfl, q2, rfl⟩
          go_wp2_with fail
          refine Calls.mono (HP2.out _) ?_
          rintro e' W3 ⟨rfl, rfl⟩
          go_wp2_with fail
          go_ret
          exact ⟨ret_bool HV.out.symm, _, HB.out _ _ _ HI4.out (below_drewN (Below.refl _ _) _), fun P hP => by rw [HN2.out] at hP; cases hP⟩
        | true =>
        have hlb : lab M = false := by
          cases h : lab M with
          | false => rfl
          | true => exact absurd ⟨rfl, rfl, h⟩ hall
        rw [hlb] at HLB
        clear hlb hall
        go_wp2_with (go_at_call 26; refine Calls.mono (HC.out _ (HM.out _ _ HI.out)) ?_; rintro e' W3 ⟨rfl, q, rfl⟩)
        refine (HT.out K F _ (HB.out _ _ _ HI.out (below_drewN (Below.refl _ _) _)) (by omega) (by omega)).mono ?_
        rintro e' W4 ⟨rfl, hI4⟩
        have HI4 := Lib.hid hI4
        clear hI4
        go_wp2_with fail
        refine Calls.mono (HCP.out _) ?_
        rintro e' W3 ⟨rfl, rfl⟩
        go_wp2_with fail
        refine Calls.mono (HC2.out _ (HM.out _ _ HI4.out)) ?_
        rintro e' W3 ⟨rfl, q2, rfl⟩
        go_wp2_with fail
        refine Calls.mono (HP2.out _) ?_
        rintro e' W3 ⟨rfl, rfl⟩
        go_wp2_with fail
        refine Calls.mono (HLB.out _) ?_
        rintro e' W5 ⟨rfl, h1⟩
        have HI5 := Lib.hid (HB.out _ _ _ (HB.out _ _ _ HI4.out (below_drewN (Below.refl _ _) _)) h1)
        clear h1
        go_wp2_with fail
        go_ret
        exact ⟨ret_bool HV.out.symm, _, HI5.out, fun P hP => by rw [HN2.out] at hP; cases hP⟩
end Go.Proofs.YtooocllampkibaaDoor
