/- Contract: the parts of a script; the document's. -/
import Derived.Test.YtooocllampkibaaDoorTmplRow
import Derived.Deep.CutBlock
import Derived.Deep.DeepCutAuto
import Derived.RegionTactic
namespace Go.Proofs.YtooocllampkibaaDoor
open Go.ChangeShapes Go.WideShapes Go.ChangeAt Go.RowKit
set_option linter.unusedVariables false
open Tp
theorem ext_lst (s : ByteArray) (a b : Nat) : lst (s.extract a b) = ((lst s).drop a).take (b - a) := by
  unfold lst
  rw [ByteArray.data_extract, Array.toList_extract, List.extract_eq_take_drop]
theorem ext_bts (s : ByteArray) (a b : Nat) : s.extract a b = bts (((lst s).drop a).take (b - a)) := by
  rw [← ext_lst, bts_lst]
theorem ext_one {s : ByteArray} {i : Nat} {c : UInt8} (h : (lst s)[i]? = some c) : s.extract i (i + 1) = bts [c] := by
  rw [ext_bts, drop_at h, show i + 1 - i = 1 from by omega]; rfl
/-- what Script has read: the parts so far are the whole's first -/
def Scr (s : ByteArray) (K : List Part) (i : Nat) : Prop := scr (lst s) = (scr ((lst s).drop i)).map (K ++ ·)
theorem Scr.zero (s : ByteArray) : Scr s [] 0 := by
  unfold Scr
  rw [List.drop_zero]
  cases scr (lst s) <;> simp
theorem Scr.next {s : ByteArray} {K : List Part} {i j : Nat} {p : Part} (h : Scr s K i) (hs : scr ((lst s).drop i) = (scr ((lst s).drop j)).map (p :: ·)) : Scr s (K ++ [p]) j := by
  unfold Scr at *
  rw [h, hs]
  cases scr ((lst s).drop j) <;> simp
theorem Scr.bad {s : ByteArray} {K : List Part} {i : Nat} (h : Scr s K i) (hs : scr ((lst s).drop i) = none) : scr (lst s) = none := by
  unfold Scr at h
  rw [h, hs]; rfl
theorem Scr.fin {s : ByteArray} {K : List Part} {i : Nat} (h : Scr s K i) (hi : s.size ≤ i) : scr (lst s) = some K := by
  unfold Scr at h
  rw [h, List.drop_eq_nil_of_le (by rw [lst_len]; omega), scr_nil]; simp
def ScrQ (s : ByteArray) (B : Nat) (w : World) (e : Ending) (w' : World) : Prop := ((∃ L a n cap, scr (lst s) = some L ∧ e = .returned (.tuple #[.slice a n cap, .bool true]) ∧ n = L.length ∧ n ≤ 2001 ∧ Parts w' a L) ∨ scr (lst s) = none ∧ e = .returned (.tuple #[.slice none 0 0, .bool false])) ∧ Below B w w'
/-- no bracket closes between i and e -/
def NoE (s : ByteArray) (i e : Nat) : Prop := ∀ (j : Nat) (x : UInt8), i ≤ j → j < e → (lst s)[j]? = some x → x ≠ E
theorem NoE.zero (s : ByteArray) (i : Nat) : NoE s i i := fun j x h1 h2 => absurd h1 (by omega)
theorem NoE.succ {s : ByteArray} {i e : Nat} {c : UInt8} (h : NoE s i e) (hc : (lst s)[e]? = some c) (hn : c ≠ E) : NoE s i (e + 1) := fun j x h1 h2 hx => by
  by_cases ej : j = e
  · subst ej; rw [hc] at hx; cases hx; exact hn
  · exact h j x h1 (by omega) hx
theorem u8_ne {c : UInt8} {z : Int} {d : UInt8} (hz : (c.toNat : Int) = z) (h : z ≠ (d.toNat : Int)) : c ≠ d := fun e => h (by rw [← hz, e])
theorem u8_eq {c : UInt8} {z : Int} {d : UInt8} (hz : (c.toNat : Int) = z) (h : z = (d.toNat : Int)) : c = d := UInt8.toNat_inj.1 (by omega)
set_option maxRecDepth 20000 in
set_option maxHeartbeats 8000000 in
theorem Script_any (s : ByteArray) (w : World) (hs : s.size ≤ 2001) : Calls Tryd.prog 9 #[.string s] w (ScrQ s w.heap.size w) := by
  obtain ⟨n, hn⟩ : ∃ n, s.size = n := ⟨_, rfl⟩
  have HN := Lib.hid hn
  rw [hn] at hs
  obtain ⟨B, hB⟩ : ∃ B, B = w.heap.size := ⟨_, rfl⟩
  have HBB := Lib.hid hB
  have HG0 : Hid (RowS B 58 2 ([] : List Part).length (prc []) (.slice none 0 0) w w) := Lib.hid (RowS.nil _ _ _ _)
  clear hB
  go_enter Tryd.func9, Tryd.ntmps9
  go_wp2_with fail
  go_loopg [4, 5] n (fun g x y wr => ∃ (i : Nat) (K : List Part), n - i = g ∧ i ≤ n ∧ y = .int .i64 (i : Int) ∧ K.length ≤ i ∧ Hid (Scr s K i) ∧ Hid (RowS B 58 2 K.length (prc K) x w wr))
  case atStart => exact ⟨0, [], by omega, by omega, rfl, by simp, Lib.hid (Scr.zero s), HG0⟩
  case round =>
    clear HG0
    obtain ⟨i, K, hg, hin, rfl, hKi, HS, HG⟩ := hrel
    have hszr : B ≤ wr.heap.size := by have := HG.out.below.size; have := HBB.out; omega
    obtain ⟨m, hm⟩ : ∃ m, m = K.length := ⟨_, rfl⟩
    have HM := Lib.hid hm
    rw [← hm] at hKi HG
    clear hm
    by_cases hlt : i < n
    · obtain ⟨c, hc⟩ : ∃ c, (lst s)[i]? = some c := ⟨_, List.getElem?_eq_getElem (by rw [lst_len, hn]; exact hlt)⟩
      have hjs : i < s.size := by omega
      obtain ⟨z, hz⟩ : ∃ z : Int, (c.toNat : Int) = z := ⟨_, rfl⟩
      have gj : ∀ h : i < s.size, ((s[i]'h).toNat : Int) = z := fun h => by rw [lst_at hc h]; exact hz
      have hi1 : (0 : Int) ≤ (i : Int) := by omega
      have hi2 : (i : Int) < (n : Int) := by omega
      have hw1 : IntKind.i64.wrap ((i : Int) + 1) = (i : Int) + 1 := IntWalk.i64_in _ (by omega)
      have hw2 : IntKind.i64.wrap ((i : Int) + 2) = (i : Int) + 2 := IntWalk.i64_in _ (by omega)
      have hz0 : 0 ≤ z := by omega
      have HC := Lib.hid hc
      have HZ := Lib.hid hz
      obtain ⟨ga, gc, hu, hgc1, hgc2, hgf⟩ := ownForm HG.out.own
      subst hu
      clear hc hz
      by_cases h36 : z = 36
      · have HD := Lib.hid (u8_eq (d := D) HZ.out h36)
        subst h36
        rw [HD.out] at HC
        by_cases h1 : i + 1 < n
        · obtain ⟨c1, hc⟩ : ∃ c, (lst s)[i + 1]? = some c := ⟨_, List.getElem?_eq_getElem (by rw [lst_len, hn]; exact h1)⟩
          have hjs1 : i + 1 < s.size := by omega
          obtain ⟨z1, hz⟩ : ∃ z : Int, (c1.toNat : Int) = z := ⟨_, rfl⟩
          have gj1 : ∀ h : i + 1 < s.size, ((s[i + 1]'h).toNat : Int) = z1 := fun h => by rw [lst_at hc h]; exact hz
          have hi3 : (i : Int) + 1 < (n : Int) := by omega
          have hz10 : 0 ≤ z1 := by omega
          have HC1 := Lib.hid hc
          have HZ1 := Lib.hid hz
          clear hc hz
          by_cases h136 : z1 = 36
          · have HD1 := Lib.hid (u8_eq (d := D) HZ1.out h136)
            subst h136
            rw [HD1.out] at HC1
            have HQ := Lib.hid (HS.out.next (scr_at_two HC.out HC1.out))
            have HE : Hid ((⟨#[36]⟩ : ByteArray) = bts [D]) := Lib.hid rfl
            have HGP := HG
            have hszp := hszr
            go_wp2_with (at_builtin; go_loud (refine wpList_pushN _ (by rfl) _ _ 32 (by rfl) B 58 (.agg #[.bool false, .string ⟨#[]⟩]) 2 24 Tryd.underlying32 infoPart (by rfl) (by decide) (.slice ga m gc) m (prc K) [.bool false, .string ⟨#[36]⟩] _ rfl (by rfl) HGP.out.own (by rfl) (by rfl) (by intro u hu; simp at hu; rcases hu with rfl | rfl <;> rfl) (by unfold maxLen; omega) (by omega) hszp ?_; intro gg cap3 w5 hown hgrow hgb hgl2; have HW5 : Hid (RowS B 58 2 (K ++ [(⟨false, [D]⟩ : Part)]).length (prc (K ++ [(⟨false, [D]⟩ : Part)])) (.slice (some ⟨gg, 0, none⟩) (m + 1) cap3) w w5) := Lib.hid (by rw [List.length_append, ← HM.out, prc_append]; refine HGP.out.pushed hszp ?_ hgrow; simpa [prc, HE.out] using hown); clear hown hgrow hgb))
            go_roundg (n - (i + 2))
            case measure => omega
            case rel => exact ⟨i + 2, _, by omega, by omega, by simp, by have := HM.out; simp; omega, HQ, HW5⟩
          · have h136b : (z1 == 36) = false := by simpa using h136
            have HN1 := Lib.hid (u8_ne (d := D) HZ1.out h136)
            have HNE := Lib.hid (NoE.zero s i)
            clear h136
            obtain ⟨gq', rfl⟩ : ∃ q, q = gk := ⟨_, rfl⟩
            go_wp2_with fail
            go_loopg [6] (n - i) (fun q x wx => ∃ e : Nat, n - e = q ∧ i ≤ e ∧ e ≤ n ∧ x = .int .i64 (e : Int) ∧ Hid (NoE s i e) ∧ Hid (RowS B 58 2 m (prc K) (.slice ga m gc) w wx))
            case atStart => exact ⟨i, by omega, by omega, by omega, rfl, HNE, HG⟩
            case round =>
              clear HNE HG
              obtain ⟨e, hq, hie, hen, rfl, HNE, HG⟩ := hrel
              have hszr : B ≤ wr.heap.size := by have := HG.out.below.size; have := HBB.out; omega
              have he1 : (0 : Int) ≤ (e : Int) := by omega
              have hwe : IntKind.i64.wrap ((e : Int) + 1) = (e : Int) + 1 := IntWalk.i64_in _ (by omega)
              by_cases hel : e < n
              · obtain ⟨ce, hc⟩ : ∃ c, (lst s)[e]? = some c := ⟨_, List.getElem?_eq_getElem (by rw [lst_len, hn]; exact hel)⟩
                have hes : e < s.size := by omega
                obtain ⟨ze, hz⟩ : ∃ z : Int, (ce.toNat : Int) = z := ⟨_, rfl⟩
                have gje : ∀ h : e < s.size, ((s[e]'h).toNat : Int) = ze := fun h => by rw [lst_at hc h]; exact hz
                have he2 : (e : Int) < (n : Int) := by omega
                have hze0 : 0 ≤ ze := by omega
                have HCE := Lib.hid hc
                have HZE := Lib.hid hz
                clear hc hz
                by_cases h125 : ze = 125
                · have HD2 := Lib.hid (u8_eq (d := E) HZE.out h125)
                  subst h125
                  rw [HD2.out] at HCE
                  have hie2 : i < e := by
                    rcases Nat.lt_or_ge i e with h | h
                    · exact h
                    · have : e = i := by omega
                      subst this
                      have := HC.out; rw [HCE.out] at this; cases this
                  have hne : ((e : Int) == (n : Int)) = false := by simp; omega
                  have HGAP := Lib.hid (scr_at_gap HC.out HC1.out HN1.out hie2 HCE.out HNE.out)
                  by_cases h123 : z1 = 123
                  · have HD3 := Lib.hid (u8_eq (d := O) HZ1.out h123)
                    subst h123
                    have hie3 : i + 2 ≤ e := by
                      rcases Nat.lt_or_ge (i + 1) e with h | h
                      · exact h
                      · have : e = i + 1 := by omega
                        subst this
                        have := HC1.out; rw [HCE.out] at this
                        simp only [Option.some.injEq] at this
                        rw [HD3.out] at this; cases this
                    have hie4 : (i : Int) + 2 ≤ (e : Int) := by omega
                    have hie5 : (e : Int) ≤ (n : Int) := by omega
                    have HE := Lib.hid (ext_bts s (i + 2) e)
                    obtain ⟨T, hT⟩ : ∃ T, ((lst s).drop (i + 2)).take (e - (i + 2)) = T := ⟨_, rfl⟩
                    rw [hT] at HE HGAP
                    have HCL : Hid (∀ w, Calls Tryd.prog 24 #[.string (s.extract (i + 2) e)] w fun e w' => e = .returned (.bool (lab T)) ∧ Below w.heap.size w w') := Lib.hid (fun w => by
                      have := gLabel_any (s.extract (i + 2) e) w (by rw [HE.out, bts_size, ← hT, List.length_take, List.length_drop]; omega)
                      rw [HE.out, lst_bts] at this
                      rw [HE.out]; exact this)
                    clear hT
                    cases hlab : lab T with
                    | false =>
                      rw [hlab] at HCL
                      have HV := Lib.hid (HS.out.bad (by rw [HGAP.out, if_neg (fun h => by rw [hlab] at h; simp at h)]))
                      clear hlab
                      go_wp2_with (go_at_call 24; refine Calls.mono (HCL.out _) ?_; rintro e' W3 ⟨rfl, h1⟩; have HW3 := Lib.hid (HG.out.step h1 hszr); clear h1)
                      go_ret2
                      exact ⟨.inr ⟨HV.out, rfl⟩, by have := HW3.out.below; rw [HBB.out] at this; exact this⟩
                    | true =>
                      rw [hlab] at HCL
                      have HQ := Lib.hid (HS.out.next (j := e + 1) (p := ⟨true, T⟩) (by rw [HGAP.out, if_pos ⟨HD3.out, hlab⟩]))
                      clear hlab
                      go_wp2_with (first
                        | (go_at_call 24; refine Calls.mono (HCL.out _) ?_; rintro e' W3 ⟨rfl, h1⟩; have HGP := Lib.hid (HG.out.step h1 hszr); have hszp : B ≤ W3.heap.size := Nat.le_trans hszr h1.size; clear h1)
                        | (at_builtin; go_loud (refine wpList_pushN _ (by rfl) _ _ 32 (by rfl) B 58 (.agg #[.bool false, .string ⟨#[]⟩]) 2 24 Tryd.underlying32 infoPart (by rfl) (by decide) (.slice ga m gc) m (prc K) [.bool true, .string (s.extract (i + 2) e)] _ rfl (by rfl) HGP.out.own (by rfl) (by rfl) (by intro u hu; simp at hu; rcases hu with rfl | rfl <;> rfl) (by unfold maxLen; omega) (by omega) hszp ?_; intro gg cap3 w5 hown hgrow hgb hgl2; have HW5 : Hid (RowS B 58 2 (K ++ [(⟨true, T⟩ : Part)]).length (prc (K ++ [(⟨true, T⟩ : Part)])) (.slice (some ⟨gg, 0, none⟩) (m + 1) cap3) w w5) := Lib.hid (by rw [List.length_append, ← HM.out, prc_append]; refine HGP.out.pushed hszp ?_ hgrow; simpa [prc, HE.out] using hown); clear hown hgrow hgb)))
                      go_roundg (n - (e + 1))
                      case measure => omega
                      case rel => exact ⟨e + 1, _, by omega, by omega, by simp, by have := HM.out; simp; omega, HQ, HW5⟩
                  · have h123b : (z1 != 123) = true := by simpa using h123
                    have HV := Lib.hid (HS.out.bad (by rw [HGAP.out, if_neg (fun h => u8_ne (d := O) HZ1.out h123 h.1)]))
                    go_wp2_with fail
                    go_ret2
                    exact ⟨.inr ⟨HV.out, rfl⟩, by have := HG.out.below; rw [HBB.out] at this; exact this⟩
                · have h125b : (ze != 125) = true := by simpa using h125
                  have HQ := Lib.hid (HNE.out.succ HCE.out (u8_ne (d := E) HZE.out h125))
                  go_wp2_with fail
                  go_roundg (n - (e + 1))
                  case measure => omega
                  case rel => exact ⟨e + 1, by omega, by omega, by omega, by simp, HQ, HG⟩
              · obtain rfl : e = n := by omega
                have HV := Lib.hid (HS.out.bad (scr_at_open HC.out HC1.out HN1.out (fun j x hj hx => HNE.out j x hj (by
                  have := (List.getElem?_eq_some_iff.1 hx).1
                  rw [lst_len, HN.out] at this; exact this) hx)))
                have hne : ((e : Int) == (e : Int)) = true := by simp
                go_wp2_with fail
                go_ret2
                exact ⟨.inr ⟨HV.out, rfl⟩, by have := HG.out.below; rw [HBB.out] at this; exact this⟩
        · have HV := Lib.hid (HS.out.bad (scr_at_end HC.out (by rw [lst_len, hn]; omega)))
          have hi3 : ¬ (i : Int) + 1 < (n : Int) := by omega
          obtain ⟨gq', rfl⟩ : ∃ q, q = gk := ⟨_, rfl⟩
          go_wp2_with fail
          go_loopg [6] (n - i) (fun q x wx => ∃ e : Nat, n - e = q ∧ i ≤ e ∧ e ≤ n ∧ x = .int .i64 (e : Int) ∧ Hid (RowS B 58 2 m (prc K) (.slice ga m gc) w wx))
          case atStart => exact ⟨i, by omega, by omega, by omega, rfl, HG⟩
          case round =>
            clear HG
            obtain ⟨e, hq, hie, hen, rfl, HG⟩ := hrel
            by_cases hel : e < n
            · obtain rfl : e = i := by omega
              go_wp2_with fail
              go_roundg (n - (e + 1))
              case measure => omega
              case rel => exact ⟨e + 1, by omega, by omega, by omega, by simp, HG⟩
            · obtain rfl : e = n := by omega
              have hne : ((e : Int) == (e : Int)) = true := by simp
              go_wp2_with fail
              go_ret2
              exact ⟨.inr ⟨HV.out, rfl⟩, by have := HG.out.below; rw [HBB.out] at this; exact this⟩
      · have h36b : (z != 36) = true := by simpa using h36
        have HQ := Lib.hid (HS.out.next (scr_at_char HC.out (u8_ne (d := D) HZ.out h36)))
        have HE := Lib.hid (ext_one HC.out)
        have HGP := HG
        have hszp := hszr
        go_wp2_with (at_builtin; go_loud (refine wpList_pushN _ (by rfl) _ _ 32 (by rfl) B 58 (.agg #[.bool false, .string ⟨#[]⟩]) 2 24 Tryd.underlying32 infoPart (by rfl) (by decide) (.slice ga m gc) m (prc K) [.bool false, .string (s.extract i (i + 1))] _ rfl (by rfl) HGP.out.own (by rfl) (by rfl) (by intro u hu; simp at hu; rcases hu with rfl | rfl <;> rfl) (by unfold maxLen; omega) (by omega) hszp ?_; intro gg cap3 w5 hown hgrow hgb hgl2; have HW5 : Hid (RowS B 58 2 (K ++ [(⟨false, [c]⟩ : Part)]).length (prc (K ++ [(⟨false, [c]⟩ : Part)])) (.slice (some ⟨gg, 0, none⟩) (m + 1) cap3) w w5) := Lib.hid (by rw [List.length_append, ← HM.out, prc_append]; refine HGP.out.pushed hszp ?_ hgrow; simpa [prc, HE.out] using hown); clear hown hgrow hgb))
        go_roundg (n - (i + 1))
        case measure => omega
        case rel => exact ⟨i + 1, _, by omega, by omega, by simp, by have := HM.out; simp; omega, HQ, HW5⟩
    · obtain rfl : i = n := by omega
      have HV := Lib.hid (HS.out.fin (by rw [HN.out]; exact Nat.le_refl _))
      obtain ⟨ga, gc, hu, _, _, _⟩ := ownForm HG.out.own
      have HP : Hid (Parts wr ga K) := Lib.hid (by
        obtain ⟨ga', gc', hu2, hv⟩ := IsRow.own (by decide) HG.out.own
        rw [hu2] at hu
        cases hu
        exact Parts.of hv)
      subst hu
      have HBE : Hid (Below w.heap.size w wr) := Lib.hid (by rw [← HBB.out]; exact HG.out.below)
      clear HG
      go_wp2_with fail
      go_ret2
      exact ⟨.inl ⟨K, ga, m, gc, HV.out, rfl, HM.out, by omega, HP.out⟩, HBE.out⟩
end Go.Proofs.YtooocllampkibaaDoor
