/- Contract: the names of a script's gaps, each once; the document's. -/
import Derived.Test.YtooocllampkibaaDoorTmplRow
import Derived.Deep.CutBlock
import Derived.Deep.DeepCutAuto
import Derived.RegionTactic
namespace Go.Proofs.YtooocllampkibaaDoor
open Go.ChangeShapes Go.WideShapes Go.ChangeAt Go.RowKit
set_option linter.unusedVariables false
open Tp
set_option maxRecDepth 20000 in
set_option maxHeartbeats 4000000 in
theorem Gaps_any (L : List Part) (a : Option Addr) (n cap : Nat) (w : World) (hn : n = L.length) (hl : n ≤ 100000) (hL : Parts w a L) :
    Calls Tryd.prog 11 #[.slice a n cap] w fun e w' => ∃ ga m gc, e = .returned (.slice ga m gc) ∧ m = (gapsA [] L).length ∧ m ≤ 100000 ∧ Vals w' ga (txv (gapsA [] L)) ∧ Below w.heap.size w w' := by
  have HN := Lib.hid hn
  have HL := Lib.hid hL
  obtain ⟨B, hB⟩ : ∃ B, B = w.heap.size := ⟨_, rfl⟩
  have HBB := Lib.hid hB
  have HG0 : Hid (RowS B 9 1 (gapsA [] (L.take 0)).length (txv (gapsA [] (L.take 0))) (.slice none 0 0) w w) := Lib.hid (RowS.nil _ _ _ _)
  clear hn hL hB
  go_enter Tryd.func11, Tryd.ntmps11
  go_wp2_with fail
  go_loopg [3, 8] n (fun g x y wr => ∃ j : Nat, j + g = n ∧ y = .int .i64 (j : Int) ∧ Hid (RowS B 9 1 (gapsA [] (L.take j)).length (txv (gapsA [] (L.take j))) x w wr))
  case atStart => exact ⟨0, by omega, rfl, HG0⟩
  case round =>
    clear HG0
    obtain ⟨j, hj, rfl, HG⟩ := hrel
    by_cases hjn : j < n
    · obtain ⟨p, hp⟩ : ∃ p, L[j]? = some p := ⟨_, List.getElem?_eq_getElem (by have := HN.out; omega)⟩
      obtain ⟨b, off, rfl, hb, hat⟩ := HL.out (by have := HN.out; omega)
      obtain ⟨q0, q1⟩ := (hat.below HG.out.below (by have := HBB.out; omega)) j p hp
      have HSUC := Lib.hid (gapsA_take hp)
      have hgl := gapsA_length L j
      obtain ⟨K, hK⟩ : ∃ K, gapsA [] (L.take j) = K := ⟨_, rfl⟩
      rw [hK] at HSUC hgl HG
      obtain ⟨m, hm⟩ : ∃ m, m = K.length := ⟨_, rfl⟩
      have HM := Lib.hid hm
      rw [← hm] at hgl HG
      obtain ⟨t, ht⟩ : ∃ t, bts p.txt = t := ⟨_, rfl⟩
      obtain ⟨gp, hgp⟩ : ∃ g, p.gap = g := ⟨_, rfl⟩
      have HT := Lib.hid ht
      rw [ht] at q1
      rw [hgp] at q0 HSUC
      have hszr : B ≤ wr.heap.size := by have := HG.out.below.size; have := HBB.out; omega
      have hbr : b < wr.heap.size := by have := HBB.out; omega
      have hj1 : (0 : Int) ≤ (j : Int) := by omega
      have hj2 : (j : Int) < (n : Int) := by omega
      clear hat hp hK hgp ht hm
      obtain ⟨ga, gc, hu, hgc1, hgc2, hgf⟩ := ownForm HG.out.own
      subst hu
      have HGA : Hid (RowS B 9 1 m (txv K) (.slice ga m gc) w (wr.alloc (.cells #[.bool gp, .string t] 58))) := Lib.hid (HG.out.step ((Below.refl _ _).alloc (Nat.le_refl _) _) hszr)
      cases gp with
      | false =>
        have HQ : Hid (RowS B 9 1 (gapsA [] (L.take (j + 1))).length (txv (gapsA [] (L.take (j + 1)))) (.slice ga m gc) w (wr.alloc (.cells #[.bool false, .string t] 58))) := Lib.hid (by
          rw [HSUC.out, if_neg (fun h => by simp at h), ← HM.out]; exact HGA.out)
        go_wp2_with fail
        go_roundg (n - (j + 1))
        case measure => omega
        case rel => exact ⟨j + 1, by omega, by simp, HQ⟩
      | true =>
        have HC : Hid (Calls Tryd.prog 25 #[.slice ga m gc, .string t] (wr.alloc (.cells #[.bool true, .string t] 58)) fun e w' => e = .returned (.bool (decide (p.txt ∈ K))) ∧ Below (wr.alloc (.cells #[.bool true, .string t] 58)).heap.size (wr.alloc (.cells #[.bool true, .string t] 58)) w') := Lib.hid (by
          have := hasK K m t ga gc (wr.alloc (.cells #[.bool true, .string t] 58)) HM.out (by
            obtain ⟨a', c', hu, hv⟩ := IsVals.own HGA.out.own
            cases hu; exact hv) (by omega)
          rw [← HT.out, lst_bts, HT.out] at this
          exact this)
        by_cases hin : p.txt ∈ K
        · rw [show decide (p.txt ∈ K) = true from by simpa using hin] at HC
          have HR : Hid (gapsA [] (L.take (j + 1)) = K) := Lib.hid (by rw [HSUC.out, if_neg (fun h => h.2 hin)])
          clear hin
          go_wp2_with (go_at_call 25; refine Calls.mono HC.out ?_; rintro e' W3 ⟨rfl, h1⟩; have HW3 : Hid (RowS B 9 1 m (txv K) (.slice ga m gc) w W3) := Lib.hid (HGA.out.step h1 (by simp; omega)); clear h1)
          go_roundg (n - (j + 1))
          case measure => omega
          case rel => exact ⟨j + 1, by omega, by simp, Lib.hid (by rw [HR.out, ← HM.out]; exact HW3.out)⟩
        · rw [show decide (p.txt ∈ K) = false from by simpa using hin] at HC
          have HR : Hid (gapsA [] (L.take (j + 1)) = K ++ [p.txt]) := Lib.hid (by rw [HSUC.out, if_pos ⟨rfl, hin⟩])
          clear hin
          go_wp2_with (first
            | (go_at_call 25; refine Calls.mono HC.out ?_; rintro e' W3 ⟨rfl, h1⟩; have HW3 : Hid (RowS B 9 1 m (txv K) (.slice ga m gc) w W3) := Lib.hid (HGA.out.step h1 (by simp; omega)); have hszw : B ≤ W3.heap.size := Nat.le_trans (Nat.le_trans hszr (by simp)) h1.size; have d1 : W3.cell? ⟨wr.heap.size, 1, none⟩ = some (.string t) := (h1.cell (p := ⟨wr.heap.size, 1, none⟩) (by simp)).trans (by simp); clear h1)
            | (at_builtin; go_loud (refine wpList_push W3 (by rfl) _ _ 23 (by rfl) B 9 (.string ⟨#[]⟩) 16 Tryd.underlying23 infoStr (by rfl) (.slice ga m gc) m (txv K) (.string t) _ rfl (by rfl) HW3.out.own (by rfl) (by rfl) (by unfold maxLen; omega) (by omega) hszw ?_; intro gg cap3 w5 hown hgrow hgb hgl2; have HW5 : Hid (RowS B 9 1 (gapsA [] (L.take (j + 1))).length (txv (gapsA [] (L.take (j + 1)))) (.slice (some ⟨gg, 0, none⟩) (m + 1) cap3) w w5) := Lib.hid (by rw [HR.out, List.length_append, ← HM.out, txv_push, HT.out]; exact HW3.out.pushed hszw hown hgrow); clear hown hgrow hgb)))
          go_roundg (n - (j + 1))
          case measure => omega
          case rel => exact ⟨j + 1, by omega, by simp, HW5⟩
    · obtain rfl : j = n := by omega
      have HTK : Hid (L.take j = L) := Lib.hid (by rw [HN.out, List.take_length])
      rw [HTK.out] at HG
      have hgl := gapsA_length L j
      rw [HTK.out] at hgl
      obtain ⟨ga, gc, hu, _, _, _⟩ := ownForm HG.out.own
      have HV : Hid (Vals wr ga (txv (gapsA [] L))) := Lib.hid (by
        obtain ⟨ga', gc', hu2, hv⟩ := IsRow.own (by decide) HG.out.own
        rw [hu2] at hu
        cases hu
        exact hv)
      have HBE : Hid (Below w.heap.size w wr) := Lib.hid (by rw [← HBB.out]; exact HG.out.below)
      obtain ⟨m, hm⟩ : ∃ m, m = (gapsA [] L).length := ⟨_, rfl⟩
      rw [← hm] at hu hgl
      subst hu
      have HM := Lib.hid hm
      clear hm HG
      go_wp2_with fail
      go_ret
      exact ⟨ga, m, gc, rfl, HM.out, by omega, HV.out, HBE.out⟩
end Go.Proofs.YtooocllampkibaaDoor
