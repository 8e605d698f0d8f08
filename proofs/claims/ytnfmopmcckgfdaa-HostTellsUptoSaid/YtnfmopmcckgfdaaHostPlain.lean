/- Plain: what Take and Give tell, as the document says it. -/
import Derived.Test.YtnfmopmcckgfdaaHostBestR
import Derived.Test.YtnfmopmcckgfdaaHostUsed
namespace Go.Proofs.Ytnfmopmcckgfdaa
open Go.ChangeShapes Go.WideShapes Go.ChangeAt Go.RowKit
set_option linter.unusedVariables false
open Tp
def Amt.plus (a b : Amt) (t : Int) : Amt := ⟨a.cpu + t * b.cpu, a.mem + t * b.mem, a.gpu + t * b.gpu⟩
theorem pk_true {b : Bool} {x : Int} (h : b = true) : pk b x = x := by rw [h]; rfl
/-- what Take tells at a host -/
def takeE (A : Amt) (h : Hst) : Int := if amtE A ≠ 0 then amtE A else if A.le h.left then 0 else 10
def giveE (A : Amt) (h : Hst) : Int := if amtE A ≠ 0 then amtE A else if A.le h.used then 0 else 10
theorem amtE_no {A : Amt} (h : amtE A ≠ 0) : A.ok = false ∧ amtE A = 4 := by
  unfold amtE needE at *
  unfold Amt.ok
  split at h
  · exact absurd rfl h
  · rename_i h1; exact ⟨by simpa using h1, by rw [if_neg h1]⟩
theorem take_tells {L : List Hst} {i : Nat} {h : Hst} (A : Amt) (hE : hostsE L = 0) (hx : L[i]? = some h) : chE (takeF A) L (i : Int) = takeE A h ∧ (takeE A h = 0 → A.ok = true ∧ chL (takeF A) L (i : Int) = L.set i (h.useSet (h.used.plus A 1))) := by
  have hi : i < L.length := (List.getElem?_eq_some_iff.1 hx).1
  obtain ⟨o1, o2, o3⟩ := hosts_each hE hx
  have hch : chE (takeF A) L (i : Int) = (takeF A h).2 := by
    unfold chE; rw [if_neg (by simp [hE]), if_neg (by omega), Int.toNat_natCast, hx]
  obtain ⟨s1, s2⟩ := left_sub o1 o2 o3
  have h4 := left_ok o1 o2 o3
  have hF : takeF A h = if h.left.subE A ≠ 0 then (.zero, h.left.subE A) else (h.used.add A, h.used.addE A) := by
    unfold takeF; rw [s1]
  by_cases hA : amtE A = 0
  · have hok := amtE_ok hA
    have hb : bothB h.left.cpu h.left.mem h.left.gpu A.cpu A.mem A.gpu = true := by
      unfold bothB; rw [show needB h.left.cpu h.left.mem h.left.gpu = true from h4, show needB A.cpu A.mem A.gpu = true from hok]; rfl
    cases hl : A.le h.left with
    | true =>
      have e1 : h.left.subE A = 0 := by
        unfold Amt.subE Go.Proofs.Ytnfmopmcckgfdaa.subE
        rw [if_pos hb, if_pos (show fitsB A.cpu A.mem A.gpu h.left.cpu h.left.mem h.left.gpu = true from hl)]
      have hb2 : bothB h.used.cpu h.used.mem h.used.gpu A.cpu A.mem A.gpu = true := by
        unfold bothB; rw [show needB h.used.cpu h.used.mem h.used.gpu = true from o2, show needB A.cpu A.mem A.gpu = true from hok]; rfl
      have hs : needB (h.used.cpu + A.cpu) (h.used.mem + A.mem) (h.used.gpu + A.gpu) = true := by
        obtain ⟨a1, a2, a3⟩ := needB_yes o1
        obtain ⟨b1, b2, b3⟩ := needB_yes o2
        obtain ⟨c1, c2, c3⟩ := needB_yes hok
        obtain ⟨d1, d2, d3⟩ := fitsB_yes hl
        unfold Hst.left at d1 d2 d3
        simp only at d1 d2 d3
        unfold needB
        simp only [decide_eq_true_eq]
        omega
      have hadd : addB h.used.cpu h.used.mem h.used.gpu A.cpu A.mem A.gpu = true := by
        unfold addB; rw [hb2, hs]; rfl
      have e2 : takeF A h = (h.used.plus A 1, 0) := by
        rw [hF, if_neg (by simp [e1])]
        unfold Amt.add Amt.addE Go.Proofs.Ytnfmopmcckgfdaa.addE Amt.plus
        rw [pk_true hadd, pk_true hadd, pk_true hadd, if_pos hb2, if_pos hs]
        simp
      have e3 : takeE A h = 0 := by unfold takeE; rw [if_neg (by simp [hA]), hl]; rfl
      refine ⟨by rw [hch, e2, e3], fun _ => ⟨hok, ?_⟩⟩
      unfold chL
      rw [if_neg (by rw [hch, e2]; simp), Int.toNat_natCast, hx]
      show L.set i (h.useSet (takeF A h).1) = _
      rw [e2]
    | false =>
      have e1 : h.left.subE A = 10 := by
        unfold Amt.subE Go.Proofs.Ytnfmopmcckgfdaa.subE
        rw [if_pos hb, if_neg (by rw [show fitsB A.cpu A.mem A.gpu h.left.cpu h.left.mem h.left.gpu = false from hl]; simp)]
      have e3 : takeE A h = 10 := by unfold takeE; rw [if_neg (by simp [hA]), hl]; rfl
      exact ⟨by rw [hch, hF, if_pos (by rw [e1]; decide), e1, e3], fun h => by rw [e3] at h; cases h⟩
  · obtain ⟨hno, h44⟩ := amtE_no hA
    have e1 : h.left.subE A = 4 := by
      unfold Amt.subE Go.Proofs.Ytnfmopmcckgfdaa.subE
      rw [if_neg (by unfold bothB; rw [show needB A.cpu A.mem A.gpu = false from hno]; simp)]
    have e3 : takeE A h = 4 := by unfold takeE; rw [if_pos hA, h44]
    exact ⟨by rw [hch, hF, if_pos (by rw [e1]; decide), e1, e3], fun h => by rw [e3] at h; cases h⟩
theorem give_tells {L : List Hst} {i : Nat} {h : Hst} (A : Amt) (hE : hostsE L = 0) (hx : L[i]? = some h) : chE (giveF A) L (i : Int) = giveE A h ∧ (giveE A h = 0 → A.ok = true ∧ chL (giveF A) L (i : Int) = L.set i (h.useSet (h.used.plus A (-1)))) := by
  have hi : i < L.length := (List.getElem?_eq_some_iff.1 hx).1
  obtain ⟨o1, o2, o3⟩ := hosts_each hE hx
  have hch : chE (giveF A) L (i : Int) = (giveF A h).2 := by
    unfold chE; rw [if_neg (by simp [hE]), if_neg (by omega), Int.toNat_natCast, hx]
  have hF : giveF A h = (h.used.sub A, h.used.subE A) := rfl
  by_cases hA : amtE A = 0
  · have hok := amtE_ok hA
    have hb : bothB h.used.cpu h.used.mem h.used.gpu A.cpu A.mem A.gpu = true := by
      unfold bothB; rw [show needB h.used.cpu h.used.mem h.used.gpu = true from o2, show needB A.cpu A.mem A.gpu = true from hok]; rfl
    cases hl : A.le h.used with
    | true =>
      have hsub : subB h.used.cpu h.used.mem h.used.gpu A.cpu A.mem A.gpu = true := by
        unfold subB; rw [hb, show fitsB A.cpu A.mem A.gpu h.used.cpu h.used.mem h.used.gpu = true from hl]; rfl
      have e2 : giveF A h = (h.used.plus A (-1), 0) := by
        rw [hF]
        unfold Amt.sub Amt.subE Go.Proofs.Ytnfmopmcckgfdaa.subE Amt.plus
        rw [pk_true hsub, pk_true hsub, pk_true hsub, if_pos hb, if_pos (show fitsB A.cpu A.mem A.gpu h.used.cpu h.used.mem h.used.gpu = true from hl)]
        rw [show h.used.cpu + -1 * A.cpu = h.used.cpu - A.cpu from by omega, show h.used.mem + -1 * A.mem = h.used.mem - A.mem from by omega, show h.used.gpu + -1 * A.gpu = h.used.gpu - A.gpu from by omega]
      have e3 : giveE A h = 0 := by unfold giveE; rw [if_neg (by simp [hA]), hl]; rfl
      refine ⟨by rw [hch, e2, e3], fun _ => ⟨hok, ?_⟩⟩
      unfold chL
      rw [if_neg (by rw [hch, e2]; simp), Int.toNat_natCast, hx]
      show L.set i (h.useSet (giveF A h).1) = _
      rw [e2]
    | false =>
      have e1 : h.used.subE A = 10 := by
        unfold Amt.subE Go.Proofs.Ytnfmopmcckgfdaa.subE
        rw [if_pos hb, if_neg (by rw [show fitsB A.cpu A.mem A.gpu h.used.cpu h.used.mem h.used.gpu = false from hl]; simp)]
      have e3 : giveE A h = 10 := by unfold giveE; rw [if_neg (by simp [hA]), hl]; rfl
      exact ⟨by rw [hch, hF, e1, e3], fun h => by rw [e3] at h; cases h⟩
  · obtain ⟨hno, h44⟩ := amtE_no hA
    have e1 : h.used.subE A = 4 := by
      unfold Amt.subE Go.Proofs.Ytnfmopmcckgfdaa.subE
      rw [if_neg (by unfold bothB; rw [show needB A.cpu A.mem A.gpu = false from hno]; simp)]
    have e3 : giveE A h = 4 := by unfold giveE; rw [if_pos hA, h44]
    exact ⟨by rw [hch, hF, e1, e3], fun h => by rw [e3] at h; cases h⟩
theorem ch_out {F : Hst → Amt × Int} {L : List Hst} {i : Int} (hE : hostsE L = 0) (hi : i < 0 ∨ (L.length : Int) ≤ i) : chE F L i = 5 := by
  unfold chE; rw [if_neg (by simp [hE]), if_pos hi]
theorem ch_bad {F : Hst → Amt × Int} {L : List Hst} {i : Int} {E : Int} (hE : hostsE L = E) (h : E ≠ 0) : chE F L i = E ∧ chL F L i = [] := by
  have e : chE F L i = E := by unfold chE; rw [if_pos (by rw [hE]; exact h), hE]
  exact ⟨e, chL_bad (by rw [e]; exact h)⟩
theorem set_labels {L : List Hst} {i : Nat} {h : Hst} {u : Amt} (hx : L[i]? = some h) (h8 : ∀ (j : Nat) (x : Hst), L[j]? = some x → x.labels.length ≤ 8) : ∀ (j : Nat) (x : Hst), (L.set i (h.useSet u))[j]? = some x → x.labels.length ≤ 8 := fun j x hj => by
  have hi : i < L.length := (List.getElem?_eq_some_iff.1 hx).1
  by_cases e : i = j
  · subst e
    rw [List.getElem?_set_self hi] at hj
    cases hj
    exact h8 i h hx
  · rw [List.getElem?_set_ne e] at hj
    exact h8 j x hj
end Go.Proofs.Ytnfmopmcckgfdaa
