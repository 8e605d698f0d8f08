/- Contract: container/heap.Remove on the program's heap. -/
import Derived.Test.YtfjoakhcgpckgaaHeapFix
namespace Go.Proofs.Ytfjoakhcgpckgaa
open Go.ChangeShapes Go.WideShapes Go.ChangeAt Go.RowKit
set_option linter.unusedVariables false
open Hp
def RemEnd (ts : List Th) (a : Th) (us : List Th) : Prop := (us ++ [a]).Perm ts ∧ Heap us us.length
theorem heap_front {us vs : List Th} {a : Th} {n : Nat} (h : Heap us n) (e : us = vs ++ [a]) (hl : vs.length = n) : Heap vs vs.length := fun i x y p1 p2 p3 p4 => by
  have := par_lt p1
  refine h i x y p1 (by omega) ?_ ?_
  · rw [e, List.getElem?_append_left p2]; exact p3
  · rw [e, List.getElem?_append_left (by omega)]; exact p4
set_option maxRecDepth 20000 in
set_option maxHeartbeats 1600000 in
theorem hRem_last (F : Nat → Prop) (gq gm : Nat) (born : Int) (v : Value) (ts : List Th) (n : Nat) (a : Th) (w : World) (h : HW F gq gm born v ts w) (hh : Heap ts ts.length) (hl : ts.length = n + 1) (ha : ts[n]? = some a) (h4 : ts.length ≤ 900) :
    Calls Try.prog 111 #[hp gq, .int .i64 n] w fun e w' => e = .returned (.iface 177 (ptr1 a)) ∧ ∃ v' us j, RemEnd ts a us ∧ HW F gq gm born v' us w' ∧ w'.rowIs a.blk 179 4 (thF a j) ∧ Kept F w w' := by
  obtain ⟨vs, hvs⟩ : ∃ vs, ts = vs ++ [a] := ⟨ts.take n, last_of hl ha⟩
  have hvl : vs.length = n := by rw [hvs, List.length_append] at hl; simpa using hl
  have HVS := Lib.hid hvs
  have HVL := Lib.hid hvl
  have HHP := Lib.hid hh
  have HL := Lib.hid hl
  obtain ⟨g2, cap2, e2, -, -⟩ := h.slice (by omega)
  have HSV : Hid (∃ a cap, v = .slice a (n + 1) cap) := Lib.hid ⟨_, cap2, by rw [e2, hl]⟩
  have HH : Hid (HW F gq gm born v (vs ++ [a]) w) := Lib.hid (hvs ▸ h)
  have H4 : Hid (vs.length ≤ 1000 ∧ n ≤ 900) := Lib.hid (by omega)
  have w0 : IntKind.i64.wrap (n : Int) = (n : Int) := IntWalk.i64_in _ (by omega)
  have w1 : ((n + 1 : Nat) : Int) - 1 = (n : Int) := by omega
  have n1 := nPop ⟨gq, 0, none⟩
  have n2 := nLen ⟨gq, 0, none⟩
  have m1 := mPop ⟨gq, 0, none⟩
  have m2 := mLen h.cell
  clear h hh ha hvs hvl hl h4 e2
  unfold hp
  go_enter Try.func111, Try.ntmps111
  go_wp2_with (first
    | (go_at_call 270; refine Calls.mono (Len_any v (n + 1) _ HSV.out) ?_; rintro e w3 ⟨rfl, hw3⟩; subst hw3)
    | (go_at_call 274; refine Calls.mono (RPop_any F gq gm born v vs a _ HH.out H4.out.1) ?_; rintro e w6 ⟨rfl, v', hH6, hR6, hK6⟩))
  go_ret
  exact ⟨rfl, v', vs, _, ⟨by rw [HVS.out], heap_front (n := n) (fun i x y p1 p2 p3 p4 => HHP.out i x y p1 (by have := HL.out; omega) p3 p4) HVS.out HVL.out⟩, hH6, hR6, hK6⟩
set_option maxRecDepth 20000 in
set_option maxHeartbeats 1600000 in
theorem hRem_mid (F : Nat → Prop) (gq gm : Nat) (born : Int) (v : Value) (ts : List Th) (n i : Nat) (a : Th) (w : World) (h : HW F gq gm born v ts w) (hh : Heap ts ts.length) (hl : ts.length = n + 1) (hi : i < n) (ha : ts[i]? = some a) (h4 : ts.length ≤ 900) :
    Calls Try.prog 111 #[hp gq, .int .i64 i] w fun e w' => e = .returned (.iface 177 (ptr1 a)) ∧ ∃ v' us j, RemEnd ts a us ∧ HW F gq gm born v' us w' ∧ w'.rowIs a.blk 179 4 (thF a j) ∧ Kept F w w' := by
  obtain ⟨b, hb⟩ : ∃ b, ts[n]? = some b := ⟨_, List.getElem?_eq_getElem (by omega)⟩
  have HH := Lib.hid h
  have HA := Lib.hid ha
  have HB := Lib.hid hb
  have HL := Lib.hid hl
  have HBU := Lib.hid (rem_but (by rw [← hl]; exact hh) hi ha hb)
  have HSW := Lib.hid (swp_perm ts i n)
  have HSL := Lib.hid (swp_length ts i n)
  have HSN : Hid ((swp ts i n)[n]? = some a) := Lib.hid (by rw [swp_at ha hb, if_pos rfl])
  obtain ⟨g2, cap2, e2, -, -⟩ := h.slice (by omega)
  have HSV : Hid (∃ a cap, v = .slice a (n + 1) cap) := Lib.hid ⟨_, cap2, by rw [e2, hl]⟩
  have H4 := Lib.hid (show ts.length ≤ 1000 ∧ n ≤ 1000 ∧ i ≤ 1000 ∧ i < n from by omega)
  have w0 : IntKind.i64.wrap (n : Int) = (n : Int) := IntWalk.i64_in _ (by omega)
  have w1 : ((n + 1 : Nat) : Int) - 1 = (n : Int) := by omega
  have hne : ((n : Int) == (i : Int)) = false := by simp; omega
  have n1 := nPop ⟨gq, 0, none⟩
  have n2 := nLen ⟨gq, 0, none⟩
  have n3 := nSwap ⟨gq, 0, none⟩
  have m1 := mPop ⟨gq, 0, none⟩
  have m2 := mLen h.cell
  have m3 := mSwap h.cell
  clear h hh ha hb hl h4 e2 hi
  unfold hp
  go_enter Try.func111, Try.ntmps111
  go_wp2_with (first
    | (go_at_call 270; refine Calls.mono (Len_any v (n + 1) _ HSV.out) ?_; rintro e w3 ⟨rfl, hw3⟩; subst hw3)
    | (go_at_call 272; refine Calls.mono (Swap_any F gq gm born v ts i n a b _ HH.out HA.out HB.out H4.out.1) ?_; rintro e w2 ⟨rfl, hH2, hK2⟩; have HH2 := Lib.hid hH2; have HK2 := Lib.hid hK2; clear hH2 hK2)
    | (go_at_call 182; refine Calls.mono (down_any F gq gm born v (swp ts i n) n i _ HH2.out (by rw [HSL.out, HL.out]; omega) H4.out.2.2.1 HBU.out (by rw [HSL.out]; exact H4.out.1)) ?_; rintro e w4 ⟨us, r, rfl, hE, hS, hH4, hK4⟩; have HE := Lib.hid hE; have HS := Lib.hid hS; have HH4 := Lib.hid hH4; have HK4 := Lib.hid hK4; clear hE hS hH4 hK4; cases r; rotate_left; (obtain ⟨vs, hvs⟩ : ∃ vs, us = vs ++ [a] := ⟨us.take n, last_of (by rw [HS.out.1.length_eq, HSL.out, HL.out]) (by rw [HS.out.2 n (Nat.le_refl _)]; exact HSN.out)⟩; have HVS := Lib.hid hvs; have HHP := Lib.hid (heap_of_end HE.out); have HH5 : Hid (HW F gq gm born v (vs ++ [a]) w4) := Lib.hid (hvs ▸ HH4.out); have HVN : Hid (vs.length = n) := Lib.hid (by have h1 := HS.out.1.length_eq; rw [hvs, HSL.out, HL.out, List.length_append] at h1; simpa using h1); have HK5 := Lib.hid (HK2.out.trans HK4.out (fun x hx => .inl hx)); have HPE := Lib.hid (HS.out.1.trans HSW.out); clear hvs); rotate_left)
    | (go_at_call 181; refine Calls.mono (up_any F gq gm born v us n i _ HH4.out (by rw [(HE.out.2 rfl).1, HSL.out, HL.out]; omega) H4.out.2.2.2 (by rw [(HE.out.2 rfl).1]; exact HBU.out.up (HE.out.2 rfl).2) (by rw [(HE.out.2 rfl).1, HSL.out]; exact H4.out.1)) ?_; rintro e w5 ⟨rfl, us2, hHeap2, hS2, hH5, hK5⟩; obtain ⟨vs, hvs⟩ : ∃ vs, us2 = vs ++ [a] := ⟨us2.take n, last_of (by rw [hS2.1.length_eq, HS.out.1.length_eq, HSL.out, HL.out]) (by rw [hS2.2 n (Nat.le_refl _), HS.out.2 n (Nat.le_refl _)]; exact HSN.out)⟩; have HVS := Lib.hid hvs; have HHP := Lib.hid hHeap2; have HH5 : Hid (HW F gq gm born v (vs ++ [a]) w5) := Lib.hid (hvs ▸ hH5); have HVN : Hid (vs.length = n) := Lib.hid (by have h1 := hS2.1.length_eq; rw [hvs, HS.out.1.length_eq, HSL.out, HL.out, List.length_append] at h1; simpa using h1); have HK5 := Lib.hid ((HK2.out.trans HK4.out (fun x hx => .inl hx)).trans hK5 (fun x hx => .inl hx)); have HPE := Lib.hid (hS2.1.trans (HS.out.1.trans HSW.out)); clear hvs hHeap2 hH5 hK5 hS2)
    | (go_at_call 274; refine Calls.mono (RPop_any F gq gm born v vs a _ HH5.out (by rw [HVN.out]; exact H4.out.2.1)) ?_; rintro e w6 ⟨rfl, v', hH6, hR6, hK6⟩))
  all_goals go_ret
  all_goals exact ⟨rfl, v', vs, _, ⟨by rw [← HVS.out]; exact HPE.out, heap_front HHP.out HVS.out HVN.out⟩, hH6, hR6, HK5.out.trans hK6 (fun x hx => .inl hx)⟩
end Go.Proofs.Ytfjoakhcgpckgaa
