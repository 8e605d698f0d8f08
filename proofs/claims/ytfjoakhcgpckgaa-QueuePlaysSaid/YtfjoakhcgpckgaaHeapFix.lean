/- Contracts: container/heap.Fix and container/heap.Remove on the program's heap. -/
import Derived.Test.YtfjoakhcgpckgaaHeapPop
namespace Go.Proofs.Ytfjoakhcgpckgaa
open Go.ChangeShapes Go.WideShapes Go.ChangeAt Go.RowKit
set_option linter.unusedVariables false
open Hp
theorem heap_of_end {ts us : List Th} {n i : Nat} (h : DnEnd ts us n i true) : Heap us n := h.1 rfl
theorem rem_but {ts : List Th} {n i : Nat} {a b : Th} (h : Heap ts (n + 1)) (hi : i < n) (ha : ts[i]? = some a) (hb : ts[n]? = some b) : ButH (swp ts i n) n i := by
  refine ⟨fun k x y h0 hk hne hp hx hy => ?_, fun k x y h0 hk hp hi0 hx hy => ?_⟩
  · have := par_lt h0
    rw [swp_at ha hb, if_neg (by omega), if_neg (by omega)] at hx hy
    exact h k x y h0 (by omega) hx hy
  · have h1 := par_lt h0
    have h2 := par_lt hi0
    rw [swp_at ha hb, if_neg (by omega), if_neg (by omega)] at hx hy
    have h3 := h k x a h0 (by omega) hx (by rw [hp]; exact ha)
    have h4 := h i a y hi0 (by omega) ha hy
    exact le_trans h4 h3
set_option maxRecDepth 20000 in
set_option maxHeartbeats 1600000 in
theorem hFix_any (F : Nat → Prop) (gq gm : Nat) (born : Int) (v : Value) (ts : List Th) (i : Nat) (w : World) (h : HW F gq gm born v ts w) (hU : ButH ts ts.length i) (hi : i < ts.length) (h4 : ts.length ≤ 900) :
    Calls Try.prog 112 #[hp gq, .int .i64 i] w fun e w' => e = .returned (.tuple #[]) ∧ ∃ us, us.Perm ts ∧ Heap us us.length ∧ HW F gq gm born v us w' ∧ Kept F w w' := by
  have HH := Lib.hid h
  have HU := Lib.hid hU
  obtain ⟨n, hnn⟩ : ∃ n, ts.length = n := ⟨_, rfl⟩
  have HL := Lib.hid hnn
  obtain ⟨g2, cap2, e2, -, -⟩ := h.slice (by omega)
  have HSV : Hid (∃ a cap, v = .slice a n cap) := Lib.hid ⟨_, cap2, by rw [e2, hnn]⟩
  have H4 := Lib.hid (show n ≤ ts.length ∧ i ≤ 1000 ∧ ts.length ≤ 1000 ∧ i < n from by omega)
  have HU2 : Hid (ButH ts n i) := Lib.hid (by rw [← hnn]; exact hU)
  have n2 := nLen ⟨gq, 0, none⟩
  have m2 := mLen h.cell
  clear h hU hi h4 hnn e2
  unfold hp
  go_enter Try.func112, Try.ntmps112
  go_wp2_with (first
    | (go_at_call 270; refine Calls.mono (Len_any v n _ HSV.out) ?_; rintro e w3 ⟨rfl, hw3⟩; subst hw3)
    | (go_at_call 182; refine Calls.mono (down_any F gq gm born v ts n i _ HH.out H4.out.1 H4.out.2.1 HU2.out H4.out.2.2.1) ?_; rintro e w4 ⟨us, r, rfl, hE, hS, hH4, hK4⟩; have HE := Lib.hid hE; have HS := Lib.hid hS; have HH4 := Lib.hid hH4; have HK4 := Lib.hid hK4; clear hE hS hH4 hK4; cases r)
    | (go_at_call 181; refine Calls.mono (up_any F gq gm born v us n i _ HH4.out (by rw [(HE.out.2 rfl).1]; exact H4.out.1) H4.out.2.2.2 (by rw [(HE.out.2 rfl).1]; exact HU2.out.up (HE.out.2 rfl).2) (by rw [(HE.out.2 rfl).1]; exact H4.out.2.2.1)) ?_; rintro e w5 ⟨rfl, us2, hHeap2, hS2, hH5, hK5⟩))
  · go_end0
    have e1 := hS2.1.length_eq
    have e2 := HS.out.1.length_eq
    exact ⟨rfl, us2, hS2.1.trans HS.out.1, by rw [e1, e2, HL.out]; exact hHeap2, hH5, HK4.out.trans hK5 (fun x hx => .inl hx)⟩
  · go_end0
    have e2 := HS.out.1.length_eq
    exact ⟨rfl, us, HS.out.1, by rw [e2, HL.out]; exact heap_of_end HE.out, HH4.out, HK4.out⟩
end Go.Proofs.Ytfjoakhcgpckgaa
