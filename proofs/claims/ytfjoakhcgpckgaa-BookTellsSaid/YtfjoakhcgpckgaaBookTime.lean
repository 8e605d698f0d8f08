/- Contracts: the first time at which there is room; the document's. -/
import Derived.Test.YtfjoakhcgpckgaaBookFind
namespace Go.Proofs.Ytfjoakhcgpckgaa
open Go.ChangeShapes Go.WideShapes Go.ChangeAt Go.RowKit
set_option linter.unusedVariables false
open Bk
structure TryS (B : Nat) (L : List Sl) (after : Int) (j : Nat) (x : Value) (w wr : World) : Prop where
  own : wr.ownsRow B 3 1 x (1 + j) (intsB (tries after (L.take j)))
  below : Below B w wr
theorem built1 (w : World) (u : Value) (e : TypeId) : (w.alloc (.cells #[u] e)).ownsRow w.heap.size e 1 (.slice (some ⟨w.heap.size, 0, none⟩) 1 1) 1 [u] :=
  ⟨rfl, .inr ⟨w.heap.size, 1, #[u], rfl, Nat.le_refl _, heap_alloc_new w _, Nat.le_refl _, by decide, rfl, rfl⟩⟩
theorem intsB_push (l : List Int) (x : Int) : intsB (l ++ [x]) = intsB l ++ [.int .i64 x] := by simp [intsB]
theorem tries_length (after : Int) (L : List Sl) : (tries after L).length = 1 + L.length := by simp [tries]; omega
theorem tries_range {after : Int} {L : List Sl} (hS : Sane L) (h0 : 0 ≤ after) (h1 : after ≤ 1000000) {i : Nat} {t : Int} (h : (tries after L)[i]? = some t) : 0 ≤ t ∧ t ≤ 1000000 := by
  have hm := List.mem_of_getElem? h
  unfold tries at hm
  rcases List.mem_cons.1 hm with e | hm
  · omega
  · obtain ⟨s, hs, rfl⟩ := List.mem_map.1 hm
    have := hS s hs
    omega
set_option maxRecDepth 20000 in
set_option maxHeartbeats 4000000 in
theorem rTime_any (size nd long after : Int) (L : List Sl) (a : Option Addr) (n cap : Nat) (w : World) (hn : n = L.length) (hl : n ≤ 100) (hS : Sane L) (hL : Slots w a L) (g1 : 1 ≤ size) (g2 : size ≤ 1099511627776) (p1 : 1 ≤ nd) (p2 : nd ≤ size) (p3 : 1 ≤ long) (p4 : long ≤ 1000000) (p5 : 0 ≤ after) (p6 : after ≤ 1000000) :
    Calls Try.prog 90 #[.int .i64 size, .slice a n cap, .int .i64 nd, .int .i64 long, .int .i64 after] w fun e w' => ∃ best, e = .returned (.tuple #[.int .i64 best, .bool (decide (best < 2000000))]) ∧ IsTime size nd L long after best ∧ Below w.heap.size w w' := by
  have HN := Lib.hid hn
  have HS := Lib.hid hS
  have HL := Lib.hid hL
  obtain ⟨B, hB⟩ : ∃ B, B = w.heap.size := ⟨_, rfl⟩
  have HB0 := Lib.hid hB
  clear hn hS hL
  go_enter Try.func90, Try.ntmps90
  go_upto_region 3 with fail
  obtain ⟨W1, hW1⟩ : ∃ W, W = w.alloc (.cells #[.int .i64 after] 3) := ⟨_, rfl⟩
  have HR0 : Hid (TryS B L after 0 (.slice (some ⟨B, 0, none⟩) 1 1) w W1) := Lib.hid (by
    rw [hW1, hB]
    exact ⟨built1 w _ _, (Below.refl _ _).alloc (Nat.le_refl _) _⟩)
  rw [← hW1, ← hB]
  clear hW1 hB
  go_wp2_with fail
  go_loopg [13, 22] n (fun gk x y wr => ∃ j : Nat, j + gk = n ∧ y = .int .i64 (j : Int) ∧ Hid (TryS B L after j x w wr))
  case atStart => exact ⟨0, by omega, rfl, HR0⟩
  case round =>
    clear HR0
    obtain ⟨j, hj, rfl, HR⟩ := hrel
    have hszr : B ≤ wr.heap.size := by have := HR.out.below.size; have := HB0.out; omega
    by_cases hjn : j < n
    · obtain ⟨s, hs⟩ : ∃ s, L[j]? = some s := ⟨_, List.getElem?_eq_getElem (by have := HN.out; omega)⟩
      obtain ⟨b, off, rfl, hb, hat⟩ := HL.out (by have := HN.out; omega)
      obtain ⟨q0, q1, q2⟩ := (hat.below HR.out.below (by have := HB0.out; omega)) j s hs
      have hbr : b < wr.heap.size := by have := HB0.out; omega
      have HX := Lib.hid hs
      have hj1 : (0 : Int) ≤ (j : Int) := by omega
      have hj2 : (j : Int) < (n : Int) := by omega
      clear hat hs
      go_upto_region 6 with fail
      obtain ⟨W2, hW2⟩ : ∃ W, W = wr.alloc (.cells #[.int .i64 s.fr, .int .i64 s.to, .int .i64 s.n] 130) := ⟨_, rfl⟩
      rw [← hW2]
      obtain ⟨c, hc⟩ : ∃ c, c = wr.heap.size := ⟨_, rfl⟩
      have d0 : W2.cell? ⟨c, 0, none⟩ = some (.int .i64 s.fr) := by rw [hW2, hc]; simp
      have d1 : W2.cell? ⟨c, 1, none⟩ = some (.int .i64 s.to) := by rw [hW2, hc]; simp
      have l0 : c < W2.heap.size := by rw [hW2, hc]; simp
      have HB2 : Hid (Below B w W2) := Lib.hid (by rw [hW2]; exact HR.out.below.alloc hszr _)
      have HO2 : Hid (W2.ownsRow B 3 1 u13 (1 + j) (intsB (tries after (L.take j)))) := Lib.hid (by rw [hW2]; exact HR.out.own.alloc _)
      have hsz2 : B ≤ W2.heap.size := by omega
      rw [← hc]
      clear hW2 hc q0 q1 q2
      go_wp2_with (at_builtin; go_loud (refine wpList_push W2 (by rfl) _ _ 58 (by rfl) B 3 (.int .i64 0) 8 Try.underlying58 infoIntB (by rfl) u13 (1 + j) (intsB (tries after (L.take j))) (.int .i64 s.to) _ rfl (by rfl) HO2.out (by rfl) (by rfl) (by unfold maxLen; omega) (by omega) hsz2 ?_; intro gg cap3 w3 hown hgrow hgb hgl; have HW3 : Hid (TryS B L after (j + 1) (.slice (some ⟨gg, 0, none⟩) (1 + j + 1) cap3) w w3) := Lib.hid (⟨(by rw [tries_take HX.out, intsB_push]; exact hown), HB2.out.grown hgrow hsz2 (ownBlock_ge HO2.out (Nat.le_refl _))⟩); clear hown hgrow hgb))
      go_roundg (n - (j + 1))
      case measure => omega
      case rel => exact ⟨j + 1, by omega, by simp, HW3⟩
    · obtain rfl : j = n := by omega
      obtain ⟨g, cp, hf, hg1⟩ := HR.out.own.form (by omega)
      subst hf
      have HRW : Hid (tries after (L.take j) = tries after L) := Lib.hid (by rw [HN.out, List.take_length])
      have HO1 : Hid (wr.ownsRow B 3 1 (.slice (some ⟨g, 0, none⟩) (1 + j) cp) (1 + j) (intsB (tries after L))) := Lib.hid (by rw [← HRW.out]; exact HR.out.own)
      have HBR := Lib.hid HR.out.below
      have HGL := Lib.hid (HO1.out.lt g rfl).2
      have HT0 := Lib.hid (BestS.zero size nd L long after (tries after L))
      obtain ⟨m, hm⟩ : ∃ m, m = 1 + j := ⟨_, rfl⟩
      rw [← hm] at HO1
      rw [← hm]
      have HM : Hid (m = (tries after L).length) := Lib.hid (by rw [tries_length, hm, HN.out])
      have hm9 : m ≤ 101 := by omega
      clear HR hg1 hm
      obtain ⟨W0, hW0⟩ : ∃ W, W = wr := ⟨_, rfl⟩
      rw [← hW0] at HO1 HBR HGL ⊢
      clear hW0
      go_wp2_with fail
      go_loopg [12, 34] m (fun gk x y wx => ∃ (i : Nat) (best : Int), i + gk = m ∧ y = .int .i64 (i : Int) ∧ x = .int .i64 best ∧ Hid (BestS size nd L long after (tries after L) i best) ∧ Hid (Below W0.heap.size W0 wx))
      case atStart => exact ⟨0, 2000000, by omega, rfl, rfl, HT0, Lib.hid (Below.refl _ _)⟩
      case round =>
        clear HT0
        obtain ⟨i, best, hi, rfl, rfl, HS1, HB2⟩ := hrel
        by_cases him : i < m
        · obtain ⟨t, ht⟩ : ∃ t, (tries after L)[i]? = some t := ⟨_, List.getElem?_eq_getElem (by have := HM.out; omega)⟩
          have q0 : wr.cell? ⟨g, i, none⟩ = some (.int .i64 t) := (HB2.out.cell (p := ⟨g, i, none⟩) HGL.out).trans ((HO1.out.cellAt i (by omega)).trans (by rw [intsB, List.getElem?_map, ht]; rfl))
          have lg : g < wr.heap.size := Nat.lt_of_lt_of_le HGL.out HB2.out.size
          have hj1 : (0 : Int) ≤ (i : Int) := by omega
          have hj2 : (i : Int) < (m : Int) := by omega
          have htr := tries_range HS.out p5 p6 ht
          have HX := Lib.hid ht
          have hw : IntKind.i64.wrap (t + long) = t + long := IntWalk.i64_in _ (by omega)
          clear ht
          by_cases c1 : after ≤ t
          · by_cases c2 : t + long ≤ 1000000
            · by_cases c3 : t < best
              · have HC := Lib.hid (rMost_any L t (t + long) a j cap wr HN.out (by omega) HS.out (HL.out.below ((HBR.out.trans (HB2.out.mono (by have := HBR.out.size; have := HB0.out; omega)))) (by have := HB0.out; omega)) (by omega))
                go_wp2_with (go_at_call 87; refine Calls.mono HC.out ?_; rintro e w3 ⟨mm, rfl, h1, h2⟩; have HMM := Lib.hid h1; have HB3 := Lib.hid (HB2.out.trans (h2.mono HB2.out.size)); clear h1 h2; have hmb : 0 ≤ mm ∧ mm ≤ 111050674405376 := (by obtain ⟨uu, _, _, hu⟩ := HMM.out.is; rw [← hu]; exact bk_small' HS.out (by have := HN.out; omega) uu); have hw2 : IntKind.i64.wrap (mm + nd) = mm + nd := IntWalk.i64_in _ (by omega); by_cases c4 : mm + nd ≤ size)
                · have HQ := Lib.hid (HS1.out.take HX.out ⟨c1, c2, fun u h1 h2 => by have := HMM.out.all u h1 h2; omega⟩ c3)
                  go_roundg (m - (i + 1))
                  case measure => omega
                  case rel => exact ⟨i + 1, t, by omega, by simp, rfl, HQ, HB3⟩
                · have HQ := Lib.hid (HS1.out.skip HX.out (fun h => by
                    obtain ⟨u, u1, u2, u3⟩ := HMM.out.is
                    have := h.room u u1 u2
                    omega))
                  go_roundg (m - (i + 1))
                  case measure => omega
                  case rel => exact ⟨i + 1, best, by omega, by simp, rfl, HQ, HB3⟩
              · have HQ := Lib.hid (HS1.out.skip HX.out (fun _ => by omega))
                go_wp2_with fail
                go_roundg (m - (i + 1))
                case measure => omega
                case rel => exact ⟨i + 1, best, by omega, by simp, rfl, HQ, HB2⟩
            · have HQ := Lib.hid (HS1.out.skip HX.out (fun h => absurd h.fin c2))
              go_wp2_with fail
              go_roundg (m - (i + 1))
              case measure => omega
              case rel => exact ⟨i + 1, best, by omega, by simp, rfl, HQ, HB2⟩
          · have HQ := Lib.hid (HS1.out.skip HX.out (fun h => absurd h.late c1))
            go_wp2_with fail
            go_roundg (m - (i + 1))
            case measure => omega
            case rel => exact ⟨i + 1, best, by omega, by simp, rfl, HQ, HB2⟩
        · obtain rfl : i = m := by omega
          have HF : Hid (IsTime size nd L long after best) := Lib.hid ((HM.out ▸ HS1.out).done)
          go_wp2_with fail
          go_ret2
          exact ⟨best, rfl, HF.out, by rw [← HB0.out]; exact HBR.out.trans (HB2.out.mono (by have := HBR.out.size; have := HB0.out; omega))⟩
end Go.Proofs.Ytfjoakhcgpckgaa
