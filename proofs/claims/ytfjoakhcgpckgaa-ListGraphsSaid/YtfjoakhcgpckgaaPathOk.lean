/- Contracts: the closures of Way: tight, the start, the step; the program's. -/
import Derived.Test.YtfjoakhcgpckgaaPathCrit
import Derived.Laws.EntriesVeiled
namespace Go.Proofs.Ytfjoakhcgpckgaa
open Go.ChangeShapes Go.WideShapes Go.ChangeAt Go.RowKit
open Gr (El Tm)
set_option linter.unusedVariables false
set_option maxRecDepth 100000
/-- the plan that Way's closures capture -/
structure PlanIs (n ge gl gp : Nat) (E T : Tm) (S : Int) (w : World) : Prop where
  early : w.rowIs ge 2 n (i64s E)
  late : w.rowIs gl 2 n (i64s T)
  var : w.rowIs gp 55 3 (planF n ge gl S)
theorem PlanIs.below {n ge gl gp : Nat} {E T : Tm} {S : Int} {w w' : World} (h : PlanIs n ge gl gp E T S w) (hb : Below w.heap.size w w') : PlanIs n ge gl gp E T S w' :=
  ⟨rowIs_below h.early hb h.early.lt, rowIs_below h.late hb h.late.lt, rowIs_below h.var hb h.var.lt⟩
set_option maxHeartbeats 4000000 in
theorem tight_any (n ge gl gp : Nat) (E T : Tm) (S : Int) (i : Nat) (at' : Int) (w : World) (hi : i < n) (h : PlanIs n ge gl gp E T S w) :
    Calls Try.prog 115 #[.int .i64 i, .int .i64 at', .pointer (some ⟨gp, 0, none⟩)] w fun e w' => e = .returned (.bool (E i == at' && T i == at')) ∧ Below w.heap.size w w' := by
  have e1 := h.early.cell hi
  have e2 := h.late.cell hi
  unfold i64s at e1 e2
  have p0 : w.cell? ⟨gp, 0, none⟩ = some (.slice (some ⟨ge, 0, none⟩) n n) := h.var.cell (i := 0) (by omega)
  have p1 : w.cell? ⟨gp, 1, none⟩ = some (.slice (some ⟨gl, 0, none⟩) n n) := h.var.cell (i := 1) (by omega)
  have hgpl := h.var.lt
  have hgel := h.early.lt
  have hgll := h.late.lt
  have HI := Lib.hid hi
  clear h
  cases hE : (E i == at') with
  | true =>
    go_enter Try.func115, Try.ntmps115
    go_wp2_with fail
    exact bodyPost_ret (v := .bool (T i == at')) (by simp [results, Try.results115, go_sem]) rfl ⟨by simp, Below.refl _ _⟩
  | false =>
    go_enter Try.func115, Try.ntmps115
    go_wp2_with fail
    exact bodyPost_ret (v := .bool false) (by simp [results, Try.results115, go_sem]) rfl ⟨by simp, Below.refl _ _⟩
set_option maxHeartbeats 4000000 in
theorem ok3_any (n ge gl gp gt : Nat) (E T : Tm) (S : Int) (i : Nat) (w : World) (hi : i < n) (h : PlanIs n ge gl gp E T S w) (ht : w.cell? ⟨gt, 0, none⟩ = some (.func (.func 115) #[] #[.pointer (some ⟨gp, 0, none⟩)])) :
    Calls Try.prog 117 #[.int .i64 i, .pointer (some ⟨gt, 0, none⟩)] w fun e w' => e = .returned (.bool (E i == 0 && T i == 0)) ∧ Below w.heap.size w w' := by
  have HH := Lib.hid h
  have HI := Lib.hid hi
  clear h
  go_enter Try.func117, Try.ntmps117
  go_wp2_with (go_at_call 115; refine Calls.mono (tight_any n ge gl gp E T S i 0 _ HI.out HH.out) ?_; rintro e w1 ⟨rfl, hB1⟩)
  go_ret
  exact ⟨rfl, hB1⟩
def stepB (L : El) (E T : Tm) (c k : Nat) (at' : Int) : Bool := L.any fun x => x.1 == (c : Int) && x.2 == (k : Int) && (E k == at' && T k == at')
def stepQ (L : El) (E T : Tm) (c k : Nat) (at' : Int) (q : Nat) : Bool := stepB (L.take q) E T c k at'
theorem stepQ_go {L : El} {E T : Tm} {c k : Nat} {at' : Int} {q : Nat} {x y : Int} (h : L[q]? = some (x, y)) : stepQ L E T c k at' (q + 1) = (stepQ L E T c k at' q || (x == (c : Int) && y == (k : Int) && (E k == at' && T k == at'))) := by
  simp [stepQ, stepB, List.take_add_one, h, List.any_append]
theorem stepQ_end (L : El) (E T : Tm) (c k : Nat) (at' : Int) : stepQ L E T c k at' L.length = stepB L E T c k at' := by simp [stepQ]
theorem stepQ_yes {L : El} {E T : Tm} {c k : Nat} {at' : Int} {q : Nat} {x y : Int} (h : L[q]? = some (x, y)) (h2 : (x == (c : Int) && y == (k : Int) && (E k == at' && T k == at')) = true) : stepB L E T c k at' = true := by
  rw [stepB, List.any_eq_true]
  exact ⟨_, List.mem_of_getElem? h, h2⟩
set_option maxHeartbeats 4000000 in
theorem ok4_any (n ge gl gp gt ga gw gd : Nat) (E T : Tm) (S : Int) (L : El) (a : Option Addr) (l cap : Nat) (c k : Nat) (at' : Int) (w : World) (hk : k < n) (hn : l = L.length) (hmax : l ≤ 400) (hL : Edges w a L) (h : PlanIs n ge gl gp E T S w) (ha : w.cell? ⟨ga, 0, none⟩ = some (.slice a l cap)) (hw : w.cell? ⟨gw, 0, none⟩ = some (.int .i64 c)) (ht : w.cell? ⟨gt, 0, none⟩ = some (.func (.func 115) #[] #[.pointer (some ⟨gp, 0, none⟩)])) (hd : w.cell? ⟨gd, 0, none⟩ = some (.int .i64 at'))
    (la : ga < w.heap.size) (lw : gw < w.heap.size) (lt : gt < w.heap.size) (ld : gd < w.heap.size) :
    Calls Try.prog 118 #[.int .i64 k, .pointer (some ⟨ga, 0, none⟩), .pointer (some ⟨gw, 0, none⟩), .pointer (some ⟨gt, 0, none⟩), .pointer (some ⟨gd, 0, none⟩)] w fun e w' => e = .returned (.bool (stepB L E T c k at')) ∧ Below w.heap.size w w' := by
  have HH := Lib.hid h
  have HK := Lib.hid hk
  have HL := Lib.hid hL
  have HN := Lib.hid hn
  have HW := Lib.hid hw
  have HT := Lib.hid ht
  have HD := Lib.hid hd
  clear h hk hL hn hw ht hd
  go_enter Try.func118, Try.ntmps118
  go_wp2_with fail
  go_loopw [11] (fun x wr => ∃ q : Nat, q ≤ l ∧ x = .int .i64 q ∧ Hid (stepQ L E T c k at' q = false) ∧ Below w.heap.size w wr) (fun x _ => l - (intOf x).toNat)
  case atStart => exact ⟨0, by omega, rfl, Lib.hid (by simp [stepQ, stepB]), Below.refl _ _⟩
  case round =>
    obtain ⟨q, hq, rfl, HQ, hB⟩ := hrel
    have hsz := hB.size
    by_cases hql : q < l
    · obtain ⟨b, off, rfl, hb, hat⟩ := HL.out (by have := HN.out; omega)
      obtain ⟨⟨x, y⟩, hx⟩ : ∃ x, L[q]? = some x := ⟨_, List.getElem?_eq_getElem (by have := HN.out; omega)⟩
      obtain ⟨q0, q1⟩ := hat.below hB hb q x y hx
      have hbr : b < wr.heap.size := by omega
      have cw := (hB.cell (p := ⟨gw, 0, none⟩) lw).trans HW.out
      have ct := (hB.cell (p := ⟨gt, 0, none⟩) lt).trans HT.out
      have cd := (hB.cell (p := ⟨gd, 0, none⟩) ld).trans HD.out
      have lw2 : gw < wr.heap.size := by omega
      have lt2 : gt < wr.heap.size := by omega
      have ld2 : gd < wr.heap.size := by omega
      have HX := Lib.hid hx
      have HGO := Lib.hid (stepQ_go (E := E) (T := T) (c := c) (k := k) (at' := at') hx)
      have hB3 := hB.alloc hsz (.cells #[.int .i64 x, .int .i64 y] 66)
      clear hat hx
      cases hxc : (x == (c : Int)) with
      | false =>
        have HQ2 : Hid (stepQ L E T c k at' (q + 1) = false) := Lib.hid (by rw [HGO.out, HQ.out, hxc]; rfl)
        go_wp2_with fail
        go_roundw
        case rel => exact ⟨q + 1, by omega, rfl, HQ2, hB3⟩
        case measure => simp [intOf]; omega
      | true =>
        cases hyk : (y == (k : Int)) with
        | false =>
          have HQ2 : Hid (stepQ L E T c k at' (q + 1) = false) := Lib.hid (by rw [HGO.out, HQ.out, hxc, hyk]; rfl)
          go_wp2_with fail
          go_roundw
          case rel => exact ⟨q + 1, by omega, rfl, HQ2, hB3⟩
          case measure => simp [intOf]; omega
        | true =>
          cases htt : (E k == at' && T k == at') with
          | false =>
            have HQ2 : Hid (stepQ L E T c k at' (q + 1) = false) := Lib.hid (by rw [HGO.out, HQ.out, hxc, hyk, htt]; rfl)
            have HTT := Lib.hid htt
            clear htt
            go_wp2_with (go_at_call 115; refine Calls.mono (tight_any n ge gl gp E T S k at' _ HK.out (HH.out.below (hB3.mono (Nat.le_refl _)))) ?_; rintro e w3 ⟨rfl, hB4⟩; rw [HTT.out]; have hB5 := hB3.trans (hB4.mono hB3.size))
            go_roundw
            case rel => exact ⟨q + 1, by omega, rfl, HQ2, hB5⟩
            case measure => simp [intOf]; omega
          | true =>
            have HY := Lib.hid (stepQ_yes HX.out (by rw [hxc, hyk, htt]; rfl))
            have HTT := Lib.hid htt
            clear htt
            go_wp2_with (go_at_call 115; refine Calls.mono (tight_any n ge gl gp E T S k at' _ HK.out (HH.out.below (hB3.mono (Nat.le_refl _)))) ?_; rintro e w3 ⟨rfl, hB4⟩; rw [HTT.out]; have hB5 := hB3.trans (hB4.mono hB3.size))
            go_ret
            exact ⟨by rw [HY.out]; rfl, hB5⟩
    · have hqL : q = L.length := by have := HN.out; omega
      have HY := Lib.hid (show stepB L E T c k at' = false from by rw [← stepQ_end, ← hqL]; exact HQ.out)
      clear hqL
      go_wp2_with fail
      go_ret
      exact ⟨by rw [HY.out]; rfl, hB⟩
end Go.Proofs.Ytfjoakhcgpckgaa
