/- The program's table of jobs at work; contracts: a hand that is free; has a job ended; the next time. -/
import Derived.Test.YtfjoakhcgpckgaaListMath
import Derived.BigQuiet
namespace Go.Proofs.Ytfjoakhcgpckgaa
open Go.ChangeShapes Go.WideShapes Go.ChangeAt Go.RowKit
set_option linter.unusedVariables false
open Gr (El Tm)
open Ls
def turnsF (f g : Tm) (c : Nat) : Value := .int .i64 (if c % 2 = 0 then f (c / 2) else g (c / 2))
def handZ (h : Nat → Nat) : Tm := fun i => (h i : Int)
def tabF (n m gu gb gf : Nat) (a b : Option Addr) (l cap k cap2 : Nat) (i : Nat) : Value :=
  if i = 0 then .slice a l cap else if i = 1 then .slice b k cap2 else if i = 2 then .slice (some ⟨gu, 0, none⟩) n n else if i = 3 then .slice (some ⟨gb, 0, none⟩) n n else .slice (some ⟨gf, 0, none⟩) m m
/-- the table at a state -/
structure TW (m n gt gu gb gf : Nat) (a b : Option Addr) (l cap k cap2 : Nat) (s : St) (w wr : World) : Prop where
  var : wr.rowIs gt 163 5 (tabF n m gu gb gf a b l cap k cap2)
  turns : wr.rowIs gu 169 (2 * n) (turnsF s.at_ (handZ s.hand))
  begun : wr.rowIs gb 4 n (bools s.beg)
  free : wr.rowIs gf 2 m (i64s s.free)
  ne1 : gt ≠ gu
  ne2 : gt ≠ gb
  ne3 : gt ≠ gf
  ne4 : gu ≠ gb
  ne5 : gu ≠ gf
  ne6 : gb ≠ gf
  lt : w.heap.size ≤ gt
  lu : w.heap.size ≤ gu
  lb : w.heap.size ≤ gb
  lf : w.heap.size ≤ gf
  below : Below w.heap.size w wr
theorem TW.step {m n gt gu gb gf : Nat} {a b : Option Addr} {l cap k cap2 : Nat} {s : St} {w wr w' : World} (h : TW m n gt gu gb gf a b l cap k cap2 s w wr) (hb : Below wr.heap.size wr w') : TW m n gt gu gb gf a b l cap k cap2 s w w' :=
  ⟨rowIs_below h.var hb h.var.lt, rowIs_below h.turns hb h.turns.lt, rowIs_below h.begun hb h.begun.lt, rowIs_below h.free hb h.free.lt, h.ne1, h.ne2, h.ne3, h.ne4, h.ne5, h.ne6, h.lt, h.lu, h.lb, h.lf, h.below.trans (hb.mono h.below.size)⟩
set_option maxHeartbeats 4000000 in
theorem freeHand_any (x : Int) (s : St) (g : Nat) (w : World) (hg : w.cell? ⟨g, 0, none⟩ = some (.int .i64 s.now)) :
    Calls Try.prog 105 #[.int .i64 x, .pointer (some ⟨g, 0, none⟩)] w fun e w' => e = .returned (.bool (decide (x ≤ s.now))) ∧ Below w.heap.size w w' := by
  go_enter Try.func105, Try.ntmps105
  go_wp2_with fail
  go_ret
  exact ⟨rfl, Below.refl _ _⟩
/-- the first hand that is free -/
theorem handOf_any (m : Nat) (s : St) (gf g cap : Nat) (w : World) (hm : m ≤ 20) (hf : w.rowIs gf 2 m (i64s s.free)) (hg : w.cell? ⟨g, 0, none⟩ = some (.int .i64 s.now)) (lg : g < w.heap.size) :
    Calls Try.prog 104 #[.slice (some ⟨gf, 0, none⟩) m cap, .func (.func 105) #[] #[.pointer (some ⟨g, 0, none⟩)]] w fun e w' => e = .returned (.int .i64 (handI m s)) ∧ Below w.heap.size w w' := by
  have HF := Lib.hid hf
  have HG := Lib.hid hg
  clear hf hg
  go_enter Try.func104, Try.ntmps104
  go_wp2_with fail
  go_loopw [8] (fun x wr => ∃ i : Nat, i ≤ m ∧ x = .int .i64 i ∧ Hid (∀ j, j < i → freeP s j = false) ∧ Below w.heap.size w wr) (fun x _ => m - (intOf x).toNat)
  case atStart => exact ⟨0, by omega, rfl, Lib.hid (fun j hj => absurd hj (by omega)), Below.refl _ _⟩
  case round =>
    obtain ⟨i, hi, rfl, HP, hB⟩ := hrel
    have hsz := hB.size
    by_cases him : i < m
    · have e1 := (rowIs_below HF.out hB HF.out.lt).cell him
      have hfl := (rowIs_below HF.out hB HF.out.lt).lt
      unfold i64s at e1
      have HG2 := Lib.hid ((hB.cell (p := ⟨g, 0, none⟩) lg).trans HG.out)
      cases hp : freeP s i with
      | true =>
        have HPI : Hid (decide (s.free i ≤ s.now) = true) := Lib.hid hp
        have HV : Hid (handI m s = i) := Lib.hid (leastI_some him hp HP.out)
        clear hp
        go_wp2_with (go_at_call 105; refine Calls.mono (freeHand_any (s.free i) s g _ HG2.out) ?_; rintro e w3 ⟨rfl, hB4⟩; rw [HPI.out]; have hB5 := hB.trans (hB4.mono hsz))
        go_ret
        exact ⟨by rw [HV.out]; rfl, hB5⟩
      | false =>
        have HPI : Hid (decide (s.free i ≤ s.now) = false) := Lib.hid hp
        have HP2 : Hid (∀ j, j < i + 1 → freeP s j = false) := Lib.hid fun j hj => by
          by_cases e : j = i
          · rw [e]; exact hp
          · exact HP.out j (by omega)
        clear hp
        go_wp2_with (go_at_call 105; refine Calls.mono (freeHand_any (s.free i) s g _ HG2.out) ?_; rintro e w3 ⟨rfl, hB4⟩; rw [HPI.out]; have hB5 := hB.trans (hB4.mono hsz))
        go_roundw
        case rel => exact ⟨i + 1, by omega, rfl, HP2, hB5⟩
        case measure => simp [intOf]; omega
    · obtain rfl : i = m := by omega
      have HV : Hid (handI i s = -1) := Lib.hid (leastI_none HP.out)
      go_wp2_with fail
      go_ret
      exact ⟨by rw [HV.out]; rfl, hB⟩
theorem turns_at {w : World} {gu n : Nat} {f g : Tm} (h : w.rowIs gu 169 (2 * n) (turnsF f g)) {i : Nat} (hi : i < n) : w.cell? ⟨gu, 2 * i, none⟩ = some (.int .i64 (f i)) ∧ w.cell? ⟨gu, 2 * i + 1, none⟩ = some (.int .i64 (g i)) := by
  have h1 := h.cell (i := 2 * i) (by omega)
  have h2 := h.cell (i := 2 * i + 1) (by omega)
  unfold turnsF at h1 h2
  rw [show 2 * i % 2 = 0 by omega, show 2 * i / 2 = i by omega, if_pos rfl] at h1
  rw [show (2 * i + 1) % 2 = 1 by omega, show (2 * i + 1) / 2 = i by omega, if_neg (by omega)] at h2
  exact ⟨h1, h2⟩
/-- what a state's bounds say of a job that has begun -/
theorem ended_sum {m n : Nat} {d : Tm} {s : St} (H : Inv m n d s) (h60 : n ≤ 60) (hd : ∀ i, i < n → 0 ≤ d i ∧ d i ≤ 1000000000) {i : Nat} (hi : i < n) (hb : s.beg i = true) : 0 ≤ s.at_ i + d i ∧ s.at_ i + d i ≤ 60000000000 := by
  have h1 := H.at0 i hi hb
  have h2 := hd i hi
  have h3 := H.fin i hi hb
  have h4 := H.fewS
  omega
set_option maxHeartbeats 4000000 in
theorem ended_any (m n gt gu gb gf : Nat) (a b : Option Addr) (l cap k cap2 : Nat) (s : St) (D : List Int) (i : Nat) (w0 w : World) (h60 : n ≤ 60) (hi : i < n) (hk : k = D.length) (hkn : k = n) (hD : Vals w b (ints D)) (hT : TW m n gt gu gb gf a b l cap k cap2 s w0 w) (hI : Inv m n (dur D) s) (hd : ∀ i, i < n → 0 ≤ dur D i ∧ dur D i ≤ 1000000000) :
    Calls Try.prog 179 #[.pointer (some ⟨gt, 0, none⟩), .int .i64 i, .int .i64 s.now] w fun e w' => e = .returned (.bool (endedP (dur D) s i)) ∧ Below w.heap.size w w' := by
  obtain ⟨c1, _⟩ := turns_at hT.turns hi
  have c2 := hT.begun.cell hi
  unfold bools at c2
  have p1 : w.cell? ⟨gt, 1, none⟩ = some (.slice b k cap2) := hT.var.cell (i := 1) (by omega)
  have p2 : w.cell? ⟨gt, 2, none⟩ = some (.slice (some ⟨gu, 0, none⟩) n n) := hT.var.cell (i := 2) (by omega)
  have p3 : w.cell? ⟨gt, 3, none⟩ = some (.slice (some ⟨gb, 0, none⟩) n n) := hT.var.cell (i := 3) (by omega)
  have l1 := hT.var.lt
  have l2 := hT.turns.lt
  have l3 := hT.begun.lt
  obtain ⟨bd, od, rfl, hbd, hatd⟩ := hD (by simp [ints]; omega)
  have d1 := hatd i (.int .i64 (dur D i)) (by simp [ints, dur, List.getElem?_eq_getElem (show i < D.length by omega)])
  have HI := Lib.hid hi
  have hi1 : (0 : Int) ≤ (i : Int) := by omega
  have hi2 : (i : Int) < (n : Int) := by omega
  have hi3 : (i : Int) < (k : Int) := by omega
  have hi4 : i < k := by omega
  have HKN := Lib.hid hkn
  have h2i : i * 2 = 2 * i := by omega
  cases hb : s.beg i with
  | false =>
    have HV : Hid (endedP (dur D) s i = false) := Lib.hid (by simp [endedP, hb])
    rw [hb] at c2
    clear hatd hT hI hd hkn hk hb
    go_enter Try.func179, Try.ntmps179
    go_wp2_with fail
    go_quiet (fail)
    go_wp2_with fail
    go_ret
    exact ⟨by rw [HV.out]; rfl, below_drewN (Below.refl _ _) _⟩
  | true =>
    have HV : Hid (endedP (dur D) s i = decide (s.at_ i + dur D i ≤ s.now)) := Lib.hid (by simp [endedP, hb])
    obtain ⟨s1, s2⟩ := ended_sum hI h60 hd hi hb
    have hw1 : IntKind.i64.wrap (s.at_ i + dur D i) = s.at_ i + dur D i := IntWalk.i64_in _ (by omega)
    rw [hb] at c2
    clear hatd hT hI hd hkn hk hb
    go_enter Try.func179, Try.ntmps179
    go_wp2_with fail
    go_quiet (fail)
    go_wp2_with fail
    go_ret
    exact ⟨by rw [HV.out]; rfl, below_drewN (Below.refl _ _) _⟩
end Go.Proofs.Ytfjoakhcgpckgaa
