/- Contract: a thing of the heap moves up. -/
import Derived.Test.YtfjoakhcgpckgaaHeapSwap
namespace Go.Proofs.Ytfjoakhcgpckgaa
open Go.ChangeShapes Go.WideShapes Go.ChangeAt Go.RowKit
set_option linter.unusedVariables false
open Hp
/-- the fuel of a method's look-up, as the walk spells it: the number hangs on the seat -/
theorem fuelE : Try.prog.types.size + Made.depth = 438 := by kernel_rfl
theorem nLen (a : Addr) (w : World) : (nilAhead 438 181 (.pointer (some a)) "Len").run Try.prog w = .ok (some false) w := by kernel_rfl
theorem nLess (a : Addr) (w : World) : (nilAhead 438 181 (.pointer (some a)) "Less").run Try.prog w = .ok (some false) w := by kernel_rfl
theorem nSwap (a : Addr) (w : World) : (nilAhead 438 181 (.pointer (some a)) "Swap").run Try.prog w = .ok (some false) w := by kernel_rfl
theorem nPush (a : Addr) (w : World) : (nilAhead 438 181 (.pointer (some a)) "Push").run Try.prog w = .ok (some false) w := by kernel_rfl
theorem nPop (a : Addr) (w : World) : (nilAhead 438 181 (.pointer (some a)) "Pop").run Try.prog w = .ok (some false) w := by kernel_rfl
theorem load_row {a : Addr} {w : World} {v : Value} (h : w.cell? a = some v) : (loadVar 174 a).run Try.prog w = .ok v w := by simp [go_sem, loadVar, h]
theorem mLen0 (a : Addr) (w : World) : (method 438 181 (.pointer (some a)) "Len").run Try.prog w = ((do let x ← loadVar 174 a; pure (270, x)) : Sem (FuncId × Value)).run Try.prog w := by kernel_rfl
theorem mLess0 (a : Addr) (w : World) : (method 438 181 (.pointer (some a)) "Less").run Try.prog w = ((do let x ← loadVar 174 a; pure (271, x)) : Sem (FuncId × Value)).run Try.prog w := by kernel_rfl
theorem mSwap0 (a : Addr) (w : World) : (method 438 181 (.pointer (some a)) "Swap").run Try.prog w = ((do let x ← loadVar 174 a; pure (272, x)) : Sem (FuncId × Value)).run Try.prog w := by kernel_rfl
theorem mLen {a : Addr} {w : World} {v : Value} (h : w.cell? a = some v) : (method 438 181 (.pointer (some a)) "Len").run Try.prog w = .ok (270, v) w := by rw [mLen0]; simp [go_sem, h]
theorem mLess {a : Addr} {w : World} {v : Value} (h : w.cell? a = some v) : (method 438 181 (.pointer (some a)) "Less").run Try.prog w = .ok (271, v) w := by rw [mLess0]; simp [go_sem, h]
theorem mSwap {a : Addr} {w : World} {v : Value} (h : w.cell? a = some v) : (method 438 181 (.pointer (some a)) "Swap").run Try.prog w = .ok (272, v) w := by rw [mSwap0]; simp [go_sem, h]
theorem mPush (a : Addr) (w : World) : (method 438 181 (.pointer (some a)) "Push").run Try.prog w = .ok (275, .pointer (some a)) w := by kernel_rfl
theorem mPop (a : Addr) (w : World) : (method 438 181 (.pointer (some a)) "Pop").run Try.prog w = .ok (274, .pointer (some a)) w := by kernel_rfl
@[reducible] def hp (gq : Nat) : Value := .iface 181 (.pointer (some ⟨gq, 0, none⟩))
theorem HW.below {F : Nat → Prop} {gq gm : Nat} {born : Int} {v : Value} {ts : List Th} {w w' : World} (h : HW F gq gm born v ts w) (hb : Below w.heap.size w w') : HW F gq gm born v ts w' :=
  ⟨rowIs_below h.var hb h.var.lt, h.fq, ownsRow_below h.row hb, h.rowF, fun j t hj => ⟨(h.th j t hj).1, rowIs_below (h.th j t hj).2 hb (h.th j t hj).2.lt⟩, h.inj⟩
theorem HW.drewN {F : Nat → Prop} {gq gm : Nat} {born : Int} {v : Value} {ts : List Th} {w : World} (h : HW F gq gm born v ts w) (q : Nat) : HW F gq gm born v ts (w.drewN q) := h.below ((Drawn.drewN w q).below _)
theorem HW.cell {F : Nat → Prop} {gq gm : Nat} {born : Int} {v : Value} {ts : List Th} {w : World} (h : HW F gq gm born v ts w) : w.cell? ⟨gq, 0, none⟩ = some v := h.var.cell (i := 0) (by omega)
/-- the same things, those behind n where they were -/
def Same (n : Nat) (us ts : List Th) : Prop := us.Perm ts ∧ ∀ k, n ≤ k → us[k]? = ts[k]?
theorem Same.refl (n : Nat) (ts : List Th) : Same n ts ts := ⟨List.Perm.refl _, fun _ _ => rfl⟩
theorem Same.swap {n i j : Nat} {us ts : List Th} {a b : Th} (h : Same n us ts) (hi : i < n) (hj : j < n) (ha : us[i]? = some a) (hb : us[j]? = some b) : Same n (swp us i j) ts :=
  ⟨(swp_perm us i j).trans h.1, fun k hk => by rw [swp_at ha hb, if_neg (by omega), if_neg (by omega)]; exact h.2 k hk⟩
set_option maxRecDepth 20000 in
set_option maxHeartbeats 4000000 in
theorem up_any (F : Nat → Prop) (gq gm : Nat) (born : Int) (v : Value) (ts : List Th) (n j : Nat) (w : World) (h : HW F gq gm born v ts w) (hn : n ≤ ts.length) (hj : j < n) (hU : UpH ts n j) (h4 : ts.length ≤ 1000) :
    Calls Try.prog 181 #[hp gq, .int .i64 j] w fun e w' => e = .returned (.tuple #[]) ∧ ∃ us, Heap us n ∧ Same n us ts ∧ HW F gq gm born v us w' ∧ Kept F w w' := by
  have HH := Lib.hid h
  have HU := Lib.hid hU
  have HS := Lib.hid (Same.refl n ts)
  have HK := Lib.hid (Kept.refl F w)
  have HN := Lib.hid (show n ≤ ts.length ∧ ts.length ≤ 1000 from ⟨hn, h4⟩)
  have hn4 : n ≤ 1000 := by omega
  clear h hU hn h4
  unfold hp
  go_enter Try.func181, Try.ntmps181
  go_wp2_with fail
  go_loopw [1] (fun x wr => ∃ (j : Nat) (us : List Th), x = .int .i64 j ∧ j < n ∧ Hid (HW F gq gm born v us wr) ∧ Hid (UpH us n j) ∧ Hid (Same n us ts) ∧ Hid (Kept F w wr)) (fun x _ => (intOf x).toNat)
  case atStart => exact ⟨j, ts, rfl, hj, HH, HU, HS, HK⟩
  case round =>
    clear HH HU HS HK hj j
    obtain ⟨j, us, rfl, hj, HH, HU, HS, HK⟩ := hrel
    have hlen : Hid (us.length = ts.length) := Lib.hid HS.out.1.length_eq
    by_cases h0 : j = 0
    · subst h0
      have HE := Lib.hid (HU.out.stop (.inl rfl))
      go_wp2_with fail
      go_end0
      exact ⟨rfl, us, HE.out, HS.out, HH.out, HK.out⟩
    · obtain ⟨i, hi⟩ : ∃ i, par j = i := ⟨_, rfl⟩
      have hij : i < j := by rw [← hi]; exact par_lt (by omega)
      have HPI := Lib.hid hi
      have hq : ((j : Int) - 1).tdiv 2 = (i : Int) := by
        have e : (j : Int) - 1 = ((j - 1 : Nat) : Int) := by omega
        rw [e, ← hi]
        unfold par
        rw [Int.tdiv_eq_ediv_of_nonneg (by omega)]
        omega
      have hne : ((i : Int) == (j : Int)) = false := by simp; omega
      obtain ⟨a, ha⟩ : ∃ a, us[j]? = some a := ⟨_, List.getElem?_eq_getElem (by have := hlen.out; have := HN.out; omega)⟩
      obtain ⟨b, hb⟩ : ∃ b, us[i]? = some b := ⟨_, List.getElem?_eq_getElem (by have := hlen.out; have := HN.out; omega)⟩
      have HA := Lib.hid ha
      have HB := Lib.hid hb
      have n1 := nLess ⟨gq, 0, none⟩
      have n2 := nSwap ⟨gq, 0, none⟩
      have m1 := mLess HH.out.cell
      clear hi ha hb
      have hl4 : us.length ≤ 1000 := by have := hlen.out; have := HN.out; omega
      cases hl : ahd a b with
      | true =>
        have HLE := Lib.hid hl
        clear hl
        go_wp2_with (first
          | (go_at_call 271; refine Calls.mono (Less_any F gq gm born v us j i a b _ HH.out HA.out HB.out hl4) ?_; rintro e w1 ⟨rfl, q, rfl⟩; rw [HLE.out]; have HH1 := Lib.hid (HH.out.drewN q); have m2 := mSwap HH1.out.cell)
          | (go_at_call 272; refine Calls.mono (Swap_any F gq gm born v us i j b a _ HH1.out HB.out HA.out hl4) ?_; rintro e w2 ⟨rfl, hH2, hK2⟩; have HH2 := Lib.hid hH2; have HK2 := Lib.hid (HK.out.trans ((Kept.below (F := F) ((Drawn.drewN wr q).below _)).trans hK2 (fun x hx => .inl hx)) (fun x hx => .inl hx)); clear hH2 hK2))
        have HU2 := Lib.hid (HU.out.go (by have := hlen.out; have := HN.out; omega) (by omega) hj HA.out (by rw [HPI.out]; exact HB.out) HLE.out)
        rw [HPI.out] at HU2
        go_roundw
        case rel => exact ⟨i, swp us i j, rfl, by omega, HH2, HU2, Lib.hid (HS.out.swap (by omega) hj HB.out HA.out), HK2⟩
        case measure => simp [intOf]; omega
      | false =>
        have HLE := Lib.hid hl
        have HE := Lib.hid (HU.out.stop (.inr fun a' b' ha hb => by
          rw [HPI.out] at hb
          have h1 := HA.out; have h2 := HB.out
          rw [h1] at ha; rw [h2] at hb
          cases ha; cases hb
          exact hl))
        clear hl
        go_wp2_with (go_at_call 271; refine Calls.mono (Less_any F gq gm born v us j i a b _ HH.out HA.out HB.out hl4) ?_; rintro e w1 ⟨rfl, q, rfl⟩; rw [HLE.out])
        go_end0
        exact ⟨rfl, us, HE.out, HS.out, HH.out.drewN q, HK.out.trans (Kept.below (F := F) ((Drawn.drewN wr q).below _)) (fun x hx => .inl hx)⟩
end Go.Proofs.Ytfjoakhcgpckgaa
