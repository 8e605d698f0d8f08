/- Contracts: the bits of a row as a list; a list of edges of rows; the program's. -/
import Derived.Test.YtdbipmidjdhjpaaDoorGraphRows
import Derived.Test.YtdbipmidjdhjpaaDoorTz
namespace Go.Proofs.YtdbipmidjdhjpaaDoor
open Go.ChangeShapes Go.WideShapes Go.ChangeAt Go.RowKit
set_option linter.unusedVariables false
open Gr (El)
def nat1 (i : Nat) : Value := .int .i64 (i : Int)
def nats (l : List Nat) : List Value := l.map nat1
theorem nats_snoc (l : List Nat) (i : Nat) : nats (l ++ [i]) = nats l ++ [nat1 i] := by simp [nats]
theorem nats_length (l : List Nat) : (nats l).length = l.length := by simp [nats]
namespace Gr
theorem yes_skip {f : Nat → Bool} {m : Nat} : ∀ {p}, m ≤ p → (∀ i, m ≤ i → i < p → f i = false) → yes f p = yes f m
  | 0, h, _ => by have : m = 0 := by omega
                  rw [this]
  | p + 1, h, hf => by
    by_cases e : m = p + 1
    · rw [e]
    · have := yes_skip (p := p) (by omega) fun i h1 h2 => hf i h1 (by omega)
      show (if f p then _ else _) = _
      rw [hf p (by omega) (by omega)]
      simpa using this
theorem yes_more {f : Nat → Bool} {m p : Nat} (h : m ≤ p) (hf : ∀ i, m ≤ i → i < p → f i = false) (hp : f p = true) : yes f (p + 1) = yes f m ++ [p] := by
  show (if f p then _ else _) = _
  rw [hp, yes_skip h hf]; rfl
end Gr
/-- what is left of the bits of s when those below m are done -/
def Rest (s z m : Nat) : Prop := ∀ i, z.testBit i = (s.testBit i && decide (m ≤ i))
theorem Rest.step {s z m p : Nat} (h : Rest s z m) (hp : z.testBit p = true) (hl : ∀ j, j < p → z.testBit j = false) : Rest s (z &&& (z - 1)) (p + 1) ∧ Gr.yes s.testBit (p + 1) = Gr.yes s.testBit m ++ [p] := by
  have h1 := h p
  rw [hp] at h1
  simp only [Bool.true_eq, Bool.and_eq_true, decide_eq_true_eq] at h1
  refine ⟨fun i => ?_, Gr.yes_more h1.2 (fun i a b => ?_) h1.1⟩
  · rw [Gr.bit_low hp hl i, h i, Bool.eq_iff_iff]
    simp only [Bool.and_eq_true, decide_eq_true_eq]
    constructor
    · rintro ⟨⟨a, b⟩, c⟩
      refine ⟨a, ?_⟩
      refine Decidable.byContradiction fun hc => ?_
      have := hl i (by omega)
      rw [h i, a] at this
      simp at this; omega
    · rintro ⟨a, b⟩
      exact ⟨⟨a, by omega⟩, by omega⟩
  · have := hl i b
    rw [h i] at this
    simpa [a] using this
theorem Rest.done {s m : Nat} (h : Rest s 0 m) (hm : m ≤ 64) : Gr.yes s.testBit 64 = Gr.yes s.testBit m := Gr.yes_skip hm fun i a b => by
  have := h i
  simp only [Nat.zero_testBit] at this
  simpa [a] using this.symm
def ListPost (s : Nat) (w : World) (e : Ending) (w' : World) : Prop := ∃ v, e = .returned v ∧ w'.ownsRow w.heap.size 3 1 v (Gr.yes s.testBit 64).length (nats (Gr.yes s.testBit 64)) ∧ Below w.heap.size w w'
set_option maxHeartbeats 2000000 in
theorem list_any (s : Nat) (w : World) (hs : s < 18446744073709551616) (hT : Gr.Bru w) (hG : 1 < w.heap.size) :
    Calls Tryd.prog 50 #[.int .u64 s] w (ListPost s w) := by
  have HT := Lib.hid hT
  clear hT
  go_enter Tryd.func50, Tryd.ntmps50
  go_wp2_with fail
  go_loopw [0, 3] (fun x v wr => ∃ z m : Nat, x = .int .u64 z ∧ z ≤ s ∧ m ≤ 64 ∧ Hid (Rest s z m) ∧ Hid (wr.ownsRow w.heap.size 3 1 v (Gr.yes s.testBit m).length (nats (Gr.yes s.testBit m))) ∧ Below w.heap.size w wr) (fun x _ _ => (intOf x).toNat)
  case atStart => exact ⟨s, 0, rfl, by omega, by omega, Lib.hid fun i => by simp, Lib.hid (World.ownsRow_nil _ _ _ _), Below.refl _ _⟩
  case round =>
    obtain ⟨z, m, rfl, hzs, hm, HR, HO, hB⟩ := hrel
    have hsz := hB.size
    by_cases hz : z = 0
    · subst hz
      have HV := Lib.hid (HR.out.done hm)
      go_wp2_with fail
      go_ret
      exact ⟨_, rfl, by rw [HV.out]; exact HO.out, hB⟩
    · have hzb : ((z : Int) != 0) = true := by simp; omega
      have hlen := Gr.yes_length s.testBit m
      have HZ := Lib.hid hz
      have hz1 : 1 ≤ z := by omega
      have hz2 : z < 18446744073709551616 := by omega
      have hzu : IntKind.u64.wrap ((z : Int) - 1) = ((z - 1 : Nat) : Int) := by
        rw [show (z : Int) - 1 = ((z - 1 : Nat) : Int) from by omega]
        exact IntWalk.u64_in _ ⟨by omega, by omega⟩
      have HAND := Lib.hid (u64_and_nat z (z - 1) hz2 (by omega))
      have HZU := Lib.hid hzu
      have HTT := Lib.hid (HT.out.below hB hG)
      clear hz hzu
      go_wp2_with (first
        | (go_at_call 59; refine Calls.mono (Gr.tz_low z _ hz2 HZ.out HTT.out) ?_; rintro e w1 ⟨⟨p, rfl, hp1, hp2, hp3⟩, rfl⟩; have HP := Lib.hid (HR.out.step hp1 hp3); clear hp1 hp3)
        | (at_builtin; refine wpList_push _ (by rfl) _ _ 37 (by rfl) w.heap.size 3 (.int .i64 0) 8 Tryd.underlying37 infoInt (by rfl) u3 (Gr.yes s.testBit m).length _ (nat1 p) _ rfl (by rfl) HO.out (by rfl) (by rfl) (by unfold maxLen; omega) (by omega) (by omega) ?_; intro gg cap2 w1 hown1 hgrow1 hgb hgl; have HP2 := Lib.hid hown1; have hB1 := hB.grown hgrow1 hsz (ownBlock_ge HO.out (Nat.le_refl _)); clear hown1 hgrow1))
      have hlt : z &&& (z - 1) < z := Nat.lt_of_le_of_lt Nat.and_le_right (by omega)
      have HO2 := Lib.hid (show w1.ownsRow w.heap.size 3 1 (.slice (some ⟨gg, 0, none⟩) ((Gr.yes s.testBit m).length + 1) cap2) (Gr.yes s.testBit (p + 1)).length (nats (Gr.yes s.testBit (p + 1))) from by
        rw [HP.out.2, nats_snoc]; simpa using HP2.out)
      have HR2 := Lib.hid HP.out.1
      rw [show (z : Int) - 1 = ((z - 1 : Nat) : Int) from by omega, HAND.out]
      go_roundw
      case rel => exact ⟨z &&& (z - 1), p + 1, rfl, by omega, by omega, HR2, HO2, hB1⟩
      case measure => simp [intOf]; omega
/-! edges of rows -/
theorem isVals1 {w : World} {base n : Nat} {e : TypeId} {v : Value} {xs : List Value} (h : w.ownsRow base e 1 v n xs) : ∃ a cap, v = .slice a n cap ∧ Vals w a xs := by
  obtain ⟨a, cap, rfl, h2⟩ := IsVals.own h
  have : xs.length = n := by simpa using h.1
  rw [this]
  exact ⟨a, cap, rfl, h2⟩
theorem row_addr {w : World} {base n c : Nat} {e : TypeId} {a : Option Addr} {xs : List Value} (h : w.ownsRow base e 1 (.slice a n c) n xs) (hn : 0 < n) : ∃ b, a = some ⟨b, 0, none⟩ := by
  obtain ⟨g, cap, e1, _⟩ := h.form hn
  simp only [Value.slice.injEq] at e1
  exact ⟨g, e1.1⟩
theorem row_cell {w : World} {base n c b i : Nat} {e : TypeId} {xs : List Value} {x : Value} (h : w.ownsRow base e 1 (.slice (some ⟨b, 0, none⟩) n c) n xs) (hx : xs[i]? = some x) : w.cell? ⟨b, i, none⟩ = some x := by
  have := h.cells (g := b) rfl i x hx
  rwa [show (⟨b, 0, none⟩ : Addr).add i = ⟨b, i, none⟩ from by unfold Addr.add; split <;> simp_all] at this
def flat (l : List (Nat × Nat)) : List Value := l.flatMap fun p => [nat1 p.1, nat1 p.2]
theorem flat_append (a b : List (Nat × Nat)) : flat (a ++ b) = flat a ++ flat b := by simp [flat]
theorem flat_length (l : List (Nat × Nat)) : (flat l).length = l.length * 2 := by
  induction l with
  | nil => rfl
  | cons x t ih => simp only [flat, List.flatMap_cons, List.length_append, List.length_cons, List.length_nil] at ih ⊢; omega
def rowsE (f : Nat → List Nat) : Nat → List (Nat × Nat)
  | 0 => []
  | k + 1 => rowsE f k ++ (f k).map fun j => (k, j)
theorem rowsE_length {f : Nat → List Nat} {B : Nat} (h : ∀ i, (f i).length ≤ B) : ∀ k, (rowsE f k).length ≤ B * k
  | 0 => by simp [rowsE]
  | k + 1 => by
    have ih := rowsE_length h k
    have := h k
    simp only [rowsE, List.length_append, List.length_map, Nat.mul_succ]
    omega
theorem take_map_snoc {l : List Nat} {j x : Nat} (h : l[j]? = some x) (i : Nat) : (l.take (j + 1)).map (fun k => (i, k)) = (l.take j).map (fun k => (i, k)) ++ [(i, x)] := by
  rw [List.take_add_one, h]; simp
theorem infoEdge : (Tryd.prog.info? 54).map (fun i => (i.zero, i.size, i.bytes)) = some (some (.agg #[.int .i64 0, .int .i64 0]), 2, 16) := by kernel_rfl
def EdgesPost (f : Nat → List Nat) (n : Nat) (w : World) (e : Ending) (w' : World) : Prop := ∃ v, e = .returned v ∧ IsRow w' v (rowsE f n).length (flat (rowsE f n)) ∧ Below w.heap.size w w'
def bitsL (f : Nat → Nat) (i : Nat) : List Nat := Gr.yes (f i).testBit 64
theorem bitsL_len (f : Nat → Nat) (i : Nat) : (bitsL f i).length ≤ 64 := Gr.yes_length _ _
set_option maxRecDepth 20000 in
set_option maxHeartbeats 2000000 in
theorem edges_any (n : Nat) (f : Nat → Nat) (a : Option Addr) (c : Nat) (w : World) (h60 : n ≤ 60) (hr : Vals w a ((List.range n).map (u64s f))) (hlt : ∀ i, f i < 18446744073709551616) (hT : Gr.Bru w) (hG : 1 < w.heap.size) :
    Calls Tryd.prog 51 #[.slice a n c] w (EdgesPost (bitsL f) n w) := by
  have HR := Lib.hid hr
  have HLT := Lib.hid hlt
  have HT := Lib.hid hT
  clear hr hlt hT
  go_enter Tryd.func51, Tryd.ntmps51
  go_wp2_with fail
  go_loopw [3, 10] (fun v x wr => ∃ i : Nat, i ≤ n ∧ x = .int .i64 i ∧ Hid (wr.ownsRow w.heap.size 54 2 v (rowsE (bitsL f) i).length (flat (rowsE (bitsL f) i))) ∧ Below w.heap.size w wr) (fun _ x _ => n - (intOf x).toNat)
  case atStart => exact ⟨0, by omega, rfl, Lib.hid (World.ownsRow_nil _ _ _ _), Below.refl _ _⟩
  case round =>
    obtain ⟨i, hi, rfl, HO, hB⟩ := hrel
    have hsz := hB.size
    by_cases hin : i < n
    · obtain ⟨b, off, rfl, hb, hat⟩ := HR.out (by simp; omega)
      have c0 := (hB.cell (p := ⟨b, off + i, none⟩) hb).trans (hat i (u64s f i) (by rw [List.getElem?_map, List.getElem?_range hin]; rfl))
      unfold u64s at c0
      have hbr : b < wr.heap.size := by omega
      have HTT := Lib.hid (HT.out.below hB hG)
      have HLI := Lib.hid (HLT.out i)
      have hle := rowsE_length (bitsL_len f) i
      have hlb := bitsL_len f i
      clear hat
      obtain ⟨z, hz⟩ : ∃ z, z = f i := ⟨_, rfl⟩
      rw [← hz] at c0
      have HZ := Lib.hid hz
      clear hz
      obtain ⟨m, hm⟩ : ∃ m, m = (Gr.yes (f i).testBit 64).length := ⟨_, rfl⟩
      have hm64 : m ≤ 64 := hm ▸ Gr.yes_length _ _
      have HM := Lib.hid hm
      clear hm
      obtain ⟨wo, rfl⟩ : ∃ wo : World, wo = wr := ⟨_, rfl⟩
      go_wp2_with (go_at_call 50; refine Calls.mono (list_any z _ (by rw [HZ.out]; exact HLI.out) HTT.out (by omega)) ?_; rintro e w1 ⟨v1, rfl, j1, hB1⟩; rw [HZ.out, ← HM.out] at j1; have HB1 := Lib.hid hB1; have HJ0 := Lib.hid (j1.lt); obtain ⟨a1, c1, rfl, j2⟩ := isVals1 j1; have HJ := Lib.hid j1; clear hB1 j1 j2)
      have hs1 := HB1.out.size
      have HBW := Lib.hid (hB.trans (HB1.out.mono hsz))
      go_loopw [3, 18] (fun v x wx => ∃ j : Nat, j ≤ m ∧ x = .int .i64 j ∧ Hid (wx.ownsRow w.heap.size 54 2 v ((rowsE (bitsL f) i).length + j) (flat (rowsE (bitsL f) i ++ ((bitsL f i).take j).map fun k => (i, k)))) ∧ Hid (wx.ownsRow wo.heap.size 3 1 (.slice a1 m c1) m (nats (Gr.yes (f i).testBit 64))) ∧ Hid (∀ k, v.ownBlock = some k → k < wo.heap.size ∨ w1.heap.size ≤ k) ∧ Below w.heap.size w wx ∧ w1.heap.size ≤ wx.heap.size) (fun _ x _ => m - (intOf x).toNat)
      case atStart => exact ⟨0, by omega, rfl, Lib.hid (by simpa using ownsRow_below HO.out HB1.out), HJ, Lib.hid fun k hk => .inl (HO.out.lt k hk).2, HBW.out, Nat.le_refl _⟩
      case round =>
        clear HO HJ HBW
        obtain ⟨j, hj, rfl, HO, HJ, HD, hB2, hs2⟩ := hrel
        have hs3 := hB2.size
        by_cases hjm : j < m
        · obtain ⟨b1, rfl⟩ := row_addr HJ.out (by omega)
          obtain ⟨x, hx⟩ : ∃ x, (Gr.yes (f i).testBit 64)[j]? = some x := ⟨_, List.getElem?_eq_getElem (by rw [← HM.out]; exact hjm)⟩
          have c1 := row_cell HJ.out (i := j) (x := nat1 x) (by simp [nats, hx])
          unfold nat1 at c1
          have HX := Lib.hid (take_map_snoc hx i)
          clear hx
          go_wp2_with ((at_builtin; refine wpList_pushN _ (by rfl) _ _ 36 (by rfl) w.heap.size 54 (.agg #[.int .i64 0, .int .i64 0]) 2 16 Tryd.underlying36 infoEdge (by rfl) (by decide) u3 ((rowsE (bitsL f) i).length + j) _ [.int .i64 i, .int .i64 x] _ rfl (by rfl) HO.out (by rfl) (by rfl) (by intro u hu; simp at hu; rcases hu with rfl | rfl <;> rfl) (by unfold maxLen; omega) (by omega) (by omega) ?_; intro gg cap2 w2 hown1 hgrow1 hgb hgl; have HP2 := Lib.hid hown1; have HG2 := Lib.hid hgrow1; have HGB := Lib.hid hgb; have hB3 := hB2.grown hgrow1 hs3 (ownBlock_ge HO.out (Nat.le_refl _)); have hs4 := hgrow1.size; clear hown1 hgrow1 hgb))
          have HO2 : Hid (w2.ownsRow w.heap.size 54 2 (.slice (some ⟨gg, 0, none⟩) ((rowsE (bitsL f) i).length + j + 1) cap2) ((rowsE (bitsL f) i).length + (j + 1)) (flat (rowsE (bitsL f) i ++ ((bitsL f i).take (j + 1)).map fun k => (i, k)))) := Lib.hid (by
            have h := HP2.out
            have e : bitsL f i = Gr.yes (f i).testBit 64 := rfl
            rw [e, HX.out, ← List.append_assoc, flat_append, ← e]
            exact h)
          have HJ2 := Lib.hid (HJ.out.kept HG2.out (by
            right
            intro e
            have h1 := HJ0.out b1 rfl
            have h2 := HD.out b1 e.symm
            omega))
          have HD2 : Hid (∀ k, (Value.slice (some ⟨gg, 0, none⟩) ((rowsE (bitsL f) i).length + j + 1) cap2).ownBlock = some k → k < wo.heap.size ∨ w1.heap.size ≤ k) := Lib.hid fun k hk => by
            have hk : gg = k := by simpa [Value.ownBlock] using hk
            subst hk
            rcases HGB.out with h | h
            · exact HD.out gg h
            · right; omega
          go_roundw
          case rel => exact ⟨j + 1, by omega, rfl, HO2, HJ2, HD2, hB3, by omega⟩
          case measure => simp [intOf]; omega
        · obtain rfl : j = m := by omega
          have HO2 : Hid (wr.ownsRow w.heap.size 54 2 u3 (rowsE (bitsL f) (i + 1)).length (flat (rowsE (bitsL f) (i + 1)))) := Lib.hid (by
            have h := HO.out
            have e : (bitsL f i).take j = bitsL f i := List.take_of_length_le (by rw [HM.out]; exact Nat.le_refl _)
            rw [e] at h
            have e2 : (rowsE (bitsL f) (i + 1)).length = (rowsE (bitsL f) i).length + j := by
              simp only [rowsE, List.length_append, List.length_map]
              rw [HM.out]; rfl
            rw [e2]
            exact h)
          go_wp2_with fail
          go_roundw
          case rel => exact ⟨i + 1, by omega, rfl, HO2, hB2⟩
          case measure => simp [intOf]; omega
    · have HV := Lib.hid (IsRow.own (by decide) HO.out)
      obtain rfl : i = n := by omega
      go_wp2_with fail
      go_ret
      exact ⟨_, rfl, HV.out, hB⟩
end Go.Proofs.YtdbipmidjdhjpaaDoor
