/- Contracts: a row of all; the program's (Order) and the document's (InRow). -/
import Derived.Test.YtfjoakhcgpckgaaGraphKnotted
namespace Go.Proofs.Ytfjoakhcgpckgaa
open Go.ChangeShapes Go.WideShapes Go.ChangeAt Go.RowKit
set_option linter.unusedVariables false
open Gr (El)
def swap (L : El) : El := L.map fun x => (x.2, x.1)
theorem swap_at {L : El} {k : Nat} {x y : Int} (h : L[k]? = some (x, y)) : (swap L)[k]? = some (y, x) := by simp [swap, h]
theorem swap_ok {n : Nat} {L : El} (h : Gr.Ok n L) : Gr.Ok n (swap L) := fun x hx => by
  obtain ⟨y, hy, rfl⟩ := List.mem_map.1 hx
  have := h y hy
  simp only; omega
theorem swap_ed {L : El} {i j : Nat} : Gr.ed (swap L) i j ↔ Gr.ed L j i := by
  unfold Gr.ed swap
  rw [List.mem_map]
  constructor
  · rintro ⟨⟨x, y⟩, h, e⟩
    simp only [Prod.mk.injEq] at e
    rw [← e.1, ← e.2]; exact h
  · exact fun h => ⟨_, h, rfl⟩
/-- nothing left is ahead of i: by the rows of bits -/
theorem ahead_zero {n : Nat} {L : El} (hO : Gr.Ok n L) (i m : Nat) (left : Nat → Bool) (hm : ∀ j, m.testBit j = left j) (hl : left i = true) : (Gr.rowN (swap L) i &&& m = 0) ↔ Gr.okAt L left i = true := by
  rw [Gr.okAt_iff hO]
  constructor
  · intro h
    refine ⟨hl, fun j hj => ?_⟩
    have := congrArg (fun a => a.testBit j) h
    simp only [Nat.testBit_and, Nat.zero_testBit, (Gr.rowN_bit (swap_ok hO) i j).2 (swap_ed.2 hj), Bool.true_and, hm] at this
    exact this
  · intro h
    refine Gr.zero_of fun j => ?_
    rw [Nat.testBit_and, hm]
    cases hb : (Gr.rowN (swap L) i).testBit j with
    | false => rfl
    | true =>
      have := h.2 j (swap_ed.1 ((Gr.rowN_bit (swap_ok hO) i j).1 hb))
      simp [this]
/-- the mask of those left -/
def Mask (m : Nat) (left : Nat → Bool) : Prop := ∀ j, m.testBit j = left j
theorem left_lt {n : Nat} {L : El} : ∀ t i, (Gr.steps n L t).left i = true → i < n
  | 0, i, h => of_decide_eq_true h
  | t + 1, i, h => by
    have h : (Gr.step n L (Gr.steps n L t)).left i = true := h
    by_cases c : Gr.first n (Gr.okAt L (Gr.steps n L t).left) < n
    · rw [Gr.step_go c] at h
      simp only [Bool.and_eq_true] at h
      exact left_lt t i h.1
    · rw [Gr.step_stuck c] at h
      exact left_lt t i h
theorem mask_lt {n m : Nat} {L : El} {t : Nat} (h60 : n ≤ 60) (h : Mask m (Gr.steps n L t).left) : m < 18446744073709551616 := by
  refine Gr.lt64 h60 ?_
  refine Nat.lt_of_not_le fun hge => ?_
  obtain ⟨i, h1, h2⟩ := Nat.exists_ge_and_testBit_of_ge_two_pow hge
  have := left_lt t i ((h i).symm.trans h2)
  omega
theorem Mask.start (n : Nat) (L : El) : Mask (2 ^ n - 1) (Gr.steps n L 0).left := fun j => Gr.bit_all n j
theorem Mask.next {n m : Nat} {L : El} {t i : Nat} (h60 : n ≤ 60) (h : Mask m (Gr.steps n L t).left) (hi : Gr.first n (Gr.okAt L (Gr.steps n L t).left) = i) (hin : i < n) :
    Mask (m &&& (18446744073709551615 - 2 ^ i)) (Gr.steps n L (t + 1)).left := fun j => by
  rw [Gr.bit_clear (mask_lt h60 h) (by omega), h j]
  show _ = (Gr.step n L (Gr.steps n L t)).left j
  rw [Gr.step_go (by omega), hi]
theorem steps_row {n : Nat} {L : El} {t i : Nat} (hi : Gr.first n (Gr.okAt L (Gr.steps n L t).left) = i) (hin : i < n) : (Gr.steps n L (t + 1)).row = (Gr.steps n L t).row ++ [i] := by
  show (Gr.step n L (Gr.steps n L t)).row = _
  rw [Gr.step_go (by omega), hi]
theorem steps_many {n : Nat} {L : El} (hO : Gr.Ok n L) {t i : Nat} (hi : Gr.first n (Gr.okAt L (Gr.steps n L t).left) = i) (hin : i < n) : Gr.many (Gr.steps n L t).left n = Gr.many (Gr.steps n L (t + 1)).left n + 1 := Gr.many_step hO (by omega)
theorem many_all (n : Nat) (L : El) : Gr.many (Gr.steps n L 0).left n = n := by
  have key : ∀ m, m ≤ n → Gr.many (fun i => decide (i < n)) m = m := fun m hm => by
    induction m with
    | zero => rfl
    | succ m ih =>
      show Gr.many _ m + _ = _
      rw [ih (by omega), if_pos (by simp; omega)]
  exact key n (Nat.le_refl _)
theorem steps_len {n : Nat} {L : El} : ∀ t, (Gr.steps n L t).row.length ≤ t
  | 0 => Nat.le_refl _
  | t + 1 => by
    have ih := steps_len (n := n) (L := L) t
    show (Gr.step n L (Gr.steps n L t)).row.length ≤ _
    by_cases c : Gr.first n (Gr.okAt L (Gr.steps n L t).left) < n
    · rw [Gr.step_go c]; simp; omega
    · rw [Gr.step_stuck c]; omega
theorem mask_int {n : Nat} (h60 : n ≤ 60) : IntKind.u64.wrap (IntKind.u64.wrap ((2 : Int) ^ n) - 1) = ((2 ^ n - 1 : Nat) : Int) := by
  have h1 : 2 ^ n ≤ 2 ^ 60 := Nat.pow_le_pow_right (by decide) h60
  have h2 : 0 < 2 ^ n := Nat.pow_pos (by decide)
  rw [← Gr.cast_pow]
  generalize (2 ^ n : Nat) = z at *
  rw [IntWalk.u64_in (z : Int) ⟨by omega, by omega⟩, show (z : Int) - 1 = ((z - 1 : Nat) : Int) from by omega]
  exact IntWalk.u64_in _ ⟨by omega, by omega⟩
def OrderPost (n : Nat) (L : El) (w : World) (e : Ending) (w' : World) : Prop :=
  (Gr.knot n L = [] ∧ Nats2 (Gr.steps n L n).row w e w') ∨ (Gr.knot n L ≠ [] ∧ e = .returned (.tuple #[.slice none 0 0, .int .i64 8]) ∧ Below w.heap.size w w')
/-- all are done: there was no knot -/
theorem order_done {n : Nat} {L : El} (hO : Gr.Ok n L) {t : Nat} (h : Mask 0 (Gr.steps n L t).left) : Gr.knot n L = [] := (Gr.knot_nil hO).2 fun i hr => by
  have := Gr.knot_left hO hr t i hr hr
  rw [← h i] at this
  simp at this
theorem order_t {n : Nat} {L : El} {t : Nat} (h : Mask 0 (Gr.steps n L t).left) (hm : Gr.many (Gr.steps n L t).left n + t = n) : t = n := by
  have : Gr.many (Gr.steps n L t).left n = 0 := Gr.many_none fun i _ => by rw [← h i]; simp
  omega
/-- nothing can go on: there is a knot -/
theorem order_stuck {n m : Nat} {L : El} (hO : Gr.Ok n L) {t : Nat} (h : Mask m (Gr.steps n L t).left) (hm : m ≠ 0) (hs : ∀ j, j < n → Gr.okAt L (Gr.steps n L t).left j = false) : Gr.knot n L ≠ [] := fun hk => by
  have : ∃ i, m.testBit i = true := by
    refine Classical.byContradiction fun hc => hm (Gr.zero_of fun j => ?_)
    cases hb : m.testBit j with
    | false => rfl
    | true => exact (hc ⟨j, hb⟩).elim
  obtain ⟨i, hi⟩ := this
  rw [h i] at hi
  have h1 := Gr.some_first hO ((Gr.knot_nil hO).1 hk) (left_lt t i hi) hi
  obtain ⟨_, _, g3⟩ := Gr.first_spec n (Gr.okAt L (Gr.steps n L t).left)
  have := g3 h1
  rw [hs _ h1] at this
  cases this
theorem Order_bad (z : Int) (L : El) (a : Option Addr) (n cap : Nat) (w : World) (hn : n = L.length) (hmax : n ≤ 9223372036854775807) (hL : Edges w a L) (hb : (graphE z z L != 0) = true) :
    Calls Try.prog 184 #[.int .i64 z, .slice a n cap] w fun e w' => e = .returned (.tuple #[.slice none 0 0, .int .i64 (graphE z z L)]) ∧ Below w.heap.size w w' := by
  have HL := Lib.hid hL
  have HN := Lib.hid hn
  clear hL hn
  go_enter Try.func184, Try.ntmps184
  go_wp2_with (go_at_call 183; refine Calls.mono (gCheck_any z L _ _ _ _ HN.out hmax HL.out) ?_; rintro e w1 ⟨rfl, hB1⟩)
  go_ret2
  exact ⟨rfl, hB1⟩
structure OW (n H : Nat) (L : El) (t : Nat) (v : Value) (w wr : World) : Prop where
  row : wr.rowIs H 214 n (u64s (Gr.rowN (swap L)))
  own : wr.ownsRow (H + 1) 3 1 v (Gr.steps n L t).row.length (nats (Gr.steps n L t).row)
  below : Below w.heap.size w wr
set_option maxRecDepth 20000 in
set_option maxHeartbeats 4000000 in
theorem Order_good (n : Nat) (L : El) (a : Option Addr) (l cap : Nat) (w : World) (hn : l = L.length) (hL : Edges w a L) (hE : graphE n n L = 0) :
    Calls Try.prog 184 #[.int .i64 n, .slice a l cap] w (OrderPost n L w) := by
  obtain ⟨_, g1, _, _, g2, g3⟩ := graphE_good hE
  have h60 : n ≤ 60 := by omega
  have hl4 : l ≤ 400 := by omega
  have HL := Lib.hid hL
  have HN := Lib.hid hn
  have HO := Lib.hid (okG g3)
  have HE := Lib.hid hE
  clear hL hn hE g1 g2 g3
  have hmk := run_make_row' (P := Try.prog) 213 214 (.int .u64 0) 8 Try.underlying213 infoU64 rfl .i64 .i64 n (by omega) (by omega)
  go_enter Try.func184, Try.ntmps184
  go_wp2_with (go_at_call 183; refine Calls.mono (gCheck_any n L _ _ _ _ HN.out (by omega) HL.out) ?_; rintro e w1 ⟨rfl, hB1⟩; rw [HE.out])
  clear hmk
  have HLB := Lib.hid (HL.out.below hB1 (Nat.le_refl _))
  have hs1 := hB1.size
  go_loopw [23] (fun x wr => ∃ k : Nat, k ≤ l ∧ x = .int .i64 k ∧ Hid (wr.rowIs w1.heap.size 214 n (u64s (Gr.rowK (swap L) k))) ∧ Below w1.heap.size w1 wr) (fun x _ => l - (intOf x).toNat)
  case atStart => exact ⟨0, by omega, rfl, Lib.hid ((rowIs_made_at _ _ _ _ rfl).congr fun i hi => by simp [u64s, Gr.rowK]), by go_grown⟩
  case round =>
    obtain ⟨k, hk, rfl, HR, hB⟩ := hrel
    by_cases hkl : k < l
    · obtain ⟨b, off, rfl, hb, hat⟩ := HLB.out (by have := HN.out; omega)
      obtain ⟨⟨x, y⟩, hx⟩ : ∃ x, L[k]? = some x := ⟨_, List.getElem?_eq_getElem (by have := HN.out; omega)⟩
      obtain ⟨q0, q1⟩ := hat.below hB hb k x y hx
      obtain ⟨o1, o2, o3, o4⟩ := HO.out _ (List.mem_of_getElem? hx)
      simp only at o1 o2 o3 o4
      have HX := Lib.hid (rowK_go (swap_at hx))
      have hbr : b < wr.heap.size := Nat.lt_of_lt_of_le hb hB.size
      obtain ⟨j, rfl⟩ := Int.eq_ofNat_of_zero_le o1
      obtain ⟨i, rfl⟩ := Int.eq_ofNat_of_zero_le o3
      have hi : i < n := by omega
      have hj : j < 60 := by omega
      have hHs := HR.out.lt
      have c0 := HR.out.cell hi
      have c1 := HR.out.frozen i
      have hlt := Gr.lt64 h60 (Gr.rowK_lt (swap_ok HO.out) i k (by have := HN.out; simp [swap]; omega))
      have HOR := Lib.hid (Gr.or_pow hlt hj)
      clear hlt
      unfold u64s at c0
      have HS : Hid ((wr.setCell ⟨w1.heap.size, i, none⟩ (.int .u64 ((Gr.rowK (swap L) k i ||| 2 ^ j : Nat) : Int))).rowIs w1.heap.size 214 n (u64s (Gr.rowK (swap L) (k + 1)))) := Lib.hid ((HR.out.set i _).congr fun m hm => by
        unfold u64s
        rw [HX.out]
        by_cases e : m = i
        · subst e; simp
        · have : ¬ (i : Int) = (m : Int) := by omega
          simp [e, this])
      generalize Gr.rowK (swap L) k i = z at *
      have hi1 : (0 : Int) ≤ (i : Int) := by omega
      have hi2 : (i : Int) < (n : Int) := by omega
      have hj1 : (0 : Int) ≤ (j : Int) := by omega
      clear hat hx
      go_wp2_with fail
      go_region
      all_goals
        go_wp2_with fail
        go_roundw
        case rel =>
          refine ⟨k + 1, by omega, rfl, Lib.hid ?_, by go_grown⟩
          rw [HOR.out]
          exact (HS.out.alloc _).drew
        case measure => simp [intOf]; omega
    · obtain rfl : k = l := by omega
      have HR2 : Hid (wr.rowIs w1.heap.size 214 n (u64s (Gr.rowN (swap L)))) := Lib.hid (by
        have := HR.out
        rwa [HN.out, show L.length = (swap L).length from by simp [swap]] at this)
      have HW : Hid (OW n w1.heap.size L 0 (.slice none 0 0) w wr) := Lib.hid ⟨HR2.out, World.ownsRow_nil _ _ _ _, hB1.trans (hB.mono hs1)⟩
      have hlr := HR2.out.lt
      have hsh : IntKind.u64.wrap (IntKind.u64.wrap ((2 : Int) ^ n) - 1) = ((2 ^ n - 1 : Nat) : Int) := mask_int h60
      clear HR
      go_wp2_with fail
      have HM0 := Lib.hid (Mask.start n L)
      have HQ0 := Lib.hid (many_all n L)
      go_loopg [10, 11] n (fun q x v wx => ∃ t m : Nat, x = .int .u64 m ∧ q + t = n ∧ Hid (Gr.many (Gr.steps n L t).left n = q) ∧ Hid (Mask m (Gr.steps n L t).left) ∧ Hid (OW n w1.heap.size L t v w wx))
      case atStart => exact ⟨0, _, rfl, by omega, HQ0, HM0, HW⟩
      case round =>
        clear HW HM0 HQ0
        obtain ⟨t, m, rfl, hqt, HQ, HM, HW⟩ := hrel
        by_cases hm0 : m = 0
        · subst hm0
          have HT := Lib.hid (order_t HM.out (by have := HQ.out; omega))
          have HK := Lib.hid (order_done HO.out HM.out)
          have HV := Lib.hid (IsVals.own HW.out.own)
          go_wp2_with fail
          go_ret2
          exact .inl ⟨HK.out, _, rfl, by have := HV.out; rwa [HT.out] at this, HW.out.below⟩
        · have hmb : ((m : Int) != 0) = true := by simp; omega
          have HMN := Lib.hid hm0
          have hmlt := mask_lt h60 HM.out
          clear hm0
          have hrl := HW.out.row.lt
          have hsz := HW.out.below.size
          obtain ⟨gq, rfl⟩ : ∃ q, q = gk := ⟨_, rfl⟩
          go_wp2_with fail
          go_loop [12] (fun x => ∃ i : Nat, i ≤ n ∧ x = .int .i64 i ∧ Hid (∀ j, j < i → Gr.okAt L (Gr.steps n L t).left j = false)) (fun x => n - (intOf x).toNat)
          case atStart => exact ⟨0, by omega, rfl, Lib.hid fun j hj => absurd hj (by omega)⟩
          case round =>
            obtain ⟨i, hi, rfl, HJ⟩ := hrel
            by_cases hin : i < n
            · have c0 := HW.out.row.cell hin
              unfold u64s at c0
              have htz := Gr.test_zero (n := i) hmlt
              have hni : ((i : Int) == n) = false := by simp; omega
              have HA := Lib.hid (ahead_zero HO.out i m (Gr.steps n L t).left HM.out)
              have HAN := Lib.hid (u64_and_nat (Gr.rowN (swap L) i) m (Gr.lt64 (Nat.le_refl _) (rowN_lt60 (swap_ok HO.out) h60 i)) hmlt)
              have HSTEP := Lib.hid (show Gr.okAt L (Gr.steps n L t).left i = false → ∀ j, j < i + 1 → Gr.okAt L (Gr.steps n L t).left j = false from fun h j hj => by
                by_cases e : j = i
                · rw [e]; exact h
                · exact HJ.out j (by omega))
              generalize Gr.rowN (swap L) i = z at *
              cases hb : m.testBit i with
              | false =>
                rw [hb] at htz
                have HJ2 := Lib.hid (HSTEP.out (by
                  rw [HM.out i] at hb
                  simp [Gr.okAt, hb]))
                clear hb
                go_wp2_with fail
                go_round
                case rel => exact ⟨i + 1, by omega, rfl, HJ2⟩
                case measure => simp [intOf]; omega
              | true =>
                rw [hb] at htz
                have hl : (Gr.steps n L t).left i = true := (HM.out i).symm.trans hb
                have HAA := Lib.hid (HA.out hl)
                clear hb hl
                by_cases hz : z &&& m = 0
                · have hzb : (bits BinOp.and IntKind.u64 (z : Int) (m : Int) != 0) = false := by rw [HAN.out, hz]; rfl
                  have HF := Lib.hid (Gr.first_is HJ.out (by omega) (fun _ => HAA.out.1 hz))
                  have HOWN := Lib.hid HW.out.own
                  have hlen := steps_len (n := n) (L := L) t
                  have HROW := Lib.hid (steps_row HF.out hin)
                  have HMANY := Lib.hid (steps_many HO.out HF.out hin)
                  have HM2 := Lib.hid (HM.out.next h60 HF.out hin)
                  have HCL := Lib.hid (Gr.clear_pow hmlt (show i < 60 by omega))
                  clear hz
                  go_wp2_with ((at_builtin; refine wpList_push _ (by rfl) _ _ 58 (by rfl) (w1.heap.size + 1) 3 (.int .i64 0) 8 Try.underlying58 infoInt (by rfl) u11 (Gr.steps n L t).row.length _ (nat1 i) _ rfl (by rfl) HOWN.out (by rfl) (by rfl) (by unfold maxLen; omega) (by omega) (by omega) ?_; intro gg cap2 w4 hown1 hgrow1 hgb hgl; have HP := Lib.hid hown1; have HG := Lib.hid hgrow1; clear hown1 hgrow1 hgb))
                  have HW2 : Hid (OW n w1.heap.size L (t + 1) (.slice (some ⟨gg, 0, none⟩) ((Gr.steps n L t).row.length + 1) cap2) w w4) := Lib.hid ⟨rowIs_grown HW.out.row HG.out (ownBlock_ne HOWN.out (by omega)), by rw [HROW.out, nats_snoc]; simpa using HP.out, HW.out.below.grown HG.out hsz (ownBlock_ge HOWN.out (by omega))⟩
                  rw [HCL.out]
                  go_roundg (gq - 1)
                  case measure => have := HMANY.out; have := HQ.out; omega
                  case rel => exact ⟨t + 1, _, rfl, by have := HMANY.out; have := HQ.out; omega, Lib.hid (by have := HMANY.out; have := HQ.out; omega), HM2, HW2⟩
                · have hzb : (bits BinOp.and IntKind.u64 (z : Int) (m : Int) != 0) = true := by rw [HAN.out]; simp; omega
                  have HJ2 := Lib.hid (HSTEP.out (by
                    cases hk : Gr.okAt L (Gr.steps n L t).left i with
                    | false => rfl
                    | true => exact absurd (HAA.out.2 hk) hz))
                  clear hz
                  go_wp2_with fail
                  go_round
                  case rel => exact ⟨i + 1, by omega, rfl, HJ2⟩
                  case measure => simp [intOf]; omega
            · have HK := Lib.hid (order_stuck HO.out HM.out HMN.out (fun j hj => HJ.out j (by omega)))
              have hni : ((i : Int) == n) = true := by simp; omega
              go_wp2_with fail
              go_ret2
              exact .inr ⟨HK.out, rfl, HW.out.below⟩
theorem Order_nil (n : Nat) (L : El) (a : Option Addr) (l cap : Nat) (w : World) (hn : l = L.length) (hL : Edges w a L) (hE : graphE n n L = 0) (hk : Gr.knot n L = []) :
    Calls Try.prog 184 #[.int .i64 n, .slice a l cap] w (Nats2 (Gr.steps n L n).row w) := (Order_good n L a l cap w hn hL hE).mono fun e w' h => by
  rcases h with h | h
  · exact h.2
  · exact (h.1 hk).elim
theorem Order_cyc (n : Nat) (L : El) (a : Option Addr) (l cap : Nat) (w : World) (hn : l = L.length) (hL : Edges w a L) (hE : graphE n n L = 0) (hk : Gr.knot n L ≠ []) :
    Calls Try.prog 184 #[.int .i64 n, .slice a l cap] w fun e w' => e = .returned (.tuple #[.slice none 0 0, .int .i64 8]) ∧ Below w.heap.size w w' := (Order_good n L a l cap w hn hL hE).mono fun e w' h => by
  rcases h with h | h
  · exact (hk h.1).elim
  · exact h.2
end Go.Proofs.Ytfjoakhcgpckgaa
