/- Contract: who is reached from those who have nobody. -/
import Derived.Test.YtfjoakhcgpckgaaDoorMatchPairs
namespace Go.Proofs.YtfjoakhcgpckgaaDoor
open Go.ChangeShapes Go.WideShapes Go.ChangeAt Go.RowKit
set_option linter.unusedVariables false
open Gr (El)
open Mt
theorem outK_spec (h : Hs) (i : Nat) : ∀ q, (outK h q i = -1 ∧ ∀ x, x < q → h x ≠ (i : Int)) ∨ ∃ k : Nat, k < q ∧ outK h q i = (k : Int) ∧ h k = (i : Int)
  | 0 => .inl ⟨rfl, fun x hx => by omega⟩
  | q + 1 => by
    by_cases e : h q = (i : Int)
    · exact .inr ⟨q, by omega, by simp [outK, e], e⟩
    · have e2 : outK h (q + 1) i = outK h q i := by simp [outK, e]
      rw [e2]
      rcases outK_spec h i q with ⟨h1, h2⟩ | ⟨k, h1, h2, h3⟩
      · exact .inl ⟨h1, fun x hx => by
          rcases Nat.lt_or_ge x q with h3 | h3
          · exact h2 x h3
          · obtain rfl : x = q := by omega
            exact e⟩
      · exact .inr ⟨k, by omega, h2, h3⟩
structure Alt (may : Nat → Nat) (n m : Nat) (h : Hs) (S : Nat → Prop) (lf rt : Nat) : Prop where
  l : ∀ i, lf.testBit i = true ↔ i < n ∧ ((∀ x, h x ≠ (i : Int)) ∨ ∃ k, rt.testBit k = true ∧ h k = (i : Int))
  r : ∀ k, rt.testBit k = true → k < m ∧ S k
  s : ∀ i, lf.testBit i = true → ∀ k, Ed may i k → S k
  b : lf < 2 ^ 60 ∧ rt < 2 ^ 60
  z : (∀ i, i < n → ∃ x, h x = (i : Int)) → lf = 0
theorem Alt.step {may : Nat → Nat} {n m : Nat} {h : Hs} {S : Nat → Prop} {lf rt i k j : Nat} (a : Alt may n m h S lf rt) (hO : Mt.Ok (Ed may) n m h) (hS : Shut (Ed may) h S) (hn : n ≤ 60) (hm : m ≤ 60) (hi : lf.testBit i = true) (hk : Ed may i k) (hkm : k < m) (hj : h k = (j : Int)) : Alt may n m h S (lf ||| 2 ^ j) (rt ||| 2 ^ k) := by
  have hjn := (hO.edge k j hj).1
  have hSk := a.s i hi k hk
  have hNj : ∀ k', Ed may j k' → S k' := by
    obtain ⟨j', h1, h2⟩ := hS k hSk
    rw [hj] at h1
    have e := Int.ofNat_inj.1 h1
    subst e
    exact h2
  refine ⟨fun i' => ?_, fun k' hk' => ?_, fun i' hi' k' e => ?_, ⟨or60 a.b.1 (by omega), or60 a.b.2 (by omega)⟩, fun hz => by rw [a.z hz, Nat.zero_testBit] at hi; cases hi⟩
  · rw [Gr.bit_set, Bool.or_eq_true, a.l i', decide_eq_true_eq]
    constructor
    · rintro (⟨h1, h2⟩ | e)
      · refine ⟨h1, ?_⟩
        rcases h2 with h2 | ⟨x, h3, h4⟩
        · exact .inl h2
        · exact .inr ⟨x, by rw [Gr.bit_set, h3]; rfl, h4⟩
      · subst e
        exact ⟨hjn, .inr ⟨k, by rw [Gr.bit_set]; simp, hj⟩⟩
    · rintro ⟨h1, h2 | ⟨x, h3, h4⟩⟩
      · exact .inl ⟨h1, .inl h2⟩
      · rw [Gr.bit_set, Bool.or_eq_true, decide_eq_true_eq] at h3
        rcases h3 with h3 | e
        · exact .inl ⟨h1, .inr ⟨x, h3, h4⟩⟩
        · subst e
          rw [hj] at h4
          exact .inr (Int.ofNat_inj.1 h4)
  · rw [Gr.bit_set, Bool.or_eq_true, decide_eq_true_eq] at hk'
    rcases hk' with h1 | e
    · exact a.r k' h1
    · subst e; exact ⟨hkm, hSk⟩
  · rw [Gr.bit_set, Bool.or_eq_true, decide_eq_true_eq] at hi'
    rcases hi' with h1 | e2
    · exact a.s i' h1 k' e
    · subst e2; exact hNj k' e
/-- what comes of it -/
structure AltE (may : Nat → Nat) (n m : Nat) (h : Hs) (lf rt : Nat) : Prop where
  l : ∀ i, lf.testBit i = true ↔ i < n ∧ ((∀ x, h x ≠ (i : Int)) ∨ ∃ k, rt.testBit k = true ∧ h k = (i : Int))
  r : ∀ k, rt.testBit k = true → k < m ∧ ∃ j : Nat, h k = (j : Int)
  e : ∀ i, lf.testBit i = true → ∀ k, Ed may i k → rt.testBit k = true
  b : lf < 2 ^ 60 ∧ rt < 2 ^ 60
  z : (∀ i, i < n → ∃ x, h x = (i : Int)) → lf = 0
theorem Alt.done {may : Nat → Nat} {n m : Nat} {h : Hs} {S : Nat → Prop} {lf rt : Nat} (a : Alt may n m h S lf rt) (hS : Shut (Ed may) h S) (hc : ∀ i, lf.testBit i = true → ∀ k, Ed may i k → rt.testBit k = true) : AltE may n m h lf rt :=
  ⟨a.l, fun k hk => ⟨(a.r k hk).1, by obtain ⟨j, hj, _⟩ := hS k (a.r k hk).2; exact ⟨j, hj⟩⟩, hc, a.b, a.z⟩
def AltPost (n m : Nat) (L : El) (w : World) (e : Ending) (w' : World) : Prop := ∃ (h : Hs) (lf rt : Nat), e = .returned (.tuple #[.int .u64 (lf : Int), .int .u64 (rt : Int)]) ∧ AllR (Gr.rowN L) n h ∧ Mt.Ok (Ed (Gr.rowN L)) n m h ∧ AltE (Gr.rowN L) n m h lf rt ∧ Below w.heap.size w w'
set_option maxRecDepth 20000 in
set_option maxHeartbeats 6400000 in
theorem alt_any (n m : Nat) (L : El) (a : Option Addr) (l cap : Nat) (w : World) (hn : n ≤ 60) (hm : m ≤ 60) (hl : l = L.length) (hl4 : l ≤ 400) (hL : Edges w a L) (hO : Ok2 n m L) (hT : Gr.Bru w) (hG : 0 < w.heap.size) :
    Calls Tryd.prog 25 #[.int .i64 (n : Int), .int .i64 (m : Int), .slice a l cap] w fun e w' => AltPost n m L w e w' := by
  have HC := Lib.hid (pairs_any n m L a l cap w hn hm hl hl4 hL hO hT hG)
  have HT := Lib.hid hT
  have HLT := Lib.hid (rowN_lt hO hn hm)
  obtain ⟨may, hmay⟩ : ∃ may, Gr.rowN L = may := ⟨_, rfl⟩
  have HMY := Lib.hid hmay
  rw [hmay] at HLT
  clear hl hl4 hL hO hT hmay
  go_enter Tryd.func25, Tryd.ntmps25
  obtain ⟨w0, rfl⟩ : ∃ x, x = w := ⟨_, rfl⟩
  go_wp2_with (go_at_call 24; refine Calls.mono HC.out ?_; rintro e w1 ⟨gt, gm, gh, go, h, rfl, hW⟩; have HW := Lib.hid hW; clear hW)
  obtain ⟨s, htb⟩ := HW.out.tab
  rw [HMY.out] at htb
  have hpr := HW.out.pairs
  rw [HMY.out] at hpr
  obtain ⟨S, hSh, hSu⟩ := hpr.shut
  have HTB := Lib.hid htb
  have HOK := Lib.hid hpr.ok
  have HSH := Lib.hid hSh
  have HSU := Lib.hid hSu
  have HOUT := Lib.hid HW.out.out
  have hgol := HW.out.out.lt
  have HTT := Lib.hid (HT.out.below HW.out.bel hG)
  have t0 := htb.c0
  have t1 := htb.c1
  have tl := htb.tab.lt
  have ml := htb.row.lt
  have hl := htb.has.lt
  clear htb hpr hSh hSu HC
  have HL0 : Hid (∀ j, (0 : Nat).testBit j = (decide (j < 0) && decide (outK h m j < 0))) := Lib.hid (fun j => by simp)
  go_loopg [6, 25] n (fun gk y x wr => ∃ q lf : Nat, q + gk = n ∧ x = .int .i64 (q : Int) ∧ y = .int .u64 (lf : Int) ∧ Hid (∀ j, lf.testBit j = (decide (j < q) && decide (outK h m j < 0))) ∧ Hid (lf < 2 ^ 60) ∧ wr = w1)
  case atStart => exact ⟨0, 0, by omega, rfl, rfl, HL0, Lib.hid (by decide), rfl⟩
  case round =>
    clear HL0
    obtain ⟨q, lf, hq, rfl, rfl, HL, HB, rfl⟩ := hrel
    by_cases hqn : q < n
    · have hqn2 : (q : Int) < (n : Int) := by omega
      have hq0 : (0 : Int) ≤ (q : Int) := by omega
      have c1 : wr.cell? ⟨go, q, none⟩ = some (.int .i64 (outK h m q)) := World.rowIs.cell HOUT.out hqn
      obtain ⟨y, hy⟩ : ∃ y, outK h m q = y := ⟨_, rfl⟩
      rw [hy] at c1
      have HY := Lib.hid hy
      clear hy
      have HOR := Lib.hid (Gr.or_pow (a := lf) (i := q) (by have := HB.out; omega) (by omega))
      by_cases hy0 : y < 0
      · have hyb : decide (y < 0) = true := by simp [hy0]
        have HL2 : Hid (∀ j, (lf ||| 2 ^ q).testBit j = (decide (j < q + 1) && decide (outK h m j < 0))) := Lib.hid (fun j => by
          rw [Gr.bit_set, HL.out j]
          by_cases e : q = j
          · subst e; simp [HY.out, hy0]
          · have : (j < q + 1) ↔ (j < q) := by omega
            simp [e, this])
        have HB2 := Lib.hid (or60 HB.out (show q < 60 by omega))
        go_wp2_with fail
        go_roundg (gk - 1)
        case measure => omega
        case rel => exact ⟨q + 1, lf ||| 2 ^ q, by omega, by simp, by rw [HOR.out], HL2, HB2, rfl⟩
      · have hyb : decide (y < 0) = false := by simp only [hy0, decide_false]
        have HL2 : Hid (∀ j, lf.testBit j = (decide (j < q + 1) && decide (outK h m j < 0))) := Lib.hid (fun j => by
          rw [HL.out j]
          by_cases e : q = j
          · subst e; simp [HY.out]; omega
          · have : (j < q + 1) ↔ (j < q) := by omega
            simp [this])
        go_wp2_with fail
        go_roundg (gk - 1)
        case measure => omega
        case rel => exact ⟨q + 1, lf, by omega, by simp, rfl, HL2, HB, rfl⟩
    · obtain rfl : q = n := by omega
      have hqn2 : ¬ (q : Int) < (q : Int) := by omega
      have HA0 : Hid (Alt may q m h S lf 0) := Lib.hid (by
        have key : ∀ i, lf.testBit i = true ↔ i < q ∧ ∀ x, h x ≠ (i : Int) := fun i => by
          rw [HL.out i]
          simp only [Bool.and_eq_true, decide_eq_true_eq]
          constructor
          · rintro ⟨h1, h2⟩
            refine ⟨h1, fun x hx => ?_⟩
            rcases outK_spec h i m with ⟨_, h4⟩ | ⟨k, _, h4, _⟩
            · exact h4 x (HOK.out.edge x i hx).2.1 hx
            · omega
          · rintro ⟨h1, h2⟩
            refine ⟨h1, ?_⟩
            rcases outK_spec h i m with ⟨h3, _⟩ | ⟨k, _, _, h4⟩
            · omega
            · exact (h2 k h4).elim
        refine ⟨fun i => ?_, fun k hk => (by rw [Nat.zero_testBit] at hk; cases hk), fun i hi k e => HSU.out i ((key i).1 hi).1 ((key i).1 hi).2 k e, ⟨HB.out, by decide⟩, fun hz => Nat.eq_of_testBit_eq fun i => by
          rw [Nat.zero_testBit]
          cases hb : lf.testBit i with
          | false => rfl
          | true =>
            obtain ⟨h1, h2⟩ := (key i).1 hb
            obtain ⟨x, hx⟩ := hz i h1
            exact (h2 x hx).elim⟩
        rw [key i]
        constructor
        · rintro ⟨h1, h2⟩; exact ⟨h1, .inl h2⟩
        · rintro ⟨h1, h2 | ⟨k, h3, _⟩⟩
          · exact ⟨h1, h2⟩
          · rw [Nat.zero_testBit] at h3; cases h3)
      clear HL HB hqn hq HOUT hgol
      obtain ⟨n, rfl⟩ : ∃ n, n = q := ⟨_, rfl⟩
      obtain ⟨w2, rfl⟩ : ∃ x, x = wr := ⟨_, rfl⟩
      go_wp2_with fail
      go_loopg [6, 7, 12] (un 0 m + 1) (fun gk x y v wr => ∃ (lf rt : Nat) (fl : Bool), x = .int .u64 (lf : Int) ∧ y = .int .u64 (rt : Int) ∧ v = .bool fl ∧ un rt m + (if fl then 1 else 0) ≤ gk ∧ Hid (Alt may n m h S lf rt) ∧ Hid (fl = false → ∀ i, lf.testBit i = true → ∀ k, Ed may i k → rt.testBit k = true) ∧ wr = w2)
      case atStart => exact ⟨lf, 0, true, rfl, rfl, rfl, by simp, HA0, Lib.hid (fun h => by cases h), rfl⟩
      case round =>
        clear HA0
        obtain ⟨lf, rt, fl, rfl, rfl, rfl, hg, HA, HF, rfl⟩ := hrel
        cases fl with
        | false =>
          have HQ : Hid (AltPost n m L w0 (.returned (.tuple #[.int .u64 (lf : Int), .int .u64 (rt : Int)])) wr) := Lib.hid ⟨h, lf, rt, rfl, HW.out.all, by rw [HMY.out]; exact HOK.out, by rw [HMY.out]; exact HA.out.done HSH.out (HF.out rfl), HW.out.bel⟩
          go_wp2_with fail
          go_ret2
          exact HQ.out
        | true =>
          obtain ⟨M0, hM0⟩ : ∃ M, M = un rt m := ⟨_, rfl⟩
          have HM0 := Lib.hid hM0
          have hg2 : M0 + 1 ≤ gk := by rw [hM0]; simpa using hg
          clear hg hM0 HF
          obtain ⟨gq, rfl⟩ : ∃ g, g = gk := ⟨_, rfl⟩
          obtain ⟨w3, rfl⟩ : ∃ x, x = wr := ⟨_, rfl⟩
          have HU0 : Hid (un rt m + (if false = true then 1 else 0) ≤ M0) := Lib.hid (by have := HM0.out; simp; omega)
          go_wp2_with fail
          go_loopg [6, 7, 12, 39] n (fun gk x y v u wr => ∃ (i lf rt : Nat) (fl : Bool), i + gk = n ∧ x = .int .u64 (lf : Int) ∧ y = .int .u64 (rt : Int) ∧ v = .bool fl ∧ u = .int .i64 (i : Int) ∧ Hid (un rt m + (if fl = true then 1 else 0) ≤ M0) ∧ Hid (Alt may n m h S lf rt) ∧ Hid (fl = false → ∀ i', i' < i → lf.testBit i' = true → ∀ k, Ed may i' k → rt.testBit k = true) ∧ wr = w3)
          case atStart => exact ⟨0, lf, rt, false, by omega, rfl, rfl, rfl, rfl, HU0, HA, Lib.hid (fun _ i' hi => by omega), rfl⟩
          case round =>
            clear HU0 HA HM0
            obtain ⟨i, lf, rt, fl, hi, rfl, rfl, rfl, rfl, HU, HA, HF, rfl⟩ := hrel
            by_cases hin : i < n
            · have hin2 : (i : Int) < (n : Int) := by omega
              have hi0 : (0 : Int) ≤ (i : Int) := by omega
              have HTZ := Lib.hid (Gr.test_zero (s := lf) (n := i) (by have := HA.out.b.1; omega))
              have hlf64 : lf < 18446744073709551616 := by have := HA.out.b.1; omega
              have hmin : min i 64 = i := by omega
              have hi64 : i ≤ 64 := by omega
              cases hbit : lf.testBit i with
              | false =>
                have hbb : (bits .and .u64 ((lf : Int) / 2 ^ i) 1 == 0) = true := by rw [HTZ.out, hbit]; rfl
                have HF2 : Hid (fl = false → ∀ i', i' < i + 1 → lf.testBit i' = true → ∀ k, Ed may i' k → rt.testBit k = true) := Lib.hid (fun hfl i' hi' hb => by
                  rcases Nat.lt_or_ge i' i with h1 | h1
                  · exact HF.out hfl i' h1 hb
                  · obtain rfl : i' = i := by omega
                    rw [hbit] at hb; cases hb)
                go_wp2_with fail
                go_roundg (gk - 1)
                case measure => omega
                case rel => exact ⟨i + 1, lf, rt, fl, by omega, rfl, rfl, rfl, by simp, HU, HA, HF2, rfl⟩
              | true =>
                have hbb : (bits .and .u64 ((lf : Int) / 2 ^ i) 1 == 0) = false := by rw [HTZ.out, hbit]; rfl
                have HBIT := Lib.hid hbit
                have km := World.rowIs.cell HTB.out.row hin
                unfold u64s at km
                have HAN := Lib.hid (u64_andNot_nat (may i) rt (by have := lt60 hm (HLT.out i); omega) (by have := HA.out.b.2; omega))
                obtain ⟨z0, hz0⟩ : ∃ z, may i &&& (18446744073709551615 - rt) = z := ⟨_, rfl⟩
                have HZ0 : Hid (∀ k, z0.testBit k = ((may i).testBit k && !rt.testBit k)) := Lib.hid (fun k => by rw [← hz0]; exact left_bits (lt60 hm (HLT.out i)) HA.out.b.2 k)
                rw [hz0] at HAN
                obtain ⟨yi, hyi⟩ : ∃ y, may i = y := ⟨_, rfl⟩
                rw [hyi] at HAN km
                clear hz0 hyi hbit HTZ
                obtain ⟨gr, rfl⟩ : ∃ g, g = gk := ⟨_, rfl⟩
                obtain ⟨w5, rfl⟩ : ∃ x, x = wr := ⟨_, rfl⟩
                go_upto_region 16 with fail
                rw [HAN.out]
                clear HAN km hbb
                go_wp2_with fail
                go_loopg [6, 7, 12, 14] (un rt m + 1) (fun gk x y v u wr => ∃ (z lf rt : Nat) (fl : Bool), un rt m + 1 ≤ gk ∧ x = .int .u64 (lf : Int) ∧ y = .int .u64 (rt : Int) ∧ v = .bool fl ∧ u = .int .u64 (z : Int) ∧ Hid (∀ k, z.testBit k = ((may i).testBit k && !rt.testBit k)) ∧ Hid (lf.testBit i = true) ∧ Hid (un rt m + (if fl = true then 1 else 0) ≤ M0) ∧ Hid (Alt may n m h S lf rt) ∧ Hid (fl = false → ∀ i', i' < i → lf.testBit i' = true → ∀ k, Ed may i' k → rt.testBit k = true) ∧ wr = w5)
                case atStart => exact ⟨z0, lf, rt, fl, Nat.le_refl _, rfl, rfl, rfl, rfl, HZ0, HBIT, HU, HA, HF, rfl⟩
                case round =>
                  clear HZ0 HBIT HU HA HF
                  obtain ⟨z, lf, rt, fl, hg, rfl, rfl, rfl, rfl, HZ, HBIT, HU, HA, HF, rfl⟩ := hrel
                  by_cases hz : z = 0
                  · subst hz
                    have HF2 : Hid (fl = false → ∀ i', i' < i + 1 → lf.testBit i' = true → ∀ k, Ed may i' k → rt.testBit k = true) := Lib.hid (fun hfl i' hi' hb k e => by
                      rcases Nat.lt_or_ge i' i with h1 | h1
                      · exact HF.out hfl i' h1 hb k e
                      · obtain rfl : i' = i := by omega
                        have h1 := HZ.out k
                        rw [Nat.zero_testBit, show (may i').testBit k = true from e] at h1
                        simpa using h1.symm)
                    go_wp2_with fail
                    go_roundg (gr - 1)
                    case measure => omega
                    case rel => exact ⟨i + 1, lf, rt, fl, by omega, rfl, rfl, rfl, by simp, HU, HA, HF2, rfl⟩
                  · have hzb : ((z : Int) != 0) = true := by simp; omega
                    have HZN := Lib.hid hz
                    have hz64 : z < 18446744073709551616 := by
                      have : z < 2 ^ 60 := Nat.lt_pow_two_of_testBit _ (fun j hj => by
                        rw [HZ.out j, Nat.testBit_lt_two_pow (Nat.lt_of_lt_of_le (lt60 hm (HLT.out i)) (Nat.pow_le_pow_right (by decide) hj))]; rfl)
                      omega
                    have hz1 : 1 ≤ z := by omega
                    have hzu : IntKind.u64.wrap ((z : Int) - 1) = ((z - 1 : Nat) : Int) := by
                      rw [show (z : Int) - 1 = ((z - 1 : Nat) : Int) from by omega]
                      exact IntWalk.u64_in _ ⟨by omega, by omega⟩
                    have HAND := Lib.hid (u64_and_nat z (z - 1) hz64 (by omega))
                    clear hz hzu
                    go_upto_region 19 with (go_at_call 48; refine Calls.mono (Gr.tz_low z _ hz64 HZN.out HTT.out) ?_; rintro e w4 ⟨⟨k, rfl, hp1, hp2, hp3⟩, hw4⟩; obtain rfl := hw4; have HP1 := Lib.hid hp1; have HP3 := Lib.hid hp3; clear hp1 hp3)
                    have hk1 := HZ.out k
                    rw [HP1.out] at hk1
                    have hk2 : (may i).testBit k = true ∧ rt.testBit k = false := by simpa using hk1.symm
                    have hkm : k < m := bit_lt (HLT.out i) hk2.1
                    have HE : Hid (Ed may i k) := Lib.hid hk2.1
                    have HNS := Lib.hid hk2.2
                    obtain ⟨j, hj, _⟩ := HSH.out k (HA.out.s i HBIT.out k hk2.1)
                    have hjn := (HOK.out.edge k j hj).1
                    have q2 : wr.cell? ⟨gh, k, none⟩ = some (.int .i64 (j : Int)) := by have := World.rowIs.cell HTB.out.has hkm; unfold hsF at this; rwa [hj] at this
                    have hkmi : (k : Int) < (m : Int) := by omega
                    have hkk0 : (0 : Int) ≤ (k : Int) := by omega
                    have hjj0 : (0 : Int) ≤ (j : Int) := by omega
                    have hUM := un_mark HNS.out m hkm
                    have HOR1 := Lib.hid (Gr.or_pow (a := rt) (i := k) (by have := HA.out.b.2; omega) (by omega))
                    have HOR2 := Lib.hid (Gr.or_pow (a := lf) (i := j) (by have := HA.out.b.1; omega) (by omega))
                    have HA2 := Lib.hid (HA.out.step HOK.out HSH.out hn hm HBIT.out HE.out hkm hj)
                    have HB2 : Hid ((lf ||| 2 ^ j).testBit i = true) := Lib.hid (by rw [Gr.bit_set, HBIT.out]; rfl)
                    have HU2 : Hid (un (rt ||| 2 ^ k) m + (if true = true then 1 else 0) ≤ M0) := Lib.hid (by
                      have h1 := HU.out
                      simp only [if_true]
                      omega)
                    have HZ2 : Hid (∀ k', (z &&& (z - 1)).testBit k' = ((may i).testBit k' && !(rt ||| 2 ^ k).testBit k')) := Lib.hid (fun k' => by
                      rw [Gr.bit_low HP1.out HP3.out k', HZ.out k', Gr.bit_set]
                      by_cases e : k' = k
                      · subst e; simp
                      · have : ¬ k = k' := fun e2 => e e2.symm
                        simp [e, this])
                    clear hk1 hk2 hj
                    go_wp2_with fail
                    go_roundg (gk - 1)
                    case measure => omega
                    case rel => exact ⟨z &&& (z - 1), lf ||| 2 ^ j, rt ||| 2 ^ k, true, by omega, by rw [HOR2.out], by rw [HOR1.out], rfl, by rw [show (z : Int) - 1 = ((z - 1 : Nat) : Int) from by omega, HAND.out], HZ2, HB2, HU2, HA2, Lib.hid (fun h => by cases h), rfl⟩
            · obtain rfl : i = n := by omega
              have hin2 : ¬ (i : Int) < (i : Int) := by omega
              have hU := HU.out
              have HF2 : Hid (fl = false → ∀ i', lf.testBit i' = true → ∀ k, Ed may i' k → rt.testBit k = true) := Lib.hid (fun hfl i' hb => HF.out hfl i' ((HA.out.l i').1 hb).1 hb)
              go_wp2_with fail
              go_roundg (gq - 1)
              case measure => omega
              case rel => exact ⟨lf, rt, fl, rfl, rfl, rfl, by have := HU.out; omega, HA, HF2, rfl⟩
end Go.Proofs.YtfjoakhcgpckgaaDoor
