/- Contracts: strings.IndexRune at a rune that is not ASCII, strings.IndexAny at any text: among the signs. -/
import Derived.Test.YtkemlckmfgacdaaGreatDoorJobP1
import Derived.Test.YtkemlckmfgacdaaGreatDoorJobP3
import Derived.Laws.RangeAny
import Derived.Laws.RangeString
import Derived.Laws.Runes
import Derived.WalkMore
import Derived.Lib.OthersKept
import Derived.BigQuiet
import Derived.Deep.QuietTactic
import Derived.Deep.LoopGhost
import Derived.Deep.CutBlock
import Derived.Deep.DeepCutAuto
import Derived.Test.YtkemlckmfgacdaaGreatDoorJobP0
import Derived.RegionTactic
import Derived.Deep.RegionHeld3
namespace Go.Proofs.YtkemlckmfgacdaaGreatDoor
open Go.ChangeShapes Go.WideShapes Go.ChangeAt Go.RowKit
set_option linter.unusedVariables false
open Tp
/-- the signs, as text -/
def SG : ByteArray := ⟨#[63, 61, 62, 33, 40, 41, 38, 124]⟩
theorem SG_size : SG.size = 8 := rfl
theorem SG_all : ∀ b ∈ SG.data.toList, b.toNat < 128 := by decide
theorem SG_low (i : Nat) (h : i < SG.size) : (SG[i]'h).toNat < 128 := SG_all _ (Array.getElem_mem_toList (xs := SG.data) h)
theorem iter_below (w : World) (s : ByteArray) (i : Nat) : Below w.heap.size w (w.iter s i) := (Below.refl _ _).alloc (Nat.le_refl _) _
set_option maxRecDepth 100000 in
set_option maxHeartbeats 4000000 in
theorem IndexRune_err (w : World) : Calls Tryz.prog 122 #[.string SG, .int .i32 65533] w fun e w' => e = .returned (.int .i64 (-1)) ∧ Below w.heap.size w w' := by
  obtain ⟨s, hs⟩ : ∃ s, SG = s := ⟨_, rfl⟩
  have hsz : s.size = 8 := by rw [← hs]; rfl
  have HLO : Hid (∀ i (h : i < s.size), (s[i]'h).toNat < 128) := Lib.hid (by rw [← hs]; exact SG_low)
  rw [hs]
  have HSZ := Lib.hid hsz
  clear hs hsz
  go_enter Tryz.func122, Tryz.ntmps122
  go_wp2_with fail
  go_loopg [5, 6] 8 (fun g _ _ wx => ∃ i : Nat, i + g = 8 ∧ wx = w.iter s i)
  case atStart => exact ⟨0, by omega, rfl⟩
  case round =>
    obtain ⟨i, hig, rfl⟩ := hrel
    cases gk with
    | zero =>
      have hnx := run_next_end (P := Tryz.prog) w s i (h := by rw [HSZ.out]; omega)
      go_wp2_with fail
      go_ret
      exact ⟨rfl, iter_below w s i⟩
    | succ g =>
      have hi : i < s.size := by rw [HSZ.out]; omega
      obtain ⟨x, hx⟩ : ∃ x : UInt8, s[i]'hi = x := ⟨_, rfl⟩
      have hx1 : x.toNat < 128 := by rw [← hx]; exact HLO.out i hi
      have hnx := fun ty => run_next_ascii (P := Tryz.prog) w s i ty hi (by rw [hx]; exact hx1)
      rw [hx] at hnx
      have hne : ((x.toNat : Int) == 65533) = false := by
        simp only [beq_eq_false_iff_ne]; omega
      clear hx
      go_wp2_with fail
      go_roundg g
      case measure => omega
      case rel => exact ⟨i + 1, by omega, rfl⟩
theorem index_none (c : UInt8) : ∀ (s : List UInt8), (∀ b ∈ s, b.toNat < 128) → 128 ≤ c.toNat → Lib.indexByte s c = -1
  | [], _, _ => rfl
  | b :: s, hs, hc => by
    have h1 := hs b (by simp)
    have h2 : (b == c) = false := by
      simp only [beq_eq_false_iff_ne]
      intro e; subst e; omega
    rw [Lib.indexByte, index_none c s (fun x hx => hs x (by simp [hx])) hc, h2]
    rfl
set_option maxRecDepth 100000 in
set_option maxHeartbeats 8000000 in
theorem IndexRune_hi (r : Int) (h1 : 128 ≤ r) (w : World) : Calls Tryz.prog 122 #[.string SG, .int .i32 r] w fun e w' => e = .returned (.int .i64 (-1)) ∧ Below w.heap.size w w' := by
  by_cases hE : r = 65533
  · subst hE; exact IndexRune_err w
  have he : (r == 65533) = false := by simpa using hE
  have h0 : (0 : Int) ≤ r := by omega
  have h2 : ¬ r < 128 := by omega
  have HV := Lib.hid (fun W => Tryz.utf8_ValidRune r W)
  obtain ⟨vb, hvb⟩ : ∃ b, Lib.validRune r = b := ⟨_, rfl⟩
  have HVB := Lib.hid hvb
  rw [hvb] at HV
  clear hE hvb
  cases vb with
  | false =>
    rw [show SG = (⟨#[63, 61, 62, 33, 40, 41, 38, 124]⟩ : ByteArray) from rfl]
    go_enter Tryz.func122, Tryz.ntmps122
    go_wp2_with fail
    refine Calls.mono (HV.out _) ?_
    rintro e w1 ⟨rfl, rfl⟩
    go_wp2_with fail
    go_ret
    exact ⟨rfl, Below.refl _ _⟩
  | true =>
    have hval : Utf8.valid r = true := (validRune_eq r).trans HVB.out
    obtain ⟨z2, z4, hz⟩ := encode_facts r hval h1
    obtain ⟨E, hEE⟩ : ∃ E, Utf8.encode r = E := ⟨_, rfl⟩
    have hcv : ∀ W, (convert 21 9 (.int .i32 r)).run Tryz.prog W = .ok (.string E) W := fun W => (run_convert_int_string W _ _ .i32 r (by rw [Tryz.underlying21]; rfl) Tryz.underlying9).trans (by rw [hEE])
    rw [hEE] at z2 z4 hz
    have key : ∀ (z : Nat) (hzs : E.size = z), 2 ≤ z → z ≤ 4 → Calls Tryz.prog 122 #[.string SG, .int .i32 r] w fun e w' => e = .returned (.int .i64 (-1)) ∧ Below w.heap.size w w' := by
      intro z hzs hz2 hz4
      have hlt : z - 1 < E.size := by omega
      obtain ⟨c, hc⟩ : ∃ c, E[z - 1]'hlt = c := ⟨_, rfl⟩
      have hc1 : 128 ≤ c.toNat := by
        have := hz (by omega)
        rw [← hc]
        simpa [hzs] using this
      have HIX : Hid (∀ a b W, Calls Tryz.prog 130 #[.string (SG.extract a b), .int .u8 (c.toNat : Int)] W fun e w' => e = .returned (.int .i64 (-1)) ∧ W = w') := Lib.hid (fun a b W => by
        have h := Tryz.strings_IndexByte (SG.extract a b) (c.toNat : Int) W
        rw [index_none _ _ (fun x hx => SG_all x (mem_extract hx)) (by simpa using hc1)] at h
        exact h.mono fun _ _ ⟨h1, h2⟩ => ⟨h1, h2.symm⟩)
      rcases (by omega : z = 2 ∨ z = 3 ∨ z = 4) with rfl | rfl | rfl
      · have e1 : E[1]'hlt = c := hc
        have q1 : (⟨#[63, 61, 62, 33, 40, 41, 38, 124]⟩ : ByteArray)[1]'(by decide) = 61 := rfl
        have g : ((61 : Int) == (c.toNat : Int)) = false := by simp only [beq_eq_false_iff_ne]; omega
        have g2 : ((61 : Int) != (c.toNat : Int)) = true := by simp only [bne_iff_ne]; omega
        have HI2 := Lib.hid (fun W => HIX.out 2 8 W)
        obtain ⟨SX, hSX⟩ : ∃ X, SG.extract 2 8 = X := ⟨_, rfl⟩
        rw [hSX] at HI2
        have hSX : (⟨#[63, 61, 62, 33, 40, 41, 38, 124]⟩ : ByteArray).extract 2 8 = SX := hSX
        have w1 : IntKind.i64.wrap (1 + 1) = 2 := by decide
        clear hc hz hc1
        rw [show SG = (⟨#[63, 61, 62, 33, 40, 41, 38, 124]⟩ : ByteArray) from rfl]
        go_enter Tryz.func122, Tryz.ntmps122
        go_wp2_with fail
        refine Calls.mono (HV.out _) ?_
        rintro e w1 ⟨rfl, rfl⟩
        go_wp2_with fail
        go_step3
        go_wp2_with fail
        go_rounds 1
        go_step3
        go_wp2_with fail
        go_quiet (fail)
        go_wp2_with fail
        go_quiet ((go_at_call 130; first | exact quiet_left (HI2.out _) | exact quiet_add_left (HI2.out _)))
        go_wp2_with fail
        simp only [Exit.inBlock, Exit.then, Exit.noGoto_ret]
        go_ret
        exact ⟨rfl, below_drewN (Below.refl _ _) _⟩
      · have e1 : E[2]'hlt = c := hc
        have q1 : (⟨#[63, 61, 62, 33, 40, 41, 38, 124]⟩ : ByteArray)[2]'(by decide) = 62 := rfl
        have g : ((62 : Int) == (c.toNat : Int)) = false := by simp only [beq_eq_false_iff_ne]; omega
        have g2 : ((62 : Int) != (c.toNat : Int)) = true := by simp only [bne_iff_ne]; omega
        have HI2 := Lib.hid (fun W => HIX.out 3 8 W)
        obtain ⟨SX, hSX⟩ : ∃ X, SG.extract 3 8 = X := ⟨_, rfl⟩
        rw [hSX] at HI2
        have hSX : (⟨#[63, 61, 62, 33, 40, 41, 38, 124]⟩ : ByteArray).extract 3 8 = SX := hSX
        have w1 : IntKind.i64.wrap (2 + 1) = 3 := by decide
        clear hc hz hc1
        rw [show SG = (⟨#[63, 61, 62, 33, 40, 41, 38, 124]⟩ : ByteArray) from rfl]
        go_enter Tryz.func122, Tryz.ntmps122
        go_wp2_with fail
        refine Calls.mono (HV.out _) ?_
        rintro e w1 ⟨rfl, rfl⟩
        go_wp2_with fail
        go_step3
        go_wp2_with fail
        go_rounds 1
        go_step3
        go_wp2_with fail
        go_quiet (fail)
        go_wp2_with fail
        go_quiet ((go_at_call 130; first | exact quiet_left (HI2.out _) | exact quiet_add_left (HI2.out _)))
        go_wp2_with fail
        simp only [Exit.inBlock, Exit.then, Exit.noGoto_ret]
        go_ret
        exact ⟨rfl, below_drewN (Below.refl _ _) _⟩
      · have e1 : E[3]'hlt = c := hc
        have q1 : (⟨#[63, 61, 62, 33, 40, 41, 38, 124]⟩ : ByteArray)[3]'(by decide) = 33 := rfl
        have g : ((33 : Int) == (c.toNat : Int)) = false := by simp only [beq_eq_false_iff_ne]; omega
        have g2 : ((33 : Int) != (c.toNat : Int)) = true := by simp only [bne_iff_ne]; omega
        have HI2 := Lib.hid (fun W => HIX.out 4 8 W)
        obtain ⟨SX, hSX⟩ : ∃ X, SG.extract 4 8 = X := ⟨_, rfl⟩
        rw [hSX] at HI2
        have hSX : (⟨#[63, 61, 62, 33, 40, 41, 38, 124]⟩ : ByteArray).extract 4 8 = SX := hSX
        have w1 : IntKind.i64.wrap (3 + 1) = 4 := by decide
        clear hc hz hc1
        rw [show SG = (⟨#[63, 61, 62, 33, 40, 41, 38, 124]⟩ : ByteArray) from rfl]
        go_enter Tryz.func122, Tryz.ntmps122
        go_wp2_with fail
        refine Calls.mono (HV.out _) ?_
        rintro e w1 ⟨rfl, rfl⟩
        go_wp2_with fail
        go_step3
        go_wp2_with fail
        go_rounds 1
        go_step3
        go_wp2_with fail
        go_quiet (fail)
        go_wp2_with fail
        go_quiet ((go_at_call 130; first | exact quiet_left (HI2.out _) | exact quiet_add_left (HI2.out _)))
        go_wp2_with fail
        simp only [Exit.inBlock, Exit.then, Exit.noGoto_ret]
        go_ret
        exact ⟨rfl, below_drewN (Below.refl _ _) _⟩
    exact key E.size rfl z2 z4
/-- none of the signs stands ahead of place i -/
def NoSg (s : Bs) (i : Nat) : Prop := ∀ (j : Nat) (b : UInt8), j < i → s[j]? = some b → Ar.sgn b = false
theorem idx_none {s : Bs} (h : NoSg s s.length) : Lib.indexAny s Ar.signs = -1 := by
  rw [Ar.index_word]
  have : Ar.rest s = [] := by
    unfold Ar.rest
    have key : ∀ b ∈ s, Ar.sgn b = false := fun b hb => by
      obtain ⟨j, hj, e⟩ := List.mem_iff_getElem.1 hb
      exact h j b hj (by rw [← e]; exact List.getElem?_eq_getElem hj)
    clear h
    induction s with
    | nil => rfl
    | cons x s ih =>
      rw [List.dropWhile_cons_of_pos (by rw [key x (by simp)]; rfl)]
      exact ih (fun b hb => key b (by simp [hb]))
  rw [if_pos this]
theorem idx_at {s : Bs} {i : Nat} {b : UInt8} (h : NoSg s i) (hb : s[i]? = some b) (hs : Ar.sgn b = true) : Lib.indexAny s Ar.signs = (i : Int) := by
  induction s generalizing i with
  | nil => simp at hb
  | cons x s ih =>
    rw [Lib.indexAny, Ar.sgn_signs]
    cases i with
    | zero => simp at hb; subst hb; rw [hs]; rfl
    | succ i =>
      have h0 := h 0 x (by omega) (by simp)
      have h2 := ih (i := i) (fun j b hj hjb => h (j + 1) b (by omega) (by simpa using hjb)) (by simpa using hb)
      rw [h0, h2]
      have : ((i : Int) == -1) = false := by simp only [beq_eq_false_iff_ne]; omega
      simp [this]
theorem NoSg.step {s : Bs} {i j : Nat} (h : NoSg s i) (hj : ∀ (k : Nat) (b : UInt8), i ≤ k → k < j → s[k]? = some b → Ar.sgn b = false) : NoSg s j := fun k b hk hb => by
  rcases Nat.lt_or_ge k i with h1 | h1
  · exact h k b h1 hb
  · exact hj k b h1 hk hb
theorem sgn_high {b : UInt8} (h : 128 ≤ b.toNat) : Ar.sgn b = false := by
  unfold Ar.sgn
  simp only [Bool.or_eq_false_iff, beq_eq_false_iff_ne]
  refine ⟨⟨⟨⟨⟨⟨⟨?_, ?_⟩, ?_⟩, ?_⟩, ?_⟩, ?_⟩, ?_⟩, ?_⟩ <;> (intro e; subst e; revert h; decide)
theorem cont_high (s : ByteArray) (k : Nat) (h : (decide (k < s.size) && ((s.get! k).toNat / 64 == 2)) = true) (hk : k < s.size) : 128 ≤ (s[k]'hk).toNat := by
  simp only [Bool.and_eq_true, beq_iff_eq] at h
  have e : s.get! k = s[k]'hk := get_at s k hk
  rw [← e]
  omega
/-- what a decoded rune passes over is no ASCII -/
theorem decode_over (s : ByteArray) (pos : Nat) (h : pos < s.size) (ha : 128 ≤ (s[pos]'h).toNat) : ∀ k, pos ≤ k → k < pos + (Utf8.decode s pos).2 → ∀ hk : k < s.size, 128 ≤ (s[k]'hk).toNat := by
  intro k h1 h2 hk
  have hn : ¬ (s[pos]'h).toNat < 128 := by omega
  by_cases hkp : k = pos
  · subst hkp; exact ha
  simp only [Utf8.decode, get_at s pos h, hn, if_false] at h2
  have key : ∀ j, k = pos + j → (decide (pos + j < s.size) && ((s.get! (pos + j)).toNat / 64 == 2)) = true → 128 ≤ (s[k]'hk).toNat := by
    intro j hj hc
    subst hj
    exact cont_high s _ hc hk
  split at h2
  · rename_i hc
    simp only [Bool.and_eq_true] at hc
    split at h2
    · simp only at h2
      exact key 1 (by omega) (by simp only [Bool.and_eq_true]; exact hc.2)
    · simp only at h2; omega
  · split at h2
    · rename_i hc
      simp only [Bool.and_eq_true] at hc
      split at h2
      · simp only at h2
        rcases (by omega : k = pos + 1 ∨ k = pos + 2) with e | e
        · exact key 1 e (by simp only [Bool.and_eq_true]; exact hc.1.2)
        · exact key 2 e (by simp only [Bool.and_eq_true]; exact hc.2)
      · simp only at h2; omega
    · split at h2
      · rename_i hc
        simp only [Bool.and_eq_true] at hc
        split at h2
        · simp only at h2
          rcases (by omega : k = pos + 1 ∨ k = pos + 2 ∨ k = pos + 3) with e | e | e
          · exact key 1 e (by simp only [Bool.and_eq_true]; exact hc.1.1.2)
          · exact key 2 e (by simp only [Bool.and_eq_true]; exact hc.1.2)
          · exact key 3 e (by simp only [Bool.and_eq_true]; exact hc.2)
        · simp only at h2; omega
      · simp only at h2; omega
theorem decode_in (s : ByteArray) (pos : Nat) (h : pos < s.size) : pos + (Utf8.decode s pos).2 ≤ s.size := by
  simp only [Utf8.decode]
  repeat' split
  all_goals simp_all
  all_goals omega
theorem decode_pos (s : ByteArray) (pos : Nat) (h : pos < s.size) : 1 ≤ (Utf8.decode s pos).2 := by
  simp only [Utf8.decode]
  repeat' split
  all_goals simp
/-- the text's iterator lies at k -/
structure ItW (k : Nat) (s : ByteArray) (i : Nat) (w wx : World) : Prop where
  it : wx.heap[k]? = some (.stringIter s i)
  below : Below k w wx
set_option maxRecDepth 100000 in
set_option maxHeartbeats 8000000 in
theorem IndexAny_short (s : Bs) (w : World) (h8 : s.length ≤ 8) : Calls Tryz.prog 109 #[.string (bts s), .string SG] w fun e w' => e = .returned (.int .i64 (Lib.indexAny s Ar.signs)) ∧ Below w.heap.size w w' := by
  obtain ⟨S, hS⟩ : ∃ S, bts s = S := ⟨_, rfl⟩
  obtain ⟨n, hn⟩ : ∃ n, S.size = n := ⟨_, rfl⟩
  have hns : s.length = n := by rw [← hn, ← hS, bts_size]
  have hSl : lst S = s := by rw [← hS, lst_bts]
  rw [hS]
  obtain ⟨k, hk⟩ : ∃ k, w.heap.size = k := ⟨_, rfl⟩
  obtain ⟨G, hG⟩ : ∃ G, SG = G := ⟨_, rfl⟩
  have hGs : G.size = 8 := by rw [← hG]; rfl
  have hGl : G.data.toList = Ar.signs := by rw [← hG]; rfl
  have hG1 : ¬ G.toList = [] := by rw [ByteArray.toList_eq, hGl]; simp [Ar.signs]
  have hG2 : G.toList.isEmpty = false := by rw [ByteArray.toList_eq, hGl]; rfl
  have HRA : Hid (∀ (x : UInt8) W, x.toNat < 128 → Calls Tryz.prog 122 #[.string G, .int .i32 (x.toNat : Int)] W fun e w' => e = .returned (.int .i64 (Lib.indexByte Ar.signs x)) ∧ w' = W) := Lib.hid (fun x W hx => by
    have h := Tryz.strings_IndexRune_ascii G (x.toNat : Int) W (by omega) (by omega)
    rw [hGl] at h
    simpa using h)
  have HRH : Hid (∀ (r : Int) W, 128 ≤ r → Calls Tryz.prog 122 #[.string G, .int .i32 r] W fun e w' => e = .returned (.int .i64 (-1)) ∧ Below W.heap.size W w') := Lib.hid (fun r W hr => by rw [← hG]; exact IndexRune_hi r hr W)
  have HSU : Hid (∀ W, Calls Tryz.prog 123 #[.int .i64 (n : Int)] W fun e w' => e = .returned (.bool false) ∧ w' = W) := Lib.hid (fun W => by
    have h := Tryz.strings_shouldUseASCIISet (n : Int) W
    rwa [decide_eq_false (by omega)] at h)
  rw [hG]
  have HSL := Lib.hid hSl
  have HNS := Lib.hid hns
  have HN := Lib.hid hn
  have HK := Lib.hid hk
  have HGS := Lib.hid hGs
  clear hS hns hSl hG hGl hk
  go_enter Tryz.func109, Tryz.ntmps109
  go_wp2_with fail
  refine Calls.mono (HSU.out _) ?_
  rintro e w1 ⟨rfl, rfl⟩
  go_wp2_with fail
  clear hGs hn
  rw [HK.out]
  go_loopg [9, 10] n (fun g _ _ wx => ∃ i : Nat, i + g = n ∧ Hid (ItW k S i w1 wx) ∧ Hid (NoSg s i))
  case atStart => exact ⟨0, by omega, Lib.hid ⟨by rw [← HK.out]; exact World.iter_heap w1 S 0, by rw [← HK.out]; exact iter_below w1 S 0⟩, Lib.hid (fun j b hj => absurd hj (by omega))⟩
  case round =>
    obtain ⟨i, hig, HI, HNO⟩ := hrel
    have HIG := Lib.hid hig
    clear hig
    by_cases hin : i < n
    · have hi : i < S.size := by rw [HN.out]; exact hin
      obtain ⟨x, hx⟩ : ∃ x : UInt8, S[i]'hi = x := ⟨_, rfl⟩
      have hxs : s[i]? = some x := by
        rw [← HSL.out]
        unfold lst
        rw [Array.getElem?_toList]
        exact (Array.getElem?_eq_getElem hi).trans (congrArg some hx)
      have HXS := Lib.hid hxs
      have HIN := Lib.hid hin
      rcases Nat.lt_or_ge x.toNat 128 with h1 | h1
      · have hnx := fun ty => Lib.run_next_ascii_at (P := Tryz.prog) wr k S i ty HI.out.it hi (by rw [hx]; exact h1)
        rw [hx] at hnx
        have HI2 : Hid (ItW k S (i + 1) w1 (wr.iterAt k S (i + 1))) := Lib.hid ⟨Lib.iterAt_heap wr k S i (i + 1) HI.out.it, Lib.below_iterAt HI.out.below (Nat.le_refl _) S (i + 1)⟩
        have HC := Lib.hid (fun W => HRA.out x W h1)
        have hcon := Lib.contains_iff_indexByte Ar.signs x
        rw [Ar.sgn_signs] at hcon
        obtain ⟨ib, hib⟩ : ∃ i, Lib.indexByte Ar.signs x = i := ⟨_, rfl⟩
        rw [hib] at HC hcon
        clear hx hxs hib hi h1
        cases hsg : Ar.sgn x with
        | true =>
          rw [hsg] at hcon
          have hge : (0 : Int) ≤ ib := of_decide_eq_true hcon.symm
          have HR := Lib.hid (idx_at HNO.out HXS.out hsg)
          clear hcon hsg hin
          go_wp2_with fail
          refine Calls.mono (HC.out _) ?_
          rintro e w2 ⟨rfl, rfl⟩
          go_wp2_with fail
          go_ret
          exact ⟨ret_int HR.out.symm, by rw [HK.out]; exact HI2.out.below⟩
        | false =>
          rw [hsg] at hcon
          have hlt : ¬ (0 : Int) ≤ ib := of_decide_eq_false hcon.symm
          have HN2 : Hid (NoSg s (i + 1)) := Lib.hid (HNO.out.step (fun j b h1 h2 hb => by
            obtain rfl : j = i := by omega
            have := HXS.out.symm.trans hb
            cases this; exact hsg))
          clear hcon hsg hin
          go_wp2_with fail
          refine Calls.mono (HC.out _) ?_
          rintro e w2 ⟨rfl, rfl⟩
          go_wp2_with fail
          go_roundg (n - (i + 1))
          case measure => (have := HIG.out; have := HIN.out; omega)
          case rel => exact ⟨i + 1, by have := HIG.out; have := HIN.out; omega, HI2, HN2⟩
      · obtain ⟨r, hr⟩ : ∃ r, (Utf8.decode S i).1 = r := ⟨_, rfl⟩
        obtain ⟨z, hz⟩ : ∃ z, (Utf8.decode S i).2 = z := ⟨_, rfl⟩
        have hnx := fun ty => Lib.run_next_any_at (P := Tryz.prog) wr k S i ty HI.out.it hi
        have hr1 := (decode_high S i hi (by rw [hx]; exact h1)).1
        have hz1 := decode_pos S i hi
        have hz2 := decode_in S i hi
        have hov := decode_over S i hi (by rw [hx]; exact h1)
        rw [hr, hz] at hnx
        rw [hr] at hr1
        rw [hz] at hz1 hz2 hov
        have HI2 : Hid (ItW k S (i + z) w1 (wr.iterAt k S (i + z))) := Lib.hid ⟨Lib.iterAt_heap wr k S i (i + z) HI.out.it, Lib.below_iterAt HI.out.below (Nat.le_refl _) S (i + z)⟩
        have HC := Lib.hid (fun W => HRH.out (r : Int) W (by omega))
        have HN2 : Hid (NoSg s (i + z)) := Lib.hid (HNO.out.step (fun j b g1 g2 hb => by
          have hj : j < S.size := by
            have := (List.getElem?_eq_some_iff.1 hb).1
            rw [HN.out, ← HNS.out]; exact this
          have h2 := hov j g1 g2 hj
          have e : S[j]'hj = b := by
            rw [← HSL.out] at hb
            exact lst_at hb hj
          rw [e] at h2
          exact sgn_high h2))
        have HZ : Hid (1 ≤ z ∧ i + z ≤ n) := Lib.hid ⟨hz1, by rw [← HN.out]; exact hz2⟩
        have hkl : k < (wr.iterAt k S (i + z)).heap.size := (Array.getElem?_eq_some_iff.1 HI2.out.it).1
        clear hx hxs hr hz hr1 hz1 hz2 hov h1 hi hin
        go_wp2_with fail
        refine Calls.mono (HC.out _) ?_
        rintro e w2 ⟨rfl, hb⟩
        have HI3 : Hid (ItW k S (i + z) w1 w2) := Lib.hid ⟨(hb.block k hkl).trans HI2.out.it, HI2.out.below.trans (hb.mono (Nat.le_of_lt hkl))⟩
        clear hb hkl
        go_wp2_with fail
        go_roundg (n - (i + z))
        case measure => (have := HIG.out; have := HZ.out; omega)
        case rel => exact ⟨i + z, by have := HIG.out; have := HZ.out; omega, HI3, HN2⟩
    · obtain rfl : i = n := by have := HIG.out; omega
      have hnx := fun ty => Lib.run_next_end_at (P := Tryz.prog) wr k S i ty HI.out.it (by rw [HN.out]; omega)
      have HR := Lib.hid (idx_none (s := s) (by rw [HNS.out]; exact HNO.out))
      clear hin
      go_wp2_with fail
      go_ret
      exact ⟨ret_int HR.out.symm, by rw [HK.out]; exact HI.out.below⟩
theorem SG_bts : bts Ar.signs = SG := rfl
theorem IndexAny_any (s : Bs) (w : World) (hl : s.length < 4294967281) : Calls Tryz.prog 109 #[.string (bts s), .string SG] w fun e w' => e = .returned (.int .i64 (Lib.indexAny s Ar.signs)) ∧ Below w.heap.size w w' := by
  rcases Nat.lt_or_ge 8 s.length with h | h
  · have h116 : (Tryz.prog.info? (Tryz.lays153_ren.t 116)).map (fun i => (i.zero, i.size)) = some (some (.agg (Array.replicate 256 (.bool false))), 256) := by kernel_rfl
    refine Calls.mono (Any.strings_IndexAny_long Tryz.lays153 (zero_of_info h116).1 (zero_of_info h116).2 (bts s) SG w (by decide) (by rw [bts_size]; exact h) (by rw [bts_size]; exact hl) (by decide) (fun j b hb => SG_all b (List.mem_of_getElem? hb))) ?_
    rintro e w' ⟨rfl, rfl⟩
    exact ⟨rfl, ((Below.refl _ _).alloc (Nat.le_refl _) _).alloc (by simp) _⟩
  · exact IndexAny_short s w h
end Go.Proofs.YtkemlckmfgacdaaGreatDoor
/- Texts cut at their front. -/
namespace Go.Proofs.YtkemlckmfgacdaaGreatDoor.Nr
open Go.Proofs.YtkemlckmfgacdaaGreatDoor.Tp
theorem ext_take (x : Bs) (n : Nat) : (bts x).extract 0 n = bts (x.take n) := by
  apply ByteArray.ext
  apply Array.toList_inj.1
  show ((bts x).extract 0 n).data.toList = x.take n
  rw [ByteArray.data_extract]
  simp [bts]
theorem ext_drop (x : Bs) (n : Nat) : (bts x).extract n x.length = bts (x.drop n) := by
  apply ByteArray.ext
  apply Array.toList_inj.1
  show ((bts x).extract n x.length).data.toList = x.drop n
  rw [ByteArray.data_extract]
  simp [bts]
  exact List.take_of_length_le (by simp)
end Go.Proofs.YtkemlckmfgacdaaGreatDoor.Nr
/- The reader of an ask's text in memory; its take and its word. -/
namespace Go.Proofs.YtkemlckmfgacdaaGreatDoor
open Go.ChangeShapes Go.WideShapes Go.ChangeAt Go.RowKit
set_option linter.unusedVariables false
open Tp
/-- all but one block is kept -/
structure But (rb : Nat) (w w' : World) : Prop where
  os : w'.os = w.os
  tape : w'.tape = w.tape
  out : w'.output = w.output
  size : w.heap.size ≤ w'.heap.size
  block : ∀ k, k < w.heap.size → k ≠ rb → w'.heap[k]? = w.heap[k]?
theorem But.refl (rb : Nat) (w : World) : But rb w w := ⟨rfl, rfl, rfl, Nat.le_refl _, fun _ _ _ => rfl⟩
theorem But.ofBelow {rb B : Nat} {w w' : World} (h : Below B w w') (hB : w.heap.size ≤ B) : But rb w w' := ⟨h.os, h.tape, h.output, h.size, fun k hk _ => h.block k (by omega)⟩
theorem But.trans {rb : Nat} {a b c : World} (h : But rb a b) (k : But rb b c) : But rb a c :=
  ⟨k.os.trans h.os, k.tape.trans h.tape, k.out.trans h.out, Nat.le_trans h.size k.size, fun j hj hr => (k.block j (Nat.lt_of_lt_of_le hj h.size) hr).trans (h.block j hj hr)⟩
theorem But.below {rb B : Nat} {w w' : World} (h : But rb w w') (hB : B ≤ rb) (hs : B ≤ w.heap.size) : Below B w w' := ⟨h.os, h.tape, h.out, h.size, fun k hk => h.block k (by omega) (by omega)⟩
theorem But.cell {rb : Nat} {w w' : World} (h : But rb w w') {p : Addr} (h1 : p.block < w.heap.size) (h2 : p.block ≠ rb) : w'.cell? p = w.cell? p := World.cell?_of_block (w := w) (h.block _ h1 h2)
theorem But.frozen {rb : Nat} {w w' : World} (h : But rb w w') {p : Addr} (h1 : p.block < w.heap.size) (h2 : p.block ≠ rb) : w'.frozen? p = w.frozen? p := World.frozen?_of_block (w := w) (h.block _ h1 h2)
theorem But.setCell {rb : Nat} {w w' : World} (h : But rb w w') {a : Addr} (ha : a.block = rb ∨ w.heap.size ≤ a.block) (u : Value) : But rb w (w'.setCell a u) :=
  ⟨h.os, h.tape, h.out, by simpa using h.size, fun k hk hr => (Below.heap_setCell _ _ _ _ (by rcases ha with e | e <;> omega)).trans (h.block k hk hr)⟩
theorem But.alloc {rb : Nat} {w w' : World} (h : But rb w w') (o : Obj) : But rb w (w'.alloc o) :=
  ⟨h.os, h.tape, h.out, Nat.le_trans h.size (by simp), fun k hk hr => (Below.heap_alloc _ _ _ (Nat.lt_of_lt_of_le hk h.size)).trans (h.block k hk hr)⟩
theorem But.drew {rb : Nat} {w w' : World} (h : But rb w w') : But rb w w'.drew := ⟨h.os, h.tape, h.out, h.size, h.block⟩
/-- a reader lies at rb -/
structure RdrW (rb : Nat) (s : Bs) (left : Nat) (w : World) : Prop where
  lt : rb < w.heap.size
  s' : w.cell? ⟨rb, 0, none⟩ = some (.string (bts s))
  l' : w.cell? ⟨rb, 1, none⟩ = some (.int .i64 (left : Int))
  f0 : w.frozen? ⟨rb, 0, none⟩ = false
  f1 : w.frozen? ⟨rb, 1, none⟩ = false
theorem RdrW.step {rb left C : Nat} {s : Bs} {w w' : World} (h : RdrW rb s left w) (hb : Below C w w') (hC : rb < C) : RdrW rb s left w' :=
  ⟨Nat.lt_of_lt_of_le h.lt hb.size, (hb.cell (p := ⟨rb, 0, none⟩) hC).trans h.s', (hb.cell (p := ⟨rb, 1, none⟩) hC).trans h.l', (hb.frozen (p := ⟨rb, 0, none⟩) hC).trans h.f0, (hb.frozen (p := ⟨rb, 1, none⟩) hC).trans h.f1⟩
theorem RdrW.putS {rb left : Nat} {s : Bs} {w : World} (h : RdrW rb s left w) (t : Bs) : RdrW rb t left (w.setCell ⟨rb, 0, none⟩ (.string (bts t))) :=
  ⟨by simpa using h.lt, World.cell?_setCell_same _ _ _ h.s', by rw [World.cell?_setCell_other _ _ _ _ (by intro e; have := congrArg Addr.off e; simp at this)]; exact h.l', by rw [World.frozen?_setCell]; exact h.f0, by rw [World.frozen?_setCell]; exact h.f1⟩
theorem RdrW.putL {rb left : Nat} {s : Bs} {w : World} (h : RdrW rb s left w) (l : Nat) : RdrW rb s l (w.setCell ⟨rb, 1, none⟩ (.int .i64 (l : Int))) :=
  ⟨by simpa using h.lt, by rw [World.cell?_setCell_other _ _ _ _ (by intro e; have := congrArg Addr.off e; simp at this)]; exact h.s', World.cell?_setCell_same _ _ _ h.l', by rw [World.frozen?_setCell]; exact h.f0, by rw [World.frozen?_setCell]; exact h.f1⟩
theorem RdrW.putO {rb left : Nat} {s : Bs} {w : World} (h : RdrW rb s left w) {a : Addr} (ha : a.block ≠ rb) (u : Value) : RdrW rb s left (w.setCell a u) :=
  ⟨by simpa using h.lt, by rw [World.cell?_setCell_other _ _ _ _ (by intro e; exact ha (congrArg Addr.block e))]; exact h.s', by rw [World.cell?_setCell_other _ _ _ _ (by intro e; exact ha (congrArg Addr.block e))]; exact h.l', by rw [World.frozen?_setCell]; exact h.f0, by rw [World.frozen?_setCell]; exact h.f1⟩
set_option maxRecDepth 20000 in
set_option maxHeartbeats 4000000 in
theorem take_no (rb left : Nat) (c : UInt8) (s : Bs) (w : World) (h : RdrW rb s left w) (hn : ∀ t, s ≠ c :: t) : Calls Tryz.prog 91 #[.pointer (some ⟨rb, 0, none⟩), .int .u8 (c.toNat : Int)] w fun e w' => e = .returned (.bool false) ∧ w = w' := by
  have d0 := h.s'
  have hlt := h.lt
  cases s with
  | nil =>
    clear hn h
    go_enter Tryz.func91, Tryz.ntmps91
    rw [show bts [] = (⟨#[]⟩ : ByteArray) from rfl] at d0
    go_wp2_with fail
    go_ret
    exact ⟨rfl, rfl⟩
  | cons x t =>
    have hxc : ¬ x = c := fun e => hn t (by rw [e])
    have hne : ((x.toNat : Int) == (c.toNat : Int)) = false := by
      simp only [beq_eq_false_iff_ne]
      intro e
      exact hxc (UInt8.toNat_inj.1 (by omega))
    obtain ⟨S, hS⟩ : ∃ S, bts (x :: t) = S := ⟨_, rfl⟩
    rw [hS] at d0
    have hsz : 0 < S.size := by rw [← hS, bts_size]; simp
    have hS0 : S[0]'hsz = x := lst_at (s := S) (by rw [← hS, lst_bts]; rfl) hsz
    have hSl : ¬ S.toList = [] := by rw [← hS, bts_toList]; simp
    have hSl2 : S.toList.isEmpty = false := by rw [← hS, bts_toList]; rfl
    clear hn h hxc hS
    go_enter Tryz.func91, Tryz.ntmps91
    go_wp2_with fail
    go_ret
    exact ⟨rfl, rfl⟩
set_option maxRecDepth 20000 in
set_option maxHeartbeats 4000000 in
theorem take_yes (rb left : Nat) (c : UInt8) (t : Bs) (w : World) (h : RdrW rb (c :: t) left w) (hl : t.length ≤ 1099511627776) : Calls Tryz.prog 91 #[.pointer (some ⟨rb, 0, none⟩), .int .u8 (c.toNat : Int)] w fun e w' => e = .returned (.bool true) ∧ w.setCell ⟨rb, 0, none⟩ (.string (bts t)) = w' := by
  have d0 := h.s'
  have f0 := h.f0
  have hlt := h.lt
  have hne : ((c.toNat : Int) == (c.toNat : Int)) = true := by simp
  obtain ⟨S, hS⟩ : ∃ S, bts (c :: t) = S := ⟨_, rfl⟩
  rw [hS] at d0
  obtain ⟨n, hn⟩ : ∃ n, S.size = n := ⟨_, rfl⟩
  have hnl : n = t.length + 1 := by rw [← hn, ← hS, bts_size]; rfl
  have hsz : 0 < S.size := by rw [← hS, bts_size]; simp
  have hS0 : S[0]'hsz = c := lst_at (s := S) (by rw [← hS, lst_bts]; rfl) hsz
  have hSl : ¬ S.toList = [] := by rw [← hS, bts_toList]; simp
  have hSl2 : S.toList.isEmpty = false := by rw [← hS, bts_toList]; rfl
  have hext : S.extract 1 n = bts t := by
    rw [← hS, hnl]
    have := Nr.ext_drop (c :: t) 1
    simpa using this
  obtain ⟨T, hT⟩ : ∃ T, bts t = T := ⟨_, rfl⟩
  rw [hT] at hext ⊢
  have h1n : (1 : Int) ≤ (n : Int) := by omega
  clear h hS hT hnl
  go_enter Tryz.func91, Tryz.ntmps91
  go_wp2_with fail
  go_ret
  exact ⟨rfl, rfl⟩
set_option maxRecDepth 20000 in
set_option maxHeartbeats 4000000 in
theorem word_any (rb left : Nat) (s : Bs) (w : World) (h : RdrW rb s left w) (hl : s.length < 4294967281) : Calls Tryz.prog 92 #[.pointer (some ⟨rb, 0, none⟩)] w fun e w' => e = .returned (.string (bts (Ar.word s))) ∧ RdrW rb (Ar.rest s) left w' ∧ But rb w w' := by
  have HR := Lib.hid h
  have d0 := h.s'
  have hlt := h.lt
  obtain ⟨S, hS⟩ : ∃ S, bts s = S := ⟨_, rfl⟩
  obtain ⟨n, hn⟩ : ∃ n, S.size = n := ⟨_, rfl⟩
  have hns : n = s.length := by rw [← hn, ← hS, bts_size]
  have HI := Lib.hid (IndexAny_any s w hl)
  rw [hS] at d0 HI
  obtain ⟨k, hk⟩ : ∃ k, (Ar.word s).length = k := ⟨_, rfl⟩
  have hkn : k ≤ n := by rw [← hk, hns]; exact Ar.word_len s
  have hx1 : S.extract 0 k = bts (Ar.word s) := by rw [← hS, Nr.ext_take, ← hk, (Ar.word_take s).1]
  have hx2 : S.extract k n = bts (Ar.rest s) := by rw [← hS, hns, Nr.ext_drop, ← hk, (Ar.word_take s).2]
  have HIX := Lib.hid (Ar.index_word s)
  have HWA : Hid (Ar.rest s = [] → k = n) := Lib.hid (fun e => by rw [← hk, Ar.word_all e, hns])
  obtain ⟨A, hA⟩ : ∃ A, bts (Ar.word s) = A := ⟨_, rfl⟩
  obtain ⟨R, hR⟩ : ∃ A, bts (Ar.rest s) = A := ⟨_, rfl⟩
  have HRR := Lib.hid hR
  rw [hA] at hx1 ⊢
  rw [hR] at hx2
  rw [hk] at HIX
  have hk0 : (0 : Int) ≤ (k : Int) := by omega
  have hk1 : (k : Int) ≤ (n : Int) := by omega
  obtain ⟨ix, hix⟩ : ∃ i, Lib.indexAny s Ar.signs = i := ⟨_, rfl⟩
  rw [hix] at HI HIX
  have HX1 := Lib.hid hx1
  clear h hS hns hk hix hA hR
  go_enter Tryz.func92, Tryz.ntmps92
  go_wp2_with fail
  refine Calls.mono HI.out ?_
  rintro e w1 ⟨rfl, hb⟩
  have HR1 : Hid (RdrW rb s left w1) := Lib.hid (HR.out.step hb hlt)
  have HB := Lib.hid hb
  replace d0 := (hb.cell (p := ⟨rb, 0, none⟩) hlt).trans d0
  have f0 := HR1.out.f0
  clear hb
  by_cases hr : Ar.rest s = []
  · obtain rfl : ix = -1 := by have := HIX.out; rwa [if_pos hr] at this
    obtain rfl : k = n := HWA.out hr
    have HR0 := Lib.hid hr
    clear hr
    go_wp2_with fail
    go_ret
    exact ⟨rfl, by rw [HR0.out]; exact HR1.out.putS [], (But.ofBelow (rb := rb) HB.out (Nat.le_refl _)).setCell (a := ⟨rb, 0, none⟩) (.inl rfl) _⟩
  · obtain rfl : ix = (k : Int) := by have := HIX.out; rwa [if_neg hr] at this
    clear hr
    go_wp2_with fail
    go_ret
    exact ⟨rfl, by rw [← HRR.out]; exact HR1.out.putS _, (But.ofBelow (rb := rb) HB.out (Nat.le_refl _)).setCell (a := ⟨rb, 0, none⟩) (.inl rfl) _⟩
end Go.Proofs.YtkemlckmfgacdaaGreatDoor
/- Contract: the program's reader of an ask, as deep as it goes. -/
namespace Go.Proofs.YtkemlckmfgacdaaGreatDoor
open Go.ChangeShapes Go.WideShapes Go.ChangeAt Go.RowKit
set_option linter.unusedVariables false
set_option linter.unusedSimpArgs false
open Tp
/-- the form of an ask's value -/
def Five (v : Value) : Prop := ∃ (k0 : Int) (k1 k2 : ByteArray) (k3 : Int) (ad : Option Addr) (len cap : Nat), v = .agg #[.int .i64 k0, .string k1, .string k2, .int .i64 k3, .slice ad len cap]
/-- what the reader tells, and how it stands behind it -/
def AskQ (rb : Nat) (w : World) (o : Option (Ask × Bs × Nat)) (e : Ending) (w' : World) : Prop :=
  But rb w w' ∧ match o with
  | some (x, r, l) => ∃ v, e = .returned (.tuple #[v, .bool true]) ∧ Five v ∧ AskVP (fun b => w.heap.size ≤ b) w' x v ∧ RdrW rb r l w'
  | none => ∃ v, e = .returned (.tuple #[v, .bool false]) ∧ Five v ∧ ∃ r l, r.length ≤ 1048576 ∧ RdrW rb r l w'
/-- behind the second of two asks -/
def twoE (k : Int) (a : Ask) (o : Option (Ask × Bs × Nat)) : Option (Ask × Bs × Nat) := match o with
  | some (b, 41 :: r2, l2) => some (.mk k [] [] 0 [a, b], r2, l2)
  | _ => none
/-- behind the first of two asks -/
def twoR (N : Nat) (a : Ask) (r : Bs) (l : Nat) : Option (Ask × Bs × Nat) := match r with
  | 124 :: r' => twoE 6 a (Ar.askP N l r')
  | 38 :: r' => twoE 5 a (Ar.askP N l r')
  | _ => none
/-- two asks, behind their bracket -/
def twoP (N left : Nat) (t : Bs) : Option (Ask × Bs × Nat) :=
  match Ar.askP N left t with
  | none => none
  | some (a, r, l) => twoR N a r l
theorem askP_two (N l : Nat) (t : Bs) : Ar.askP (N + 1) (l + 1) (40 :: t) = twoP N l t := by
  unfold Ar.askP twoP
  rfl
theorem twoP_none {N left : Nat} {t : Bs} (h : Ar.askP N left t = none) : twoP N left t = none := by unfold twoP; rw [h]
theorem twoP_some {N left l : Nat} {t r : Bs} {a : Ask} (h : Ar.askP N left t = some (a, r, l)) : twoP N left t = twoR N a r l := by unfold twoP; rw [h]
theorem twoR_or (N : Nat) (a : Ask) (r : Bs) (l : Nat) : twoR N a (124 :: r) l = twoE 6 a (Ar.askP N l r) := rfl
theorem twoR_and (N : Nat) (a : Ask) (r : Bs) (l : Nat) : twoR N a (38 :: r) l = twoE 5 a (Ar.askP N l r) := rfl
theorem twoR_no {N : Nat} {a : Ask} {r : Bs} {l : Nat} (h1 : ∀ t, r ≠ 124 :: t) (h2 : ∀ t, r ≠ 38 :: t) : twoR N a r l = none := by
  unfold twoR
  split
  · rename_i t; exact absurd rfl (h1 t)
  · rename_i t; exact absurd rfl (h2 t)
  · rfl
theorem twoE_no {k : Int} {a b : Ask} {r : Bs} {l : Nat} (h : ∀ t, r ≠ 41 :: t) : twoE k a (some (b, r, l)) = none := by
  unfold twoE
  split
  · rename_i e; injection e with e; injection e with e1 e2; injection e2 with e2 e3; exact absurd e2 (h _)
  · rfl
def zero5 : Value := .agg #[.int .i64 0, .string ⟨#[]⟩, .string ⟨#[]⟩, .int .i64 0, .slice none 0 0]
theorem five_zero : Five zero5 := ⟨_, _, _, _, _, _, _, rfl⟩
/-- a box of an ask that is nothing yet -/
structure Box5 (c : Nat) (w : World) : Prop where
  lt : c < w.heap.size
  r0 : w.cell? ⟨c, 0, none⟩ = some (.int .i64 0)
  r1 : w.cell? ⟨c, 1, none⟩ = some (.string ⟨#[]⟩)
  r2 : w.cell? ⟨c, 2, none⟩ = some (.string ⟨#[]⟩)
  r3 : w.cell? ⟨c, 3, none⟩ = some (.int .i64 0)
  r4 : w.cell? ⟨c, 4, none⟩ = some (.slice none 0 0)
  fz : ∀ i, w.frozen? ⟨c, i, none⟩ = false
theorem Box5.top {w : World} {t : TypeId} {c : Nat} (hc : c = w.heap.size) : Box5 c (w.alloc (.cells #[.int .i64 0, .string ⟨#[]⟩, .string ⟨#[]⟩, .int .i64 0, .slice none 0 0] t)) :=
  ⟨by rw [hc]; simp, (cell_top _ _ _ _ _ hc).trans rfl, (cell_top _ _ _ _ _ hc).trans rfl, (cell_top _ _ _ _ _ hc).trans rfl, (cell_top _ _ _ _ _ hc).trans rfl, (cell_top _ _ _ _ _ hc).trans rfl, fun i => frozen_top _ _ _ _ _ hc⟩
theorem Box5.but {rb c : Nat} {w w' : World} (h : Box5 c w) (hb : But rb w w') (hc : c ≠ rb) : Box5 c w' :=
  ⟨Nat.lt_of_lt_of_le h.lt hb.size, (hb.cell (p := ⟨c, 0, none⟩) h.lt hc).trans h.r0, (hb.cell (p := ⟨c, 1, none⟩) h.lt hc).trans h.r1, (hb.cell (p := ⟨c, 2, none⟩) h.lt hc).trans h.r2, (hb.cell (p := ⟨c, 3, none⟩) h.lt hc).trans h.r3, (hb.cell (p := ⟨c, 4, none⟩) h.lt hc).trans h.r4, fun i => (hb.frozen (p := ⟨c, i, none⟩) h.lt hc).trans (h.fz i)⟩
theorem five_but {rb c : Nat} {w W : World} (h : But rb w W) (hc : w.heap.size ≤ c) (v0 v1 v2 v3 v4 : Value) : But rb w (five W c v0 v1 v2 v3 v4) :=
  ((((h.setCell (a := ⟨c, 0, none⟩) (.inr hc) v0).setCell (a := ⟨c, 1, none⟩) (.inr hc) v1).setCell (a := ⟨c, 2, none⟩) (.inr hc) v2).setCell (a := ⟨c, 3, none⟩) (.inr hc) v3).setCell (a := ⟨c, 4, none⟩) (.inr hc) v4
theorem RdrW.five {rb left c : Nat} {s : Bs} {w : World} (h : RdrW rb s left w) (hc : c ≠ rb) (v0 v1 v2 v3 v4 : Value) : RdrW rb s left (five w c v0 v1 v2 v3 v4) :=
  ((((h.putO (a := ⟨c, 0, none⟩) hc v0).putO (a := ⟨c, 1, none⟩) hc v1).putO (a := ⟨c, 2, none⟩) hc v2).putO (a := ⟨c, 3, none⟩) hc v3).putO (a := ⟨c, 4, none⟩) hc v4
theorem RdrW.alloc {rb left : Nat} {s : Bs} {w : World} (h : RdrW rb s left w) (o : Obj) : RdrW rb s left (w.alloc o) := h.step ((Below.refl w.heap.size w).alloc (Nat.le_refl _) o) h.lt
theorem RdrW.drew {rb left : Nat} {s : Bs} {w : World} (h : RdrW rb s left w) : RdrW rb s left w.drew := h.step ((Below.refl w.heap.size w).drew) h.lt
mutual
/-- an ask's blocks lie in the heap -/
theorem AskVP.lt' {p : Nat → Prop} {w : World} : ∀ (x : Ask) (v : Value), AskVP p w x v → AskVP (fun b => p b ∧ b < w.heap.size) w x v
  | .mk k a b n l, v, h => by
    rw [AskVP] at h ⊢
    obtain ⟨ad, len, cap, e, h1, h2, h3, h5, h6, h4⟩ := h
    refine ⟨ad, len, cap, e, h1, h2, h3, h5, h6, fun hp => ?_⟩
    obtain ⟨bl, off, e2, hlt, hpb, hh⟩ := h4 hp
    exact ⟨bl, off, e2, hlt, ⟨hpb, hlt⟩, AsksVP.lt' l bl off hh⟩
theorem AsksVP.lt' {p : Nat → Prop} {w : World} : ∀ (l : List Ask) (b off : Nat), AsksVP p w l b off → AsksVP (fun b => p b ∧ b < w.heap.size) w l b off
  | [], _, _, _ => by rw [AsksVP]; trivial
  | x :: l, b, off, h => by
    rw [AsksVP] at h ⊢
    obtain ⟨⟨v, h1, h2⟩, h3⟩ := h
    exact ⟨⟨v, h1, AskVP.lt' x v h2⟩, AsksVP.lt' l b (off + 5) h3⟩
end
theorem AskVP.both {p : Nat → Prop} {w w' : World} {x : Ask} {v : Value} (h : AskVP p w x v) (hs : w.heap.size ≤ w'.heap.size) (he : ∀ b, p b → b < w.heap.size → w'.heap[b]? = w.heap[b]?) : AskVP (fun b => p b ∧ b < w.heap.size) w' x v :=
  AskVP.stays (fun b h => h) hs (fun b h hb => he b h.1 hb) _ _ (AskVP.lt' _ _ h)
theorem leaf_vp {p : Nat → Prop} {w : World} (k : Int) (a b : Bs) (n : Int) (ha : a.length ≤ 9223372036854775807) (hb : b.length ≤ 9223372036854775807) : AskVP p w (.mk k a b n []) (.agg #[.int .i64 k, .string (bts a), .string (bts b), .int .i64 n, .slice none 0 0]) := by
  rw [AskVP]
  exact ⟨none, 0, 0, rfl, rfl, Nat.le_refl _, by omega, ha, hb, fun h => absurd h (by omega)⟩
theorem take_yes2 (rb left : Nat) (c : UInt8) (t : Bs) (w : World) (h : RdrW rb (c :: t) left w) (hl : t.length ≤ 1099511627776) : Calls Tryz.prog 91 #[.pointer (some ⟨rb, 0, none⟩), .int .u8 (c.toNat : Int)] w fun e w' => e = .returned (.bool true) ∧ RdrW rb t left w' ∧ But rb w w' := by
  refine Calls.mono (take_yes rb left c t w h hl) ?_
  rintro e w' ⟨rfl, rfl⟩
  exact ⟨rfl, h.putS t, (But.refl rb w).setCell (a := ⟨rb, 0, none⟩) (.inl rfl) _⟩
theorem tree_one {S c B : Nat} {W : World} {y : Ask} {x0 x3 : Int} {x1 x2 : ByteArray} {xd : Option Addr} {xl xc : Nat} {t' : TypeId} (hS : S ≤ W.heap.size) (hc : c < S) (hB : B ≤ S)
    (HX : AskVP (fun b => S ≤ b) W y (.agg #[.int .i64 x0, .string x1, .string x2, .int .i64 x3, .slice xd xl xc])) (v0 v1 v2 v3 v4 : Value) :
    AskVP (fun b => B ≤ b) ((five W c v0 v1 v2 v3 v4).alloc (.cells #[.int .i64 x0, .string x1, .string x2, .int .i64 x3, .slice xd xl xc] t')) (.mk 4 [] [] 0 [y]) (.agg #[.int .i64 4, .string ⟨#[]⟩, .string ⟨#[]⟩, .int .i64 0, .slice (some ⟨W.heap.size, 0, none⟩) 1 1]) := by
  obtain ⟨F, hF⟩ : ∃ F, five W c v0 v1 v2 v3 v4 = F := ⟨_, rfl⟩
  have hsz : F.heap.size = W.heap.size := by rw [← hF, five_size]
  have h5 : ∀ b, b ≠ c → F.heap[b]? = W.heap[b]? := fun b hb => by rw [← hF]; exact five_heap _ _ _ _ _ _ _ b hb
  rw [hF]
  have hcell : ∀ i, (F.alloc (.cells #[.int .i64 x0, .string x1, .string x2, .int .i64 x3, .slice xd xl xc] t')).cell? ⟨W.heap.size, i, none⟩ = (#[.int .i64 x0, .string x1, .string x2, .int .i64 x3, .slice xd xl xc] : Array Value)[i]? := fun i => cell_top _ _ _ _ _ hsz.symm
  have hold : ∀ b, b ≠ c → b < W.heap.size → (F.alloc (.cells #[.int .i64 x0, .string x1, .string x2, .int .i64 x3, .slice xd xl xc] t')).heap[b]? = W.heap[b]? := fun b h1 hb => (Below.heap_alloc _ _ _ (by omega)).trans (h5 b h1)
  rw [AskVP]
  refine ⟨_, _, _, rfl, rfl, Nat.le_refl _, by omega, by simp, by simp, fun _ => ⟨_, _, rfl, by simp; omega, by show B ≤ W.heap.size; omega, ?_⟩⟩
  rw [AsksVP, AsksVP]
  refine ⟨⟨.agg #[.int .i64 x0, .string x1, .string x2, .int .i64 x3, .slice xd xl xc], ⟨_, _, _, _, _, rfl, (hcell _).trans rfl, (hcell _).trans rfl, (hcell _).trans rfl, (hcell _).trans rfl, (hcell _).trans rfl⟩, ?_⟩, trivial⟩
  exact AskVP.stays (fun b h => Nat.le_trans hB h) (by simp; omega) (fun b h hlt => hold b (by omega) hlt) _ _ HX
/-- what the reader tells, the value named -/
def AskR (rb : Nat) (w : World) (o : Option (Ask × Bs × Nat)) (bv : Bool) (v : Value) (w' : World) : Prop :=
  match o with
  | some (x, r, l) => bv = true ∧ AskVP (fun b => w.heap.size ≤ b) w' x v ∧ RdrW rb r l w'
  | none => bv = false ∧ ∃ r l, r.length ≤ 1048576 ∧ RdrW rb r l w'
theorem AskQ.form {rb : Nat} {w w' : World} {o : Option (Ask × Bs × Nat)} {e : Ending} (h : AskQ rb w o e w') : But rb w w' ∧ ∃ (bv : Bool) (x0 : Int) (x1 x2 : ByteArray) (x3 : Int) (xd : Option Addr) (xl xc : Nat), e = .returned (.tuple #[.agg #[.int .i64 x0, .string x1, .string x2, .int .i64 x3, .slice xd xl xc], .bool bv]) ∧ AskR rb w o bv (.agg #[.int .i64 x0, .string x1, .string x2, .int .i64 x3, .slice xd xl xc]) w' := by
  obtain ⟨hb, h⟩ := h
  cases o with
  | none =>
    obtain ⟨v, rfl, ⟨x0, x1, x2, x3, xd, xl, xc, rfl⟩, r, l, h1, h2⟩ := h
    exact ⟨hb, _, _, _, _, _, _, _, _, rfl, rfl, r, l, h1, h2⟩
  | some p =>
    obtain ⟨x, r, l⟩ := p
    obtain ⟨v, rfl, ⟨x0, x1, x2, x3, xd, xl, xc, rfl⟩, h1, h2⟩ := h
    exact ⟨hb, _, _, _, _, _, _, _, _, rfl, rfl, h1, h2⟩
theorem AskQ.mk' {rb : Nat} {w w' : World} {o : Option (Ask × Bs × Nat)} {bv : Bool} {x0 : Int} {x1 x2 : ByteArray} {x3 : Int} {xd : Option Addr} {xl xc : Nat} (hb : But rb w w') (h : AskR rb w o bv (.agg #[.int .i64 x0, .string x1, .string x2, .int .i64 x3, .slice xd xl xc]) w') : AskQ rb w o (.returned (.tuple #[.agg #[.int .i64 x0, .string x1, .string x2, .int .i64 x3, .slice xd xl xc], .bool bv])) w' := by
  refine ⟨hb, ?_⟩
  cases o with
  | none =>
    obtain ⟨rfl, r, l, h1, h2⟩ := h
    exact ⟨_, rfl, ⟨_, _, _, _, _, _, _, rfl⟩, r, l, h1, h2⟩
  | some p =>
    obtain ⟨x, r, l⟩ := p
    obtain ⟨rfl, h1, h2⟩ := h
    exact ⟨_, rfl, ⟨_, _, _, _, _, _, _, rfl⟩, h1, h2⟩
theorem take_yes3 (rb left : Nat) (k : Int) (c : UInt8) (hk : (c.toNat : Int) = k) (t : Bs) (w : World) (h : RdrW rb (c :: t) left w) (hl : t.length ≤ 1099511627776) : Calls Tryz.prog 91 #[.pointer (some ⟨rb, 0, none⟩), .int .u8 k] w fun e w' => e = .returned (.bool true) ∧ RdrW rb t left w' ∧ But rb w w' := by
  subst hk; exact take_yes2 rb left c t w h hl
theorem take_no3 (rb left : Nat) (k : Int) (c : UInt8) (hk : (c.toNat : Int) = k) (s : Bs) (w : World) (h : RdrW rb s left w) (hn : ∀ t, s ≠ c :: t) : Calls Tryz.prog 91 #[.pointer (some ⟨rb, 0, none⟩), .int .u8 k] w fun e w' => e = .returned (.bool false) ∧ w = w' := by
  subst hk; exact take_no rb left c s w h hn
/-- an ask that begins with a word -/
def elseP (A R : Bs) (l : Nat) : Option (Ask × Bs × Nat) := match R with
  | 62 :: 61 :: t => match Lib.parseIntB 64 (Ar.word t) with
    | .ok n => some (.mk 3 A [] n [], Ar.rest t, l)
    | _ => none
  | 61 :: t => some (.mk 2 A (Ar.word t) 0 [], Ar.rest t, l)
  | _ => none
theorem elseP_more (A t : Bs) (l : Nat) : elseP A (62 :: 61 :: t) l = match numB (Ar.word t) with | some n => some (.mk 3 A [] n [], Ar.rest t, l) | none => none := by
  show (match Lib.parseIntB 64 (Ar.word t) with | .ok n => some (Ask.mk 3 A [] n [], Ar.rest t, l) | _ => none) = _
  unfold numB
  cases Lib.parseIntB 64 (Ar.word t) <;> rfl
theorem elseP_is (A t : Bs) (l : Nat) : elseP A (61 :: t) l = some (.mk 2 A (Ar.word t) 0 [], Ar.rest t, l) := rfl
theorem elseP_no1 {A t1 : Bs} {l : Nat} (h : ∀ t, t1 ≠ 61 :: t) : elseP A (62 :: t1) l = none := by
  unfold elseP
  split
  · rename_i t e; injection e with e1 e2; exact absurd e2 (h t)
  · rename_i t e; injection e with e1 e2; exact absurd e1 (by decide)
  · rfl
theorem elseP_no2 {A R : Bs} {l : Nat} (h1 : ∀ t, R ≠ 62 :: t) (h2 : ∀ t, R ≠ 61 :: t) : elseP A R l = none := by
  unfold elseP
  split
  · rename_i t; exact absurd rfl (h1 _)
  · rename_i t; exact absurd rfl (h2 _)
  · rfl
theorem askP_else {N left : Nat} {s : Bs} (h63 : ∀ t, s ≠ 63 :: t) (h33 : ∀ t, s ≠ 33 :: t) (h40 : ∀ t, s ≠ 40 :: t) : Ar.askP (N + 1) (left + 1) s = elseP (Ar.word s) (Ar.rest s) left := by
  unfold Ar.askP elseP
  rw [if_neg (by omega)]
  split
  · rename_i t; exact absurd rfl (h63 t)
  · rename_i t; exact absurd rfl (h33 t)
  · rename_i t; exact absurd rfl (h40 t)
  · rfl
/-- what comes of a world by steps that turn the blocks rb and c alone -/
inductive UpK (rb c : Nat) (w : World) : World → Prop where
  | refl : UpK rb c w w
  | alloc {w' : World} (o : Obj) : UpK rb c w w' → UpK rb c w (w'.alloc o)
  | drew {w' : World} : UpK rb c w w' → UpK rb c w w'.drew
  | setR {w' : World} (i : Nat) (u : Value) : UpK rb c w w' → UpK rb c w (w'.setCell ⟨rb, i, none⟩ u)
  | setC {w' : World} (i : Nat) (u : Value) : UpK rb c w w' → UpK rb c w (w'.setCell ⟨c, i, none⟩ u)
  | but {w' w'' : World} : UpK rb c w w' → But rb w' w'' → UpK rb c w w''
theorem UpK.keep {rb c : Nat} {w w' : World} (h : UpK rb c w w') : w.heap.size ≤ w'.heap.size ∧ ∀ k, k < w.heap.size → k ≠ rb → k ≠ c → w'.heap[k]? = w.heap[k]? := by
  induction h with
  | refl => exact ⟨Nat.le_refl _, fun _ _ _ _ => rfl⟩
  | alloc o _ ih => exact ⟨Nat.le_trans ih.1 (by simp), fun k h1 h2 h3 => (Below.heap_alloc _ _ _ (Nat.lt_of_lt_of_le h1 ih.1)).trans (ih.2 k h1 h2 h3)⟩
  | drew _ ih => exact ih
  | setR i u _ ih => exact ⟨by simpa using ih.1, fun k h1 h2 h3 => (Below.heap_setCell _ _ _ _ h2).trans (ih.2 k h1 h2 h3)⟩
  | setC i u _ ih => exact ⟨by simpa using ih.1, fun k h1 h2 h3 => (Below.heap_setCell _ _ _ _ h3).trans (ih.2 k h1 h2 h3)⟩
  | but _ hb ih => exact ⟨Nat.le_trans ih.1 hb.size, fun k h1 h2 h3 => (hb.block k (Nat.lt_of_lt_of_le h1 ih.1) h2).trans (ih.2 k h1 h2 h3)⟩
theorem UpK.cell {rb c : Nat} {w w' : World} (h : UpK rb c w w') {p : Addr} (h1 : p.block < w.heap.size) (h2 : p.block ≠ rb) (h3 : p.block ≠ c) : w'.cell? p = w.cell? p := World.cell?_of_block (w := w) (h.keep.2 _ h1 h2 h3)
theorem tree_two {rb c B G : Nat} {W5 W6 : World} {ya yb : Ask} {kk : Int} {x0 x3 y0 y3 : Int} {x1 x2 y1 y2 : ByteArray} {xd yd : Option Addr} {xl xc yl yc : Nat} {pa pb : Nat → Prop} (hk : UpK rb c W5 W6) (hG : G < W6.heap.size) (hGB : B ≤ G) (hGc : G ≠ c)
    (hcell : ∀ i, W6.cell? ⟨G, i, none⟩ = (#[.int .i64 x0, .string x1, .string x2, .int .i64 x3, .slice xd xl xc, .int .i64 y0, .string y1, .string y2, .int .i64 y3, .slice yd yl yc] : Array Value)[i]?)
    (HA : AskVP pa W5 ya (.agg #[.int .i64 x0, .string x1, .string x2, .int .i64 x3, .slice xd xl xc])) (hpa : ∀ b, pa b → B ≤ b ∧ b ≠ rb ∧ b ≠ c)
    (HB : AskVP pb W5 yb (.agg #[.int .i64 y0, .string y1, .string y2, .int .i64 y3, .slice yd yl yc])) (hpb : ∀ b, pb b → B ≤ b ∧ b ≠ rb ∧ b ≠ c) (v0 v1 v2 v3 v4 : Value) :
    AskVP (fun b => B ≤ b) (five W6 c v0 v1 v2 v3 v4) (.mk kk [] [] 0 [ya, yb]) (.agg #[.int .i64 kk, .string ⟨#[]⟩, .string ⟨#[]⟩, .int .i64 0, .slice (some ⟨G, 0, none⟩) 2 2]) := by
  have h5 : ∀ b, b ≠ c → (five W6 c v0 v1 v2 v3 v4).heap[b]? = W6.heap[b]? := fun b hb => five_heap _ _ _ _ _ _ _ b hb
  have hc : ∀ i, (five W6 c v0 v1 v2 v3 v4).cell? ⟨G, i, none⟩ = (#[.int .i64 x0, .string x1, .string x2, .int .i64 x3, .slice xd xl xc, .int .i64 y0, .string y1, .string y2, .int .i64 y3, .slice yd yl yc] : Array Value)[i]? := fun i => (cell_of_block (p := ⟨G, i, none⟩) (h5 _ hGc)).trans (hcell i)
  have hs : W5.heap.size ≤ (five W6 c v0 v1 v2 v3 v4).heap.size := by rw [five_size]; exact hk.keep.1
  rw [AskVP]
  refine ⟨_, _, _, rfl, rfl, Nat.le_refl _, by omega, by simp, by simp, fun _ => ⟨_, _, rfl, by rw [five_size]; exact hG, hGB, ?_⟩⟩
  rw [AsksVP, AsksVP, AsksVP]
  refine ⟨⟨.agg #[.int .i64 x0, .string x1, .string x2, .int .i64 x3, .slice xd xl xc], ⟨_, _, _, _, _, rfl, (hc _).trans rfl, (hc _).trans rfl, (hc _).trans rfl, (hc _).trans rfl, (hc _).trans rfl⟩, ?_⟩, ⟨.agg #[.int .i64 y0, .string y1, .string y2, .int .i64 y3, .slice yd yl yc], ⟨_, _, _, _, _, rfl, (hc _).trans rfl, (hc _).trans rfl, (hc _).trans rfl, (hc _).trans rfl, (hc _).trans rfl⟩, ?_⟩, trivial⟩
  · exact AskVP.stays (fun b h => (hpa b h).1) hs (fun b h hb => (h5 b (hpa b h).2.2).trans (hk.keep.2 b hb (hpa b h).2.1 (hpa b h).2.2)) _ _ HA
  · exact AskVP.stays (fun b h => (hpb b h).1) hs (fun b h hb => (h5 b (hpb b h).2.2).trans (hk.keep.2 b hb (hpb b h).2.1 (hpb b h).2.2)) _ _ HB
end Go.Proofs.YtkemlckmfgacdaaGreatDoor
/- Contract: the program's reader of two asks behind their bracket, given that of one. -/
namespace Go.Proofs.YtkemlckmfgacdaaGreatDoor
open Go.ChangeShapes Go.WideShapes Go.ChangeAt Go.RowKit
set_option linter.unusedVariables false
set_option linter.unusedSimpArgs false
open Tp
set_option maxRecDepth 20000 in
set_option maxHeartbeats 64000000 in
theorem two_of (rb N left : Nat) (s : Bs) (w : World) (hs : s.length ≤ 2000) (hE : ∀ W, But rb w W → Env W) (hr : RdrW rb s left w)
    (hA : ∀ left' s' w', left' ≤ left → s'.length ≤ 2000 → (∀ W, But rb w' W → Env W) → RdrW rb s' left' w' → Calls Tryz.prog 69 #[.pointer (some ⟨rb, 0, none⟩)] w' (AskQ rb w' (Ar.askP N left' s'))) :
    Calls Tryz.prog 93 #[.pointer (some ⟨rb, 0, none⟩)] w (AskQ rb w (twoP N left s)) := by
  obtain ⟨c, hc⟩ : ∃ c, c = w.heap.size := ⟨_, rfl⟩
  obtain ⟨W0, hW0⟩ : ∃ W, W = w.alloc (.cells #[.int .i64 0, .string ⟨#[]⟩, .string ⟨#[]⟩, .int .i64 0, .slice none 0 0] 26) := ⟨_, rfl⟩
  have HBX0 : Hid (Box5 c W0) := Lib.hid (by rw [hW0]; exact Box5.top hc)
  have HB0 : Hid (But rb w W0) := Lib.hid (by rw [hW0]; exact (But.refl _ _).alloc _)
  have HR0 : Hid (RdrW rb s left W0) := Lib.hid (by rw [hW0]; exact hr.alloc _)
  have HC := Lib.hid hc
  have HCR : Hid (c ≠ rb) := Lib.hid (by have := hr.lt; omega)
  have HEV := Lib.hid hE
  have HSL := Lib.hid hs
  have HAA := Lib.hid hA
  obtain ⟨O, hO⟩ : ∃ O, twoP N left s = O := ⟨_, rfl⟩
  have HO := Lib.hid hO
  rw [hO]
  clear hs hr hE hA hO
  go_enter Tryz.func93, Tryz.ntmps93
  go_upto_region 1 with fail
  rw [← hW0, ← hc]
  clear hW0 hc
  go_wp2_with fail
  refine Calls.mono (HAA.out left s W0 (Nat.le_refl _) HSL.out (fun W h => HEV.out W (HB0.out.trans h)) HR0.out) ?_
  rintro e W1 hq
  obtain ⟨hb1, bva, x0, x1, x2, x3, xd, xl, xc, rfl, hq1⟩ := hq.form
  have HQ1 := Lib.hid hq1
  have HB1 := Lib.hid (HB0.out.trans hb1)
  have HBX1 := Lib.hid (HBX0.out.but hb1 HCR.out)
  have HS1 := Lib.hid hb1.size
  clear hb1 hq hq1
  go_upto_region 2 with fail
  obtain ⟨W2, hW2⟩ : ∃ W, W = W1.alloc (.cells #[.int .i64 x0, .string x1, .string x2, .int .i64 x3, .slice xd xl xc] 26) := ⟨_, rfl⟩
  obtain ⟨da, hd⟩ : ∃ d, d = W1.heap.size := ⟨_, rfl⟩
  have HBX2 : Hid (Box5 c W2) := Lib.hid (by rw [hW2]; exact HBX1.out.but ((But.refl rb W1).alloc _) HCR.out)
  have bda0 : W2.cell? ⟨da, 0, none⟩ = some (.int .i64 x0) := by rw [hW2]; exact (cell_top _ _ _ _ _ hd).trans rfl
  have bda1 : W2.cell? ⟨da, 1, none⟩ = some (.string x1) := by rw [hW2]; exact (cell_top _ _ _ _ _ hd).trans rfl
  have bda2 : W2.cell? ⟨da, 2, none⟩ = some (.string x2) := by rw [hW2]; exact (cell_top _ _ _ _ _ hd).trans rfl
  have bda3 : W2.cell? ⟨da, 3, none⟩ = some (.int .i64 x3) := by rw [hW2]; exact (cell_top _ _ _ _ _ hd).trans rfl
  have bda4 : W2.cell? ⟨da, 4, none⟩ = some (.slice xd xl xc) := by rw [hW2]; exact (cell_top _ _ _ _ _ hd).trans rfl
  have hdlda : da < W2.heap.size := by rw [hW2, hd]; simp
  rw [← hW2, ← hd]
  have HW2 := Lib.hid hW2
  have HDda := Lib.hid hd
  clear hW2 hd
  have HB2 : Hid (But rb w W2) := Lib.hid (by rw [HW2.out]; exact HB1.out.alloc _)
  have HS2 : Hid (W0.heap.size ≤ W2.heap.size) := Lib.hid (Nat.le_trans HS1.out (by rw [HW2.out]; simp))
  have HDA : Hid (da ≠ rb ∧ da ≠ c ∧ W0.heap.size ≤ da) := Lib.hid (by
    have h1 := HDda.out
    have h2 := HS1.out
    have h3 := HBX0.out.lt
    have h4 := HR0.out.lt
    omega)
  cases hp : Ar.askP N left s with
  | none =>
    have hq1 := HQ1.out
    rw [hp] at hq1
    obtain ⟨rfl, r, l, hrl, hr1⟩ := hq1
    have HRL := Lib.hid hrl
    have HR2 : Hid (RdrW rb r l W2) := Lib.hid (by rw [HW2.out]; exact hr1.alloc _)
    have HP : Hid (O = none) := Lib.hid (by rw [← HO.out]; exact twoP_none hp)
    clear hrl hr1 hp
    have r0 := HBX2.out.r0
    have r1 := HBX2.out.r1
    have r2 := HBX2.out.r2
    have r3 := HBX2.out.r3
    have r4 := HBX2.out.r4
    have q0 := HBX2.out.fz 0
    have q1 := HBX2.out.fz 1
    have q2 := HBX2.out.fz 2
    have q3 := HBX2.out.fz 3
    have q4 := HBX2.out.fz 4
    have hcl := HBX2.out.lt
    have hcl1 : c < W2.heap.size + 1 := Nat.lt_succ_of_lt hcl
    go_wp2_with fail
    refine bodyPost_ret (v := .tuple #[.agg #[.int .i64 0, .string ⟨#[]⟩, .string ⟨#[]⟩, .int .i64 0, .slice none 0 0], .bool false]) (by simp [results, Tryz.results93, go_sem, cell_set, r0, r1, r2, r3, r4, hcl, hcl1]) rfl ?_
    show AskQ rb w _ _ (five W2 c (.int .i64 0) (.string ⟨#[]⟩) (.string ⟨#[]⟩) (.int .i64 0) (.slice none 0 0))
    rw [HP.out]
    exact ⟨five_but HB2.out (Nat.le_of_eq HC.out.symm) _ _ _ _ _, zero5, rfl, five_zero, r, l, HRL.out, HR2.out.five HCR.out _ _ _ _ _⟩
  | some p =>
    obtain ⟨ya, r, l⟩ := p
    have hq1 := HQ1.out
    rw [hp] at hq1
    obtain ⟨rfl, hva, hr1⟩ := hq1
    have hless := Ar.askP_less N left s ya r l hp
    have HLS : Hid (l < left ∧ r.length ≤ 2000) := Lib.hid ⟨hless.1, by have := HSL.out; omega⟩
    have HR2 : Hid (RdrW rb r l W2) := Lib.hid (by rw [HW2.out]; exact hr1.alloc _)
    have HVA : Hid (AskVP (fun b => W0.heap.size ≤ b ∧ b < W1.heap.size) W2 ya (.agg #[.int .i64 x0, .string x1, .string x2, .int .i64 x3, .slice xd xl xc])) := Lib.hid (AskVP.both hva (by rw [HW2.out]; simp) (fun b _ hb => by rw [HW2.out]; exact Below.heap_alloc _ _ _ hb))
    have HOP : Hid (O = twoR N ya r l) := Lib.hid (by rw [← HO.out]; exact twoP_some hp)
    clear hva hr1 hp hless
    go_upto_region 5 with fail
    go_cut [16] (fun v W => ∃ bv, v = .bool bv ∧ Hid (But rb W2 W) ∧ Hid (bv = true ∧ (∃ r', r = 124 :: r' ∧ RdrW rb r' l W) ∨ bv = false ∧ (∀ t, r ≠ 124 :: t) ∧ RdrW rb r l W))
    case first =>
      by_cases h : ∃ t, r = 124 :: t
      · obtain ⟨t, rfl⟩ := h
        go_wp2_with fail
        refine Calls.mono (take_yes3 rb l 124 124 (by decide) t W2 HR2.out (by have := HLS.out.2; simp only [List.length_cons] at this; omega)) ?_
        rintro e W3 ⟨rfl, hr3, hb3⟩
        have HR3 := Lib.hid hr3
        have HB3 := Lib.hid hb3
        clear hr3 hb3
        go_wp2_with fail
        go_meet
        exact ⟨true, rfl, HB3, Lib.hid (.inl ⟨rfl, t, rfl, HR3.out⟩)⟩
      · have HN : Hid (∀ t, r ≠ 124 :: t) := Lib.hid (fun t e => h ⟨t, e⟩)
        clear h
        go_wp2_with fail
        refine Calls.mono (take_no3 rb l 124 124 (by decide) r W2 HR2.out HN.out) ?_
        rintro e w' ⟨rfl, rfl⟩
        go_wp2_with fail
        go_meet
        exact ⟨false, rfl, Lib.hid (But.refl _ _), Lib.hid (.inr ⟨rfl, HN.out, HR2.out⟩)⟩
    case rest =>
      obtain ⟨bv, rfl, HBc, HV⟩ := hcut
      have HB3 : Hid (But rb w wc) := Lib.hid (HB2.out.trans HBc.out)
      have HBX3 : Hid (Box5 c wc) := Lib.hid (HBX2.out.but HBc.out HCR.out)
      go_upto_if 16 with fail
      go_cut [5] (fun v W => ∃ (kk : Int) (r' : Bs), v = .int .i64 kk ∧ Hid (But rb W2 W) ∧ Hid (RdrW rb r' l W) ∧ Hid (O = twoE kk ya (Ar.askP N l r') ∧ r'.length ≤ 2000))
      case first =>
        rcases HV.out with ⟨rfl, r', hr', hrd⟩ | ⟨rfl, hno, hrd⟩
        · have HRD := Lib.hid hrd
          have HE2 : Hid (O = twoE 6 ya (Ar.askP N l r') ∧ r'.length ≤ 2000) := Lib.hid ⟨by rw [HOP.out, hr', twoR_or], by have := HLS.out.2; rw [hr'] at this; simp only [List.length_cons] at this; omega⟩
          clear hr' hrd HV
          go_wp2_with fail
          go_meet
          exact ⟨6, r', rfl, HBc, HRD, HE2⟩
        · have HRD := Lib.hid hrd
          have HN := Lib.hid hno
          clear hno hrd HV
          by_cases h : ∃ t, r = 38 :: t
          · obtain ⟨t, rfl⟩ := h
            have HE2 : Hid (O = twoE 5 ya (Ar.askP N l t) ∧ t.length ≤ 2000) := Lib.hid ⟨by rw [HOP.out, twoR_and], by have := HLS.out.2; simp only [List.length_cons] at this; omega⟩
            go_wp2_with fail
            refine Calls.mono (take_yes3 rb l 38 38 (by decide) t wc HRD.out (by have := HLS.out.2; simp only [List.length_cons] at this; omega)) ?_
            rintro e W3 ⟨rfl, hr3, hb3⟩
            have HR3 := Lib.hid hr3
            have HB4 := Lib.hid (HBc.out.trans hb3)
            clear hr3 hb3
            go_wp2_with fail
            go_meet
            exact ⟨5, t, rfl, HB4, HR3, HE2⟩
          · have HN2 : Hid (∀ t, r ≠ 38 :: t) := Lib.hid (fun t e => h ⟨t, e⟩)
            have HP : Hid (O = none) := Lib.hid (by rw [HOP.out, twoR_no HN.out HN2.out])
            clear h
            go_wp2_with fail
            refine Calls.mono (take_no3 rb l 38 38 (by decide) r wc HRD.out HN2.out) ?_
            rintro e w' ⟨rfl, rfl⟩
            have r0 := HBX3.out.r0
            have r1 := HBX3.out.r1
            have r2 := HBX3.out.r2
            have r3 := HBX3.out.r3
            have r4 := HBX3.out.r4
            have q0 := HBX3.out.fz 0
            have q1 := HBX3.out.fz 1
            have q2 := HBX3.out.fz 2
            have q3 := HBX3.out.fz 3
            have q4 := HBX3.out.fz 4
            have hcl := HBX3.out.lt
            have hcl1 : c < wc.heap.size + 1 := Nat.lt_succ_of_lt hcl
            go_wp2_with fail
            refine bodyPost_ret (v := .tuple #[.agg #[.int .i64 0, .string ⟨#[]⟩, .string ⟨#[]⟩, .int .i64 0, .slice none 0 0], .bool false]) (by simp [results, Tryz.results93, go_sem, cell_set, r0, r1, r2, r3, r4, hcl, hcl1]) rfl ?_
            show AskQ rb w _ _ (five wc c (.int .i64 0) (.string ⟨#[]⟩) (.string ⟨#[]⟩) (.int .i64 0) (.slice none 0 0))
            rw [HP.out]
            exact ⟨five_but HB3.out (Nat.le_of_eq HC.out.symm) _ _ _ _ _, zero5, rfl, five_zero, r, l, by have := HLS.out.2; omega, HRD.out.five HCR.out _ _ _ _ _⟩
      case rest =>
        obtain ⟨kk, r', rfl, HBd, HRd, HE2⟩ := hcut
        go_wp2_with fail
        refine Calls.mono (HAA.out l r' wc (Nat.le_of_lt HLS.out.1) HE2.out.2 (fun W h => HEV.out W (HB2.out.trans (HBd.out.trans h))) HRd.out) ?_
        rintro e W4 hq
        obtain ⟨hb4, bvb, y0, y1, y2, y3, yd, yl, yc, rfl, hq4⟩ := hq.form
        have HQ4 := Lib.hid hq4
        have HB24 := Lib.hid (HBd.out.trans hb4)
        have HB4 := Lib.hid (HB2.out.trans (HBd.out.trans hb4))
        have HBX4 := Lib.hid (HBX2.out.but (HBd.out.trans hb4) HCR.out)
        have HSc := Lib.hid hb4.size
        clear hb4 hq hq4
        go_upto_region 10 with fail
        obtain ⟨W5, hW5⟩ : ∃ W, W = W4.alloc (.cells #[.int .i64 y0, .string y1, .string y2, .int .i64 y3, .slice yd yl yc] 26) := ⟨_, rfl⟩
        obtain ⟨db, hd⟩ : ∃ d, d = W4.heap.size := ⟨_, rfl⟩
        have HBX5 : Hid (Box5 c W5) := Lib.hid (by rw [hW5]; exact HBX4.out.but ((But.refl rb W4).alloc _) HCR.out)
        have bdb0 : W5.cell? ⟨db, 0, none⟩ = some (.int .i64 y0) := by rw [hW5]; exact (cell_top _ _ _ _ _ hd).trans rfl
        have bdb1 : W5.cell? ⟨db, 1, none⟩ = some (.string y1) := by rw [hW5]; exact (cell_top _ _ _ _ _ hd).trans rfl
        have bdb2 : W5.cell? ⟨db, 2, none⟩ = some (.string y2) := by rw [hW5]; exact (cell_top _ _ _ _ _ hd).trans rfl
        have bdb3 : W5.cell? ⟨db, 3, none⟩ = some (.int .i64 y3) := by rw [hW5]; exact (cell_top _ _ _ _ _ hd).trans rfl
        have bdb4 : W5.cell? ⟨db, 4, none⟩ = some (.slice yd yl yc) := by rw [hW5]; exact (cell_top _ _ _ _ _ hd).trans rfl
        have hdldb : db < W5.heap.size := by rw [hW5, hd]; simp
        rw [← hW5, ← hd]
        have HW5 := Lib.hid hW5
        have HDdb := Lib.hid hd
        clear hW5 hd
        have HB25 : Hid (But rb W2 W5) := Lib.hid (by rw [HW5.out]; exact HB24.out.alloc _)
        have HB5 : Hid (But rb w W5) := Lib.hid (HB2.out.trans HB25.out)
        have hdl5 : da < W5.heap.size := Nat.lt_of_lt_of_le hdlda HB25.out.size
        have HDX : Hid (∀ W, UpK rb c W5 W → W.cell? ⟨da, 0, none⟩ = some (.int .i64 x0) ∧ W.cell? ⟨da, 1, none⟩ = some (.string x1) ∧ W.cell? ⟨da, 2, none⟩ = some (.string x2) ∧ W.cell? ⟨da, 3, none⟩ = some (.int .i64 x3) ∧ W.cell? ⟨da, 4, none⟩ = some (.slice xd xl xc) ∧ W.cell? ⟨db, 0, none⟩ = some (.int .i64 y0) ∧ W.cell? ⟨db, 1, none⟩ = some (.string y1) ∧ W.cell? ⟨db, 2, none⟩ = some (.string y2) ∧ W.cell? ⟨db, 3, none⟩ = some (.int .i64 y3) ∧ W.cell? ⟨db, 4, none⟩ = some (.slice yd yl yc)) := Lib.hid (fun W h => by
          have ea : ∀ i, W.cell? ⟨da, i, none⟩ = W2.cell? ⟨da, i, none⟩ := fun i => (h.cell (p := ⟨da, i, none⟩) hdl5 HDA.out.1 HDA.out.2.1).trans (HB25.out.cell (p := ⟨da, i, none⟩) hdlda HDA.out.1)
          have hdb : db ≠ rb ∧ db ≠ c := by
            have h1 := HDdb.out
            have h2 := HBX4.out.lt
            have h3 := HRd.out.lt
            have h4 := HSc.out
            exact ⟨by omega, by omega⟩
          have eb : ∀ i, W.cell? ⟨db, i, none⟩ = W5.cell? ⟨db, i, none⟩ := fun i => h.cell (p := ⟨db, i, none⟩) hdldb hdb.1 hdb.2
          exact ⟨(ea 0).trans bda0, (ea 1).trans bda1, (ea 2).trans bda2, (ea 3).trans bda3, (ea 4).trans bda4, (eb 0).trans bdb0, (eb 1).trans bdb1, (eb 2).trans bdb2, (eb 3).trans bdb3, (eb 4).trans bdb4⟩)
        clear bda0 bda1 bda2 bda3 bda4 bdb0 bdb1 bdb2 bdb3 bdb4
        cases bvb with
        | false =>
          have r0 := HBX5.out.r0
          have r1 := HBX5.out.r1
          have r2 := HBX5.out.r2
          have r3 := HBX5.out.r3
          have r4 := HBX5.out.r4
          have q0 := HBX5.out.fz 0
          have q1 := HBX5.out.fz 1
          have q2 := HBX5.out.fz 2
          have q3 := HBX5.out.fz 3
          have q4 := HBX5.out.fz 4
          have hcl := HBX5.out.lt
          have hcl1 : c < W5.heap.size + 1 := Nat.lt_succ_of_lt hcl
          refine wp_region_held_drew (S := fun W => UpK rb c W5 W) (by kernel_rfl) (UpK.refl.drew) (fun hHeld => ?_)
          refine wpAnyH_take (i := 0) (v := ?vb1b0x1) rfl (by kernel_rfl) (by kernel_rfl) (by kernel_rfl) (fun _ _ _ h => h) (Or.inl ⟨by rfl, ?hyb1b0x1⟩) (by assumption) ?restb1b0x1
          case hyb1b0x1 =>
            intro w hSw
            (try dsimp only at hSw)
            go_simp
            (try with_reducible rfl)
          change wpAnyH _ _ _ _ _ _ _ (Act.put _ (some 26) _) _
          try simp only [Act.put, List.setIfInBounds_toArray, List.set_cons_zero, List.set_cons_succ]
          refine wpAnyH_take (i := 1) (v := ?vb1b1x2) rfl (by kernel_rfl) (by kernel_rfl) (by kernel_rfl) (fun _ _ _ h => h) (Or.inl ⟨by rfl, ?hyb1b1x2⟩) (by assumption) ?restb1b1x2
          case hyb1b1x2 =>
            intro w hSw
            (try dsimp only at hSw)
            obtain ⟨ga0, ga1, ga2, ga3, ga4, gb0, gb1, gb2, gb3, gb4⟩ := HDX.out w hSw
            go_simp
            (try with_reducible rfl)
          change wpAnyH _ _ _ _ _ _ _ (Act.put _ (some 27) _) _
          try simp only [Act.put, List.setIfInBounds_toArray, List.set_cons_zero, List.set_cons_succ]
          refine wpAnyH_take (i := 2) (v := ?vb1b2x3) rfl (by kernel_rfl) (by kernel_rfl) (by kernel_rfl) (fun _ _ _ h => h) (Or.inl ⟨by rfl, ?hyb1b2x3⟩) (by assumption) ?restb1b2x3
          case hyb1b2x3 =>
            intro w hSw
            (try dsimp only at hSw)
            obtain ⟨ga0, ga1, ga2, ga3, ga4, gb0, gb1, gb2, gb3, gb4⟩ := HDX.out w hSw
            go_simp
            (try with_reducible rfl)
          change wpAnyH _ _ _ _ _ _ _ (Act.put _ (some 28) _) _
          try simp only [Act.put, List.setIfInBounds_toArray, List.set_cons_zero, List.set_cons_succ]
          refine wpAnyH_take (i := 5) (v := ?vb1b5x4) rfl (by kernel_rfl) (by kernel_rfl) (by kernel_rfl) (fun _ _ _ h => h) (Or.inl ⟨by rfl, ?hyb1b5x4⟩) (by assumption) ?restb1b5x4
          case hyb1b5x4 =>
            intro w hSw
            (try dsimp only at hSw)
            go_simp
            (try with_reducible rfl)
          change wpAnyH _ _ _ _ _ _ _ (Act.put _ (some 31) _) _
          try simp only [Act.put, List.setIfInBounds_toArray, List.set_cons_zero, List.set_cons_succ]
          refine wpAnyH_take (i := 6) (v := ?vb1b6x5) rfl (by kernel_rfl) (by kernel_rfl) (by kernel_rfl) (fun _ _ _ h => h) (Or.inl ⟨by rfl, ?hyb1b6x5⟩) (by assumption) ?restb1b6x5
          case hyb1b6x5 =>
            intro w hSw
            (try dsimp only at hSw)
            go_simp
            (try with_reducible rfl)
          change wpAnyH _ _ _ _ _ _ _ (Act.put _ (some 32) _) _
          try simp only [Act.put, List.setIfInBounds_toArray, List.set_cons_zero, List.set_cons_succ]
          refine wpAnyH_take (i := 7) (v := undef) rfl (by kernel_rfl) (by kernel_rfl) (by kernel_rfl) (fun _ _ _ h => h) (Or.inr ⟨by rfl, rfl⟩) (by assumption) ?_
          change wpAnyH _ _ _ _ _ _ _ (Act.put _ (some 33) _) _
          try simp only [Act.put, List.setIfInBounds_toArray, List.set_cons_zero, List.set_cons_succ]
          refine wpAnyH_take (i := 8) (v := undef) rfl (by kernel_rfl) (by kernel_rfl) (by kernel_rfl) (fun _ _ _ h => h) (Or.inr ⟨by rfl, rfl⟩) (by assumption) ?_
          change wpAnyH _ _ _ _ _ _ _ (Act.put _ (some 34) _) _
          try simp only [Act.put, List.setIfInBounds_toArray, List.set_cons_zero, List.set_cons_succ]
          refine wpAnyH_take (i := 9) (v := ?vb1b9x6) rfl (by kernel_rfl) (by kernel_rfl) (by kernel_rfl) (fun _ _ _ h => h) (Or.inl ⟨by rfl, ?hyb1b9x6⟩) (by assumption) ?restb1b9x6
          case hyb1b9x6 =>
            intro w hSw
            (try dsimp only at hSw)
            go_simp
            (try with_reducible rfl)
          change wpAnyH _ _ _ _ _ _ _ (Act.put _ (some 35) _) _
          try simp only [Act.put, List.setIfInBounds_toArray, List.set_cons_zero, List.set_cons_succ]
          refine wpAnyH_ready (rs := [3]) (by kernel_rfl) (by simp) ?_
          refine AllReadyH.cons rfl (fun K hK => ?_) AllReadyH.nil
          go_simp
          (try go_wp2_with fail)
          refine hK.out _ _ (by repeat (first | exact hHeld | exact UpK.refl | refine UpK.setC _ _ ?_ | refine UpK.setR _ _ ?_ | refine UpK.alloc _ ?_ | refine UpK.drew ?_)) (fun hHeld => ?_)
          clear hK K
          try simp only [Act.put, List.setIfInBounds_toArray, List.set_cons_zero, List.set_cons_succ]
          generalize hW6 : (W5.alloc (.cells #[.int .i64 x0, .string x1, .string x2, .int .i64 x3, .slice xd xl xc, .int .i64 y0, .string y1, .string y2, .int .i64 y3, .slice yd yl yc] 26)).drew = W6 at hHeld ⊢
          have HW6 := Lib.hid hW6
          have HBX6 : Hid (Box5 c W6) := Lib.hid (by rw [← hW6]; exact HBX5.out.but ((But.refl rb W5).alloc _).drew HCR.out)
          clear hW6 r0 r1 r2 r3 r4 q0 q1 q2 q3 q4 hcl hcl1
          have r0 := HBX6.out.r0
          have r1 := HBX6.out.r1
          have r2 := HBX6.out.r2
          have r3 := HBX6.out.r3
          have r4 := HBX6.out.r4
          have q0 := HBX6.out.fz 0
          have q1 := HBX6.out.fz 1
          have q2 := HBX6.out.fz 2
          have q3 := HBX6.out.fz 3
          have q4 := HBX6.out.fz 4
          have hcl := HBX6.out.lt
          refine wpAnyH_take (i := 4) (v := ?vb1b4x7) rfl (by kernel_rfl) (by kernel_rfl) (by kernel_rfl) (fun _ _ _ h => h) (Or.inl ⟨by rfl, ?hyb1b4x7⟩) (by assumption) ?restb1b4x7
          case hyb1b4x7 =>
            intro w hSw
            (try dsimp only at hSw)
            go_simp
            (try with_reducible rfl)
          change wpAnyH _ _ _ _ _ _ _ (Act.put _ (some 30) _) _
          try simp only [Act.put, List.setIfInBounds_toArray, List.set_cons_zero, List.set_cons_succ]
          refine wpAnyH_ready (rs := [10]) (by kernel_rfl) (by simp) ?_
          refine AllReadyH.cons rfl (fun K hK => ?_) AllReadyH.nil
          go_simp
          (try go_wp2_with fail)
          refine hK.out _ _ (by repeat (first | exact hHeld | exact UpK.refl | refine UpK.setC _ _ ?_ | refine UpK.setR _ _ ?_ | refine UpK.alloc _ ?_ | refine UpK.drew ?_)) (fun hHeld => ?_)
          clear hK K
          try simp only [Act.put, List.setIfInBounds_toArray, List.set_cons_zero, List.set_cons_succ]
          refine wpAnyH_take (i := 11) (v := ?vb1b11x8) rfl (by kernel_rfl) (by kernel_rfl) (by kernel_rfl) (fun _ _ _ h => h) (Or.inl ⟨by rfl, ?hyb1b11x8⟩) (by assumption) ?restb1b11x8
          case hyb1b11x8 =>
            intro w hSw
            (try dsimp only at hSw)
            go_simp
            (try with_reducible rfl)
          change wpAnyH _ _ _ _ _ _ _ (Act.put _ (some 3) _) _
          try simp only [Act.put, List.setIfInBounds_toArray, List.set_cons_zero, List.set_cons_succ]
          refine wpAnyH_done (by kernel_rfl) ?_ _
          go_wp2_with fail
          refine bodyPost_ret (v := .tuple #[.agg #[.int .i64 kk, .string ⟨#[]⟩, .string ⟨#[]⟩, .int .i64 0, .slice (some ⟨W5.heap.size, 0, none⟩) 2 2], .bool false]) (by simp [results, Tryz.results93, go_sem, cell_set, r0, r1, r2, r3, r4, hcl]) rfl ?_
          show AskQ rb w _ _ (five W6 c (.int .i64 kk) (.string ⟨#[]⟩) (.string ⟨#[]⟩) (.int .i64 0) (.slice (some ⟨W5.heap.size, 0, none⟩) 2 2))
          have hq4 := HQ4.out
          cases hp : Ar.askP N l r' with
          | some p => obtain ⟨yb, r2, l2⟩ := p; rw [hp] at hq4; cases hq4.1
          | none =>
            rw [hp] at hq4
            obtain ⟨_, r2, l2, g1, g2⟩ := hq4
            have hP : O = none := by rw [HE2.out.1, hp]; rfl
            rw [hP]
            have g3 : RdrW rb r2 l2 W6 := by rw [← HW6.out, HW5.out]; exact ((g2.alloc _).alloc _).drew
            have hbt : But rb w W6 := by rw [← HW6.out]; exact (HB5.out.alloc _).drew
            exact ⟨five_but hbt (Nat.le_of_eq HC.out.symm) _ _ _ _ _, _, rfl, ⟨_, _, _, _, _, _, _, rfl⟩, r2, l2, g1, g3.five HCR.out _ _ _ _ _⟩
        | true =>
          have hq4 := HQ4.out
          cases hp : Ar.askP N l r' with
          | none => rw [hp] at hq4; obtain ⟨h, _⟩ := hq4; cases h
          | some p =>
            obtain ⟨yb, ru, l2⟩ := p
            rw [hp] at hq4
            obtain ⟨_, hvb, hr4⟩ := hq4
            have HVB : Hid (AskVP (fun b => wc.heap.size ≤ b ∧ b < W4.heap.size) W5 yb (.agg #[.int .i64 y0, .string y1, .string y2, .int .i64 y3, .slice yd yl yc])) := Lib.hid (AskVP.both hvb (by rw [HW5.out]; simp) (fun b _ hb => by rw [HW5.out]; exact Below.heap_alloc _ _ _ hb))
            have HVA5 : Hid (AskVP (fun b => W0.heap.size ≤ b ∧ b < W1.heap.size) W5 ya (.agg #[.int .i64 x0, .string x1, .string x2, .int .i64 x3, .slice xd xl xc])) := Lib.hid (AskVP.stays (fun b h => h) HB25.out.size (fun b h hb => HB25.out.block b hb (by have := HR0.out.lt; omega)) _ _ HVA.out)
            have HR5 : Hid (RdrW rb ru l2 W5) := Lib.hid (by rw [HW5.out]; exact hr4.alloc _)
            have HRL : Hid (ru.length ≤ 2000) := Lib.hid (by have := (Ar.askP_less N l r' yb ru l2 hp).2.1; have := HE2.out.2; omega)
            have HOE : Hid (O = twoE kk ya (some (yb, ru, l2))) := Lib.hid (by rw [HE2.out.1, hp])
            have HPA : Hid (∀ b, W0.heap.size ≤ b ∧ b < W1.heap.size → w.heap.size ≤ b ∧ b ≠ rb ∧ b ≠ c) := Lib.hid (fun b h => by have h1 := HB0.out.size; have h2 := HR0.out.lt; have h3 := HBX0.out.lt; omega)
            have HPB : Hid (∀ b, wc.heap.size ≤ b ∧ b < W4.heap.size → w.heap.size ≤ b ∧ b ≠ rb ∧ b ≠ c) := Lib.hid (fun b h => by have h1 := HB2.out.size; have h1b := HBd.out.size; have h2 := HRd.out.lt; have h3 := HBX2.out.lt; omega)
            clear hvb hr4 hp
            have r0 := HBX5.out.r0
            have r1 := HBX5.out.r1
            have r2 := HBX5.out.r2
            have r3 := HBX5.out.r3
            have r4 := HBX5.out.r4
            have q0 := HBX5.out.fz 0
            have q1 := HBX5.out.fz 1
            have q2 := HBX5.out.fz 2
            have q3 := HBX5.out.fz 3
            have q4 := HBX5.out.fz 4
            have hcl := HBX5.out.lt
            by_cases h41 : ∃ t, ru = 41 :: t
            · obtain ⟨t, rfl⟩ := h41
              have HP : Hid (O = some (.mk kk [] [] 0 [ya, yb], t, l2)) := Lib.hid HOE.out
              refine wp_region_held_drew (S := fun W => UpK rb c W5 W) (by kernel_rfl) (UpK.refl.drew) (fun hHeld => ?_)
              refine wpAnyH_take (i := 0) (v := ?vb2b0x1) rfl (by kernel_rfl) (by kernel_rfl) (by kernel_rfl) (fun _ _ _ h => h) (Or.inl ⟨by rfl, ?hyb2b0x1⟩) (by assumption) ?restb2b0x1
              case hyb2b0x1 =>
                intro w hSw
                (try dsimp only at hSw)
                go_simp
                (try with_reducible rfl)
              change wpAnyH _ _ _ _ _ _ _ (Act.put _ (some 26) _) _
              try simp only [Act.put, List.setIfInBounds_toArray, List.set_cons_zero, List.set_cons_succ]
              refine wpAnyH_take (i := 1) (v := ?vb2b1x2) rfl (by kernel_rfl) (by kernel_rfl) (by kernel_rfl) (fun _ _ _ h => h) (Or.inl ⟨by rfl, ?hyb2b1x2⟩) (by assumption) ?restb2b1x2
              case hyb2b1x2 =>
                intro w hSw
                (try dsimp only at hSw)
                obtain ⟨ga0, ga1, ga2, ga3, ga4, gb0, gb1, gb2, gb3, gb4⟩ := HDX.out w hSw
                go_simp
                (try with_reducible rfl)
              change wpAnyH _ _ _ _ _ _ _ (Act.put _ (some 27) _) _
              try simp only [Act.put, List.setIfInBounds_toArray, List.set_cons_zero, List.set_cons_succ]
              refine wpAnyH_take (i := 2) (v := ?vb2b2x3) rfl (by kernel_rfl) (by kernel_rfl) (by kernel_rfl) (fun _ _ _ h => h) (Or.inl ⟨by rfl, ?hyb2b2x3⟩) (by assumption) ?restb2b2x3
              case hyb2b2x3 =>
                intro w hSw
                (try dsimp only at hSw)
                obtain ⟨ga0, ga1, ga2, ga3, ga4, gb0, gb1, gb2, gb3, gb4⟩ := HDX.out w hSw
                go_simp
                (try with_reducible rfl)
              change wpAnyH _ _ _ _ _ _ _ (Act.put _ (some 28) _) _
              try simp only [Act.put, List.setIfInBounds_toArray, List.set_cons_zero, List.set_cons_succ]
              refine wpAnyH_take (i := 5) (v := ?vb2b5x4) rfl (by kernel_rfl) (by kernel_rfl) (by kernel_rfl) (fun _ _ _ h => h) (Or.inl ⟨by rfl, ?hyb2b5x4⟩) (by assumption) ?restb2b5x4
              case hyb2b5x4 =>
                intro w hSw
                (try dsimp only at hSw)
                go_simp
                (try with_reducible rfl)
              change wpAnyH _ _ _ _ _ _ _ (Act.put _ (some 31) _) _
              try simp only [Act.put, List.setIfInBounds_toArray, List.set_cons_zero, List.set_cons_succ]
              refine wpAnyH_take (i := 6) (v := ?vb2b6x5) rfl (by kernel_rfl) (by kernel_rfl) (by kernel_rfl) (fun _ _ _ h => h) (Or.inl ⟨by rfl, ?hyb2b6x5⟩) (by assumption) ?restb2b6x5
              case hyb2b6x5 =>
                intro w hSw
                (try dsimp only at hSw)
                go_simp
                (try with_reducible rfl)
              change wpAnyH _ _ _ _ _ _ _ (Act.put _ (some 32) _) _
              try simp only [Act.put, List.setIfInBounds_toArray, List.set_cons_zero, List.set_cons_succ]
              refine wpAnyH_take (i := 7) (v := ?vb2b7x6) rfl (by kernel_rfl) (by kernel_rfl) (by kernel_rfl) (fun _ _ _ h => h) (Or.inl ⟨by rfl, ?hyb2b7x6⟩) (by assumption) ?restb2b7x6
              case hyb2b7x6 =>
                intro w hSw
                (try dsimp only at hSw)
                go_simp
                (try with_reducible rfl)
              change wpAnyH _ _ _ _ _ _ _ (Act.put _ (some 33) _) _
              try simp only [Act.put, List.setIfInBounds_toArray, List.set_cons_zero, List.set_cons_succ]
              refine wpAnyH_ready (rs := [3, 8]) (by kernel_rfl) (by simp) ?_
              refine AllReadyH.cons rfl (fun K hK => ?_) (AllReadyH.cons rfl (fun K hK => ?_) AllReadyH.nil)
              · go_simp
                (try go_wp2_with fail)
                refine hK.out _ _ (by repeat (first | exact hHeld | exact UpK.refl | refine UpK.setC _ _ ?_ | refine UpK.setR _ _ ?_ | refine UpK.alloc _ ?_ | refine UpK.drew ?_)) (fun hHeld => ?_)
                clear hK K
                try simp only [Act.put, List.setIfInBounds_toArray, List.set_cons_zero, List.set_cons_succ]
                have HR6x : RdrW rb (41 :: t) l2 ((W5.alloc (.cells #[.int .i64 x0, .string x1, .string x2, .int .i64 x3, .slice xd xl xc, .int .i64 y0, .string y1, .string y2, .int .i64 y3, .slice yd yl yc] 26)).drew) := (HR5.out.alloc _).drew
                have HR6y : RdrW rb (41 :: t) l2 (W5.drew.alloc (.cells #[.int .i64 x0, .string x1, .string x2, .int .i64 x3, .slice xd xl xc, .int .i64 y0, .string y1, .string y2, .int .i64 y3, .slice yd yl yc] 26)) := HR5.out.drew.alloc _
                first
                  | generalize hWn : (W5.alloc (.cells #[.int .i64 x0, .string x1, .string x2, .int .i64 x3, .slice xd xl xc, .int .i64 y0, .string y1, .string y2, .int .i64 y3, .slice yd yl yc] 26)).drew = W6 at hHeld HR6x ⊢
                  | generalize hWn : W5.drew.alloc (.cells #[.int .i64 x0, .string x1, .string x2, .int .i64 x3, .slice xd xl xc, .int .i64 y0, .string y1, .string y2, .int .i64 y3, .slice yd yl yc] 26) = W6 at hHeld HR6y ⊢
                have HBTW6 : Hid (But rb W5 W6) := Lib.hid (by rw [← hWn]; first | exact ((But.refl rb W5).alloc _).drew | exact ((But.refl rb W5).drew).alloc _ | exact (But.refl rb W5).alloc _)
                have HCEW6 : Hid (∀ i, W6.cell? ⟨W5.heap.size, i, none⟩ = (#[.int .i64 x0, .string x1, .string x2, .int .i64 x3, .slice xd xl xc, .int .i64 y0, .string y1, .string y2, .int .i64 y3, .slice yd yl yc] : Array Value)[i]?) := Lib.hid (fun i => by rw [← hWn]; first | exact cell_top W5 _ _ _ i rfl | exact cell_top W5.drew _ _ _ i rfl)
                have HSZW6 : Hid (W5.heap.size < W6.heap.size) := Lib.hid (by rw [← hWn]; simp)
                clear hWn
                have HR6 : Hid (RdrW rb (41 :: t) l2 W6) := Lib.hid (by first | exact HR6x | exact HR6y)
                clear HR6x HR6y
                have HU6 := Lib.hid hHeld
                have HBXW6 : Hid (Box5 c W6) := Lib.hid (HBX5.out.but HBTW6.out HCR.out)
                (try clear r0 r1 r2 r3 r4 q0 q1 q2 q3 q4 hcl)
                have r0 := HBXW6.out.r0
                have r1 := HBXW6.out.r1
                have r2 := HBXW6.out.r2
                have r3 := HBXW6.out.r3
                have r4 := HBXW6.out.r4
                have q0 := HBXW6.out.fz 0
                have q1 := HBXW6.out.fz 1
                have q2 := HBXW6.out.fz 2
                have q3 := HBXW6.out.fz 3
                have q4 := HBXW6.out.fz 4
                have hcl := HBXW6.out.lt
                refine wpAnyH_take (i := 4) (v := ?vb3b4x101) rfl (by kernel_rfl) (by kernel_rfl) (by kernel_rfl) (fun _ _ _ h => h) (Or.inl ⟨by rfl, ?hyb3b4x101⟩) (by assumption) ?restb3b4x101
                case hyb3b4x101 =>
                  intro w hSw
                  (try dsimp only at hSw)
                  go_simp
                  (try with_reducible rfl)
                change wpAnyH _ _ _ _ _ _ _ (Act.put _ (some 30) _) _
                try simp only [Act.put, List.setIfInBounds_toArray, List.set_cons_zero, List.set_cons_succ]
                refine wpAnyH_ready (rs := [8]) (by kernel_rfl) (by simp) ?_
                refine AllReadyH.cons rfl (fun K hK => ?_) AllReadyH.nil
                go_simp
                go_at_call 91
                refine Calls.mono (take_yes3 rb l2 41 41 (by decide) t W6 HR6.out (by have := HRL.out; simp only [List.length_cons] at this; omega)) ?_
                rintro e W7 ⟨rfl, hrn, hbn⟩
                have HRW7 := Lib.hid hrn
                have HBnW7 := Lib.hid hbn
                clear hrn hbn
                have HU7 : Hid (UpK rb c W5 W7) := Lib.hid (HU6.out.but HBnW7.out)
                (try go_wp2_with fail)
                refine hK.out _ _ (HU7.out) (fun hHeld => ?_)
                clear hK K
                try simp only [Act.put, List.setIfInBounds_toArray, List.set_cons_zero, List.set_cons_succ]
                refine wpAnyH_take (i := 9) (v := ?vb3b9x102) rfl (by kernel_rfl) (by kernel_rfl) (by kernel_rfl) (fun _ _ _ h => h) (Or.inl ⟨by rfl, ?hyb3b9x102⟩) (by assumption) ?restb3b9x102
                case hyb3b9x102 =>
                  intro w hSw
                  (try dsimp only at hSw)
                  go_simp
                  (try with_reducible rfl)
                change wpAnyH _ _ _ _ _ _ _ (Act.put _ (some 35) _) _
                try simp only [Act.put, List.setIfInBounds_toArray, List.set_cons_zero, List.set_cons_succ]
                have HBXW7 : Hid (Box5 c W7) := Lib.hid (HBXW6.out.but HBnW7.out HCR.out)
                (try clear r0 r1 r2 r3 r4 q0 q1 q2 q3 q4 hcl)
                have r0 := HBXW7.out.r0
                have r1 := HBXW7.out.r1
                have r2 := HBXW7.out.r2
                have r3 := HBXW7.out.r3
                have r4 := HBXW7.out.r4
                have q0 := HBXW7.out.fz 0
                have q1 := HBXW7.out.fz 1
                have q2 := HBXW7.out.fz 2
                have q3 := HBXW7.out.fz 3
                have q4 := HBXW7.out.fz 4
                have hcl := HBXW7.out.lt
                refine wpAnyH_ready (rs := [10]) (by kernel_rfl) (by simp) ?_
                refine AllReadyH.cons rfl (fun K hK => ?_) AllReadyH.nil
                go_simp
                (try go_wp2_with fail)
                refine hK.out _ _ (by repeat (first | exact hHeld | exact UpK.refl | exact HU7.out | exact HU6.out | refine UpK.setC _ _ ?_ | refine UpK.setR _ _ ?_ | refine UpK.alloc _ ?_ | refine UpK.drew ?_)) (fun hHeld => ?_)
                clear hK K
                try simp only [Act.put, List.setIfInBounds_toArray, List.set_cons_zero, List.set_cons_succ]
                refine wpAnyH_take (i := 11) (v := ?vb3b11x103) rfl (by kernel_rfl) (by kernel_rfl) (by kernel_rfl) (fun _ _ _ h => h) (Or.inl ⟨by rfl, ?hyb3b11x103⟩) (by assumption) ?restb3b11x103
                case hyb3b11x103 =>
                  intro w hSw
                  (try dsimp only at hSw)
                  go_simp
                  (try with_reducible rfl)
                change wpAnyH _ _ _ _ _ _ _ (Act.put _ (some 3) _) _
                try simp only [Act.put, List.setIfInBounds_toArray, List.set_cons_zero, List.set_cons_succ]
                refine wpAnyH_done (by kernel_rfl) ?_ _
                have HGB : Hid (w.heap.size ≤ W5.heap.size ∧ W5.heap.size ≠ c) := Lib.hid ⟨HB5.out.size, by have := HBX5.out.lt; omega⟩
                have HGL : Hid (W5.heap.size < W7.heap.size) := Lib.hid (Nat.lt_of_lt_of_le HSZW6.out HBnW7.out.size)
                have HCL : Hid (∀ i, W7.cell? ⟨W5.heap.size, i, none⟩ = _) := Lib.hid (fun i => (HBnW7.out.cell (p := ⟨W5.heap.size, i, none⟩) HSZW6.out (by have := HR5.out.lt; show W5.heap.size ≠ rb; omega)).trans (HCEW6.out i))
                go_wp2_with fail
                refine bodyPost_ret (v := .tuple #[.agg #[.int .i64 kk, .string ⟨#[]⟩, .string ⟨#[]⟩, .int .i64 0, .slice (some ⟨W5.heap.size, 0, none⟩) 2 2], .bool true]) (by simp [results, Tryz.results93, go_sem, cell_set, r0, r1, r2, r3, r4, hcl]) rfl ?_
                show AskQ rb w _ _ (five W7 c (.int .i64 kk) (.string ⟨#[]⟩) (.string ⟨#[]⟩) (.int .i64 0) (.slice (some ⟨W5.heap.size, 0, none⟩) 2 2))
                rw [HP.out]
                exact ⟨five_but (HB5.out.trans (HBTW6.out.trans HBnW7.out)) (Nat.le_of_eq HC.out.symm) _ _ _ _ _, _, rfl, ⟨_, _, _, _, _, _, _, rfl⟩, tree_two (HU7.out) HGL.out HGB.out.1 HGB.out.2 HCL.out HVA5.out (fun b h => HPA.out b h) HVB.out (fun b h => HPB.out b h) _ _ _ _ _, (HRW7.out).five HCR.out _ _ _ _ _⟩
              · go_simp
                go_at_call 91
                refine Calls.mono (take_yes3 rb l2 41 41 (by decide) t W5.drew HR5.out.drew (by have := HRL.out; simp only [List.length_cons] at this; omega)) ?_
                rintro e W6 ⟨rfl, hrn, hbn⟩
                have HRW6 := Lib.hid hrn
                have HBnW6 := Lib.hid hbn
                clear hrn hbn
                have HU6 : Hid (UpK rb c W5 W6) := Lib.hid (UpK.refl.drew.but HBnW6.out)
                (try go_wp2_with fail)
                refine hK.out _ _ (HU6.out) (fun hHeld => ?_)
                clear hK K
                try simp only [Act.put, List.setIfInBounds_toArray, List.set_cons_zero, List.set_cons_succ]
                refine wpAnyH_take (i := 9) (v := ?vb4b9x201) rfl (by kernel_rfl) (by kernel_rfl) (by kernel_rfl) (fun _ _ _ h => h) (Or.inl ⟨by rfl, ?hyb4b9x201⟩) (by assumption) ?restb4b9x201
                case hyb4b9x201 =>
                  intro w hSw
                  (try dsimp only at hSw)
                  go_simp
                  (try with_reducible rfl)
                change wpAnyH _ _ _ _ _ _ _ (Act.put _ (some 35) _) _
                try simp only [Act.put, List.setIfInBounds_toArray, List.set_cons_zero, List.set_cons_succ]
                have HBXW6 : Hid (Box5 c W6) := Lib.hid ((HBX5.out.but (But.refl rb W5).drew HCR.out).but HBnW6.out HCR.out)
                (try clear r0 r1 r2 r3 r4 q0 q1 q2 q3 q4 hcl)
                have r0 := HBXW6.out.r0
                have r1 := HBXW6.out.r1
                have r2 := HBXW6.out.r2
                have r3 := HBXW6.out.r3
                have r4 := HBXW6.out.r4
                have q0 := HBXW6.out.fz 0
                have q1 := HBXW6.out.fz 1
                have q2 := HBXW6.out.fz 2
                have q3 := HBXW6.out.fz 3
                have q4 := HBXW6.out.fz 4
                have hcl := HBXW6.out.lt
                refine wpAnyH_ready (rs := [3]) (by kernel_rfl) (by simp) ?_
                refine AllReadyH.cons rfl (fun K hK => ?_) AllReadyH.nil
                go_simp
                (try go_wp2_with fail)
                refine hK.out _ _ (by repeat (first | exact hHeld | exact UpK.refl | exact HU7.out | exact HU6.out | refine UpK.setC _ _ ?_ | refine UpK.setR _ _ ?_ | refine UpK.alloc _ ?_ | refine UpK.drew ?_)) (fun hHeld => ?_)
                clear hK K
                try simp only [Act.put, List.setIfInBounds_toArray, List.set_cons_zero, List.set_cons_succ]
                have HR7a : RdrW rb t l2 ((W6.alloc (.cells #[.int .i64 x0, .string x1, .string x2, .int .i64 x3, .slice xd xl xc, .int .i64 y0, .string y1, .string y2, .int .i64 y3, .slice yd yl yc] 26)).drew) := (HRW6.out.alloc _).drew
                have HR7b : RdrW rb t l2 (W6.drew.alloc (.cells #[.int .i64 x0, .string x1, .string x2, .int .i64 x3, .slice xd xl xc, .int .i64 y0, .string y1, .string y2, .int .i64 y3, .slice yd yl yc] 26)) := HRW6.out.drew.alloc _
                have HR7c : RdrW rb t l2 (W6.alloc (.cells #[.int .i64 x0, .string x1, .string x2, .int .i64 x3, .slice xd xl xc, .int .i64 y0, .string y1, .string y2, .int .i64 y3, .slice yd yl yc] 26)) := HRW6.out.alloc _
                generalize hWn : W6.alloc (.cells #[.int .i64 x0, .string x1, .string x2, .int .i64 x3, .slice xd xl xc, .int .i64 y0, .string y1, .string y2, .int .i64 y3, .slice yd yl yc] 26) = W7 at hHeld HR7c ⊢
                have HBTW7 : Hid (But rb W6 W7) := Lib.hid (by rw [← hWn]; first | exact ((But.refl rb W6).alloc _).drew | exact ((But.refl rb W6).drew).alloc _ | exact (But.refl rb W6).alloc _)
                have HCEW7 : Hid (∀ i, W7.cell? ⟨W6.heap.size, i, none⟩ = (#[.int .i64 x0, .string x1, .string x2, .int .i64 x3, .slice xd xl xc, .int .i64 y0, .string y1, .string y2, .int .i64 y3, .slice yd yl yc] : Array Value)[i]?) := Lib.hid (fun i => by rw [← hWn]; first | exact cell_top W6 _ _ _ i rfl | exact cell_top W6.drew _ _ _ i rfl)
                have HSZW7 : Hid (W6.heap.size < W7.heap.size) := Lib.hid (by rw [← hWn]; simp)
                clear hWn
                have HR7 : Hid (RdrW rb t l2 W7) := Lib.hid HR7c
                clear HR7a HR7b HR7c
                have HU7 := Lib.hid hHeld
                have HBXW7 : Hid (Box5 c W7) := Lib.hid (HBXW6.out.but HBTW7.out HCR.out)
                (try clear r0 r1 r2 r3 r4 q0 q1 q2 q3 q4 hcl)
                have r0 := HBXW7.out.r0
                have r1 := HBXW7.out.r1
                have r2 := HBXW7.out.r2
                have r3 := HBXW7.out.r3
                have r4 := HBXW7.out.r4
                have q0 := HBXW7.out.fz 0
                have q1 := HBXW7.out.fz 1
                have q2 := HBXW7.out.fz 2
                have q3 := HBXW7.out.fz 3
                have q4 := HBXW7.out.fz 4
                have hcl := HBXW7.out.lt
                refine wpAnyH_take (i := 4) (v := ?vb4b4x202) rfl (by kernel_rfl) (by kernel_rfl) (by kernel_rfl) (fun _ _ _ h => h) (Or.inl ⟨by rfl, ?hyb4b4x202⟩) (by assumption) ?restb4b4x202
                case hyb4b4x202 =>
                  intro w hSw
                  (try dsimp only at hSw)
                  go_simp
                  (try with_reducible rfl)
                change wpAnyH _ _ _ _ _ _ _ (Act.put _ (some 30) _) _
                try simp only [Act.put, List.setIfInBounds_toArray, List.set_cons_zero, List.set_cons_succ]
                refine wpAnyH_ready (rs := [10]) (by kernel_rfl) (by simp) ?_
                refine AllReadyH.cons rfl (fun K hK => ?_) AllReadyH.nil
                go_simp
                (try go_wp2_with fail)
                refine hK.out _ _ (by repeat (first | exact hHeld | exact UpK.refl | exact HU7.out | exact HU6.out | refine UpK.setC _ _ ?_ | refine UpK.setR _ _ ?_ | refine UpK.alloc _ ?_ | refine UpK.drew ?_)) (fun hHeld => ?_)
                clear hK K
                try simp only [Act.put, List.setIfInBounds_toArray, List.set_cons_zero, List.set_cons_succ]
                refine wpAnyH_take (i := 11) (v := ?vb4b11x203) rfl (by kernel_rfl) (by kernel_rfl) (by kernel_rfl) (fun _ _ _ h => h) (Or.inl ⟨by rfl, ?hyb4b11x203⟩) (by assumption) ?restb4b11x203
                case hyb4b11x203 =>
                  intro w hSw
                  (try dsimp only at hSw)
                  go_simp
                  (try with_reducible rfl)
                change wpAnyH _ _ _ _ _ _ _ (Act.put _ (some 3) _) _
                try simp only [Act.put, List.setIfInBounds_toArray, List.set_cons_zero, List.set_cons_succ]
                refine wpAnyH_done (by kernel_rfl) ?_ _
                have HGB : Hid (w.heap.size ≤ W6.heap.size ∧ W6.heap.size ≠ c) := Lib.hid ⟨Nat.le_trans HB5.out.size HBnW6.out.size, by have := HBXW6.out.lt; omega⟩
                have HGL : Hid (W6.heap.size < W7.heap.size) := HSZW7
                have HCL := HCEW7
                go_wp2_with fail
                refine bodyPost_ret (v := .tuple #[.agg #[.int .i64 kk, .string ⟨#[]⟩, .string ⟨#[]⟩, .int .i64 0, .slice (some ⟨W6.heap.size, 0, none⟩) 2 2], .bool true]) (by simp [results, Tryz.results93, go_sem, cell_set, r0, r1, r2, r3, r4, hcl]) rfl ?_
                show AskQ rb w _ _ (five W7 c (.int .i64 kk) (.string ⟨#[]⟩) (.string ⟨#[]⟩) (.int .i64 0) (.slice (some ⟨W6.heap.size, 0, none⟩) 2 2))
                rw [HP.out]
                exact ⟨five_but (HB5.out.trans ((But.refl rb W5).drew.trans (HBnW6.out.trans HBTW7.out))) (Nat.le_of_eq HC.out.symm) _ _ _ _ _, _, rfl, ⟨_, _, _, _, _, _, _, rfl⟩, tree_two (HU7.out) HGL.out HGB.out.1 HGB.out.2 HCL.out HVA5.out (fun b h => HPA.out b h) HVB.out (fun b h => HPB.out b h) _ _ _ _ _, (HR7.out).five HCR.out _ _ _ _ _⟩
            · have HN41 : Hid (∀ t, ru ≠ 41 :: t) := Lib.hid (fun t e => h41 ⟨t, e⟩)
              have HP : Hid (O = none) := Lib.hid (HOE.out.trans (twoE_no HN41.out))
              clear h41
              refine wp_region_held_drew (S := fun W => UpK rb c W5 W) (by kernel_rfl) (UpK.refl.drew) (fun hHeld => ?_)
              refine wpAnyH_take (i := 0) (v := ?vb5b0x51) rfl (by kernel_rfl) (by kernel_rfl) (by kernel_rfl) (fun _ _ _ h => h) (Or.inl ⟨by rfl, ?hyb5b0x51⟩) (by assumption) ?restb5b0x51
              case hyb5b0x51 =>
                intro w hSw
                (try dsimp only at hSw)
                go_simp
                (try with_reducible rfl)
              change wpAnyH _ _ _ _ _ _ _ (Act.put _ (some 26) _) _
              try simp only [Act.put, List.setIfInBounds_toArray, List.set_cons_zero, List.set_cons_succ]
              refine wpAnyH_take (i := 1) (v := ?vb5b1x52) rfl (by kernel_rfl) (by kernel_rfl) (by kernel_rfl) (fun _ _ _ h => h) (Or.inl ⟨by rfl, ?hyb5b1x52⟩) (by assumption) ?restb5b1x52
              case hyb5b1x52 =>
                intro w hSw
                (try dsimp only at hSw)
                obtain ⟨ga0, ga1, ga2, ga3, ga4, gb0, gb1, gb2, gb3, gb4⟩ := HDX.out w hSw
                go_simp
                (try with_reducible rfl)
              change wpAnyH _ _ _ _ _ _ _ (Act.put _ (some 27) _) _
              try simp only [Act.put, List.setIfInBounds_toArray, List.set_cons_zero, List.set_cons_succ]
              refine wpAnyH_take (i := 2) (v := ?vb5b2x53) rfl (by kernel_rfl) (by kernel_rfl) (by kernel_rfl) (fun _ _ _ h => h) (Or.inl ⟨by rfl, ?hyb5b2x53⟩) (by assumption) ?restb5b2x53
              case hyb5b2x53 =>
                intro w hSw
                (try dsimp only at hSw)
                obtain ⟨ga0, ga1, ga2, ga3, ga4, gb0, gb1, gb2, gb3, gb4⟩ := HDX.out w hSw
                go_simp
                (try with_reducible rfl)
              change wpAnyH _ _ _ _ _ _ _ (Act.put _ (some 28) _) _
              try simp only [Act.put, List.setIfInBounds_toArray, List.set_cons_zero, List.set_cons_succ]
              refine wpAnyH_take (i := 5) (v := ?vb5b5x54) rfl (by kernel_rfl) (by kernel_rfl) (by kernel_rfl) (fun _ _ _ h => h) (Or.inl ⟨by rfl, ?hyb5b5x54⟩) (by assumption) ?restb5b5x54
              case hyb5b5x54 =>
                intro w hSw
                (try dsimp only at hSw)
                go_simp
                (try with_reducible rfl)
              change wpAnyH _ _ _ _ _ _ _ (Act.put _ (some 31) _) _
              try simp only [Act.put, List.setIfInBounds_toArray, List.set_cons_zero, List.set_cons_succ]
              refine wpAnyH_take (i := 6) (v := ?vb5b6x55) rfl (by kernel_rfl) (by kernel_rfl) (by kernel_rfl) (fun _ _ _ h => h) (Or.inl ⟨by rfl, ?hyb5b6x55⟩) (by assumption) ?restb5b6x55
              case hyb5b6x55 =>
                intro w hSw
                (try dsimp only at hSw)
                go_simp
                (try with_reducible rfl)
              change wpAnyH _ _ _ _ _ _ _ (Act.put _ (some 32) _) _
              try simp only [Act.put, List.setIfInBounds_toArray, List.set_cons_zero, List.set_cons_succ]
              refine wpAnyH_take (i := 7) (v := ?vb5b7x56) rfl (by kernel_rfl) (by kernel_rfl) (by kernel_rfl) (fun _ _ _ h => h) (Or.inl ⟨by rfl, ?hyb5b7x56⟩) (by assumption) ?restb5b7x56
              case hyb5b7x56 =>
                intro w hSw
                (try dsimp only at hSw)
                go_simp
                (try with_reducible rfl)
              change wpAnyH _ _ _ _ _ _ _ (Act.put _ (some 33) _) _
              try simp only [Act.put, List.setIfInBounds_toArray, List.set_cons_zero, List.set_cons_succ]
              refine wpAnyH_ready (rs := [3, 8]) (by kernel_rfl) (by simp) ?_
              refine AllReadyH.cons rfl (fun K hK => ?_) (AllReadyH.cons rfl (fun K hK => ?_) AllReadyH.nil)
              · go_simp
                (try go_wp2_with fail)
                refine hK.out _ _ (by repeat (first | exact hHeld | exact UpK.refl | refine UpK.setC _ _ ?_ | refine UpK.setR _ _ ?_ | refine UpK.alloc _ ?_ | refine UpK.drew ?_)) (fun hHeld => ?_)
                clear hK K
                try simp only [Act.put, List.setIfInBounds_toArray, List.set_cons_zero, List.set_cons_succ]
                have HR6x : RdrW rb ru l2 ((W5.alloc (.cells #[.int .i64 x0, .string x1, .string x2, .int .i64 x3, .slice xd xl xc, .int .i64 y0, .string y1, .string y2, .int .i64 y3, .slice yd yl yc] 26)).drew) := (HR5.out.alloc _).drew
                have HR6y : RdrW rb ru l2 (W5.drew.alloc (.cells #[.int .i64 x0, .string x1, .string x2, .int .i64 x3, .slice xd xl xc, .int .i64 y0, .string y1, .string y2, .int .i64 y3, .slice yd yl yc] 26)) := HR5.out.drew.alloc _
                first
                  | generalize hWn : (W5.alloc (.cells #[.int .i64 x0, .string x1, .string x2, .int .i64 x3, .slice xd xl xc, .int .i64 y0, .string y1, .string y2, .int .i64 y3, .slice yd yl yc] 26)).drew = W6 at hHeld HR6x ⊢
                  | generalize hWn : W5.drew.alloc (.cells #[.int .i64 x0, .string x1, .string x2, .int .i64 x3, .slice xd xl xc, .int .i64 y0, .string y1, .string y2, .int .i64 y3, .slice yd yl yc] 26) = W6 at hHeld HR6y ⊢
                have HBTW6 : Hid (But rb W5 W6) := Lib.hid (by rw [← hWn]; first | exact ((But.refl rb W5).alloc _).drew | exact ((But.refl rb W5).drew).alloc _ | exact (But.refl rb W5).alloc _)
                have HCEW6 : Hid (∀ i, W6.cell? ⟨W5.heap.size, i, none⟩ = (#[.int .i64 x0, .string x1, .string x2, .int .i64 x3, .slice xd xl xc, .int .i64 y0, .string y1, .string y2, .int .i64 y3, .slice yd yl yc] : Array Value)[i]?) := Lib.hid (fun i => by rw [← hWn]; first | exact cell_top W5 _ _ _ i rfl | exact cell_top W5.drew _ _ _ i rfl)
                have HSZW6 : Hid (W5.heap.size < W6.heap.size) := Lib.hid (by rw [← hWn]; simp)
                clear hWn
                have HR6 : Hid (RdrW rb ru l2 W6) := Lib.hid (by first | exact HR6x | exact HR6y)
                clear HR6x HR6y
                have HU6 := Lib.hid hHeld
                have HBXW6 : Hid (Box5 c W6) := Lib.hid (HBX5.out.but HBTW6.out HCR.out)
                (try clear r0 r1 r2 r3 r4 q0 q1 q2 q3 q4 hcl)
                have r0 := HBXW6.out.r0
                have r1 := HBXW6.out.r1
                have r2 := HBXW6.out.r2
                have r3 := HBXW6.out.r3
                have r4 := HBXW6.out.r4
                have q0 := HBXW6.out.fz 0
                have q1 := HBXW6.out.fz 1
                have q2 := HBXW6.out.fz 2
                have q3 := HBXW6.out.fz 3
                have q4 := HBXW6.out.fz 4
                have hcl := HBXW6.out.lt
                refine wpAnyH_take (i := 4) (v := ?vb6b4x401) rfl (by kernel_rfl) (by kernel_rfl) (by kernel_rfl) (fun _ _ _ h => h) (Or.inl ⟨by rfl, ?hyb6b4x401⟩) (by assumption) ?restb6b4x401
                case hyb6b4x401 =>
                  intro w hSw
                  (try dsimp only at hSw)
                  go_simp
                  (try with_reducible rfl)
                change wpAnyH _ _ _ _ _ _ _ (Act.put _ (some 30) _) _
                try simp only [Act.put, List.setIfInBounds_toArray, List.set_cons_zero, List.set_cons_succ]
                refine wpAnyH_ready (rs := [8]) (by kernel_rfl) (by simp) ?_
                refine AllReadyH.cons rfl (fun K hK => ?_) AllReadyH.nil
                go_simp
                go_at_call 91
                refine Calls.mono (take_no3 rb l2 41 41 (by decide) ru W6 HR6.out HN41.out) ?_
                rintro e w' ⟨rfl, rfl⟩
                (try go_wp2_with fail)
                refine hK.out _ _ (HU6.out) (fun hHeld => ?_)
                clear hK K
                try simp only [Act.put, List.setIfInBounds_toArray, List.set_cons_zero, List.set_cons_succ]
                refine wpAnyH_take (i := 9) (v := ?vb6b9x402) rfl (by kernel_rfl) (by kernel_rfl) (by kernel_rfl) (fun _ _ _ h => h) (Or.inl ⟨by rfl, ?hyb6b9x402⟩) (by assumption) ?restb6b9x402
                case hyb6b9x402 =>
                  intro w hSw
                  (try dsimp only at hSw)
                  go_simp
                  (try with_reducible rfl)
                change wpAnyH _ _ _ _ _ _ _ (Act.put _ (some 35) _) _
                try simp only [Act.put, List.setIfInBounds_toArray, List.set_cons_zero, List.set_cons_succ]
                refine wpAnyH_ready (rs := [10]) (by kernel_rfl) (by simp) ?_
                refine AllReadyH.cons rfl (fun K hK => ?_) AllReadyH.nil
                go_simp
                (try go_wp2_with fail)
                refine hK.out _ _ (by repeat (first | exact hHeld | exact UpK.refl | exact HU7.out | exact HU6.out | refine UpK.setC _ _ ?_ | refine UpK.setR _ _ ?_ | refine UpK.alloc _ ?_ | refine UpK.drew ?_)) (fun hHeld => ?_)
                clear hK K
                try simp only [Act.put, List.setIfInBounds_toArray, List.set_cons_zero, List.set_cons_succ]
                refine wpAnyH_take (i := 11) (v := ?vb6b11x403) rfl (by kernel_rfl) (by kernel_rfl) (by kernel_rfl) (fun _ _ _ h => h) (Or.inl ⟨by rfl, ?hyb6b11x403⟩) (by assumption) ?restb6b11x403
                case hyb6b11x403 =>
                  intro w hSw
                  (try dsimp only at hSw)
                  go_simp
                  (try with_reducible rfl)
                change wpAnyH _ _ _ _ _ _ _ (Act.put _ (some 3) _) _
                try simp only [Act.put, List.setIfInBounds_toArray, List.set_cons_zero, List.set_cons_succ]
                refine wpAnyH_done (by kernel_rfl) ?_ _
                go_wp2_with fail
                refine bodyPost_ret (v := .tuple #[.agg #[.int .i64 kk, .string ⟨#[]⟩, .string ⟨#[]⟩, .int .i64 0, .slice (some ⟨W5.heap.size, 0, none⟩) 2 2], .bool false]) (by simp [results, Tryz.results93, go_sem, cell_set, r0, r1, r2, r3, r4, hcl]) rfl ?_
                show AskQ rb w _ _ (five W6 c (.int .i64 kk) (.string ⟨#[]⟩) (.string ⟨#[]⟩) (.int .i64 0) (.slice (some ⟨W5.heap.size, 0, none⟩) 2 2))
                rw [HP.out]
                exact ⟨five_but (HB5.out.trans HBTW6.out) (Nat.le_of_eq HC.out.symm) _ _ _ _ _, _, rfl, ⟨_, _, _, _, _, _, _, rfl⟩, ru, l2, by have := HRL.out; omega, (HR6.out).five HCR.out _ _ _ _ _⟩
              · go_simp
                go_at_call 91
                refine Calls.mono (take_no3 rb l2 41 41 (by decide) ru W5.drew HR5.out.drew HN41.out) ?_
                rintro e w' ⟨rfl, rfl⟩
                (try go_wp2_with fail)
                refine hK.out _ _ (hHeld) (fun hHeld => ?_)
                clear hK K
                try simp only [Act.put, List.setIfInBounds_toArray, List.set_cons_zero, List.set_cons_succ]
                refine wpAnyH_take (i := 9) (v := ?vb7b9x501) rfl (by kernel_rfl) (by kernel_rfl) (by kernel_rfl) (fun _ _ _ h => h) (Or.inl ⟨by rfl, ?hyb7b9x501⟩) (by assumption) ?restb7b9x501
                case hyb7b9x501 =>
                  intro w hSw
                  (try dsimp only at hSw)
                  go_simp
                  (try with_reducible rfl)
                change wpAnyH _ _ _ _ _ _ _ (Act.put _ (some 35) _) _
                try simp only [Act.put, List.setIfInBounds_toArray, List.set_cons_zero, List.set_cons_succ]
                refine wpAnyH_ready (rs := [3]) (by kernel_rfl) (by simp) ?_
                refine AllReadyH.cons rfl (fun K hK => ?_) AllReadyH.nil
                go_simp
                (try go_wp2_with fail)
                refine hK.out _ _ (by repeat (first | exact hHeld | exact UpK.refl | refine UpK.setC _ _ ?_ | refine UpK.setR _ _ ?_ | refine UpK.alloc _ ?_ | refine UpK.drew ?_)) (fun hHeld => ?_)
                clear hK K
                try simp only [Act.put, List.setIfInBounds_toArray, List.set_cons_zero, List.set_cons_succ]
                have HR6x : RdrW rb ru l2 ((W5.alloc (.cells #[.int .i64 x0, .string x1, .string x2, .int .i64 x3, .slice xd xl xc, .int .i64 y0, .string y1, .string y2, .int .i64 y3, .slice yd yl yc] 26)).drew) := (HR5.out.alloc _).drew
                have HR6y : RdrW rb ru l2 (W5.drew.alloc (.cells #[.int .i64 x0, .string x1, .string x2, .int .i64 x3, .slice xd xl xc, .int .i64 y0, .string y1, .string y2, .int .i64 y3, .slice yd yl yc] 26)) := HR5.out.drew.alloc _
                first
                  | generalize hWn : (W5.alloc (.cells #[.int .i64 x0, .string x1, .string x2, .int .i64 x3, .slice xd xl xc, .int .i64 y0, .string y1, .string y2, .int .i64 y3, .slice yd yl yc] 26)).drew = W6 at hHeld HR6x ⊢
                  | generalize hWn : W5.drew.alloc (.cells #[.int .i64 x0, .string x1, .string x2, .int .i64 x3, .slice xd xl xc, .int .i64 y0, .string y1, .string y2, .int .i64 y3, .slice yd yl yc] 26) = W6 at hHeld HR6y ⊢
                have HBTW6 : Hid (But rb W5 W6) := Lib.hid (by rw [← hWn]; first | exact ((But.refl rb W5).alloc _).drew | exact ((But.refl rb W5).drew).alloc _ | exact (But.refl rb W5).alloc _)
                have HCEW6 : Hid (∀ i, W6.cell? ⟨W5.heap.size, i, none⟩ = (#[.int .i64 x0, .string x1, .string x2, .int .i64 x3, .slice xd xl xc, .int .i64 y0, .string y1, .string y2, .int .i64 y3, .slice yd yl yc] : Array Value)[i]?) := Lib.hid (fun i => by rw [← hWn]; first | exact cell_top W5 _ _ _ i rfl | exact cell_top W5.drew _ _ _ i rfl)
                have HSZW6 : Hid (W5.heap.size < W6.heap.size) := Lib.hid (by rw [← hWn]; simp)
                clear hWn
                have HR6 : Hid (RdrW rb ru l2 W6) := Lib.hid (by first | exact HR6x | exact HR6y)
                clear HR6x HR6y
                have HU6 := Lib.hid hHeld
                have HBXW6 : Hid (Box5 c W6) := Lib.hid (HBX5.out.but HBTW6.out HCR.out)
                (try clear r0 r1 r2 r3 r4 q0 q1 q2 q3 q4 hcl)
                have r0 := HBXW6.out.r0
                have r1 := HBXW6.out.r1
                have r2 := HBXW6.out.r2
                have r3 := HBXW6.out.r3
                have r4 := HBXW6.out.r4
                have q0 := HBXW6.out.fz 0
                have q1 := HBXW6.out.fz 1
                have q2 := HBXW6.out.fz 2
                have q3 := HBXW6.out.fz 3
                have q4 := HBXW6.out.fz 4
                have hcl := HBXW6.out.lt
                refine wpAnyH_take (i := 4) (v := ?vb7b4x502) rfl (by kernel_rfl) (by kernel_rfl) (by kernel_rfl) (fun _ _ _ h => h) (Or.inl ⟨by rfl, ?hyb7b4x502⟩) (by assumption) ?restb7b4x502
                case hyb7b4x502 =>
                  intro w hSw
                  (try dsimp only at hSw)
                  go_simp
                  (try with_reducible rfl)
                change wpAnyH _ _ _ _ _ _ _ (Act.put _ (some 30) _) _
                try simp only [Act.put, List.setIfInBounds_toArray, List.set_cons_zero, List.set_cons_succ]
                refine wpAnyH_ready (rs := [10]) (by kernel_rfl) (by simp) ?_
                refine AllReadyH.cons rfl (fun K hK => ?_) AllReadyH.nil
                go_simp
                (try go_wp2_with fail)
                refine hK.out _ _ (by repeat (first | exact hHeld | exact UpK.refl | exact HU7.out | exact HU6.out | refine UpK.setC _ _ ?_ | refine UpK.setR _ _ ?_ | refine UpK.alloc _ ?_ | refine UpK.drew ?_)) (fun hHeld => ?_)
                clear hK K
                try simp only [Act.put, List.setIfInBounds_toArray, List.set_cons_zero, List.set_cons_succ]
                refine wpAnyH_take (i := 11) (v := ?vb7b11x503) rfl (by kernel_rfl) (by kernel_rfl) (by kernel_rfl) (fun _ _ _ h => h) (Or.inl ⟨by rfl, ?hyb7b11x503⟩) (by assumption) ?restb7b11x503
                case hyb7b11x503 =>
                  intro w hSw
                  (try dsimp only at hSw)
                  go_simp
                  (try with_reducible rfl)
                change wpAnyH _ _ _ _ _ _ _ (Act.put _ (some 3) _) _
                try simp only [Act.put, List.setIfInBounds_toArray, List.set_cons_zero, List.set_cons_succ]
                refine wpAnyH_done (by kernel_rfl) ?_ _
                go_wp2_with fail
                refine bodyPost_ret (v := .tuple #[.agg #[.int .i64 kk, .string ⟨#[]⟩, .string ⟨#[]⟩, .int .i64 0, .slice (some ⟨W5.heap.size, 0, none⟩) 2 2], .bool false]) (by simp [results, Tryz.results93, go_sem, cell_set, r0, r1, r2, r3, r4, hcl]) rfl ?_
                show AskQ rb w _ _ (five W6 c (.int .i64 kk) (.string ⟨#[]⟩) (.string ⟨#[]⟩) (.int .i64 0) (.slice (some ⟨W5.heap.size, 0, none⟩) 2 2))
                rw [HP.out]
                exact ⟨five_but (HB5.out.trans HBTW6.out) (Nat.le_of_eq HC.out.symm) _ _ _ _ _, _, rfl, ⟨_, _, _, _, _, _, _, rfl⟩, ru, l2, by have := HRL.out; omega, (HR6.out).five HCR.out _ _ _ _ _⟩
end Go.Proofs.YtkemlckmfgacdaaGreatDoor
