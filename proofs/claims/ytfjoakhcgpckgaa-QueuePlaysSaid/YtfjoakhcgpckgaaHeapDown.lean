/- Contract: a thing of the heap moves down. -/
import Derived.Test.YtfjoakhcgpckgaaHeapUp
namespace Go.Proofs.Ytfjoakhcgpckgaa.Hp
set_option linter.unusedVariables false
theorem par1 (i : Nat) : par (2 * i + 1) = i := by unfold par; omega
theorem par2 (i : Nat) : par (2 * i + 1 + 1) = i := by unfold par; omega
theorem par_cases {k i : Nat} (h0 : 0 < k) (h : par k = i) : k = 2 * i + 1 ∨ k = 2 * i + 1 + 1 := by unfold par at h; omega
/-- a heap, but that nothing is known of i -/
structure ButH (ts : List Th) (n i : Nat) : Prop where
  rest : ∀ (k : Nat) (a b : Th), 0 < k → k < n → k ≠ i → par k ≠ i → ts[k]? = some a → ts[par k]? = some b → le b a
  over : ∀ (k : Nat) (a b : Th), 0 < k → k < n → par k = i → 0 < i → ts[k]? = some a → ts[par i]? = some b → le b a
theorem DnH.but {ts : List Th} {n i : Nat} (h : DnH ts n i) : ButH ts n i := ⟨fun k a b h0 hk _ hp ha hb => h.rest k a b h0 hk hp ha hb, h.over⟩
theorem Heap.but {ts : List Th} {n i : Nat} (hn : n ≤ ts.length) (h : Heap ts n) : ButH ts n i := ⟨fun k a b h0 hk _ hp ha hb => h k a b h0 hk ha hb, fun k a b h0 hk hp hi ha hb => by
  have hk2 := par_lt h0
  have hx : ts[i]? = some ts[i] := List.getElem?_eq_getElem (by omega)
  exact le_trans (h i _ b hi (by omega) hx hb) (h k a _ h0 hk ha (by rw [hp]; exact hx))⟩
theorem ButH.up {ts : List Th} {n i : Nat} (h : ButH ts n i) (hs : ∀ (k : Nat) (a b : Th), 0 < k → k < n → par k = i → ts[k]? = some a → ts[i]? = some b → le b a) : UpH ts n i :=
  ⟨fun k a b h0 hk hne ha hb => by
    by_cases e : par k = i
    · exact hs k a b h0 hk e ha (by rw [← e]; exact hb)
    · exact h.rest k a b h0 hk hne e ha hb, fun k a b h0 hk hp hi ha hb => h.over k a b h0 hk hp hi ha hb⟩
theorem ButH.first {ts : List Th} {n : Nat} (h : ButH ts n 0) (hs : ∀ (k : Nat) (a b : Th), 0 < k → k < n → par k = 0 → ts[k]? = some a → ts[0]? = some b → le b a) : Heap ts n := fun k a b h0 hk ha hb => by
  by_cases e : par k = 0
  · exact hs k a b h0 hk e ha (by rw [← e]; exact hb)
  · exact h.rest k a b h0 hk (by omega) e ha hb
theorem ButH.go {ts : List Th} {n i c : Nat} (hn : n ≤ ts.length) (h : ButH ts n i) (hc0 : 0 < c) (hcn : c < n) (hpc : par c = i) {a x : Th} (ha : ts[i]? = some a) (hx : ts[c]? = some x)
    (hl : ahd x a = true) (hmin : ∀ (k : Nat) (y : Th), 0 < k → k < n → par k = i → ts[k]? = some y → le x y) : DnH (swp ts i c) n c := by
  have hic : i < c := by have := par_lt hc0; omega
  have hxa := le_of_ahd hl
  refine ⟨fun k p q h0 hk hne hp hq => ?_, fun k p q h0 hk hpk hc hp hq => ?_⟩
  · rw [swp_at ha hx] at hp hq
    by_cases e1 : k = c
    · subst e1
      rw [if_pos rfl] at hp
      rw [if_neg (by omega), if_pos hpc] at hq
      cases hp; cases hq
      exact hxa
    · rw [if_neg e1] at hp
      rw [if_neg hne] at hq
      by_cases e2 : par k = i
      · rw [if_pos e2] at hq
        cases hq
        have e3 : k ≠ i := by have := par_lt h0; omega
        rw [if_neg e3] at hp
        exact hmin k p h0 hk e2 hp
      · rw [if_neg e2] at hq
        by_cases e3 : k = i
        · subst e3
          rw [if_pos rfl] at hp
          cases hp
          have := h.over c x q hc0 hcn hpc h0 hx hq
          exact this
        · rw [if_neg e3] at hp
          exact h.rest k p q h0 hk e3 e2 hp hq
  · rw [swp_at ha hx] at hp hq
    have e1 : k ≠ c := by have := par_lt h0; omega
    have e2 : k ≠ i := by have := par_lt h0; omega
    rw [if_neg e1, if_neg e2] at hp
    rw [hpc, if_neg (by omega), if_pos rfl] at hq
    cases hq
    exact h.rest k p x h0 hk e2 (by omega) hp (by rw [hpk]; exact hx)
/-- on the way down from i0 -/
structure DnI (ts us : List Th) (n i0 i : Nat) : Prop where
  ge : i0 ≤ i
  but : ButH us n i
  first : i = i0 → us = ts
  later : i ≠ i0 → DnH us n i
theorem DnI.start {ts : List Th} {n i : Nat} (h : ButH ts n i) : DnI ts ts n i i := ⟨Nat.le_refl _, h, fun _ => rfl, fun e => (e rfl).elim⟩
theorem DnI.go {ts us : List Th} {n i0 i c : Nat} (hn : n ≤ us.length) (h : DnI ts us n i0 i) (hc0 : 0 < c) (hcn : c < n) (hpc : par c = i) {a x : Th} (ha : us[i]? = some a) (hx : us[c]? = some x)
    (hl : ahd x a = true) (hmin : ∀ (k : Nat) (y : Th), 0 < k → k < n → par k = i → us[k]? = some y → le x y) : DnI ts (swp us i c) n i0 c := by
  have hd := h.but.go hn hc0 hcn hpc ha hx hl hmin
  have := h.ge
  have := par_lt hc0
  exact ⟨by omega, hd.but, fun e => absurd e (by omega), fun _ => hd⟩
/-- what the end of the way down tells -/
def DnEnd (ts us : List Th) (n i0 : Nat) (r : Bool) : Prop := (r = true → Heap us n) ∧ (r = false → us = ts ∧ ∀ (k : Nat) (a b : Th), 0 < k → k < n → par k = i0 → ts[k]? = some a → ts[i0]? = some b → le b a)
theorem DnI.stop {ts us : List Th} {n i0 i : Nat} (h : DnI ts us n i0 i) (hs : ∀ (k : Nat) (a b : Th), 0 < k → k < n → par k = i → us[k]? = some a → us[i]? = some b → le b a) : DnEnd ts us n i0 (decide (i > i0)) := by
  have hg := h.ge
  refine ⟨fun hr => (h.later (by simp at hr; omega)).stop hs, fun hr => ?_⟩
  have e : i = i0 := by simp at hr; omega
  have e2 := h.first e
  subst e
  exact ⟨e2, by rw [e2] at hs; exact hs⟩
/-- the lesser of two below -/
theorem min_two {us : List Th} {n i : Nat} {x y : Th} (h1 : us[2 * i + 1]? = some x) (h2 : us[2 * i + 1 + 1]? = some y) : (ahd y x = false → ∀ (k : Nat) (z : Th), 0 < k → k < n → par k = i → us[k]? = some z → le x z) ∧ (ahd y x = true → ∀ (k : Nat) (z : Th), 0 < k → k < n → par k = i → us[k]? = some z → le y z) := by
  refine ⟨fun hl k z h0 hk hp hz => ?_, fun hl k z h0 hk hp hz => ?_⟩
  · rcases par_cases h0 hp with rfl | rfl
    · rw [h1] at hz; cases hz; exact le_refl _
    · rw [h2] at hz; cases hz; exact hl
  · rcases par_cases h0 hp with rfl | rfl
    · rw [h1] at hz; cases hz; exact le_of_ahd hl
    · rw [h2] at hz; cases hz; exact le_refl _
theorem min_one {us : List Th} {n i : Nat} {x : Th} (h1 : us[2 * i + 1]? = some x) (hn : ¬ 2 * i + 1 + 1 < n) : ∀ (k : Nat) (z : Th), 0 < k → k < n → par k = i → us[k]? = some z → le x z := fun k z h0 hk hp hz => by
  rcases par_cases h0 hp with rfl | rfl
  · rw [h1] at hz; cases hz; exact le_refl _
  · omega
end Go.Proofs.Ytfjoakhcgpckgaa.Hp
namespace Go.Proofs.Ytfjoakhcgpckgaa
open Go.ChangeShapes Go.WideShapes Go.ChangeAt Go.RowKit
set_option linter.unusedVariables false
open Hp
set_option maxRecDepth 20000 in
set_option maxHeartbeats 8000000 in
theorem down_any (F : Nat → Prop) (gq gm : Nat) (born : Int) (v : Value) (ts : List Th) (n i0 : Nat) (w : World) (h : HW F gq gm born v ts w) (hn : n ≤ ts.length) (hi0 : i0 ≤ 1000) (hU : ButH ts n i0) (h4 : ts.length ≤ 1000) :
    Calls Try.prog 182 #[hp gq, .int .i64 i0, .int .i64 n] w fun e w' => ∃ (us : List Th) (r : Bool), e = .returned (.bool r) ∧ DnEnd ts us n i0 r ∧ Same n us ts ∧ HW F gq gm born v us w' ∧ Kept F w w' := by
  have HH := Lib.hid h
  have HU := Lib.hid (DnI.start hU)
  have HS := Lib.hid (Same.refl n ts)
  have HK := Lib.hid (Kept.refl F w)
  have HN := Lib.hid (show n ≤ ts.length ∧ ts.length ≤ 1000 from ⟨hn, h4⟩)
  have hn4 : Hid (n ≤ 1000) := Lib.hid (by omega)
  clear h hU hn h4
  unfold hp
  go_enter Try.func182, Try.ntmps182
  have HI0 := Lib.hid hi0
  clear hi0
  go_wp2_with fail
  go_loopw [7] (fun x wr => ∃ (i : Nat) (us : List Th), x = .int .i64 i ∧ Hid (i ≤ 1000) ∧ Hid (HW F gq gm born v us wr) ∧ Hid (DnI ts us n i0 i) ∧ Hid (Same n us ts) ∧ Hid (Kept F w wr)) (fun x _ => 1001 - (intOf x).toNat)
  case atStart => exact ⟨i0, ts, rfl, HI0, HH, HU, HS, HK⟩
  case round =>
    clear HH HU HS HK
    obtain ⟨i, us, rfl, HI, HH, HU, HS, HK⟩ := hrel
    have hlen : Hid (us.length = ts.length) := Lib.hid HS.out.1.length_eq
    have hl4 : Hid (us.length ≤ 1000) := Lib.hid (by have := hlen.out; have := HN.out; omega)
    have hnl : Hid (n ≤ us.length) := Lib.hid (by have := hlen.out; have := HN.out; omega)
    have w1 : IntKind.i64.wrap (2 * (i : Int)) = 2 * (i : Int) := IntWalk.i64_in _ (by have := HI.out; omega)
    obtain ⟨j1, hj1⟩ : ∃ j, 2 * i + 1 = j := ⟨_, rfl⟩
    have HJ1 := Lib.hid hj1
    have e1 : 2 * (i : Int) + 1 = (j1 : Int) := by omega
    have w2 : IntKind.i64.wrap (j1 : Int) = (j1 : Int) := IntWalk.i64_in _ (by have := HI.out; omega)
    have hj0 : decide ((j1 : Int) < 0) = false := by simp
    have hij : i < j1 := by omega
    clear hj1
    by_cases h1 : j1 < n
    · obtain ⟨j2, hj2⟩ : ∃ j, j1 + 1 = j := ⟨_, rfl⟩
      have HJ2 := Lib.hid hj2
      have e2 : (j1 : Int) + 1 = (j2 : Int) := by omega
      have w3 : IntKind.i64.wrap (j2 : Int) = (j2 : Int) := IntWalk.i64_in _ (by have := HI.out; have := HJ1.out; omega)
      have h1b : decide ((j1 : Int) ≥ (n : Int)) = false := by simp; omega
      obtain ⟨a, ha⟩ : ∃ a, us[i]? = some a := ⟨_, List.getElem?_eq_getElem (by have := hnl.out; omega)⟩
      obtain ⟨c1, hc1⟩ : ∃ a, us[j1]? = some a := ⟨_, List.getElem?_eq_getElem (by have := hnl.out; omega)⟩
      have HA := Lib.hid ha
      have HC1 := Lib.hid hc1
      have n1 := nLess ⟨gq, 0, none⟩
      have n2 := nSwap ⟨gq, 0, none⟩
      have m1 := mLess HH.out.cell
      clear hj2 ha hc1
      by_cases h2 : j2 < n
      · have h2b : decide ((j2 : Int) < (n : Int)) = true := by simp; omega
        obtain ⟨c2, hc2⟩ : ∃ a, us[j2]? = some a := ⟨_, List.getElem?_eq_getElem (by have := hnl.out; omega)⟩
        have HC2 := Lib.hid hc2
        have HMN := Lib.hid (min_two (n := n) (i := i) (by rw [HJ1.out]; exact HC1.out) (by rw [HJ1.out, HJ2.out]; exact HC2.out))
        clear hc2
        cases hl : ahd c2 c1 with
        | true =>
          have HL := Lib.hid hl
          clear hl
          cases hs : ahd c2 a with
          | true =>
            have HS2 := Lib.hid hs
            clear hs
            go_wp2_with (first
              | (go_at_call 271; (with_reducible refine Calls.mono (Less_any F gq gm born v us j2 j1 c2 c1 wr HH.out HC2.out HC1.out hl4.out) ?_); rintro e wa ⟨rfl, hda⟩; rw [HL.out]; have HBa := Lib.hid (Drawn.below hda wr.heap.size); have HHa := Lib.hid (HH.out.below (Drawn.below hda _)); clear hda; have ma := mLess HHa.out.cell)
              | (go_at_call 271; refine Calls.mono (Less_any F gq gm born v us j2 i c2 a _ HHa.out HC2.out HA.out hl4.out) ?_; rintro e wb ⟨rfl, hdb⟩; rw [HS2.out]; have HBb := Lib.hid (Drawn.below hdb wr.heap.size); have HHb := Lib.hid (HHa.out.below (Drawn.below hdb _)); clear hdb; have mb := mSwap HHb.out.cell)
              | (go_at_call 272; refine Calls.mono (Swap_any F gq gm born v us i j2 a c2 _ HHb.out HA.out HC2.out hl4.out) ?_; rintro e wd ⟨rfl, hH2, hK2⟩; have HH2 := Lib.hid hH2; have HK2 := Lib.hid ((HK.out.trans (Kept.below (F := F) (HBa.out.trans HBb.out)) (fun x hx => .inl hx)).trans hK2 (fun x hx => .inl hx)); clear hH2 hK2))
            have HU2 := Lib.hid (HU.out.go hnl.out (by omega) h2 (by rw [← HJ2.out, ← HJ1.out]; exact par2 i) HA.out HC2.out HS2.out (HMN.out.2 HL.out))
            go_roundw
            case rel => exact ⟨j2, swp us i j2, rfl, Lib.hid (by have := hnl.out; have := hl4.out; omega), HH2, HU2, Lib.hid (HS.out.swap (by omega) h2 HA.out HC2.out), HK2⟩
            case measure => simp [intOf]; have := hnl.out; have := hl4.out; have := HJ1.out; omega
          | false =>
            have HS2 := Lib.hid hs
            have HE := Lib.hid (HU.out.stop fun k y b h0 hk hp hy hb => by
              have hx := HA.out
              rw [hx] at hb
              cases hb
              exact le_trans HS2.out ((HMN.out.2 HL.out) k y h0 hk hp hy))
            clear hs
            go_wp2_with (first
              | (go_at_call 271; (with_reducible refine Calls.mono (Less_any F gq gm born v us j2 j1 c2 c1 wr HH.out HC2.out HC1.out hl4.out) ?_); rintro e wa ⟨rfl, hda⟩; rw [HL.out]; have HBa := Lib.hid (Drawn.below hda wr.heap.size); have HHa := Lib.hid (HH.out.below (Drawn.below hda _)); clear hda; have ma := mLess HHa.out.cell)
              | (go_at_call 271; refine Calls.mono (Less_any F gq gm born v us j2 i c2 a _ HHa.out HC2.out HA.out hl4.out) ?_; rintro e wb ⟨rfl, hdb⟩; rw [HS2.out]; have HBb := Lib.hid (Drawn.below hdb wr.heap.size); have HHb := Lib.hid (HHa.out.below (Drawn.below hdb _)); clear hdb)
              | fail)
            go_ret
            exact ⟨us, _, rfl, HE.out, HS.out, HHb.out, HK.out.trans (Kept.below (F := F) (HBa.out.trans HBb.out)) (fun x hx => .inl hx)⟩
        | false =>
          have HL := Lib.hid hl
          clear hl
          cases hs : ahd c1 a with
          | true =>
            have HS2 := Lib.hid hs
            clear hs
            go_wp2_with (first
              | (go_at_call 271; (with_reducible refine Calls.mono (Less_any F gq gm born v us j2 j1 c2 c1 wr HH.out HC2.out HC1.out hl4.out) ?_); rintro e wa ⟨rfl, hda⟩; rw [HL.out]; have HBa := Lib.hid (Drawn.below hda wr.heap.size); have HHa := Lib.hid (HH.out.below (Drawn.below hda _)); clear hda; have ma := mLess HHa.out.cell)
              | (go_at_call 271; refine Calls.mono (Less_any F gq gm born v us j1 i c1 a _ HHa.out HC1.out HA.out hl4.out) ?_; rintro e wb ⟨rfl, hdb⟩; rw [HS2.out]; have HBb := Lib.hid (Drawn.below hdb wr.heap.size); have HHb := Lib.hid (HHa.out.below (Drawn.below hdb _)); clear hdb; have mb := mSwap HHb.out.cell)
              | (go_at_call 272; refine Calls.mono (Swap_any F gq gm born v us i j1 a c1 _ HHb.out HA.out HC1.out hl4.out) ?_; rintro e wd ⟨rfl, hH2, hK2⟩; have HH2 := Lib.hid hH2; have HK2 := Lib.hid ((HK.out.trans (Kept.below (F := F) (HBa.out.trans HBb.out)) (fun x hx => .inl hx)).trans hK2 (fun x hx => .inl hx)); clear hH2 hK2))
            have HU2 := Lib.hid (HU.out.go hnl.out (by omega) h1 (by rw [← HJ1.out]; exact par1 i) HA.out HC1.out HS2.out (HMN.out.1 HL.out))
            go_roundw
            case rel => exact ⟨j1, swp us i j1, rfl, Lib.hid (by have := hnl.out; have := hl4.out; omega), HH2, HU2, Lib.hid (HS.out.swap (by omega) h1 HA.out HC1.out), HK2⟩
            case measure => simp [intOf]; have := hnl.out; have := hl4.out; have := HJ1.out; omega
          | false =>
            have HS2 := Lib.hid hs
            have HE := Lib.hid (HU.out.stop fun k y b h0 hk hp hy hb => by
              have hx := HA.out
              rw [hx] at hb
              cases hb
              exact le_trans HS2.out ((HMN.out.1 HL.out) k y h0 hk hp hy))
            clear hs
            go_wp2_with (first
              | (go_at_call 271; (with_reducible refine Calls.mono (Less_any F gq gm born v us j2 j1 c2 c1 wr HH.out HC2.out HC1.out hl4.out) ?_); rintro e wa ⟨rfl, hda⟩; rw [HL.out]; have HBa := Lib.hid (Drawn.below hda wr.heap.size); have HHa := Lib.hid (HH.out.below (Drawn.below hda _)); clear hda; have ma := mLess HHa.out.cell)
              | (go_at_call 271; refine Calls.mono (Less_any F gq gm born v us j1 i c1 a _ HHa.out HC1.out HA.out hl4.out) ?_; rintro e wb ⟨rfl, hdb⟩; rw [HS2.out]; have HBb := Lib.hid (Drawn.below hdb wr.heap.size); have HHb := Lib.hid (HHa.out.below (Drawn.below hdb _)); clear hdb)
              | fail)
            go_ret
            exact ⟨us, _, rfl, HE.out, HS.out, HHb.out, HK.out.trans (Kept.below (F := F) (HBa.out.trans HBb.out)) (fun x hx => .inl hx)⟩
      · have h2b : decide ((j2 : Int) < (n : Int)) = false := by simp; omega
        have HMN := Lib.hid (min_one (n := n) (i := i) (by rw [HJ1.out]; exact HC1.out) (by rw [HJ1.out, HJ2.out]; exact h2))
        cases hs : ahd c1 a with
        | true =>
          have HS2 := Lib.hid hs
          clear hs
          go_wp2_with (first
            | (go_at_call 271; refine Calls.mono (Less_any F gq gm born v us j1 i c1 a _ HH.out HC1.out HA.out hl4.out) ?_; rintro e wb ⟨rfl, hdb⟩; rw [HS2.out]; have HBb := Lib.hid (Drawn.below hdb wr.heap.size); have HHb := Lib.hid (HH.out.below (Drawn.below hdb _)); clear hdb; have mb := mSwap HHb.out.cell)
            | (go_at_call 272; refine Calls.mono (Swap_any F gq gm born v us i j1 a c1 _ HHb.out HA.out HC1.out hl4.out) ?_; rintro e wd ⟨rfl, hH2, hK2⟩; have HH2 := Lib.hid hH2; have HK2 := Lib.hid ((HK.out.trans (Kept.below (F := F) (HBb.out)) (fun x hx => .inl hx)).trans hK2 (fun x hx => .inl hx)); clear hH2 hK2))
          have HU2 := Lib.hid (HU.out.go hnl.out (by omega) h1 (by rw [← HJ1.out]; exact par1 i) HA.out HC1.out HS2.out (HMN.out))
          go_roundw
          case rel => exact ⟨j1, swp us i j1, rfl, Lib.hid (by have := hnl.out; have := hl4.out; omega), HH2, HU2, Lib.hid (HS.out.swap (by omega) h1 HA.out HC1.out), HK2⟩
          case measure => simp [intOf]; have := hnl.out; have := hl4.out; have := HJ1.out; omega
        | false =>
          have HS2 := Lib.hid hs
          have HE := Lib.hid (HU.out.stop fun k y b h0 hk hp hy hb => by
            have hx := HA.out
            rw [hx] at hb
            cases hb
            exact le_trans HS2.out ((HMN.out) k y h0 hk hp hy))
          clear hs
          go_wp2_with (first
            | (go_at_call 271; refine Calls.mono (Less_any F gq gm born v us j1 i c1 a _ HH.out HC1.out HA.out hl4.out) ?_; rintro e wb ⟨rfl, hdb⟩; rw [HS2.out]; have HBb := Lib.hid (Drawn.below hdb wr.heap.size); have HHb := Lib.hid (HH.out.below (Drawn.below hdb _)); clear hdb)
            | fail)
          go_ret
          exact ⟨us, _, rfl, HE.out, HS.out, HHb.out, HK.out.trans (Kept.below (F := F) (HBb.out)) (fun x hx => .inl hx)⟩
    · have h1b : decide ((j1 : Int) ≥ (n : Int)) = true := by simp; omega
      have HE := Lib.hid (HU.out.stop fun k a b h0 hk hp _ _ => by have := HJ1.out; rcases par_cases h0 hp with e | e <;> omega)
      go_wp2_with fail
      go_ret
      exact ⟨us, _, rfl, HE.out, HS.out, HH.out, HK.out⟩
end Go.Proofs.Ytfjoakhcgpckgaa
