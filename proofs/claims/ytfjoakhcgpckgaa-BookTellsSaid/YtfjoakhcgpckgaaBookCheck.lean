/- Contracts: are slots right? -/
import Derived.Test.YtfjoakhcgpckgaaBookSteps
namespace Go.Proofs.Ytfjoakhcgpckgaa
open Go.ChangeShapes Go.WideShapes Go.ChangeAt Go.RowKit
set_option linter.unusedVariables false
open Bk
set_option maxHeartbeats 1000000 in
theorem over1_any (size p v : Int) (gs : Nat) (w : World) (h1 : w.cell? ⟨gs, 0, none⟩ = some (.int .i64 size)) (l1 : gs < w.heap.size) :
    Calls Try.prog 208 #[.agg #[.int .i64 p, .int .i64 v], .pointer (some ⟨gs, 0, none⟩)] w fun e w' => e = .returned (.bool (decide (size < v))) ∧ Below w.heap.size w w' := by
  have HB : Hid (Below w.heap.size w (w.alloc (.cells #[.int .i64 p, .int .i64 v] 222))) := Lib.hid ((Below.refl _ _).alloc (Nat.le_refl _) _)
  go_enter Try.func208, Try.ntmps208
  go_wp2_with fail
  go_ret
  exact ⟨rfl, HB.out⟩
set_option maxHeartbeats 2000000 in
theorem indexO_any (size : Int) (g k cp : Nat) (L : List Sl) (gs : Nat) (w : World) (h1 : w.cell? ⟨gs, 0, none⟩ = some (.int .i64 size)) (l1 : gs < w.heap.size) (hT : Steps w g k cp L) :
    Calls Try.prog 222 #[.slice (some ⟨g, 0, none⟩) k cp, .func (.func 208) #[] #[.pointer (some ⟨gs, 0, none⟩)]] w fun e w' => ∃ z : Int, e = .returned (.int .i64 z) ∧ decide (z ≥ 0) = overP size L ∧ Below w.heap.size w w' := by
  have HT := Lib.hid hT
  have H1 := Lib.hid h1
  have hk9 := hT.two.2
  clear h1 hT
  go_enter Try.func222, Try.ntmps222
  go_wp2_with fail
  go_loopw [8] (fun v wr => ∃ q : Nat, q ≤ k ∧ v = .int .i64 q ∧ Hid (((pts L).take q).any (fun t => decide (size < bk L t)) = false) ∧ Below w.heap.size w wr) (fun v _ => k - (intOf v).toNat)
  case atStart => exact ⟨0, by omega, rfl, Lib.hid (by simp), Below.refl _ _⟩
  case round =>
    obtain ⟨q, hq, rfl, HQ, hB⟩ := hrel
    have hsz := hB.size
    by_cases hql : q < k
    · have HTr := Lib.hid (HT.out.below hB)
      obtain ⟨p, hp⟩ : ∃ x, (pts L)[q]? = some x := ⟨_, List.getElem?_eq_getElem (by have := HT.out.len; omega)⟩
      obtain ⟨q0, q1⟩ := HTr.out.cell q p hp
      have lg := HTr.out.lt
      obtain ⟨v, hv⟩ : ∃ v, bk L p = v := ⟨_, rfl⟩
      rw [hv] at q1
      have HGO : Hid (((pts L).take (q + 1)).any (fun t => decide (size < bk L t)) = (((pts L).take q).any (fun t => decide (size < bk L t)) || decide (size < v))) := Lib.hid (by rw [List.take_add_one, hp, List.any_append, ← hv]; simp)
      have HX := Lib.hid hp
      have HV := Lib.hid hv
      have H1r := Lib.hid ((hB.cell (p := ⟨gs, 0, none⟩) l1).trans H1.out)
      have HLT : Hid (gs < wr.heap.size) := Lib.hid (by omega)
      have hq1 : (0 : Int) ≤ (q : Int) := by omega
      have hq2 : (q : Int) < (k : Int) := by omega
      clear hp hv
      by_cases hp : size < v
      · have HY : Hid (overP size L = true) := Lib.hid (List.any_eq_true.2 ⟨p, List.mem_of_getElem? HX.out, by rw [HV.out]; simpa using hp⟩)
        have HP : Hid (decide (size < v) = true) := Lib.hid (by simpa using hp)
        go_wp2_with (go_at_call 208; refine Calls.mono (over1_any size p v gs _ H1r.out HLT.out) ?_; rintro e w3 ⟨rfl, hB4⟩; rw [HP.out]; have hB5 := hB.trans (hB4.mono hsz))
        go_ret
        exact ⟨(q : Int), rfl, by rw [HY.out]; simp, hB5⟩
      · have HP : Hid (decide (size < v) = false) := Lib.hid (by simpa using hp)
        have HQ2 := Lib.hid (HGO.out.trans (by rw [HQ.out, HP.out]))
        go_wp2_with (go_at_call 208; refine Calls.mono (over1_any size p v gs _ H1r.out HLT.out) ?_; rintro e w3 ⟨rfl, hB4⟩; rw [HP.out]; have hB5 := hB.trans (hB4.mono hsz))
        go_roundw
        case rel => exact ⟨q + 1, by omega, rfl, HQ2, hB5⟩
        case measure => simp [intOf]; omega
    · have HY : Hid (overP size L = false) := Lib.hid (by have h := HQ.out; rwa [List.take_of_length_le (by have := HT.out.len; omega)] at h)
      go_wp2_with fail
      go_ret
      exact ⟨-1, rfl, by rw [HY.out]; rfl, hB⟩
theorem containsO_any (size : Int) (g k cp : Nat) (L : List Sl) (gs : Nat) (w : World) (h1 : w.cell? ⟨gs, 0, none⟩ = some (.int .i64 size)) (l1 : gs < w.heap.size) (hT : Steps w g k cp L) :
    Calls Try.prog 207 #[.slice (some ⟨g, 0, none⟩) k cp, .func (.func 208) #[] #[.pointer (some ⟨gs, 0, none⟩)]] w fun e w' => e = .returned (.bool (overP size L)) ∧ Below w.heap.size w w' := by
  have HT := Lib.hid hT
  have H1 := Lib.hid h1
  clear h1 hT
  go_enter Try.func207, Try.ntmps207
  go_wp2_with (go_at_call 222; refine Calls.mono (indexO_any size g k cp L gs _ H1.out l1 HT.out) ?_; rintro e w1 ⟨z, rfl, hz, hB1⟩; have HZ := Lib.hid hz; clear hz)
  go_ret
  exact ⟨by rw [← HZ.out]; rfl, hB1⟩
theorem over_any (size : Int) (L : List Sl) (a : Option Addr) (n cap : Nat) (w : World) (hn : n = L.length) (hl : n ≤ 101) (hS : Sane L) (hL : Slots w a L) (h0 : 0 ≤ size) :
    Calls Try.prog 163 #[.int .i64 size, .slice a n cap] w fun e w' => e = .returned (.bool (overB size L)) ∧ Below w.heap.size w w' := by
  obtain ⟨W, hW⟩ : ∃ W, W = w.alloc (.cells #[.int .i64 size] 2) := ⟨_, rfl⟩
  obtain ⟨gs, hgs⟩ : ∃ g, g = w.heap.size := ⟨_, rfl⟩
  have HB0 : Hid (Below gs w W) := Lib.hid (by rw [hW, hgs]; exact (Below.refl _ _).alloc (Nat.le_refl _) _)
  have HC0 : Hid (W.cell? ⟨gs, 0, none⟩ = some (.int .i64 size)) := Lib.hid (by rw [hW, hgs]; simp)
  have HLG : Hid (gs < W.heap.size) := Lib.hid (by rw [hW, hgs]; simp)
  have HL := Lib.hid (hL.below HB0.out (by omega))
  have HN := Lib.hid hn
  have HS := Lib.hid hS
  have HG := Lib.hid hgs
  have HV := Lib.hid (over_same hS h0)
  clear hn hS hL
  go_enter Try.func163, Try.ntmps163
  go_upto_region 1 with fail
  rw [← hW, ← hgs]
  clear hW hgs
  go_wp2_with (first
    | (go_at_call 161; refine Calls.mono (steps_any L a n cap W HN.out hl HS.out HL.out) ?_; rintro e w2 ⟨g, k, cp, rfl, h1, h2⟩; have HT := Lib.hid h1; have HB2 := Lib.hid h2; have HC2 := Lib.hid ((h2.cell (p := ⟨gs, 0, none⟩) HLG.out).trans HC0.out); have HL2 := Lib.hid (Nat.lt_of_lt_of_le HLG.out h2.size); clear h1 h2)
    | (go_at_call 207; refine Calls.mono (containsO_any size g k cp L gs _ HC2.out HL2.out HT.out) ?_; rintro e w3 ⟨rfl, h1⟩; rw [HV.out]; have HB3 := Lib.hid ((HB0.out.trans (HB2.out.mono (Nat.le_of_lt HLG.out))).trans (h1.mono (Nat.le_of_lt HL2.out))); clear h1))
  go_ret
  exact ⟨rfl, by rw [← HG.out]; exact HB3.out⟩
def GoodS (size : Int) (L : List Sl) (j : Nat) : Prop := ∀ i s, i < j → L[i]? = some s → slB size s = true
theorem GoodS.zero (size : Int) (L : List Sl) : GoodS size L 0 := fun i s h _ => absurd h (by omega)
theorem GoodS.succ {size : Int} {L : List Sl} {j : Nat} {s : Sl} (h : GoodS size L j) (hi : L[j]? = some s) (hb : slB size s = true) : GoodS size L (j + 1) := fun i s' h1 h2 => by
  by_cases e : i = j
  · subst e; rw [hi] at h2; cases h2; exact hb
  · exact h i s' (by omega) h2
theorem GoodS.all {size : Int} {L : List Sl} (h : GoodS size L L.length) : L.all (slB size) = true := List.all_eq_true.2 fun x hx => by
  obtain ⟨i, hi, rfl⟩ := List.getElem_of_mem hx
  exact h i _ hi (List.getElem?_eq_getElem hi)
theorem slotsE_bad {size : Int} {L : List Sl} {i : Nat} {s : Sl} (h1 : ¬ (size < 1 ∨ 1099511627776 < size)) (hl : L.length ≤ 100) (hi : L[i]? = some s) (h : slB size s = false) : slotsE size L = 4 := by
  have : L.all (slB size) = false := by
    cases hL : L.all (slB size) with
    | false => rfl
    | true => rw [List.all_eq_true.1 hL s (List.mem_of_getElem? hi)] at h; cases h
  rw [slotsE, if_neg h1, if_neg (by omega), this]; rfl
theorem slotsE_fin {size : Int} {L : List Sl} (h1 : ¬ (size < 1 ∨ 1099511627776 < size)) (hl : L.length ≤ 100) (h : L.all (slB size) = true) : slotsE size L = if overB size L then 10 else 0 := by
  rw [slotsE, if_neg h1, if_neg (by omega), if_pos h]
theorem slot_cases {size : Int} {s : Sl} (h : slB size s = false) : s.fr < 0 ∨ (0 ≤ s.fr ∧ s.to ≤ s.fr) ∨ (0 ≤ s.fr ∧ s.fr < s.to ∧ 1000000 < s.to) ∨ (0 ≤ s.fr ∧ s.fr < s.to ∧ s.to ≤ 1000000 ∧ s.n < 1) ∨ (0 ≤ s.fr ∧ s.fr < s.to ∧ s.to ≤ 1000000 ∧ 1 ≤ s.n ∧ size < s.n) := by
  have := slB_no h
  omega
set_option maxRecDepth 20000 in
set_option maxHeartbeats 4000000 in
theorem bCheck_any (size : Int) (L : List Sl) (a : Option Addr) (n cap : Nat) (w : World) (hn : n = L.length) (hmax : n ≤ 9223372036854775807) (hL : Slots w a L) :
    Calls Try.prog 86 #[.int .i64 size, .slice a n cap] w fun e w' => e = .returned (.int .i64 (slotsE size L)) ∧ Below w.heap.size w w' := by
  have HL := Lib.hid hL
  have HN := Lib.hid hn
  clear hL hn
  by_cases hz : size < 1 ∨ 1099511627776 < size
  · have HV := Lib.hid (show (1 : Int) = slotsE size L from by rw [slotsE, if_pos hz])
    have hcase : size < 1 ∨ (1 ≤ size ∧ 1099511627776 < size) := by omega
    clear hz
    rcases hcase with p1 | ⟨p1, p2⟩
    all_goals
      go_enter Try.func86, Try.ntmps86
      go_wp2_with fail
      go_ret
      exact ⟨ret_int HV.out, by go_grown⟩
  obtain ⟨z0, z1⟩ : 1 ≤ size ∧ size ≤ 1099511627776 := by omega
  clear hz
  by_cases h100 : 100 < n
  · have HV := Lib.hid (show (2 : Int) = slotsE size L from by rw [slotsE, if_neg (by omega), if_pos (by have := HN.out; omega)])
    have h100' : (n : Int) > 100 := by omega
    go_enter Try.func86, Try.ntmps86
    go_wp2_with fail
    go_ret
    exact ⟨ret_int HV.out, by go_grown⟩
  have h100' : n ≤ 100 := by omega
  have h100b : ¬ (n : Int) > 100 := by omega
  clear h100
  go_enter Try.func86, Try.ntmps86
  go_wp2_with fail
  go_loopw [20] (fun i wr => ∃ j : Nat, j ≤ n ∧ i = .int .i64 j ∧ Hid (GoodS size L j) ∧ Below w.heap.size w wr) (fun i _ => n - (intOf i).toNat)
  case atStart => exact ⟨0, by omega, rfl, Lib.hid (GoodS.zero size L), Below.refl _ _⟩
  case round =>
    obtain ⟨j, hj, rfl, HG, hB⟩ := hrel
    by_cases hlt : j < n
    · obtain ⟨b, off, rfl, hb, hat⟩ := HL.out (by have := HN.out; omega)
      obtain ⟨s, hx⟩ : ∃ x, L[j]? = some x := ⟨_, List.getElem?_eq_getElem (by have := HN.out; omega)⟩
      obtain ⟨q0, q1, q2⟩ := hat.below hB hb j s hx
      have HX := Lib.hid hx
      have hbr : b < wr.heap.size := Nat.lt_of_lt_of_le hb hB.size
      have hsz := hB.size
      clear hat hx
      cases hg : slB size s with
      | true =>
        have HI := Lib.hid (HG.out.succ HX.out hg)
        obtain ⟨r1, r2, r3, r4, r5⟩ := slB_yes hg
        clear hg
        go_wp2_with fail
        go_roundw
        case rel => exact ⟨j + 1, by omega, rfl, HI, by go_grown⟩
        case measure => simp [intOf]; omega
      | false =>
        have HI := Lib.hid (slotsE_bad (by omega) (by have := HN.out; omega) HX.out hg).symm
        have hcase := slot_cases hg
        clear hg
        rcases hcase with p1 | ⟨p1, p2⟩ | ⟨p1, p2, p3⟩ | ⟨p1, p2, p3, p4⟩ | ⟨p1, p2, p3, p4, p5⟩
        all_goals
          go_wp2_with fail
          go_ret
          exact ⟨ret_int HI.out, by go_grown⟩
    · have HA : Hid (L.all (slB size) = true) := Lib.hid (by
        have e : j = L.length := by have := HN.out; omega
        exact GoodS.all (e ▸ HG.out))
      have HV := Lib.hid (slotsE_fin (by omega) (by have := HN.out; omega) HA.out)
      have HC := Lib.hid (over_any size L a n cap wr HN.out (by omega) (slots_sane HA.out z1) (HL.out.below hB (Nat.le_refl _)) (by omega))
      cases ho : overB size L with
      | true =>
        rw [ho] at HC HV
        clear ho
        go_wp2_with (go_at_call 163; refine Calls.mono HC.out ?_; rintro e w3 ⟨rfl, h1⟩; have HB3 := Lib.hid (hB.trans (h1.mono hB.size)); clear h1)
        go_ret
        exact ⟨ret_int (by rw [HV.out]; rfl), HB3.out⟩
      | false =>
        rw [ho] at HC HV
        clear ho
        go_wp2_with (go_at_call 163; refine Calls.mono HC.out ?_; rintro e w3 ⟨rfl, h1⟩; have HB3 := Lib.hid (hB.trans (h1.mono hB.size)); clear h1)
        go_ret
        exact ⟨ret_int (by rw [HV.out]; rfl), HB3.out⟩
end Go.Proofs.Ytfjoakhcgpckgaa
