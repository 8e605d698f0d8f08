/- Contracts: boxes that have things in them: the program's, the document's. -/
import Derived.Test.YtfjoakhcgpckgaaPackMap
import Derived.Test.YtfjoakhcgpckgaaPackCheck
import Derived.StillTailTactics
import Derived.Carry
import Derived.Deep.RegionLaw
import Derived.Laws.EntriesVeiled
namespace Go.Proofs.Ytfjoakhcgpckgaa
open Go.ChangeShapes Go.WideShapes Go.ChangeAt Go.RowKit
set_option linter.unusedVariables false
open Wk St
theorem BoxM.next {gm q : Nat} {D O : List Int} {o x u : Int} {w : World} (ho : O.getD q 0 = o) (hx : D.getD q 0 = x) (hu : u = bs D O q o + x) (h : BoxM gm (q + 1) (setI (bs D O q) o u) (setB (bh O q) o) (if bh O q o then bc O q else bc O q + 1) w) : BoxM gm (q + 1) (bs D O (q + 1)) (bh O (q + 1)) (bc O (q + 1)) w := by
  have e1 : setI (bs D O q) o u = bs D O (q + 1) := by
    funext z
    simp only [setI, bs, ho, hx]
    by_cases e : z = o
    · subst e; simp [hu]
    · have : ¬ o = z := fun e2 => e e2.symm
      simp [e, this]
  have e2 : setB (bh O q) o = bh O (q + 1) := by
    funext z
    rw [bh_next, ho]; rfl
  have e3 : (if bh O q o then bc O q else bc O q + 1) = bc O (q + 1) := by rw [← ho]; rfl
  rwa [e1, e2, e3] at h
def BoxesPost (D O : List Int) (size : Int) (n : Nat) (w : World) (e : Ending) (w' : World) : Prop :=
  ((O.length = D.length ∧ gP D O size n) → e = .returned (.tuple #[.int .i64 (bc O n : Int), .int .i64 0])) ∧ (¬ (O.length = D.length ∧ gP D O size n) → e = .returned (.tuple #[.int .i64 0, .int .i64 1])) ∧ Below w.heap.size w w'
theorem boxes_badPost {D O : List Int} {size : Int} {n : Nat} {w w' : World} (h : ¬ (O.length = D.length ∧ gP D O size n)) (hB : Below w.heap.size w w') : BoxesPost D O size n w (.returned (.tuple #[.int .i64 0, .int .i64 1])) w' := ⟨fun h2 => (h h2).elim, fun _ => rfl, hB⟩
set_option maxHeartbeats 1600000 in
theorem boxes_bad (D : List Int) (size : Int) (a a3 : Option Addr) (n cap n3 cap3 : Nat) (w : World) (hn : n = D.length) (hmax : n ≤ 9223372036854775807) (hD : Vals w a (ints64 D)) (hb : packE D size ≠ 0) :
    Calls Try.prog 39 #[.slice a n cap, .int .i64 size, .slice a3 n3 cap3] w fun e w' => e = .returned (.tuple #[.int .i64 0, .int .i64 (packE D size)]) ∧ w' = w := by
  have C := Lib.hid (pCheck_any D size a n cap w hn hmax hD)
  obtain ⟨z, hz⟩ : ∃ z, packE D size = z := ⟨_, rfl⟩
  rw [hz] at C hb ⊢
  have hb2 : (z != 0) = true := by simpa using hb
  clear hD hn hz
  go_enter Try.func39, Try.ntmps39
  go_wp2_with (go_at_call 41; refine Calls.mono C.out ?_; rintro e w1 ⟨rfl, h1⟩; obtain rfl := h1.symm)
  go_ret2
  exact ⟨rfl, rfl⟩
set_option maxRecDepth 20000 in
set_option maxHeartbeats 3200000 in
theorem boxes_good (D O : List Int) (size : Int) (a a3 : Option Addr) (n cap n3 cap3 : Nat) (w : World) (hn : n = D.length) (hmax : n ≤ 9223372036854775807) (hD : Vals w a (ints64 D)) (hn3 : n3 = O.length) (hO : Vals w a3 (ints64 O)) (hwf : ∀ o, o ∈ O → (Lit.int .i64 o).wf = true) (hb : packE D size = 0) :
    Calls Try.prog 39 #[.slice a n cap, .int .i64 size, .slice a3 n3 cap3] w fun e w' => BoxesPost D O size n w e w' := by
  obtain ⟨g1, g2, g3, g4⟩ := packE_good hb
  have h100 : n ≤ 100 := by omega
  have C : Hid (Calls Try.prog 41 #[.slice a n cap, .int .i64 size] w fun e w' => e = .returned (.int .i64 0) ∧ w' = w) := Lib.hid (by have := pCheck_any D size a n cap w hn hmax hD; rwa [hb] at this)
  have HN := Lib.hid hn
  have HN3 := Lib.hid hn3
  have HD := Lib.hid hD
  have HO := Lib.hid hO
  have HWF := Lib.hid hwf
  have HOK := Lib.hid g4
  have HD0 := Lib.hid (fun (x : Int) (hx : x ∈ D) => (show 0 ≤ x from by have := g4 x hx; omega))
  obtain ⟨W1, hW1⟩ : ∃ W, W = w.alloc (.map #[] 0) := ⟨_, rfl⟩
  obtain ⟨gm, hgm⟩ : ∃ g, g = w.heap.size := ⟨_, rfl⟩
  have HG := Lib.hid (Nat.le_of_eq hgm.symm)
  have HB1 : Hid (Below w.heap.size w W1) := Lib.hid (by rw [hW1]; exact (Below.refl _ _).alloc (Nat.le_refl _) _)
  have HM1 : Hid (BoxM gm 0 (bs D O 0) (bh O 0) (bc O 0) W1) := Lib.hid (by
    rw [hW1, hgm]
    have h := BoxM.made w
    have e1 : (fun _ : Int => (0 : Int)) = bs D O 0 := by funext z; rfl
    have e2 : (fun _ : Int => false) = bh O 0 := by funext z; unfold bh; rw [eq_comm, decide_eq_false_iff_not]; rintro ⟨i, hi, _⟩; omega
    rwa [e1, e2] at h)
  by_cases hl : n3 = n
  · have hlb : ((n3 : Int) != n) = false := by simp [hl]
    have HL : Hid (O.length = D.length) := Lib.hid (by omega)
    obtain rfl : n3 = n := hl
    clear hD hn hn3 hO hb g1 g4 hwf
    have hmm := @run_makeMap Try.prog
    go_enter Try.func39, Try.ntmps39
    go_upto_region 7 with (go_at_call 41; refine Calls.mono C.out ?_; rintro e w1 ⟨rfl, h1⟩; obtain rfl := h1.symm)
    rw [← hW1, ← hgm]
    clear hW1 hgm hmm
    go_wp2_with fail
    go_loopg [26] n3 (fun gk x wr => ∃ q : Nat, q + gk = n3 ∧ x = .int .i64 (q : Int) ∧ Hid (BoxM gm q (bs D O q) (bh O q) (bc O q) wr) ∧ Hid (gP D O size q) ∧ Hid (Below w.heap.size w wr))
    case atStart => exact ⟨0, by omega, rfl, HM1, Lib.hid (fun q h => by omega), HB1⟩
    case round =>
      clear HM1 HB1
      obtain ⟨q, hq, rfl, HM, HP, HB⟩ := hrel
      by_cases hqn : q < n3
      · have hqn2 : (q : Int) < (n3 : Int) := by omega
        have hq0 : (0 : Int) ≤ (q : Int) := by omega
        obtain ⟨x, hx⟩ : ∃ x, D[q]? = some x := ⟨_, List.getElem?_eq_getElem (by have := HN.out; omega)⟩
        obtain ⟨o, ho⟩ : ∃ o, O[q]? = some o := ⟨_, List.getElem?_eq_getElem (by have := HN3.out; omega)⟩
        obtain ⟨b1, o1, rfl, hb1, d1⟩ := i64at (HD.out.below HB.out (Nat.le_refl _)) hx
        obtain ⟨b2, o2, rfl, hb2, d2⟩ := i64at (HO.out.below HB.out (Nat.le_refl _)) ho
        have HX : Hid (D.getD q 0 = x) := Lib.hid (by rw [List.getD_eq_getElem?_getD, hx]; rfl)
        have HOO : Hid (O.getD q 0 = o) := Lib.hid (by rw [List.getD_eq_getElem?_getD, ho]; rfl)
        have hxb := HOK.out x (List.mem_of_getElem? hx)
        have HWO := Lib.hid (HWF.out o (List.mem_of_getElem? ho))
        have hsb : 0 ≤ bs D O q o ∧ bs D O q o ≤ q * 1099511627776 := ⟨bs_nonneg HD0.out O q o, by
          have := bs_bound (c := size) (by omega) (fun x hx => ⟨HD0.out x hx, (HOK.out x hx).2⟩) O o q
          have h2 : (q : Int) * size ≤ q * 1099511627776 := Int.mul_le_mul_of_nonneg_left (by omega) (by omega)
          omega⟩
        have hlk := BoxM.look (w := wr.drew) HM.out HWO.out
        obtain ⟨s, hs⟩ : ∃ s, bs D O q o = s := ⟨_, rfl⟩
        rw [hs] at hsb hlk
        have HS := Lib.hid hs
        obtain ⟨u, hu⟩ : ∃ u, s + x = u := ⟨_, rfl⟩
        have wy : IntKind.i64.wrap (s + x) = u := by rw [IntWalk.i64_in _ (by omega), hu]
        have HU : Hid (u = bs D O q o + x) := Lib.hid (by rw [HS.out, hu])
        have HWU : Hid ((Lit.int .i64 u).wf = true) := Lib.hid (by
          simp only [Lit.wf, IntKind.min, IntKind.max, IntKind.signed, IntKind.bits, Bool.and_eq_true, decide_eq_true_eq, if_true]; omega)
        have hq2 : q < maxLen := by unfold maxLen; omega
        obtain ⟨w4, hrun, hM4, hg4⟩ := BoxM.upd (w := wr.drew) HM.out hq2 HWO.out HWU.out
        have HM2 := Lib.hid (hM4.next HOO.out HX.out HU.out)
        have HB2 := Lib.hid (HB.out.drew.grown hg4 HB.out.size (fun k hk => by cases hk; exact HG.out))
        have hlk4 := HM2.out.look HWO.out
        obtain ⟨s4, hs4⟩ : ∃ s4, bs D O (q + 1) o = s4 := ⟨_, rfl⟩
        rw [hs4] at hlk4
        have HS4 := Lib.hid hs4
        clear hx ho hs hu hM4 hg4 hs4
        go_wp2_with fail
        go_region
        by_cases ho0 : o < 0
        · have e1 : decide (o < 0) = true := by simp [ho0]
          have HV := Lib.hid (boxes_badPost (w := w) (w' := w4) (fun h => by have := (h.2 q hqn).1; rw [HOO.out] at this; omega : ¬ (O.length = D.length ∧ gP D O size n3)) HB2.out)
          go_wp2_with fail
          go_ret2
          exact HV.out
        · have e1 : decide (o < 0) = false := by simp only [ho0, decide_false]
          by_cases hbig : size < s4
          · have e2 : decide (size < s4) = true := by simp [hbig]
            have HV := Lib.hid (boxes_badPost (w := w) (w' := w4) (fun h => by have := (h.2 q hqn).2; rw [HOO.out, HS4.out] at this; omega : ¬ (O.length = D.length ∧ gP D O size n3)) HB2.out)
            go_wp2_with fail
            go_ret2
            exact HV.out
          · have e2 : decide (size < s4) = false := by simp only [hbig, decide_false]
            have HP2 : Hid (gP D O size (q + 1)) := Lib.hid (fun j hj => by
              rcases Nat.lt_or_ge j q with h1 | h1
              · exact HP.out j h1
              · obtain rfl : j = q := by omega
                rw [HOO.out, HS4.out]
                omega)
            go_wp2_with fail
            go_roundg (gk - 1)
            case measure => omega
            case rel => exact ⟨q + 1, by omega, by simp, HM2, HP2, HB2⟩
      · obtain rfl : q = n3 := by omega
        have hqn2 : ¬ (q : Int) < (q : Int) := by omega
        have hln := fun ty => HM.out.lenRun ty
        have HV : Hid (BoxesPost D O size q w (.returned (.tuple #[.int .i64 (bc O q : Int), .int .i64 0])) wr) := Lib.hid ⟨fun _ => rfl, fun h => (h ⟨HL.out, HP.out⟩).elim, HB.out⟩
        go_wp2_with fail
        go_ret2
        exact HV.out
  · have hlb : ((n3 : Int) != n) = true := by simp; omega
    have HV := Lib.hid (boxes_badPost (D := D) (O := O) (size := size) (n := n) (w := w) (w' := w) (fun h => hl (by omega)) (Below.refl _ _))
    clear hD hn hn3 hO hb g1 g4 hl hwf
    go_enter Try.func39, Try.ntmps39
    go_wp2_with (go_at_call 41; refine Calls.mono C.out ?_; rintro e w1 ⟨rfl, h1⟩; obtain rfl := h1.symm)
    go_ret2
    exact HV.out
/-- the first q are right -/
def gR0 (D O : List Int) (size : Int) (n m : Nat) : Prop := ∀ q, q < m → 0 ≤ O.getD q 0 ∧ bs D O n (O.getD q 0) ≤ size
def BoxesOfPost (D O : List Int) (size : Int) (n : Nat) (w : World) (e : Ending) (w' : World) : Prop :=
  ((O.length = D.length ∧ gR D O size n) → e = .returned (.int .i64 (bc O n : Int))) ∧ (¬ (O.length = D.length ∧ gR D O size n) → e = .returned (.int .i64 (-1))) ∧ w' = w
theorem bof_badPost {D O : List Int} {size : Int} {n : Nat} {w : World} (h : ¬ (O.length = D.length ∧ gR D O size n)) : BoxesOfPost D O size n w (.returned (.int .i64 (-1))) w := ⟨fun h2 => (h h2).elim, fun _ => rfl, rfl⟩
/-- none of the first m that are before i lies where i lies -/
def bf (O : List Int) (m i : Nat) : Bool := decide (∀ k, k < m → O.getD k 0 = O.getD i 0 → i ≤ k)
theorem bf_next {O : List Int} {m i : Nat} (h : O.getD m 0 = O.getD i 0) : bf O (m + 1) i = (bf O m i && decide (i ≤ m)) := by
  unfold bf
  rw [← Bool.decide_and]
  congr 1
  apply propext
  constructor
  · intro g
    exact ⟨fun k hk => g k (by omega), g m (by omega) h⟩
  · rintro ⟨g1, g2⟩ k hk e
    rcases Nat.lt_or_ge k m with h1 | h1
    · exact g1 k h1 e
    · obtain rfl : k = m := by omega
      exact g2
theorem bf_same {O : List Int} {m i : Nat} (h : O.getD m 0 ≠ O.getD i 0) : bf O (m + 1) i = bf O m i := by
  unfold bf
  congr 1
  apply propext
  constructor
  · intro g k hk; exact g k (by omega)
  · intro g k hk e
    rcases Nat.lt_or_ge k m with h1 | h1
    · exact g k h1 e
    · obtain rfl : k = m := by omega
      exact (h e).elim
theorem bf_all {O : List Int} {n i : Nat} (hi : i < n) : bf O n i = !bh O i (O.getD i 0) := by
  unfold bf bh
  rw [← decide_not]
  congr 1
  apply propext
  constructor
  · rintro g ⟨k, hk, e⟩
    have := g k (by omega) e; omega
  · intro g k hk e
    rcases Nat.lt_or_ge k i with h1 | h1
    · exact (g ⟨k, h1, e⟩).elim
    · exact h1
set_option maxRecDepth 20000 in
set_option maxHeartbeats 3200000 in
theorem bof_any (D O : List Int) (size : Int) (a a3 : Option Addr) (n cap n3 cap3 : Nat) (w : World) (hn : n = D.length) (h100 : n ≤ 100) (hD : Vals w a (ints64 D)) (hn3 : n3 = O.length) (hO : Vals w a3 (ints64 O)) (hs1 : 1 ≤ size) (hs2 : size ≤ 1099511627776) (hok : ∀ x, x ∈ D → 0 ≤ x ∧ x ≤ size) :
    Calls Try.prog 46 #[.slice a n cap, .int .i64 size, .slice a3 n3 cap3] w fun e w' => BoxesOfPost D O size n w e w' := by
  have HN := Lib.hid hn
  have HN3 := Lib.hid hn3
  have HD := Lib.hid hD
  have HO := Lib.hid hO
  have HOK := Lib.hid hok
  have HD0 := Lib.hid (fun (x : Int) (hx : x ∈ D) => (hok x hx).1)
  by_cases hl : n3 = n
  · have hlb : ((n3 : Int) != n) = false := by simp [hl]
    have HL : Hid (O.length = D.length) := Lib.hid (by omega)
    obtain rfl : n3 = n := hl
    have HI0 : Hid (gR0 D O size n3 0) := Lib.hid (fun q h => by omega)
    clear hD hn hn3 hO hok
    go_enter Try.func46, Try.ntmps46
    go_wp2_with fail
    go_loopg [7, 20] n3 (fun gk y x wr => ∃ q : Nat, q + gk = n3 ∧ x = .int .i64 (q : Int) ∧ y = .int .i64 (bc O q : Int) ∧ Hid (gR0 D O size n3 q) ∧ wr = w)
    case atStart => exact ⟨0, by omega, rfl, rfl, HI0, rfl⟩
    case round =>
      clear HI0
      obtain ⟨q, hq, rfl, rfl, HP, rfl⟩ := hrel
      by_cases hqn : q < n3
      · have hqn2 : (q : Int) < (n3 : Int) := by omega
        have hq0 : (0 : Int) ≤ (q : Int) := by omega
        obtain ⟨o, ho⟩ : ∃ o, O[q]? = some o := ⟨_, List.getElem?_eq_getElem (by have := HN3.out; omega)⟩
        obtain ⟨b2, o2, rfl, hb2, d2⟩ := i64at HO.out ho
        have HOO : Hid (O.getD q 0 = o) := Lib.hid (by rw [List.getD_eq_getElem?_getD, ho]; rfl)
        have hbc := bc_le O q
        obtain ⟨c, hc⟩ : ∃ c, bc O q = c := ⟨_, rfl⟩
        have HC := Lib.hid hc
        rw [hc] at hbc
        rw [hc]
        clear ho hc
        by_cases ho0 : o < 0
        · have e1 : decide (o < 0) = true := by simp [ho0]
          have HV := Lib.hid (bof_badPost (w := wr) (fun h => by have := (h.2 q hqn).1; rw [HOO.out] at this; omega : ¬ (O.length = D.length ∧ gR D O size n3)))
          go_wp2_with fail
          go_ret
          exact HV.out
        · have e1 : decide (o < 0) = false := by simp only [ho0, decide_false]
          have HS0 : Hid ((0 : Int) = bs D O 0 o) := Lib.hid rfl
          have HF0 : Hid (true = bf O 0 q) := Lib.hid (by unfold bf; rw [eq_comm, decide_eq_true_eq]; intro k hk; omega)
          obtain ⟨gq, rfl⟩ : ∃ g, g = gk := ⟨_, rfl⟩
          obtain ⟨wq, rfl⟩ : ∃ x, x = wr := ⟨_, rfl⟩
          go_wp2_with fail
          go_loopg [10, 11, 29] n3 (fun gk y v x wr => ∃ (k : Nat) (s : Int) (fl : Bool), k + gk = n3 ∧ x = .int .i64 (k : Int) ∧ y = .int .i64 s ∧ v = .bool fl ∧ Hid (s = bs D O k o) ∧ Hid (fl = bf O k q) ∧ wr = wq)
          case atStart => exact ⟨0, 0, true, by omega, rfl, rfl, rfl, HS0, HF0, rfl⟩
          case round =>
            clear HS0 HF0
            obtain ⟨k, s, fl, hk, rfl, rfl, rfl, HS, HF, rfl⟩ := hrel
            by_cases hkn : k < n3
            · have hkn2 : (k : Int) < (n3 : Int) := by omega
              have hk0 : (0 : Int) ≤ (k : Int) := by omega
              obtain ⟨x, hx⟩ : ∃ x, D[k]? = some x := ⟨_, List.getElem?_eq_getElem (by have := HN.out; omega)⟩
              obtain ⟨p, hp⟩ : ∃ p, O[k]? = some p := ⟨_, List.getElem?_eq_getElem (by have := HN3.out; omega)⟩
              obtain ⟨b1, o1, rfl, hb1, d1⟩ := i64at HD.out hx
              obtain ⟨b3, o3, e3, hb3, d3⟩ := i64at HO.out hp
              cases e3
              have HX : Hid (D.getD k 0 = x) := Lib.hid (by rw [List.getD_eq_getElem?_getD, hx]; rfl)
              have HPP : Hid (O.getD k 0 = p) := Lib.hid (by rw [List.getD_eq_getElem?_getD, hp]; rfl)
              have hxb := HOK.out x (List.mem_of_getElem? hx)
              have hsb : 0 ≤ s ∧ s ≤ k * 1099511627776 := by
                rw [HS.out]
                refine ⟨bs_nonneg HD0.out O k o, ?_⟩
                have := bs_bound (c := size) (by omega) (fun x hx => ⟨HD0.out x hx, (HOK.out x hx).2⟩) O o k
                have h2 : (k : Int) * size ≤ k * 1099511627776 := Int.mul_le_mul_of_nonneg_left (by omega) (by omega)
                omega
              have wy : IntKind.i64.wrap (s + x) = s + x := IntWalk.i64_in _ (by omega)
              clear hx hp
              by_cases hpo : p = o
              · have hb : (p == o) = true := by simp [hpo]
                have HS2 : Hid (s + x = bs D O (k + 1) o) := Lib.hid (by simp only [bs]; rw [HPP.out, if_pos hpo, HX.out, HS.out])
                have HF2 : Hid ((fl && decide (q ≤ k)) = bf O (k + 1) q) := Lib.hid (by rw [bf_next (by rw [HPP.out, HOO.out]; exact hpo), HF.out])
                clear hpo
                cases fl with
                | false =>
                  have HF3 : Hid (false = bf O (k + 1) q) := Lib.hid (by simpa using HF2.out)
                  go_wp2_with fail
                  go_roundg (gk - 1)
                  case measure => omega
                  case rel => exact ⟨k + 1, s + x, false, by omega, by simp, rfl, rfl, HS2, HF3, rfl⟩
                | true =>
                  by_cases hqk : q ≤ k
                  · have hqk2 : decide ((q : Int) ≤ (k : Int)) = true := by simp; omega
                    have hqk3 : (q : Int) ≤ (k : Int) := by omega
                    have HF3 : Hid (true = bf O (k + 1) q) := Lib.hid (by have h := HF2.out; simp [hqk] at h; exact h.symm)
                    go_wp2_with fail
                    go_roundg (gk - 1)
                    case measure => omega
                    case rel => exact ⟨k + 1, s + x, true, by omega, by simp, rfl, by first | rfl | simp, HS2, HF3, rfl⟩
                  · have hqk2 : decide ((q : Int) ≤ (k : Int)) = false := by simp; omega
                    have hqk3 : ¬ (q : Int) ≤ (k : Int) := by omega
                    have HF3 : Hid (false = bf O (k + 1) q) := Lib.hid (by have h := HF2.out; simp [hqk] at h; exact h.symm)
                    go_wp2_with fail
                    go_roundg (gk - 1)
                    case measure => omega
                    case rel => exact ⟨k + 1, s + x, false, by omega, by simp, rfl, by first | rfl | simp, HS2, HF3, rfl⟩
              · have hb : (p == o) = false := by simp [hpo]
                have HS2 : Hid (s = bs D O (k + 1) o) := Lib.hid (by simp only [bs]; rw [HPP.out, if_neg hpo, HS.out]; omega)
                have HF2 : Hid (fl = bf O (k + 1) q) := Lib.hid (by rw [bf_same (by rw [HPP.out, HOO.out]; exact hpo), HF.out])
                clear hpo
                go_wp2_with fail
                go_roundg (gk - 1)
                case measure => omega
                case rel => exact ⟨k + 1, s, fl, by omega, by simp, rfl, rfl, HS2, HF2, rfl⟩
            · have hkn2 : ¬ (k : Int) < (n3 : Int) := by omega
              obtain rfl : k = n3 := by omega
              by_cases hbig : size < s
              · have e2 : decide (size < s) = true := by simp [hbig]
                have HV := Lib.hid (bof_badPost (w := wr) (fun h => by have := (h.2 q hqn).2; rw [HOO.out, ← HS.out] at this; omega : ¬ (O.length = D.length ∧ gR D O size k)))
                go_wp2_with fail
                go_ret
                exact HV.out
              · have e2 : decide (size < s) = false := by simp only [hbig, decide_false]
                have HP2 : Hid (gR0 D O size k (q + 1)) := Lib.hid (fun j hj => by
                  rcases Nat.lt_or_ge j q with h1 | h1
                  · exact HP.out j h1
                  · obtain rfl : j = q := by omega
                    rw [HOO.out, ← HS.out]
                    omega)
                have wc : IntKind.i64.wrap ((c : Int) + 1) = (c : Int) + 1 := IntWalk.i64_in _ (by omega)
                have HFA : Hid (fl = !bh O q (O.getD q 0)) := Lib.hid (by rw [HF.out, bf_all hqn])
                cases fl with
                | true =>
                  have HC2 : Hid ((bc O (q + 1) : Int) = (c : Int) + 1) := Lib.hid (by
                    have h : bh O q (O.getD q 0) = false := by have := HFA.out; simpa using this.symm
                    simp only [bc]
                    rw [h, HC.out]; rfl)
                  go_wp2_with fail
                  go_roundg (gq - 1)
                  case measure => omega
                  case rel => exact ⟨q + 1, by omega, by simp, by rw [HC2.out], HP2, rfl⟩
                | false =>
                  have HC2 : Hid ((bc O (q + 1) : Int) = (c : Int)) := Lib.hid (by
                    have h : bh O q (O.getD q 0) = true := by have := HFA.out; simpa using this.symm
                    simp only [bc]
                    rw [h, HC.out]; rfl)
                  go_wp2_with fail
                  go_roundg (gq - 1)
                  case measure => omega
                  case rel => exact ⟨q + 1, by omega, by simp, by rw [HC2.out], HP2, rfl⟩
      · obtain rfl : q = n3 := by omega
        have hqn2 : ¬ (q : Int) < (q : Int) := by omega
        have HV : Hid (BoxesOfPost D O size q wr (.returned (.int .i64 (bc O q : Int))) wr) := Lib.hid ⟨fun _ => rfl, fun h => (h ⟨HL.out, HP.out⟩).elim, rfl⟩
        go_wp2_with fail
        go_ret
        exact HV.out
  · have hlb : ((n3 : Int) != n) = true := by simp; omega
    have HV := Lib.hid (bof_badPost (D := D) (O := O) (size := size) (n := n) (w := w) (fun h => hl (by omega)))
    clear hD hn hn3 hO hl hok
    go_enter Try.func46, Try.ntmps46
    go_wp2_with fail
    go_ret
    exact HV.out
end Go.Proofs.Ytfjoakhcgpckgaa
