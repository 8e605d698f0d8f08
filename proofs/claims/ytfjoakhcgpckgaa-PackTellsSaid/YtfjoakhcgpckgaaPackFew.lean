/- Contract: the document's fewest boxes. -/
import Derived.Test.YtfjoakhcgpckgaaPackClone
import Derived.Laws.Shifts
namespace Go.Proofs.Ytfjoakhcgpckgaa
open Go.ChangeShapes Go.WideShapes Go.ChangeAt Go.RowKit
set_option linter.unusedVariables false
open Wk St
theorem sum_bound {c : Int} (hc : 0 ≤ c) : ∀ {L : List Int}, (∀ x, x ∈ L → 0 ≤ x ∧ x ≤ c) → 0 ≤ L.sum ∧ L.sum ≤ L.length * c
  | [], _ => by simp
  | x :: L, h => by
    have h1 := sum_bound hc (L := L) fun y hy => h y (by simp [hy])
    have h2 := h x (by simp)
    simp only [List.sum_cons, List.length_cons]
    push_cast
    rw [Int.add_mul]
    omega
theorem own_cap {w : World} {H n c : Nat} {a : Option Addr} {xs : List Value} (h : w.ownsRow H 2 1 (.slice a n c) n xs) : n ≤ c := by
  rcases h.2 with ⟨e, h0⟩ | ⟨g, cap, cur, hv, _, _, hc, _⟩
  · omega
  · simp only [Value.slice.injEq] at hv
    omega
def FewQ (size : Int) (D : List Int) (w : World) (e : Ending) (w' : World) : Prop := ∃ m : Nat, e = .returned (.int .i64 (m : Int)) ∧ Few size D m ∧ Below w.heap.size w w'
def FewP (size : Int) (N : Nat) : Prop := ∀ (D : List Int) (a : Option Addr) (n cap : Nat) (w : World), n = D.length → n ≤ N → n ≤ cap → VB w.heap.size w a D → (∀ x, x ∈ D → 1 ≤ x ∧ x ≤ size) →
  Calls Try.prog 45 #[.slice a n cap, .int .i64 size] w fun e w' => FewQ size D w e w'
set_option maxRecDepth 20000 in
set_option maxHeartbeats 3200000 in
theorem few_nil (size : Int) (hs1 : 1 ≤ size) (a : Option Addr) (cap : Nat) (w : World) :
    Calls Try.prog 45 #[.slice a 0 cap, .int .i64 size] w fun e w' => FewQ size [] w e w' := by
  have HF := Lib.hid (Few.nil (size := size) (by omega))
  go_enter Try.func45, Try.ntmps45
  go_wp2_with fail
  go_ret
  exact ⟨0, rfl, HF.out, Below.refl _ _⟩

theorem wrap_pow {d : Nat} (h : d ≤ 8) : wrap64 ((2 : Int) ^ d) = ((2 ^ d : Nat) : Int) := by
  have h1 : (2 : Nat) ^ d ≤ 2 ^ 8 := Nat.pow_le_pow_right (by omega) h
  have h2 : ((2 : Int) ^ d) = ((2 ^ d : Nat) : Int) := by push_cast; rfl
  rw [h2]
  obtain ⟨p, hp⟩ : ∃ p, (2 : Nat) ^ d = p := ⟨_, rfl⟩
  rw [hp] at h1 ⊢
  have h3 : (p : Int) ≤ 256 := by omega
  unfold wrap64; omega
theorem tmod2 (t : Nat) : (t : Int).tmod 2 = ((t % 2 : Nat) : Int) := by
  rw [Int.tmod_eq_emod_of_nonneg (by omega)]; omega
theorem shr_nat (s i : Nat) : (s : Int) / 2 ^ i = ((s / 2 ^ i : Nat) : Int) := by push_cast; rfl
set_option maxRecDepth 20000 in
set_option maxHeartbeats 9600000 in
theorem few_cons (size : Int) (hs1 : 1 ≤ size) (hs2 : size ≤ 1099511627776) (N : Nat) (ih : FewP size N) (x : Int) (D : List Int) (hD : ∀ y, y ∈ x :: D → 1 ≤ y ∧ y ≤ size) (b off d cap : Nat) (w : World) (hd : d = D.length) (hN : d ≤ N) (h9 : d ≤ 8) (hcap : d + 1 ≤ cap) (hb : b < w.heap.size) (hV : VB w.heap.size w (some ⟨b, off, none⟩) (x :: D)) :
    Calls Try.prog 45 #[.slice (some ⟨b, off, none⟩) (d + 1) cap, .int .i64 size] w fun e w' => FewQ size (x :: D) w e w' := by
  have HV := Lib.hid hV
  have HDN := Lib.hid hd
  have HI := Lib.hid ih
  have HO := Lib.hid hD
  have HVT := Lib.hid (hV.tail (by omega) : VB w.heap.size w (some (if cap = 1 then ⟨b, off, none⟩ else ⟨b, off + 1, none⟩)) D)
  have hx := hD x (by simp)
  have hd1 : ((d : Int) + 1 == 0) = false := by simp; omega
  have h01 : (0 : Int) < (d : Int) + 1 := by omega
  have h02 : 0 < d + 1 := by omega
  have s1 : (1 : Int) ≤ (d : Int) + 1 := by omega
  have s2 : (d : Int) + 1 ≤ (cap : Int) := by omega
  have s3 : 1 ≤ d + 1 := by omega
  have hd0 : (0 : Int) ≤ (d : Int) := by omega
  have HF0 := Lib.hid (FewI.start size x D)
  rw [← hd] at HF0
  have hP := wrap_pow h9
  obtain ⟨P, hPP⟩ : ∃ P, (2 : Nat) ^ d = P := ⟨_, rfl⟩
  rw [hPP] at hP
  have HPP := Lib.hid hPP
  have hPb : P ≤ 256 := by
    have h1 : (2 : Nat) ^ d ≤ 2 ^ 8 := Nat.pow_le_pow_right (by omega) h9
    omega
  have HIB : Hid (∀ s i, 1 ≤ x + (ins s (D.take i)).sum ∧ x + (ins s (D.take i)).sum ≤ 9 * 1099511627776) := Lib.hid (fun s i => by
    have h1 := sum_bound (c := size) (L := ins s (D.take i)) (by omega) (fun y hy => by have := hD y (by simp [List.mem_of_mem_take (ins_mem hy)]); omega)
    have h2 : (ins s (D.take i)).length ≤ 8 := by
      have := (ins_outs (D.take i) s).length_eq
      rw [List.length_append, List.length_take] at this; omega
    have h3 : ((ins s (D.take i)).length : Int) * size ≤ 8 * size := Int.mul_le_mul_of_nonneg_right (by omega) (by omega)
    omega)
  have HD0 : Hid (∀ W, Below w.heap.size w W → W.cell? ⟨b, off, none⟩ = some (.int .i64 x)) := Lib.hid (fun W hB => by
    obtain ⟨b', off', e1, _, e2⟩ := (hV.below hB (Nat.le_refl _)) (by simp)
    cases e1
    exact e2 0 x rfl)
  have HDC : Hid (∀ W, Below w.heap.size w W → ∀ i y, D[i]? = some y → W.cell? ⟨b, off + 1 + i, none⟩ = some (.int .i64 y)) := Lib.hid (fun W hB i y hy => by
    obtain ⟨b', off', e1, _, e2⟩ := (hV.below hB (Nat.le_refl _)) (by simp)
    cases e1
    have := e2 (i + 1) y (by simpa using hy)
    rwa [show off + (i + 1) = off + 1 + i from by omega] at this)
  clear hV hd ih hD hPP
  by_cases hc1 : cap = 1
  · subst hc1
    obtain rfl : d = 0 := by omega
    have hD0 : D = [] := List.eq_nil_of_length_eq_zero HDN.out.symm
    have HQ : Hid (Few size (x :: D) 1) := Lib.hid (by
      rw [hD0]
      have h := FewI.yes (m := 0) (by omega) (FewI.start size x []) (by simp [ins]; omega) (by simpa [outs] using Few.nil (size := size) (by omega))
      exact FewI.done (by omega) (fun y hy => (by simp at hy; rw [hy]; exact hx.2)) (by simpa using h))
    have HN0 := Lib.hid (fun W => few_nil size hs1 none 0 W)
    have hxs : decide (x ≤ size) = true := by simp; exact hx.2
    have hxs2 : x ≤ size := hx.2
    have d0 := HD0.out w (Below.refl _ _)
    clear hD0 HF0 hP
    go_enter Try.func45, Try.ntmps45
    go_wp2_with fail
    go_loopg [5, 22] 1 (fun gk y z wr => y = .int .i64 1 ∧ ((gk = 1 ∧ z = .int .i64 0 ∧ wr = w) ∨ (gk = 0 ∧ z = .int .i64 1 ∧ Hid (Below w.heap.size w wr))))
    case atStart => exact ⟨by simp, .inl ⟨rfl, rfl, rfl⟩⟩
    case round =>
      obtain ⟨rfl, ⟨rfl, rfl, rfl⟩ | ⟨rfl, rfl, HB⟩⟩ := hrel
      · go_wp2_with fail
        go_loopg [8, 9, 30] 0 (fun gk y v z wq => y = .int .i64 x ∧ v = .slice none 0 0 ∧ z = .int .i64 0 ∧ wq = wr)
        case atStart => exact ⟨rfl, rfl, rfl, rfl⟩
        case round =>
          obtain ⟨rfl, rfl, rfl, rfl⟩ := hrel
          go_wp2_with (go_at_call 45; refine Calls.mono (HN0.out _) ?_; rintro e w4 ⟨m, rfl, hm, hb4⟩; obtain rfl := hm.uniq (Few.nil (by omega)); have HB4 := Lib.hid hb4; clear hm hb4)
          go_roundg 0
          case measure => omega
          case rel => exact ⟨by simp, .inr ⟨rfl, by simp, HB4⟩⟩
      · go_wp2_with fail
        go_ret
        exact ⟨1, rfl, HQ.out, HB.out⟩
  · go_enter Try.func45, Try.ntmps45
    go_wp2_with fail
    rw [hP]
    clear hP
    go_loopg [5, 22] P (fun gk y z wr => ∃ s r : Nat, s + gk = P ∧ y = .int .i64 (r : Int) ∧ z = .int .i64 (s : Int) ∧ Hid (FewI size x D s r) ∧ Hid (Below w.heap.size w wr))
    case atStart => exact ⟨0, d + 1, by omega, by simp, rfl, HF0, Lib.hid (Below.refl _ _)⟩
    case round =>
      clear HF0
      obtain ⟨s, r, hs, rfl, rfl, HF, HB⟩ := hrel
      have hsz := HB.out.size
      by_cases hsP : s < P
      · have hsP2 : (s : Int) < (P : Int) := by omega
        have hs0 : (0 : Int) ≤ (s : Int) := by omega
        have hbw : b < wr.heap.size := by omega
        have hwS : wrap64 ((s : Int) + 1) = (s : Int) + 1 := by unfold wrap64; omega
        have d0 := HD0.out wr HB.out
        have HS0 : Hid (x = x + (ins s (D.take 0)).sum) := Lib.hid (by simp [ins])
        have HW0 : Hid (wr.ownsRow w.heap.size 2 1 (.slice none 0 0) (outs s (D.take 0)).length (ints64 (outs s (D.take 0)))) := Lib.hid (by simp only [List.take_zero, outs]; exact World.ownsRow_nil _ _ _ _)
        obtain ⟨gq, rfl⟩ : ∃ g, g = gk := ⟨_, rfl⟩
        obtain ⟨wq, rfl⟩ : ∃ x, x = wr := ⟨_, rfl⟩
        go_wp2_with fail
        go_loopg [8, 9, 30] d (fun gk y v z wr => ∃ (i : Nat) (u : Int), i + gk = d ∧ y = .int .i64 u ∧ z = .int .i64 (i : Int) ∧ Hid (u = x + (ins s (D.take i)).sum) ∧ Hid (wr.ownsRow w.heap.size 2 1 v (outs s (D.take i)).length (ints64 (outs s (D.take i)))) ∧ Hid (Below w.heap.size w wr))
        case atStart => exact ⟨0, x, by omega, rfl, rfl, HS0, HW0, HB⟩
        case round =>
          clear HS0 HW0 HB d0 hbw hsz
          obtain ⟨i, u, hi, rfl, rfl, HU, HW, HB⟩ := hrel
          have hsz := HB.out.size
          have hUB := HIB.out s i
          rw [← HU.out] at hUB
          by_cases hid : i < d
          · have hid2 : (i : Int) < (d : Int) := by omega
            have hi0 : (0 : Int) ≤ (i : Int) := by omega
            obtain ⟨y, hy⟩ : ∃ y, D[i]? = some y := ⟨_, List.getElem?_eq_getElem (by have := HDN.out; omega)⟩
            have HY := Lib.hid (ins_snoc D s i y hy)
            have hyb := HO.out y (by simp [List.mem_of_getElem? hy])
            have c1 := HDC.out wr HB.out i y hy
            have hbw : b < wr.heap.size := by omega
            have hwy : IntKind.i64.wrap (u + y) = u + y := IntWalk.i64_in _ (by omega)
            have hsh := shr_nat s i
            obtain ⟨t, ht⟩ : ∃ t, s / 2 ^ i = t := ⟨_, rfl⟩
            rw [ht] at hsh HY
            clear hy ht
            have hi64 : i ≤ 64 := by omega
            by_cases hbit : t % 2 = 1
            · have HU2 : Hid (u + y = x + (ins s (D.take (i + 1))).sum) := Lib.hid (by rw [HY.out.1, if_pos hbit, List.sum_append, HU.out]; simp; omega)
              have HW2 : Hid (wr.ownsRow w.heap.size 2 1 u9 (outs s (D.take (i + 1))).length (ints64 (outs s (D.take (i + 1))))) := Lib.hid (by rw [HY.out.2, if_pos hbit, List.append_nil]; exact HW.out)
              have hbc : (t : Int).tmod 2 = 1 := by rw [tmod2]; omega
              go_wp2_with fail
              go_roundg (gk - 1)
              case measure => omega
              case rel => exact ⟨i + 1, u + y, by omega, rfl, by simp, HU2, HW2, HB⟩
            · have HU2 : Hid (u = x + (ins s (D.take (i + 1))).sum) := Lib.hid (by rw [HY.out.1, if_neg hbit, List.append_nil]; exact HU.out)
              have hbc : (t : Int).tmod 2 = 0 := by rw [tmod2]; omega
              obtain ⟨a9, c9, rfl, _⟩ := IsVals.own HW.out
              rw [i64len] at HW ⊢
              have HLO : Hid ((outs s (D.take i)).length ≤ 8) := Lib.hid (by have := outs_length (D.take i) s; rw [List.length_take] at this; omega)
              obtain ⟨m, hm⟩ : ∃ m, (outs s (D.take i)).length = m := ⟨_, rfl⟩
              have HM := Lib.hid hm
              rw [hm] at HW HLO ⊢
              have hm8 := HLO.out
              clear hm
              go_wp2_with (at_builtin; refine wpList_push _ (by rfl) _ _ 36 (by rfl) w.heap.size 2 (.int .i64 0) 8 Try.underlying36 infoI64w (by rfl) (.slice a9 m c9) m _ (.int .i64 y) _ rfl (by rfl) HW.out (by rfl) (by rfl) (by unfold maxLen; omega) (by omega) hsz ?_; intro g cap2 w4 hown1 hgrow1 hgb hgl; have HW2 := Lib.hid (show w4.ownsRow w.heap.size 2 1 (.slice (some ⟨g, 0, none⟩) (m + 1) cap2) (outs s (D.take (i + 1))).length (ints64 (outs s (D.take (i + 1)))) from by rw [HY.out.2, if_neg hbit, ints64_snoc, List.length_append, HM.out]; exact hown1); have HB2 := Lib.hid (HB.out.grown hgrow1 hsz (ownBlock_ge HW.out (Nat.le_refl _))); clear hown1 hgrow1 hgb)
              go_roundg (gk - 1)
              case measure => omega
              case rel => exact ⟨i + 1, u, by omega, rfl, by simp, HU2, HW2, HB2⟩
          · have hid2 : ¬ (i : Int) < (d : Int) := by omega
            obtain rfl : i = d := by omega
            have htk : D.take i = D := List.take_of_length_le (by have := HDN.out; omega)
            rw [htk] at HU HW
            clear htk
            by_cases hfit : u ≤ size
            · have hub : decide (u ≤ size) = true := by simp [hfit]
              obtain ⟨a9, c9, rfl, hv9⟩ := IsVals.own HW.out
              have HV9 : Hid (VB wr.heap.size wr a9 (outs s D)) := Lib.hid (VB.of hv9 (Nat.le_refl _))
              rw [i64len] at HW ⊢
              have HLO : Hid ((outs s D).length ≤ 8) := Lib.hid (by have := outs_length D s; have := HDN.out; omega)
              have HLN : Hid ((outs s D).length ≤ N) := Lib.hid (by have := outs_length D s; have := HDN.out; omega)
              have HC9 := Lib.hid (own_cap HW.out)
              have HOM : Hid (∀ y, y ∈ outs s D → 1 ≤ y ∧ y ≤ size) := Lib.hid (fun y hy => HO.out y (by simp [outs_mem hy]))
              have HRC := Lib.hid (HI.out (outs s D) a9 (outs s D).length c9 wr rfl HLN.out HC9.out HV9.out HOM.out)
              have HYS : Hid (∀ m, Few size (outs s D) m → FewI size x D (s + 1) (min r (1 + m)) ∧ m ≤ 8) := Lib.hid (fun m hm => ⟨HF.out.yes (by omega) (by rw [← HU.out]; exact hfit) hm, by
                have h1 := hm.all _ (by have := fit_all (outs s D) (fun _ => 0) 0 (fun y hy => (HOM.out y hy).2) (fun _ _ => rfl) (fun _ => by omega); rwa [Nat.zero_add] at this)
                have := HLO.out; omega⟩)
              have hr9 : r ≤ 9 := by have := HF.out.le; have := HDN.out; omega
              clear hfit hv9
              obtain ⟨ml, hml⟩ : ∃ ml, (outs s D).length = ml := ⟨_, rfl⟩
              rw [hml] at HRC ⊢
              clear hml
              go_wp2_with (go_at_call 45; refine Calls.mono HRC.out ?_; rintro e w4 ⟨m, rfl, hm, hb4⟩; obtain ⟨hy1, hy2⟩ := HYS.out m hm; have HY1 := Lib.hid hy1; have HB4 := Lib.hid (HB.out.trans (hb4.mono hsz)); clear hm hb4 hy1; have hw1 : IntKind.i64.wrap (1 + (m : Int)) = 1 + (m : Int) := (IntWalk.i64_in _ (by omega)))
              all_goals
                go_roundg (gq - 1)
                case measure => omega
                case rel => exact ⟨s + 1, min r (1 + m), by omega, by congr 1; omega, by simp, HY1, HB4⟩
            · have hub : decide (u ≤ size) = false := by simp only [hfit, decide_false]
              have HF2 := Lib.hid (HF.out.no (by rw [← HU.out]; exact hfit))
              clear hfit
              go_wp2_with fail
              go_roundg (gq - 1)
              case measure => omega
              case rel => exact ⟨s + 1, r, by omega, rfl, by simp, HF2, HB⟩
      · obtain rfl : s = P := by omega
        have hsP2 : ¬ (s : Int) < (s : Int) := by omega
        have HQ := Lib.hid (show FewQ size (x :: D) w (.returned (.int .i64 (r : Int))) wr from ⟨r, rfl, FewI.done (by omega) (fun y hy => (HO.out y hy).2) (by have h := HF.out; rwa [← HPP.out, HDN.out] at h), HB.out⟩)
        go_wp2_with fail
        go_ret
        exact HQ.out
theorem few_all (size : Int) (hs1 : 1 ≤ size) (hs2 : size ≤ 1099511627776) : ∀ N, N ≤ 9 → FewP size N := by
  intro N
  induction N with
  | zero =>
    intro _ D a n cap w hn hN hc hV hok
    obtain rfl : n = 0 := by omega
    have : D = [] := List.eq_nil_of_length_eq_zero hn.symm
    subst this
    exact few_nil size hs1 a cap w
  | succ N ih =>
    intro hN9 D a n cap w hn hN hc hV hok
    cases D with
    | nil =>
      obtain rfl : n = 0 := by simpa using hn
      exact few_nil size hs1 a cap w
    | cons x D =>
      obtain rfl : n = D.length + 1 := by simpa using hn
      obtain ⟨b, off, rfl, hb, _⟩ := hV (by simp)
      exact few_cons size hs1 hs2 N (ih (by omega)) x D hok b off D.length cap w rfl (by omega) (by omega) hc hb hV
theorem few_any (size : Int) (hs1 : 1 ≤ size) (hs2 : size ≤ 1099511627776) (D : List Int) (a : Option Addr) (n cap : Nat) (w : World) (hn : n = D.length) (h9 : n ≤ 9) (hc : n ≤ cap) (hV : VB w.heap.size w a D) (hok : ∀ x, x ∈ D → 1 ≤ x ∧ x ≤ size) :
    Calls Try.prog 45 #[.slice a n cap, .int .i64 size] w fun e w' => FewQ size D w e w' := few_all size hs1 hs2 9 (Nat.le_refl _) D a n cap w hn h9 hc hV hok
end Go.Proofs.Ytfjoakhcgpckgaa
