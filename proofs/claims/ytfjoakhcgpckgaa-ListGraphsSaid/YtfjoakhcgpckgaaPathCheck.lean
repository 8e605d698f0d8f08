/- Contracts: are a graph and its times right? The program's (path.check) and the document's (TimesFault). -/
import Derived.Test.YtfjoakhcgpckgaaPathFun
namespace Go.Proofs.Ytfjoakhcgpckgaa
open Go.ChangeShapes Go.WideShapes Go.ChangeAt Go.RowKit
set_option linter.unusedVariables false
open Gr (El)
def ints (D : List Int) : List Value := D.map (Value.int .i64)
def okD (D : List Int) : Bool := D.all fun x => decide (0 ≤ x ∧ x ≤ 1000000000)
def timesE (z : Int) (L : El) (D : List Int) : Int :=
  if graphE z z L ≠ 0 then graphE z z L else if (D.length : Int) ≠ z then 1 else if okD D then (if Gr.knot z.toNat L = [] then 0 else 8) else 1
theorem okD_at {D : List Int} (h : okD D = true) {i : Nat} {x : Int} (hi : D[i]? = some x) : 0 ≤ x ∧ x ≤ 1000000000 := by
  have := List.all_eq_true.1 h x (List.mem_of_getElem? hi)
  simpa using this
def GoodD (D : List Int) (j : Nat) : Prop := ∀ i x, i < j → D[i]? = some x → 0 ≤ x ∧ x ≤ 1000000000
theorem GoodD.all {D : List Int} (h : GoodD D D.length) : okD D = true := List.all_eq_true.2 fun x hx => by
  obtain ⟨i, hi, rfl⟩ := List.getElem_of_mem hx
  have := h i _ hi (List.getElem?_eq_getElem hi)
  simpa using this
theorem okD_bad {D : List Int} {i : Nat} {x : Int} (hi : D[i]? = some x) (h : ¬ (0 ≤ x ∧ x ≤ 1000000000)) : okD D = false := by
  cases hD : okD D with
  | false => rfl
  | true => exact (h (okD_at hD hi)).elim
theorem timesE_graph {z : Int} {L : El} {D : List Int} (h : graphE z z L ≠ 0) : timesE z L D = graphE z z L := if_pos h
theorem timesE_len {z : Int} {L : El} {D : List Int} (h : graphE z z L = 0) (hl : (D.length : Int) ≠ z) : timesE z L D = 1 := by rw [timesE, if_neg (by simp [h]), if_pos hl]
theorem timesE_d {n : Nat} {L : El} {D : List Int} (h : graphE n n L = 0) (hl : D.length = n) (hd : okD D = false) : timesE n L D = 1 := by rw [timesE, if_neg (by simp [h]), if_neg (by omega), hd]; rfl
theorem timesE_knot {n : Nat} {L : El} {D : List Int} (h : graphE n n L = 0) (hl : D.length = n) (hd : okD D = true) (hk : Gr.knot n L ≠ []) : timesE n L D = 8 := by
  rw [timesE, if_neg (by simp [h]), if_neg (by omega), hd, if_pos rfl, Int.toNat_natCast, if_neg hk]
theorem timesE_ok {n : Nat} {L : El} {D : List Int} (h : graphE n n L = 0) (hl : D.length = n) (hd : okD D = true) (hk : Gr.knot n L = []) : timesE n L D = 0 := by
  rw [timesE, if_neg (by simp [h]), if_neg (by omega), hd, if_pos rfl, Int.toNat_natCast, if_pos hk]
/-- all is right -/
structure Fine (n : Nat) (L : El) (D : List Int) : Prop where
  g : graphE n n L = 0
  len : D.length = n
  d : okD D = true
  k : Gr.knot n L = []
theorem fine_of {z : Int} {L : El} {D : List Int} (h : timesE z L D = 0) : ∃ n : Nat, z = n ∧ Fine n L D := by
  unfold timesE at h
  split at h
  · rename_i h1; exact (h1 h).elim
  · rename_i h1
    have h1 : graphE z z L = 0 := by simpa using h1
    obtain ⟨z0, _⟩ := graphE_good h1
    obtain ⟨n, rfl⟩ := Int.eq_ofNat_of_zero_le z0
    split at h
    · cases h
    · rename_i h2
      split at h
      · split at h
        · rename_i h3 h4
          exact ⟨n, rfl, h1, by omega, h3, by rwa [Int.toNat_natCast] at h4⟩
        · cases h
      · cases h
set_option maxRecDepth 20000 in
set_option maxHeartbeats 2000000 in
theorem pcheck_bad (z : Int) (L : El) (D : List Int) (a b : Option Addr) (l cap m cap2 : Nat) (w : World) (hn : l = L.length) (hmax : l ≤ 9223372036854775807) (hL : Edges w a L) (hm : m = D.length) (hmax2 : m ≤ 9223372036854775807) (hD : Vals w b (ints D)) (hb : timesE z L D ≠ 0) :
    Calls Try.prog 114 #[.int .i64 z, .slice a l cap, .slice b m cap2] w fun e w' => e = .returned (.tuple #[.slice none 0 0, .int .i64 (timesE z L D)]) ∧ Below w.heap.size w w' := by
  have HL := Lib.hid hL
  have HN := Lib.hid hn
  have HD := Lib.hid hD
  have HM := Lib.hid hm
  clear hL hn hD hm
  by_cases hg : graphE z z L = 0
  · obtain ⟨z0, z1, _, _, g2, g3⟩ := graphE_good hg
    obtain ⟨n, rfl⟩ := Int.eq_ofNat_of_zero_le z0
    have HG := Lib.hid hg
    have hl4 : l ≤ 400 := by have := HN.out; omega
    have h60 : n ≤ 60 := by omega
    by_cases hl : m = n
    · obtain rfl : n = m := hl.symm
      have hnb : ((n : Int) != n) = false := by simp
      cases hd : okD D with
      | true =>
        have hk : Gr.knot n L ≠ [] := fun hk => hb (timesE_ok hg HM.out.symm hd hk)
        have HK := Lib.hid hk
        have HV := Lib.hid (timesE_knot hg HM.out.symm hd hk)
        have HDD := Lib.hid hd
        rw [HV.out]
        clear hb hg hd hk g3
        go_enter Try.func114, Try.ntmps114
        go_wp2_with (go_at_call 183; refine Calls.mono (gCheck_any n L _ _ _ _ HN.out hmax HL.out) ?_; rintro e w1 ⟨rfl, hB1⟩; rw [HG.out])
        go_loop [23] (fun x => ∃ i : Nat, i ≤ n ∧ x = .int .i64 i) (fun x => n - (intOf x).toNat)
        case atStart => exact ⟨0, by omega, rfl⟩
        case round =>
          obtain ⟨i, hi, rfl⟩ := hrel
          have hs1 := hB1.size
          by_cases hin : i < n
          · obtain ⟨b0, off, rfl, hb0, hat⟩ := HD.out (by simp [ints]; have := HM.out; omega)
            obtain ⟨x, hx⟩ : ∃ x, D[i]? = some x := ⟨_, List.getElem?_eq_getElem (by have := HM.out; omega)⟩
            have c0 := (hB1.cell (p := ⟨b0, off + i, none⟩) hb0).trans (hat i (.int .i64 x) (by simp [ints, hx]))
            obtain ⟨x0, x1⟩ := okD_at HDD.out hx
            have hbr : b0 < w1.heap.size := by omega
            clear hat hx
            go_wp2_with fail
            go_round
            case rel => exact ⟨i + 1, by omega, rfl⟩
            case measure => simp [intOf]; omega
          · go_wp2_with (go_at_call 184; refine Calls.mono (Order_cyc n L _ _ _ _ HN.out (HL.out.below hB1 (Nat.le_refl _)) HG.out HK.out) ?_; rintro e w2 ⟨rfl, hB2⟩)
            go_ret2
            exact ⟨rfl, hB1.trans (hB2.mono hs1)⟩
      | false =>
        have HV := Lib.hid (timesE_d hg HM.out.symm hd)
        have HDD := Lib.hid hd
        rw [HV.out]
        clear hb hg hd g3
        go_enter Try.func114, Try.ntmps114
        go_wp2_with (go_at_call 183; refine Calls.mono (gCheck_any n L _ _ _ _ HN.out hmax HL.out) ?_; rintro e w1 ⟨rfl, hB1⟩; rw [HG.out])
        go_loop [23] (fun x => ∃ i : Nat, i ≤ n ∧ x = .int .i64 i ∧ Hid (GoodD D i)) (fun x => n - (intOf x).toNat)
        case atStart => exact ⟨0, by omega, rfl, Lib.hid fun i x hi => absurd hi (by omega)⟩
        case round =>
          obtain ⟨i, hi, rfl, HJ⟩ := hrel
          have hs1 := hB1.size
          by_cases hin : i < n
          · obtain ⟨b0, off, rfl, hb0, hat⟩ := HD.out (by simp [ints]; have := HM.out; omega)
            obtain ⟨x, hx⟩ : ∃ x, D[i]? = some x := ⟨_, List.getElem?_eq_getElem (by have := HM.out; omega)⟩
            have c0 := (hB1.cell (p := ⟨b0, off + i, none⟩) hb0).trans (hat i (.int .i64 x) (by simp [ints, hx]))
            have hbr : b0 < w1.heap.size := by omega
            have HX := Lib.hid hx
            clear hat hx
            by_cases hx0 : x < 0
            · go_wp2_with fail
              go_ret2
              exact ⟨rfl, hB1⟩
            · by_cases hx1 : 1000000000 < x
              · go_wp2_with fail
                go_ret2
                exact ⟨rfl, hB1⟩
              · have HJ2 := Lib.hid (show GoodD D (i + 1) from fun k y hk hy => by
                  by_cases e : k = i
                  · subst e
                    rw [HX.out] at hy
                    obtain rfl := Option.some.inj hy
                    omega
                  · exact HJ.out k y (by omega) hy)
                go_wp2_with fail
                go_round
                case rel => exact ⟨i + 1, by omega, rfl, HJ2⟩
                case measure => simp [intOf]; omega
          · exfalso
            have := GoodD.all (D := D) (by rw [← HM.out, show n = i from by omega]; exact HJ.out)
            rw [HDD.out] at this
            cases this
    · have HV := Lib.hid (timesE_len (D := D) hg (show (D.length : Int) ≠ n from by have := HM.out; omega))
      have hnb : ((m : Int) != n) = true := by simp; omega
      rw [HV.out]
      clear hb hg hl g3
      go_enter Try.func114, Try.ntmps114
      go_wp2_with (go_at_call 183; refine Calls.mono (gCheck_any n L _ _ _ _ HN.out hmax HL.out) ?_; rintro e w1 ⟨rfl, hB1⟩; rw [HG.out])
      go_ret2
      exact ⟨rfl, hB1⟩
  · have HV := Lib.hid (timesE_graph (D := D) hg)
    have hgb : (graphE z z L != 0) = true := by simp [hg]
    rw [HV.out]
    clear hb hg
    go_enter Try.func114, Try.ntmps114
    go_wp2_with (go_at_call 183; refine Calls.mono (gCheck_any z L _ _ _ _ HN.out hmax HL.out) ?_; rintro e w1 ⟨rfl, hB1⟩)
    go_ret2
    exact ⟨rfl, hB1⟩
set_option maxRecDepth 20000 in
set_option maxHeartbeats 2000000 in
theorem pcheck_good (n : Nat) (L : El) (D : List Int) (a b : Option Addr) (l cap m cap2 : Nat) (w : World) (hn : l = L.length) (hL : Edges w a L) (hm : m = D.length) (hD : Vals w b (ints D)) (hF : Fine n L D) :
    Calls Try.prog 114 #[.int .i64 n, .slice a l cap, .slice b m cap2] w (Nats2 (Gr.steps n L n).row w) := by
  have HL := Lib.hid hL
  have HN := Lib.hid hn
  have HD := Lib.hid hD
  have HM := Lib.hid hm
  have HG := Lib.hid hF.g
  have HK := Lib.hid hF.k
  have HDD := Lib.hid hF.d
  obtain ⟨_, z1, _, _, g2, _⟩ := graphE_good hF.g
  obtain rfl : n = m := by have := hF.len; omega
  have hl4 : l ≤ 400 := by omega
  have h60 : n ≤ 60 := by omega
  have hnb : ((n : Int) != n) = false := by simp
  clear hL hn hD hm hF
  go_enter Try.func114, Try.ntmps114
  go_wp2_with (go_at_call 183; refine Calls.mono (gCheck_any n L _ _ _ _ HN.out (by omega) HL.out) ?_; rintro e w1 ⟨rfl, hB1⟩; rw [HG.out])
  go_loop [23] (fun x => ∃ i : Nat, i ≤ n ∧ x = .int .i64 i) (fun x => n - (intOf x).toNat)
  case atStart => exact ⟨0, by omega, rfl⟩
  case round =>
    obtain ⟨i, hi, rfl⟩ := hrel
    have hs1 := hB1.size
    by_cases hin : i < n
    · obtain ⟨b0, off, rfl, hb0, hat⟩ := HD.out (by simp [ints]; have := HM.out; omega)
      obtain ⟨x, hx⟩ : ∃ x, D[i]? = some x := ⟨_, List.getElem?_eq_getElem (by have := HM.out; omega)⟩
      have c0 := (hB1.cell (p := ⟨b0, off + i, none⟩) hb0).trans (hat i (.int .i64 x) (by simp [ints, hx]))
      obtain ⟨x0, x1⟩ := okD_at HDD.out hx
      have hbr : b0 < w1.heap.size := by omega
      clear hat hx
      go_wp2_with fail
      go_round
      case rel => exact ⟨i + 1, by omega, rfl⟩
      case measure => simp [intOf]; omega
    · go_wp2_with (go_at_call 184; refine Calls.mono (Order_nil n L _ _ _ _ HN.out (HL.out.below hB1 (Nat.le_refl _)) HG.out HK.out) ?_; rintro e w2 ⟨v, rfl, i2, hB2⟩)
      go_ret2
      exact ⟨v, rfl, i2, hB1.trans (hB2.mono hs1)⟩
end Go.Proofs.Ytfjoakhcgpckgaa
