/- Contracts: Closed and Leaned, are two rows of edges one; the document's and the library's. -/
import Derived.Test.YtdbipmidjdhjpaaDoorGraphInRow
namespace Go.Proofs.YtdbipmidjdhjpaaDoor
open Go.ChangeShapes Go.WideShapes Go.ChangeAt Go.RowKit
set_option linter.unusedVariables false
open Gr (El)
def Edges1 (F : Nat → List Nat) (n : Nat) (w : World) (e : Ending) (w' : World) : Prop := ∃ v, e = .returned v ∧ IsRow w' v (rowsE F n).length (flat (rowsE F n)) ∧ Below w.heap.size w w'
def Edges2 (F : Nat → List Nat) (n : Nat) (w : World) (e : Ending) (w' : World) : Prop := ∃ v, e = .returned (.tuple #[v, .int .i64 0]) ∧ IsRow w' v (rowsE F n).length (flat (rowsE F n)) ∧ Below w.heap.size w w'
theorem rowsE_congr {F G : Nat → List Nat} : ∀ {n}, (∀ i, i < n → F i = G i) → rowsE F n = rowsE G n
  | 0, _ => rfl
  | n + 1, h => by
    unfold rowsE
    rw [h n (by omega), rowsE_congr fun i hi => h i (by omega)]
/-- the edges so far: whole rows below i, of row i what f says yes to below k -/
def soFar (F : Nat → List Nat) (f : Nat → Bool) (i k : Nat) : List (Nat × Nat) := rowsE F i ++ (Gr.yes f k).map fun j => (i, j)
theorem soFar_zero (F : Nat → List Nat) (f : Nat → Bool) (i : Nat) : soFar F f i 0 = rowsE F i := by simp [soFar, Gr.yes]
theorem soFar_yes (F : Nat → List Nat) {f : Nat → Bool} {i k : Nat} (h : f k = true) : soFar F f i (k + 1) = soFar F f i k ++ [(i, k)] := by simp [soFar, Gr.yes, h]
theorem soFar_no (F : Nat → List Nat) {f : Nat → Bool} {i k : Nat} (h : f k = false) : soFar F f i (k + 1) = soFar F f i k := by simp [soFar, Gr.yes, h]
theorem soFar_len (f : Nat → Nat → Bool) (n i k : Nat) (hi : i ≤ 60) (hn : n ≤ 60) (hk : k ≤ 60) : (soFar (fun i => Gr.yes (f i) n) (f i) i k).length ≤ 3660 := by
  have h1 := rowsE_length (f := fun i => Gr.yes (f i) n) (B := 60) (fun i => Nat.le_trans (Gr.yes_length _ _) hn) i
  have h2 := Gr.yes_length (f i) k
  have h3 : 60 * i ≤ 60 * 60 := Nat.mul_le_mul_left _ hi
  simp only [soFar, List.length_append, List.length_map]
  omega
theorem flat_one (a b : Nat) : flat [(a, b)] = [.int .i64 (a : Int), .int .i64 (b : Int)] := rfl
theorem flat_at : ∀ {l : List (Nat × Nat)} {i x y : Nat}, l[i]? = some (x, y) → (flat l)[i * 2]? = some (nat1 x) ∧ (flat l)[i * 2 + 1]? = some (nat1 y)
  | [], i, x, y, h => by simp at h
  | (p, q) :: t, 0, x, y, h => by
    simp at h
    obtain ⟨rfl, rfl⟩ := h
    exact ⟨rfl, rfl⟩
  | (p, q) :: t, i + 1, x, y, h => by
    have := flat_at (l := t) (i := i) (by simpa using h)
    have e : flat ((p, q) :: t) = nat1 p :: nat1 q :: flat t := rfl
    rw [e, show (i + 1) * 2 = i * 2 + 1 + 1 from by omega]
    simpa using this
def Fresh (v : Value) (lo hi : Nat) : Prop := ∀ k, v.ownBlock = some k → k < lo ∨ hi ≤ k
set_option maxRecDepth 20000 in
set_option maxHeartbeats 4000000 in
theorem Closed_any (n : Nat) (L : El) (a : Option Addr) (l cap : Nat) (w : World) (hn : l = L.length) (hl4 : l ≤ 400) (h60 : n ≤ 60) (hL : Edges w a L) (hO : Gr.Ok n L) :
    Calls Tryd.prog 34 #[.int .i64 n, .slice a l cap] w (Edges1 (fun i => Gr.yes (Gr.rb n L i) n) n w) := by
  have HL := Lib.hid hL
  have HN := Lib.hid hn
  have HO := Lib.hid hO
  clear hL hn hO
  obtain ⟨F, hF⟩ : ∃ F, F = fun i => Gr.yes (Gr.rb n L i) n := ⟨_, rfl⟩
  rw [← hF]
  have HF := Lib.hid hF
  clear hF
  go_enter Tryd.func34, Tryd.ntmps34
  go_wp2_with fail
  go_loopw [5, 10] (fun v x wr => ∃ i : Nat, i ≤ n ∧ x = .int .i64 i ∧ Hid (wr.ownsRow w.heap.size 54 2 v (rowsE F i).length (flat (rowsE F i))) ∧ Below w.heap.size w wr) (fun _ x _ => n - (intOf x).toNat)
  case atStart => exact ⟨0, by omega, rfl, Lib.hid (World.ownsRow_nil _ _ _ _), Below.refl _ _⟩
  case round =>
    obtain ⟨i, hi, rfl, HOW, hB⟩ := hrel
    have hsz := hB.size
    by_cases hin : i < n
    · have HLB := Lib.hid (HL.out.below hB (Nat.le_refl _))
      obtain ⟨wo, rfl⟩ : ∃ wo : World, wo = wr := ⟨_, rfl⟩
      go_wp2_with (go_at_call 31; refine Calls.mono (beh_any n i L _ _ _ _ HN.out hl4 h60 hin HLB.out HO.out) ?_; rintro e w1 ⟨rfl, hr, hB1⟩; have HR1 := Lib.hid hr; have HB1 := Lib.hid hB1; clear hr hB1)
      have hs1 := HB1.out.size
      have hs2 := HR1.out.lt
      have HBW := Lib.hid (hB.trans (HB1.out.mono hsz))
      go_loopw [5, 18] (fun v x wx => ∃ k : Nat, k ≤ n ∧ x = .int .i64 k ∧ Hid (wx.ownsRow w.heap.size 54 2 v (soFar F (Gr.rb n L i) i k).length (flat (soFar F (Gr.rb n L i) i k))) ∧ Hid (wx.rowIs wo.heap.size 4 n (bools (Gr.rb n L i))) ∧ Hid (Fresh v wo.heap.size w1.heap.size) ∧ Below w.heap.size w wx ∧ w1.heap.size ≤ wx.heap.size) (fun _ x _ => n - (intOf x).toNat)
      case atStart => exact ⟨0, by omega, rfl, Lib.hid (by rw [soFar_zero]; exact ownsRow_below HOW.out HB1.out), HR1, Lib.hid fun k hk => .inl (HOW.out.lt k hk).2, HBW.out, Nat.le_refl _⟩
      case round =>
        clear HOW HR1 HBW
        obtain ⟨k, hk, rfl, HOW, HR1, HD, hB2, hs3⟩ := hrel
        have hs4 := hB2.size
        by_cases hkn : k < n
        · have c0 := HR1.out.cell hkn
          have c1 := HR1.out.lt
          unfold bools at c0
          have hlen := soFar_len (fun i => Gr.rb n L i) n i k (by omega) h60 (by omega)
          rw [← HF.out] at hlen
          cases hb : Gr.rb n L i k with
          | true =>
            rw [hb] at c0
            have HS := Lib.hid (soFar_yes F hb (i := i))
            clear hb
            go_wp2_with ((at_builtin; refine wpList_pushN _ (by rfl) _ _ 36 (by rfl) w.heap.size 54 (.agg #[.int .i64 0, .int .i64 0]) 2 16 Tryd.underlying36 infoEdge (by rfl) (by decide) u5 (soFar F (Gr.rb n L i) i k).length _ [.int .i64 i, .int .i64 k] _ rfl (by rfl) HOW.out (by rfl) (by rfl) (by intro u hu; simp at hu; rcases hu with rfl | rfl <;> rfl) (by unfold maxLen; omega) (by omega) (by omega) ?_; intro gg cap2 w2 hown1 hgrow1 hgb hgl; have HP2 := Lib.hid hown1; have HG2 := Lib.hid hgrow1; have HGB := Lib.hid hgb; have hB3 := hB2.grown hgrow1 hs4 (ownBlock_ge HOW.out (Nat.le_refl _)); have hs5 := hgrow1.size; clear hown1 hgrow1 hgb))
            have HO2 : Hid (w2.ownsRow w.heap.size 54 2 (.slice (some ⟨gg, 0, none⟩) ((soFar F (Gr.rb n L i) i k).length + 1) cap2) (soFar F (Gr.rb n L i) i (k + 1)).length (flat (soFar F (Gr.rb n L i) i (k + 1)))) := Lib.hid (by
              rw [HS.out, flat_append, flat_one]
              simpa using HP2.out)
            have HR2 := Lib.hid (rowIs_grown HR1.out HG2.out (fun e => by have := HD.out _ e.symm; omega))
            have HD2 : Hid (Fresh (Value.slice (some ⟨gg, 0, none⟩) ((soFar F (Gr.rb n L i) i k).length + 1) cap2) wo.heap.size w1.heap.size) := Lib.hid fun k hk => by
              have hk : gg = k := by simpa [Value.ownBlock] using hk
              subst hk
              rcases HGB.out with h | h
              · exact HD.out gg h
              · right; omega
            go_roundw
            case rel => exact ⟨k + 1, by omega, rfl, HO2, HR2, HD2, hB3, by omega⟩
            case measure => simp [intOf]; omega
          | false =>
            rw [hb] at c0
            have HS := Lib.hid (soFar_no F hb (i := i))
            have HO2 : Hid (wr.ownsRow w.heap.size 54 2 u5 (soFar F (Gr.rb n L i) i (k + 1)).length (flat (soFar F (Gr.rb n L i) i (k + 1)))) := Lib.hid (by rw [HS.out]; exact HOW.out)
            clear hb
            go_wp2_with fail
            go_roundw
            case rel => exact ⟨k + 1, by omega, rfl, HO2, HR1, HD, hB2, hs3⟩
            case measure => simp [intOf]; omega
        · obtain rfl : k = n := by omega
          have HO2 : Hid (wr.ownsRow w.heap.size 54 2 u5 (rowsE F (i + 1)).length (flat (rowsE F (i + 1)))) := Lib.hid (by
            have h := HOW.out
            have e : soFar F (Gr.rb k L i) i k = rowsE F (i + 1) := by rw [HF.out]; rfl
            rwa [e] at h)
          go_wp2_with fail
          go_roundw
          case rel => exact ⟨i + 1, by omega, rfl, HO2, hB2⟩
          case measure => simp [intOf]; omega
    · have HV := Lib.hid (IsRow.own (by decide) HOW.out)
      obtain rfl : i = n := by omega
      go_wp2_with fail
      go_ret
      exact ⟨_, rfl, HV.out, hB⟩
/-! Leaned: what is no short cut -/
def thK (L : El) (i k m : Nat) : Bool := (L.take m).any fun x => decide (x = ((i : Int), (k : Int)))
theorem thK_go {L : El} {m : Nat} {x y : Int} (h : L[m]? = some (x, y)) (i k : Nat) : thK L i k (m + 1) = (thK L i k m || (decide (x = (i : Int)) && decide (y = (k : Int)))) := by
  unfold thK
  rw [List.take_add_one, h]
  simp [List.any_append]
def lK (n : Nat) (L : El) (b : Bool) (i k j : Nat) : Bool := b && !((List.range j).any fun j' => Gr.rb n L i j' && Gr.rb n L j' k)
theorem lK_zero (n : Nat) (L : El) (b : Bool) (i k : Nat) : lK n L b i k 0 = b := by simp [lK]
theorem lK_go (n : Nat) (L : El) (b : Bool) (i k j : Nat) : lK n L b i k (j + 1) = (lK n L b i k j && !(Gr.rb n L i j && Gr.rb n L j k)) := by
  unfold lK
  rw [List.range_succ, List.any_append]
  simp [Bool.and_assoc]
def leanB (n : Nat) (L : El) (i k : Nat) : Bool := lK n L (thK L i k L.length) i k n
set_option maxRecDepth 20000 in
set_option maxHeartbeats 8000000 in
theorem Leaned_any (n : Nat) (L : El) (a : Option Addr) (l cap : Nat) (w : World) (hn : l = L.length) (hl4 : l ≤ 400) (h60 : n ≤ 60) (hL : Edges w a L) (hO : Gr.Ok n L) :
    Calls Tryd.prog 36 #[.int .i64 n, .slice a l cap] w (Edges1 (fun i => Gr.yes (leanB n L i) n) n w) := by
  have HL := Lib.hid hL
  have HN := Lib.hid hn
  have HO := Lib.hid hO
  clear hL hn hO
  obtain ⟨F, hF⟩ : ∃ F, F = fun i => Gr.yes (leanB n L i) n := ⟨_, rfl⟩
  rw [← hF]
  have HF := Lib.hid hF
  clear hF
  go_enter Tryd.func36, Tryd.ntmps36
  go_wp2_with fail
  go_loopw [5, 14] (fun v x wr => ∃ i : Nat, i ≤ n ∧ x = .int .i64 i ∧ Hid (wr.ownsRow w.heap.size 54 2 v (rowsE F i).length (flat (rowsE F i))) ∧ Below w.heap.size w wr) (fun _ x _ => n - (intOf x).toNat)
  case atStart => exact ⟨0, by omega, rfl, Lib.hid (World.ownsRow_nil _ _ _ _), Below.refl _ _⟩
  case round =>
    obtain ⟨i, hi, rfl, HOW, hB⟩ := hrel
    by_cases hin : i < n
    · go_wp2_with fail
      go_loopw [5, 18] (fun v x wx => ∃ k : Nat, k ≤ n ∧ x = .int .i64 k ∧ Hid (wx.ownsRow w.heap.size 54 2 v (soFar F (leanB n L i) i k).length (flat (soFar F (leanB n L i) i k))) ∧ Below w.heap.size w wx) (fun _ x _ => n - (intOf x).toNat)
      case atStart => exact ⟨0, by omega, rfl, Lib.hid (by rw [soFar_zero]; exact HOW.out), hB⟩
      case round =>
        clear HOW hB
        obtain ⟨k, hk, rfl, HOW, hB⟩ := hrel
        have hsz := hB.size
        by_cases hkn : k < n
        · obtain ⟨wo, rfl⟩ : ∃ wo : World, wo = wr := ⟨_, rfl⟩
          go_wp2_with fail
          go_loopw [8, 23] (fun v x wx => ∃ m : Nat, m ≤ l ∧ x = .int .i64 m ∧ v = .bool (thK L i k m) ∧ Below wo.heap.size wo wx) (fun _ x _ => l - (intOf x).toNat)
          case atStart => exact ⟨0, by omega, rfl, by simp [thK], Below.refl _ _⟩
          case round =>
            obtain ⟨m, hm, rfl, rfl, hB1⟩ := hrel
            have hs1 := hB1.size
            by_cases hml : m < l
            · obtain ⟨b, off, rfl, hb, hat⟩ := HL.out (by have := HN.out; omega)
              obtain ⟨⟨x, y⟩, hx⟩ : ∃ x, L[m]? = some x := ⟨_, List.getElem?_eq_getElem (by have := HN.out; omega)⟩
              obtain ⟨q0, q1⟩ := (hat.below hB hb).below hB1 (by omega) m x y hx
              have HGO := Lib.hid (thK_go hx i k)
              have hbr : b < wr.heap.size := by omega
              clear hat hx
              cases hth : thK L i k m with
              | true =>
                have HV := Lib.hid (show thK L i k (m + 1) = true from by rw [HGO.out, hth]; rfl)
                clear hth
                go_wp2_with fail
                go_roundw
                case rel => exact ⟨m + 1, by omega, rfl, by rw [HV.out], by go_grown⟩
                case measure => simp [intOf]; omega
              | false =>
                have HV := Lib.hid (show thK L i k (m + 1) = (decide (x = (i : Int)) && decide (y = (k : Int))) from by rw [HGO.out, hth]; rfl)
                clear hth
                by_cases hxi : x = (i : Int)
                · have hxb : (x == (i : Int)) = true := by simp [hxi]
                  by_cases hyk : y = (k : Int)
                  · have hyb : (y == (k : Int)) = true := by simp [hyk]
                    have HV2 := Lib.hid (show thK L i k (m + 1) = true from by rw [HV.out]; simp [hxi, hyk])
                    subst hxi hyk
                    go_wp2_with fail
                    go_roundw
                    case rel => exact ⟨m + 1, by omega, rfl, by rw [HV2.out], by go_grown⟩
                    case measure => simp [intOf]; omega
                  · have hyb : (y == (k : Int)) = false := by simp [hyk]
                    have HV2 := Lib.hid (show thK L i k (m + 1) = false from by rw [HV.out]; simp [hyk])
                    have HYK := Lib.hid hyk
                    clear hxi hyk
                    go_wp2_with fail
                    go_roundw
                    case rel => exact ⟨m + 1, by omega, rfl, by rw [HV2.out], by go_grown⟩
                    case measure => simp [intOf]; omega
                · have hxb : (x == (i : Int)) = false := by simp [hxi]
                  have HV2 := Lib.hid (show thK L i k (m + 1) = false from by rw [HV.out]; simp [hxi])
                  clear hxi
                  go_wp2_with fail
                  go_roundw
                  case rel => exact ⟨m + 1, by omega, rfl, by rw [HV2.out], by go_grown⟩
                  case measure => simp [intOf]; omega
            · obtain rfl : m = l := by omega
              have hthl : Hid (thK L i k m = thK L i k L.length) := Lib.hid (by rw [HN.out])
              rw [hthl.out]
              obtain ⟨th, hth⟩ : ∃ b, b = thK L i k L.length := ⟨_, rfl⟩
              rw [← hth]
              have HTH := Lib.hid hth
              clear hth
              have HLB := Lib.hid ((HL.out.below hB (Nat.le_refl _)).below (B := wo.heap.size) hB1 (by omega))
              go_wp2_with (go_at_call 31; refine Calls.mono (beh_any n i L _ _ _ _ HN.out hl4 h60 hin HLB.out HO.out) ?_; rintro e w1 ⟨rfl, hr, hB2⟩; have HR1 := Lib.hid hr; have HB2 := Lib.hid (hB1.trans (hB2.mono hs1)); clear hr hB2)
              have hs2 := HB2.out.size
              obtain ⟨g, hg⟩ : ∃ g, g = wr.heap.size := ⟨_, rfl⟩
              rw [← hg] at HR1
              rw [← hg]
              have HGW := Lib.hid hg
              clear hg
              have hgl := HR1.out.lt
              go_loopw [8, 41] (fun v x wx => ∃ j : Nat, j ≤ n ∧ x = .int .i64 j ∧ v = .bool (lK n L th i k j) ∧ Hid (Below w1.heap.size w1 wx)) (fun _ x _ => n - (intOf x).toNat)
              case atStart => exact ⟨0, by omega, rfl, by rw [lK_zero], Lib.hid (Below.refl _ _)⟩
              case round =>
                obtain ⟨j, hj, rfl, rfl, HB3⟩ := hrel
                have hs3 := HB3.out.size
                by_cases hjn : j < n
                · have hro := rowIs_below HR1.out HB3.out hgl
                  have c0 := hro.cell hjn
                  unfold bools at c0
                  have hgr : g < wr.heap.size := by omega
                  have HGO := Lib.hid (lK_go n L th i k j)
                  clear hro
                  cases hb : Gr.rb n L i j with
                  | false =>
                    rw [hb] at c0
                    have HV := Lib.hid (show lK n L th i k (j + 1) = lK n L th i k j from by rw [HGO.out, hb]; simp)
                    clear hb
                    go_wp2_with fail
                    go_roundw
                    case rel => exact ⟨j + 1, by omega, rfl, by rw [HV.out], HB3⟩
                    case measure => simp [intOf]; omega
                  | true =>
                    rw [hb] at c0
                    have HLB3 := Lib.hid (HL.out.below (hB.trans ((HB2.out.trans (HB3.out.mono hs2)).mono hsz)) (Nat.le_refl _))
                    cases hb2 : Gr.rb n L j k with
                    | true =>
                      have HBB := Lib.hid hb2
                      have HV := Lib.hid (show lK n L th i k (j + 1) = false from by rw [HGO.out, hb, hb2]; simp)
                      clear hb hb2
                      go_wp2_with (go_at_call 31; refine Calls.mono (beh_any n j L _ _ _ _ HN.out hl4 h60 hjn HLB3.out HO.out) ?_; rintro e w2 ⟨rfl, hr, hB4⟩; have d0 := hr.cell hkn; unfold bools at d0; rw [HBB.out] at d0; have d1 := hr.lt; have HB4 := Lib.hid (HB3.out.trans (hB4.mono hs3)); clear hr hB4)
                      go_roundw
                      case rel => exact ⟨j + 1, by omega, rfl, by rw [HV.out], HB4⟩
                      case measure => simp [intOf]; omega
                    | false =>
                      have HBB := Lib.hid hb2
                      have HV := Lib.hid (show lK n L th i k (j + 1) = lK n L th i k j from by rw [HGO.out, hb, hb2]; simp)
                      clear hb hb2
                      go_wp2_with (go_at_call 31; refine Calls.mono (beh_any n j L _ _ _ _ HN.out hl4 h60 hjn HLB3.out HO.out) ?_; rintro e w2 ⟨rfl, hr, hB4⟩; have d0 := hr.cell hkn; unfold bools at d0; rw [HBB.out] at d0; have d1 := hr.lt; have HB4 := Lib.hid (HB3.out.trans (hB4.mono hs3)); clear hr hB4)
                      go_roundw
                      case rel => exact ⟨j + 1, by omega, rfl, by rw [HV.out], HB4⟩
                      case measure => simp [intOf]; omega
                · obtain rfl : j = n := by omega
                  have HBO := Lib.hid (HB2.out.trans (HB3.out.mono hs2))
                  have HOW2 := Lib.hid (ownsRow_below HOW.out HBO.out)
                  have hB5 := hB.trans (HBO.out.mono hsz)
                  have hs5 := hB5.size
                  have hlen := soFar_len (leanB j L) j i k (by omega) h60 (by omega)
                  rw [← HF.out] at hlen
                  have HLN := Lib.hid (show lK j L th i k j = leanB j L i k from by rw [HTH.out]; rfl)
                  rw [HLN.out]
                  cases hb : leanB j L i k with
                  | true =>
                    have HS := Lib.hid (soFar_yes F hb (i := i))
                    clear hb
                    go_wp2_with ((at_builtin; refine wpList_pushN _ (by rfl) _ _ 36 (by rfl) w.heap.size 54 (.agg #[.int .i64 0, .int .i64 0]) 2 16 Tryd.underlying36 infoEdge (by rfl) (by decide) u5 (soFar F (leanB j L i) i k).length _ [.int .i64 i, .int .i64 k] _ rfl (by rfl) HOW2.out (by rfl) (by rfl) (by intro u hu; simp at hu; rcases hu with rfl | rfl <;> rfl) (by unfold maxLen; omega) (by omega) (by omega) ?_; intro gg cap2 w2 hown1 hgrow1 hgb hgl; have HP2 := Lib.hid hown1; have hB6 := hB5.grown hgrow1 hs5 (ownBlock_ge HOW2.out (Nat.le_refl _)); clear hown1 hgrow1 hgb))
                    have HO2 : Hid (w2.ownsRow w.heap.size 54 2 (.slice (some ⟨gg, 0, none⟩) ((soFar F (leanB j L i) i k).length + 1) cap2) (soFar F (leanB j L i) i (k + 1)).length (flat (soFar F (leanB j L i) i (k + 1)))) := Lib.hid (by
                      rw [HS.out, flat_append, flat_one]
                      simpa using HP2.out)
                    go_roundw
                    case rel => exact ⟨k + 1, by omega, rfl, HO2, hB6⟩
                    case measure => simp [intOf]; omega
                  | false =>
                    have HS := Lib.hid (soFar_no F hb (i := i))
                    have HO2 : Hid (wr.ownsRow w.heap.size 54 2 u5 (soFar F (leanB j L i) i (k + 1)).length (flat (soFar F (leanB j L i) i (k + 1)))) := Lib.hid (by rw [HS.out]; exact HOW2.out)
                    clear hb
                    go_wp2_with fail
                    go_roundw
                    case rel => exact ⟨k + 1, by omega, rfl, HO2, hB5⟩
                    case measure => simp [intOf]; omega
        · obtain rfl : k = n := by omega
          have HO2 : Hid (wr.ownsRow w.heap.size 54 2 u5 (rowsE F (i + 1)).length (flat (rowsE F (i + 1)))) := Lib.hid (by
            have h := HOW.out
            have e : soFar F (leanB k L i) i k = rowsE F (i + 1) := by rw [HF.out]; rfl
            rwa [e] at h)
          go_wp2_with fail
          go_roundw
          case rel => exact ⟨i + 1, by omega, rfl, HO2, hB⟩
          case measure => simp [intOf]; omega
    · have HV := Lib.hid (IsRow.own (by decide) HOW.out)
      obtain rfl : i = n := by omega
      go_wp2_with fail
      go_ret
      exact ⟨_, rfl, HV.out, hB⟩
end Go.Proofs.YtdbipmidjdhjpaaDoor
