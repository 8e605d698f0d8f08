/- Contract: the document's row of numbers by what they have, the greatest first. -/
import Derived.Test.YtfjoakhcgpckgaaStableM
import Derived.Test.YtfjoakhcgpckgaaStable
import Derived.Test.YtfjoakhcgpckgaaOwn
namespace Go.Proofs.Ytfjoakhcgpckgaa
open Go.ChangeShapes Go.WideShapes Go.ChangeAt Go.RowKit
set_option linter.unusedVariables false
open St
def kD (D : List Int) (i : Int) : Int := -(D.getD i.toNat 0)
def upn (n : Nat) : List Int := (List.range n).map fun i : Nat => (i : Int)
theorem upn_length (n : Nat) : (upn n).length = n := by simp [upn]
theorem upn_mem {n : Nat} {x : Int} : x ∈ upn n ↔ 0 ≤ x ∧ x < n := by
  unfold upn
  rw [List.mem_map]
  constructor
  · rintro ⟨i, hi, rfl⟩
    have := List.mem_range.1 hi
    omega
  · rintro ⟨h1, h2⟩
    exact ⟨x.toNat, List.mem_range.2 (by omega), by omega⟩
theorem upn_asc (n : Nat) : (upn n).Pairwise (· < ·) := by
  unfold upn
  rw [List.pairwise_map]
  exact List.Pairwise.imp (fun h => by omega) List.pairwise_lt_range
theorem upn_nodup (n : Nat) : (upn n).Nodup := (upn_asc n).imp fun h => by omega
theorem upn_snoc (n : Nat) : upn (n + 1) = upn n ++ [(n : Int)] := by unfold upn; rw [List.range_succ]; simp
structure DownI (D : List Int) (n : Nat) (os rest : List Int) : Prop where
  perm : (os ++ rest).Perm (upn n)
  srtd : Srtd (kD D) os
  ahead : ∀ o, o ∈ os → ∀ j, j ∈ rest → bef (kD D) o j
theorem DownI.start (D : List Int) (n : Nat) : DownI D n [] (upn n) := ⟨by simp, List.Pairwise.nil, fun o h => by simp at h⟩
theorem DownI.out {D : List Int} {n : Nat} {os rest : List Int} (h : DownI D n os rest) {x : Int} (hx : x ∈ rest) : x ∉ os ∧ 0 ≤ x ∧ x < n := by
  have hn := h.perm.nodup_iff.2 (upn_nodup n)
  rw [List.nodup_append] at hn
  exact ⟨fun ho => hn.2.2 x ho x hx rfl, upn_mem.1 (h.perm.mem_iff.1 (List.mem_append_right _ hx))⟩
theorem DownI.in {D : List Int} {n : Nat} {os rest : List Int} (h : DownI D n os rest) {x : Int} (h0 : 0 ≤ x) (h1 : x < n) (hx : x ∉ os) : x ∈ rest := by
  rcases List.mem_append.1 (h.perm.mem_iff.2 (upn_mem.2 ⟨h0, h1⟩)) with h2 | h2
  · exact (hx h2).elim
  · exact h2
theorem DownI.step {D : List Int} {n : Nat} {os rest : List Int} (h : DownI D n os rest) {b : Int} (hb : b ∈ rest) (hm : ∀ j, j ∈ rest → j = b ∨ bef (kD D) b j) : DownI D n (os ++ [b]) (rest.erase b) := by
  have hn := h.perm.nodup_iff.2 (upn_nodup n)
  rw [List.nodup_append] at hn
  refine ⟨?_, srtd_app.2 ⟨h.srtd, by simp [Srtd], fun x hx y hy => ?_⟩, fun o ho j hj => ?_⟩
  · rw [List.append_assoc]
    exact (List.Perm.append_left os (List.perm_cons_erase hb).symm).trans h.perm
  · rw [List.mem_singleton] at hy; subst hy
    exact h.ahead x hx y hb
  · have hjr := List.mem_of_mem_erase hj
    rcases List.mem_append.1 ho with ho | ho
    · exact h.ahead o ho j hjr
    · rw [List.mem_singleton] at ho; subst ho
      rcases hm j hjr with rfl | h2
      · exact (List.Nodup.not_mem_erase hn.2.1 hj).elim
      · exact h2
theorem DownI.len {D : List Int} {n : Nat} {os rest : List Int} (h : DownI D n os rest) : os.length + rest.length = n := by
  have := h.perm.length_eq
  rwa [List.length_append, upn_length] at this
/-- the first of those that are not done, of the first q -/
def FirstI (D : List Int) (os : List Int) (q : Nat) (b : Int) : Prop :=
  (b = -1 ∧ ∀ j : Nat, j < q → (j : Int) ∈ os) ∨ (0 ≤ b ∧ b < q ∧ b ∉ os ∧ ∀ j : Nat, j < q → (j : Int) ∉ os → (j : Int) = b ∨ bef (kD D) b j)
theorem FirstI.start {D os : List Int} : FirstI D os 0 (-1) := .inl ⟨rfl, fun j h => absurd h (by omega)⟩
theorem FirstI.skip {D os : List Int} {q : Nat} {b : Int} (h : FirstI D os q b) (hq : (q : Int) ∈ os) : FirstI D os (q + 1) b := by
  rcases h with ⟨h1, h2⟩ | ⟨h1, h2, h3, h4⟩
  · refine .inl ⟨h1, fun j hj => ?_⟩
    by_cases e : j = q
    · subst e; exact hq
    · exact h2 j (by omega)
  · refine .inr ⟨h1, by omega, h3, fun j hj hn => ?_⟩
    by_cases e : j = q
    · subst e; exact (hn hq).elim
    · exact h4 j (by omega) hn
theorem FirstI.none {D os : List Int} {q : Nat} (h : FirstI D os q (-1)) (hq : (q : Int) ∉ os) : FirstI D os (q + 1) q := by
  rcases h with ⟨h1, h2⟩ | ⟨h1, _⟩
  · refine .inr ⟨by omega, by omega, hq, fun j hj hn => ?_⟩
    by_cases e : j = q
    · subst e; exact .inl rfl
    · exact (hn (h2 j (by omega))).elim
  · omega
theorem FirstI.more {D os : List Int} {q : Nat} {b : Int} (h : FirstI D os q b) (hb : 0 ≤ b) (hq : (q : Int) ∉ os) (hg : D.getD b.toNat 0 < D.getD q 0) : FirstI D os (q + 1) q := by
  rcases h with ⟨h1, h2⟩ | ⟨h1, h2, h3, h4⟩
  · omega
  · have hqb : bef (kD D) q b := by unfold bef kD; simp only [Int.toNat_natCast]; omega
    refine .inr ⟨by omega, by omega, hq, fun j hj hn => ?_⟩
    by_cases e : j = q
    · subst e; exact .inl rfl
    · rcases h4 j (by omega) hn with h5 | h5
      · rw [h5]; exact .inr hqb
      · exact .inr (bef_trans hqb h5)
theorem FirstI.less {D os : List Int} {q : Nat} {b : Int} (h : FirstI D os q b) (hb : 0 ≤ b) (hq : (q : Int) ∉ os) (hg : ¬ D.getD b.toNat 0 < D.getD q 0) : FirstI D os (q + 1) b := by
  rcases h with ⟨h1, h2⟩ | ⟨h1, h2, h3, h4⟩
  · omega
  · have hqb : bef (kD D) b q := by unfold bef kD; simp only [Int.toNat_natCast]; omega
    refine .inr ⟨h1, by omega, h3, fun j hj hn => ?_⟩
    by_cases e : j = q
    · subst e; exact .inr hqb
    · exact h4 j (by omega) hn
theorem FirstI.done {D os rest : List Int} {n : Nat} {b : Int} (h : FirstI D os n b) (hd : DownI D n os rest) (hr : 0 < rest.length) : 0 ≤ b ∧ b < n ∧ b ∈ rest ∧ ∀ j, j ∈ rest → j = b ∨ bef (kD D) b j := by
  obtain ⟨x, hx⟩ : ∃ x, x ∈ rest := ⟨rest[0], List.getElem_mem hr⟩
  obtain ⟨x1, x2, x3⟩ := hd.out hx
  rcases h with ⟨h1, h2⟩ | ⟨h1, h2, h3, h4⟩
  · exact (x1 (by have := h2 x.toNat (by omega); rwa [Int.toNat_of_nonneg x2] at this)).elim
  · refine ⟨h1, h2, hd.in h1 h2 h3, fun j hj => ?_⟩
    obtain ⟨j1, j2, j3⟩ := hd.out hj
    have := h4 j.toNat (by omega) (by rwa [Int.toNat_of_nonneg j2])
    rwa [Int.toNat_of_nonneg j2] at this
theorem infoBoolD : (Try.prog.info? 4).map (fun i => (i.zero, i.size, i.bytes)) = some (some (.bool false), 1, 1) := by kernel_rfl
theorem infoIntD : (Try.prog.info? 3).map (fun i => (i.zero, i.size, i.bytes)) = some (some (.int .i64 0), 1, 8) := by kernel_rfl
/-- the memory of the outer loop -/
structure DownW (B gb n : Nat) (os : List Int) (vo : Value) (w wr : World) : Prop where
  row : wr.rowIs gb 4 n (fun j => .bool (decide ((j : Int) ∈ os)))
  own : wr.ownsRow (gb + 1) 3 1 vo os.length (ints64 os)
  gb' : B ≤ gb
  below : Below B w wr
set_option maxRecDepth 20000 in
set_option maxHeartbeats 1600000 in
theorem Down_any (D : List Int) (a : Option Addr) (n cap : Nat) (w : World) (hn : n = D.length) (h4 : n ≤ 1000) (hD : Vals w a (ints64 D)) :
    Calls Try.prog 44 #[.slice a n cap] w fun e w' => ∃ os v, e = .returned v ∧ IsVals w' v (ints64 os) ∧ os.Perm (upn n) ∧ Srtd (kD D) os ∧ Below w.heap.size w w' ∧ ∀ k, v.ownBlock = some k → w.heap.size ≤ k := by
  have HD := Lib.hid hD
  have HN := Lib.hid hn
  obtain ⟨B, hB⟩ : ∃ B, B = w.heap.size := ⟨_, rfl⟩
  have HB0 := Lib.hid hB
  have hmk := run_make_row' (P := Try.prog) 161 4 (.bool false) 1 Try.underlying161 infoBoolD rfl .i64 .i64 n (by omega) (by omega)
  obtain ⟨W1, hW1⟩ : ∃ W, W = w.alloc (.cells (madeCells #[.bool false] n) 4) := ⟨_, rfl⟩
  have HW0 : Hid (DownW B w.heap.size n [] (.slice none 0 0) w W1) := Lib.hid (by
    rw [hW1, hB]
    refine ⟨(rowIs_made_at w (.bool false) n 4 rfl).congr fun j hj => (by simp), World.ownsRow_nil _ _ _ _, Nat.le_refl _, (Below.refl _ _).alloc (Nat.le_refl _) _⟩)
  clear hD hn hB
  go_enter Try.func44, Try.ntmps44
  go_upto_region 3 with fail
  rw [← hW1]
  obtain ⟨gb, hgb⟩ : ∃ gb, gb = w.heap.size := ⟨_, rfl⟩
  rw [← hgb] at HW0 ⊢
  clear hmk hW1 hgb
  go_wp2_with fail
  go_loopg [3, 13] n (fun gk v x wr => ∃ (t : Nat) (os rest : List Int), t + gk = n ∧ os.length = t ∧ x = .int .i64 (t : Int) ∧ Hid (DownI D n os rest) ∧ Hid (DownW B gb n os v w wr))
  case atStart => exact ⟨0, [], upn n, by omega, rfl, rfl, Lib.hid (DownI.start D n), HW0⟩
  case round =>
    clear HW0
    obtain ⟨t, os, rest, htg, hos, rfl, HI, HW⟩ := hrel
    have HOS := Lib.hid hos
    clear hos
    have hsz := HW.out.below.size
    by_cases htn : t < n
    · have htn2 : (t : Int) < (n : Int) := by omega
      obtain ⟨gq, rfl⟩ : ∃ q, q = gk := ⟨_, rfl⟩
      go_wp2_with fail
      go_loopg [5, 17] n (fun gk x y wx => ∃ (q : Nat) (b : Int), q + gk = n ∧ x = .int .i64 b ∧ y = .int .i64 (q : Int) ∧ Hid (FirstI D os q b) ∧ wx = wr)
      case atStart => exact ⟨0, -1, by omega, rfl, rfl, Lib.hid FirstI.start, rfl⟩
      case round =>
        obtain ⟨q, b, hqg, rfl, rfl, HF, rfl⟩ := hrel
        have lgb := HW.out.row.lt
        by_cases hqn : q < n
        · have hqn2 : (q : Int) < (n : Int) := by omega
          have hq0 : (0 : Int) ≤ (q : Int) := by omega
          obtain ⟨ab, off, rfl, hlt, hat⟩ := (HD.out.below HW.out.below (by have := HB0.out; omega)) (by unfold ints64; rw [List.length_map, ← HN.out]; omega)
          have cellD : ∀ j : Nat, j < n → wr.cell? ⟨ab, off + j, none⟩ = some (.int .i64 (D.getD j 0)) := fun j hj => hat j _ (by
            unfold ints64
            have hjl : j < D.length := by have := HN.out; omega
            rw [List.getElem?_map, List.getElem?_eq_getElem hjl, List.getD_eq_getElem?_getD, List.getElem?_eq_getElem hjl]
            rfl)
          have HCD := Lib.hid cellD
          have c1 := cellD q hqn
          have c2 := HW.out.row.cell hqn
          obtain ⟨xq, hxq⟩ : ∃ x, D.getD q 0 = x := ⟨_, rfl⟩
          rw [hxq] at c1
          have HXQ := Lib.hid hxq
          clear cellD hat hxq
          cases hqd : decide ((q : Int) ∈ os) with
          | true =>
            rw [hqd] at c2
            have HF2 := Lib.hid (HF.out.skip (by simpa using hqd))
            clear hqd
            go_wp2_with fail
            go_roundg (gk - 1)
            case measure => omega
            case rel => exact ⟨q + 1, b, by omega, rfl, by simp, HF2, rfl⟩
          | false =>
            rw [hqd] at c2
            have HQN := Lib.hid (show (q : Int) ∉ os from by simpa using hqd)
            clear hqd
            by_cases hb0 : b < 0
            · have hb1 : b = -1 := by
                have h1 := HF.out
                rcases h1 with ⟨h1, _⟩ | ⟨h1, _⟩
                · exact h1
                · omega
              subst hb1
              have HF2 := Lib.hid (HF.out.none HQN.out)
              go_wp2_with fail
              go_roundg (gk - 1)
              case measure => omega
              case rel => exact ⟨q + 1, q, by omega, rfl, by simp, HF2, rfl⟩
            · have hb2 : 0 ≤ b := by omega
              have hbq : b < q := by
                have h1 := HF.out
                rcases h1 with ⟨h1, _⟩ | ⟨_, h1, _⟩
                · omega
                · exact h1
              obtain ⟨bn, rfl⟩ := Int.eq_ofNat_of_zero_le hb2
              have hbn : (bn : Int) < (n : Int) := by omega
              have c3 := HCD.out bn (by omega)
              obtain ⟨xb, hxb⟩ : ∃ x, D.getD bn 0 = x := ⟨_, rfl⟩
              rw [hxb] at c3
              have HXB := Lib.hid hxb
              clear hxb
              cases hgt : decide (xb < xq) with
              | true =>
                have HF2 := Lib.hid (HF.out.more hb2 HQN.out (by rw [Int.toNat_natCast, HXB.out, HXQ.out]; simpa using hgt))
                go_wp2_with fail
                go_roundg (gk - 1)
                case measure => omega
                case rel => exact ⟨q + 1, q, by omega, rfl, by simp, HF2, rfl⟩
              | false =>
                have HF2 := Lib.hid (HF.out.less hb2 HQN.out (by rw [Int.toNat_natCast, HXB.out, HXQ.out]; simpa using hgt))
                go_wp2_with fail
                go_roundg (gk - 1)
                case measure => omega
                case rel => exact ⟨q + 1, bn, by omega, rfl, by simp, HF2, rfl⟩
        · obtain rfl : q = n := by omega
          have hqn2 : ¬ (q : Int) < (q : Int) := by omega
          have HDN := Lib.hid (HF.out.done HI.out (by have h1 := HI.out.len; have h2 := HOS.out; omega))
          obtain ⟨bn, rfl⟩ := Int.eq_ofNat_of_zero_le HDN.out.1
          have hbn : (bn : Int) < (q : Int) := HDN.out.2.1
          have hb2 : (0 : Int) ≤ (bn : Int) := by omega
          have c2 := HW.out.row.cell (i := bn) (by omega)
          have f2 := HW.out.row.frozen bn
          obtain ⟨W2, hW2⟩ : ∃ W, W = wr.setCell ⟨gb, bn, none⟩ (.bool true) := ⟨_, rfl⟩
          have HR2 := Lib.hid (show W2.rowIs gb 4 q (fun j => .bool (decide ((j : Int) ∈ os ++ [(bn : Int)]))) from by
            rw [hW2]
            refine (HW.out.row.set bn (.bool true)).congr fun j hj => ?_
            by_cases e : j = bn
            · subst e; rw [if_pos rfl]; simp
            · rw [if_neg e]
              have : ¬ (j : Int) = (bn : Int) := by omega
              simp [this])
          have HO2 := Lib.hid (show W2.ownsRow (gb + 1) 3 1 u3 os.length (ints64 os) from by
            rw [hW2]
            have h1 := HW.out.own
            refine ⟨h1.1, ?_⟩
            rcases h1.2 with h2 | ⟨g, cap', cur, e, hbg, hgg, h3⟩
            · exact .inl h2
            · exact .inr ⟨g, cap', cur, e, hbg, by rw [Below.heap_setCell wr _ _ g (by show g ≠ gb; omega)]; exact hgg, h3⟩)
          have HB2 := Lib.hid (show Below B w W2 from by rw [hW2]; exact HW.out.below.setCell (p := ⟨gb, bn, none⟩) HW.out.gb' _)
          have l2 : W2.heap.size = wr.heap.size := by rw [hW2]; simp
          have HL2 := Lib.hid l2
          have HI2 := Lib.hid (HI.out.step HDN.out.2.2.1 HDN.out.2.2.2)
          have hs1 : gb + 1 ≤ W2.heap.size := by omega
          go_upto_region 13 with fail
          rw [← hW2]
          clear hW2 c2 f2 l2
          go_wp2_with (at_builtin; go_loud (refine wpList_push W2 (by rfl) _ _ 58 (by rfl) (gb + 1) 3 (.int .i64 0) 8 Try.underlying58 infoIntD (by rfl) u3 os.length (ints64 os) (.int .i64 (bn : Int)) _ rfl (by rfl) HO2.out (by rfl) (by rfl) (by have := HOS.out; unfold maxLen; omega) (by have := HOS.out; omega) hs1 ?_; intro gg cap3 w3 hown hgrow hgb hgl; have HW3 := Lib.hid (show DownW B gb q (os ++ [(bn : Int)]) (.slice (some ⟨gg, 0, none⟩) (os.length + 1) cap3) w w3 from ⟨rowIs_grown HR2.out hgrow (ownBlock_ne HO2.out (Nat.lt_succ_self _)), (by rw [List.length_append]; have : ints64 (os ++ [(bn : Int)]) = ints64 os ++ [.int .i64 (bn : Int)] := (by simp [ints64]); rw [this]; exact hown), HW.out.gb', HB2.out.grown hgrow (by have := HW.out.gb'; omega) (ownBlock_ge HO2.out (by have := HW.out.gb'; omega))⟩); clear hown hgrow hgb))
          go_roundg (gq - 1)
          case measure => omega
          case rel => exact ⟨t + 1, os ++ [(bn : Int)], rest.erase (bn : Int), by omega, by rw [List.length_append, HOS.out]; rfl, by simp, HI2, HW3⟩
    · have htn2 : ¬ (t : Int) < (n : Int) := by omega
      have HR : Hid (os.Perm (upn n)) := Lib.hid (by
        have h1 := HI.out.len
        have h2 := HOS.out
        have : rest = [] := List.eq_nil_of_length_eq_zero (by omega)
        have h3 := HI.out.perm
        rwa [this, List.append_nil] at h3)
      go_wp2_with fail
      go_ret
      exact ⟨os, _, rfl, IsVals.own HW.out.own, HR.out, HI.out.srtd, HB0.out ▸ HW.out.below, ownBlock_ge HW.out.own (by rw [← HB0.out]; have := HW.out.gb'; omega)⟩
end Go.Proofs.Ytfjoakhcgpckgaa
