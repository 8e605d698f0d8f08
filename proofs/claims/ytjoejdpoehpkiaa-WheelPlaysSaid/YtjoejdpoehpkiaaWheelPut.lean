/- Contracts: a timer is put into its slot; a new wheel. -/
import Derived.Test.YtjoejdpoehpkiaaWheelW
import Derived.Test.YtjoejdpoehpkiaaWheelMap
import Derived.Deep.AppendLies
import Derived.Deep.RegionLaw
namespace Go.Proofs.Ytjoejdpoehpkiaa
open Go.ChangeShapes Go.WideShapes Go.ChangeAt Go.RowKit
set_option linter.unusedVariables false
open Wh
def updV (V : Nat → Value) (c : Nat) (v : Value) : Nat → Value := fun k => if k = c then v else V k
theorem grownBy_drew {w w' : World} {row : Option Nat} (h : w.drew.grownBy w' row) : w.grownBy w' row := ⟨h.os, h.tape, h.output, h.size, h.block⟩
/-- a slot's row has turned: only its block, and new ones -/
theorem WW.stored {F : Nat → Prop} {gw gm : Nat} {now born : Int} {V : Nat → Value} {S : Nat → List Tm} {w w3 : World} (h : WW F gw gm now born V S w) {c : Nat} (hc : c < 320) {v' : Value} {l' : List Tm} {B : Nat} (hB : B ≤ w.heap.size)
    (hk : ∀ k, k < w.heap.size → (V c).ownBlock ≠ some k → w3.heap[k]? = w.heap[k]?) (hs : w.heap.size ≤ w3.heap.size)
    (ho : w3.ownsRow 0 51 3 v' l'.length (tms l')) (hb : ∀ g, v'.ownBlock = some g → (V c).ownBlock = some g ∨ w.heap.size ≤ g) :
    WW (fun k => F k ∨ B ≤ k) gw gm now born (updV V c v') (upd S c l') (w3.setCell ⟨gw, 3 + c, none⟩ v') := by
  have hv : w3.rowIs gw 48 323 (wF now born gm V) := h.var.of_block (hk gw h.var.lt (own_neR (h.row c hc) h.var (by decide)))
  refine ⟨(hv.set (3 + c) v').congr fun i hi => ?_, .inl h.fw, fun i hi => ?_, fun i k hi hk' => ?_, fun i j k hi hj h1 h2 => ?_⟩
  · unfold wF updV
    by_cases e : i = 3 + c
    · subst e
      rw [if_pos rfl, if_neg (by omega), if_neg (by omega), if_neg (by omega), if_pos (by omega)]
    · rw [if_neg e]
      split
      · rfl
      · split
        · rfl
        · split
          · rfl
          · rw [if_neg (by omega)]
  · unfold updV upd
    by_cases e : i = c
    · subst e
      rw [if_pos rfl, if_pos rfl]
      exact own_setO ho (own_neR ho hv (by decide)) _
    · rw [if_neg e, if_neg e]
      have hr : w3.ownsRow 0 51 3 (V i) (S i).length (tms (S i)) := own_block (h.row i hi) fun k hk' => hk k ((h.row i hi).lt k hk').2 (fun e2 => e (h.inj i c k hi hc hk' e2))
      exact own_setO hr (own_neR hr hv (by decide)) _
  · unfold updV at hk'
    split at hk'
    · rcases hb k hk' with e | e
      · exact .inl (h.rowF c k hc e)
      · exact .inr (by omega)
    · exact .inl (h.rowF i k hi hk')
  · have old : ∀ i, i < 320 → (V i).ownBlock = some k → k < w.heap.size := fun i hi e => ((h.row i hi).lt k e).2
    unfold updV at h1 h2
    split at h1 <;> split at h2
    · omega
    · rename_i e1 e2
      have hl := old j hj h2
      rcases hb k h1 with e | e
      · rw [e1]; exact h.inj c j k hc hj e h2
      · omega
    · rename_i e1 e2
      have hl := old i hi h1
      rcases hb k h2 with e | e
      · rw [e2]; exact h.inj i c k hi hc h1 e
      · omega
    · exact h.inj i j k hi hj h1 h2
/-- the blocks of a wheel's struct and of one slot -/
def SlF (gw : Nat) (V : Nat → Value) (c : Nat) : Nat → Prop := fun k => k = gw ∨ (V c).ownBlock = some k
theorem one3 (t : Tm) : ∀ u ∈ [Value.int .i64 t.at', .int .i64 t.id, .int .i64 t.born], u.oneCell' = true := fun u hu => by
  simp at hu
  rcases hu with rfl | rfl | rfl <;> rfl
set_option maxRecDepth 20000 in
set_option maxHeartbeats 4000000 in
theorem put_any (F : Nat → Prop) (gw gm : Nat) (now born : Int) (V : Nat → Value) (S : Nat → List Tm) (t : Tm) (w : World) (h : WW F gw gm now born V S w) (hn : 0 ≤ now ∧ now ≤ 1099511627776) (hx : 0 ≤ t.at' ∧ t.at' ≤ 1099511627776) (hl : (S (pl now t.at')).length ≤ 200) :
    Calls Try.prog 15 #[.pointer (some ⟨gw, 0, none⟩), .agg #[.int .i64 t.at', .int .i64 t.id, .int .i64 t.born]] w fun e w' => e = .returned (.tuple #[]) ∧ ∃ v', WW (fun k => F k ∨ w.heap.size ≤ k) gw gm now born (updV V (pl now t.at') v') (upd S (pl now t.at') (S (pl now t.at') ++ [t])) w' ∧ (∀ k, v'.ownBlock = some k → (V (pl now t.at')).ownBlock = some k ∨ w.heap.size ≤ k) ∧ Kept (SlF gw V (pl now t.at')) w w' := by
  obtain ⟨c, hc⟩ : ∃ c, pl now t.at' = c := ⟨_, rfl⟩
  have hc320 : c < 320 := by rw [← hc]; exact pl_lt _ _
  rw [hc] at hl
  obtain ⟨W1, hW1⟩ : ∃ W, W = w.alloc (.cells #[.int .i64 t.at', .int .i64 t.id, .int .i64 t.born] 51) := ⟨_, rfl⟩
  have hb1 : Below w.heap.size w W1 := by rw [hW1]; exact (Below.refl _ _).alloc (Nat.le_refl _) _
  have HB1 := Lib.hid hb1
  have HW1 := Lib.hid (h.below hb1)
  have hs1 : W1.heap.size = w.heap.size + 1 := by rw [hW1]; simp
  have HS1 := Lib.hid hs1
  have q0 : W1.cell? ⟨w.heap.size, 0, none⟩ = some (.int .i64 t.at') := by rw [hW1]; simp
  have q1 : W1.cell? ⟨w.heap.size, 1, none⟩ = some (.int .i64 t.id) := by rw [hW1]; simp
  have q2 : W1.cell? ⟨w.heap.size, 2, none⟩ = some (.int .i64 t.born) := by rw [hW1]; simp
  have HH := Lib.hid h
  have HN := Lib.hid hn
  have HX := Lib.hid hx
  have HC := Lib.hid hc
  clear h hn hx hb1 hs1 hc
  obtain ⟨bx, hbx⟩ : ∃ b, w.heap.size = b := ⟨_, rfl⟩
  have HBX := Lib.hid hbx
  rw [hbx] at q0 q1 q2
  go_enter Try.func15, Try.ntmps15
  go_upto_region 1 with fail
  rw [← hW1]
  have lb : bx < W1.heap.size := by rw [HS1.out, HBX.out]; omega
  clear hW1 hbx
  go_upto_region 2 with (go_at_call 16; refine Calls.mono (slot_any F gw gm now born V S t.at' _ HW1.out HN.out HX.out) ?_; rintro e w2 ⟨rfl, hq⟩; rw [HC.out]; have HQ := Lib.hid hq; clear hq)
  have hb2 : Below W1.heap.size W1 w2 := by obtain ⟨q, rfl⟩ := HQ.out; exact (Drawn.drewN W1 q).below _
  have HW2 := Lib.hid (HW1.out.below hb2)
  have p0 := (hb2.cell (p := ⟨bx, 0, none⟩) lb).trans q0
  have p1 := (hb2.cell (p := ⟨bx, 1, none⟩) lb).trans q1
  have p2 := (hb2.cell (p := ⟨bx, 2, none⟩) lb).trans q2
  have lb2 := Nat.lt_of_lt_of_le lb hb2.size
  have HB2 : Hid (Below w.heap.size w w2) := Lib.hid (HB1.out.trans (hb2.mono HB1.out.size))
  obtain ⟨v, hv⟩ : ∃ v, V c = v := ⟨_, rfl⟩
  obtain ⟨n, hnn⟩ : ∃ n, (S c).length = n := ⟨_, rfl⟩
  have hrow := HW2.out.row c hc320
  rw [hv, hnn] at hrow
  have d0 : w2.cell? ⟨gw, 3 + c, none⟩ = some v := by rw [← hv]; exact HW2.out.cs hc320
  have d1 := HW2.out.var.frozen (3 + c)
  have d2 := HW2.out.var.lt
  have HOW : Hid (∀ W, Below w2.heap.size w2 W → W.ownsRow 0 51 3 v n (tms (S c))) := Lib.hid fun W hb => ownsRow_below hrow hb
  have HNE : Hid (v.ownBlock ≠ some gw) := Lib.hid (own_neR hrow HW2.out.var (by decide))
  have HNN := Lib.hid hnn
  have HV := Lib.hid hv
  rw [hnn] at hl
  obtain ⟨ii, hii, hz0, hzs, hzb⟩ := info_parts infoTimer
  clear hrow hv hnn q0 q1 q2 hb2 lb
  go_region_law (refine step_append_lies _ (by rfl) _ _ 44 (by rfl) 0 51 ii (.agg #[.int .i64 0, .int .i64 0, .int .i64 0]) 3 24 Try.underlying44 hii hz0 hzs hzb rfl (by decide) v n (tms (S c)) (by rfl) (HOW.out _ (by first | exact (Below.refl _ _).drew.alloc (Nat.le_refl _) _ | exact ((Below.refl _ _).alloc (Nat.le_refl _) _).drew | exact (Below.refl _ _).alloc (Nat.le_refl _) _)) ⟨w2.heap.size, 0, none⟩ 1 1 [.int .i64 t.at', .int .i64 t.id, .int .i64 t.born] (by rfl) rfl (World.news_of_block (by first | exact heap_alloc_new _ _ | rfl)) (one3 t) (by decide) (by unfold maxLen; omega) (by omega) (Nat.zero_le _) _ rfl ?_; intro g cap w3 ho hg hgb hgl; have HG : Hid (w2.grownBy w3 v.ownBlock) := Lib.hid (by first | exact grownBy_drew (grownBy_alloc_trans hg) | exact grownBy_alloc_trans (grownBy_drew hg) | exact grownBy_alloc_trans hg); have HO := Lib.hid ho; have HGB : Hid (v.ownBlock = some g ∨ w2.heap.size ≤ g) := Lib.hid (hgb.imp id fun e => by rw [e]; simp); have e0 : w3.cell? ⟨gw, 3 + c, none⟩ = some v := HG.out.cell d0 (fun e => HNE.out e.symm); have hv3 := rowIs_grown HW2.out.var HG.out (fun e => HNE.out e.symm); have e1 := hv3.frozen (3 + c); have e2 := hv3.lt; clear hv3; clear ho hg hgb hgl)
  all_goals
    have hst := HW2.out.stored (c := c) hc320 (v' := .slice (some ⟨g, 0, none⟩) (n + 1) cap) (l' := S c ++ [t]) (B := w.heap.size) HB2.out.size (fun k hk hne => HG.out.block k hk (fun e => hne (by rw [HV.out]; exact e.symm))) HG.out.size (by rw [List.length_append, HNN.out, tms_push]; exact HO.out) (fun g' e => by
      obtain rfl : g = g' := by simpa [Value.ownBlock] using e
      rw [HV.out]
      exact HGB.out)
    have hkp : Kept (SlF gw V c) w (w3.setCell ⟨gw, 3 + c, none⟩ (.slice (some ⟨g, 0, none⟩) (n + 1) cap)) := ((Kept.below (F := SlF gw V c) HB2.out).grown HG.out (fun k hk => .inl (.inr (by rw [HV.out]; exact hk)))).setCell (p := ⟨gw, 3 + c, none⟩) (.inl (.inl rfl)) _
    go_end0
    refine ⟨rfl, _, by rw [HC.out]; exact hst, fun k hk => ?_, by rw [HC.out]; exact hkp⟩
    obtain rfl : g = k := by simpa [Value.ownBlock] using hk
    rw [HC.out, HV.out]
    rcases HGB.out with e | e
    · exact .inl e
    · exact .inr (by have := HB2.out.size; omega)
end Go.Proofs.Ytjoejdpoehpkiaa
