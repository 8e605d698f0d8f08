/- Contract: it is later: the wheel's timers come down. -/
import Derived.Test.YtjoejdpoehpkiaaWheelPut
import Derived.Test.YtjoejdpoehpkiaaWheelDel
namespace Go.Proofs.Ytjoejdpoehpkiaa
open Go.ChangeShapes Go.WideShapes Go.ChangeAt Go.RowKit
set_option linter.unusedVariables false
open Wh
/-- the blocks of a wheel's struct and of its slots -/
def SlAll (gw : Nat) (V : Nat → Value) : Nat → Prop := fun k => k = gw ∨ ∃ i, i < 320 ∧ (V i).ownBlock = some k
structure ToW (gw gm : Nat) (was now born : Int) (T : List Tm) (V0 : Nat → Value) (w : World) (l : Nat) (V : Nat → Value) (S : Nat → List Tm) (wr : World) : Prop where
  ww : WW (fun k => SlAll gw V0 k ∨ w.heap.size ≤ k) gw gm now born V S wr
  inv : Inv (mid was now l) T S
  kept : Kept (SlAll gw V0) w wr
/-- timers in hand -/
structure HaW (gw gm : Nat) (was now born : Int) (T : List Tm) (V0 : Nat → Value) (w : World) (l : Nat) (L : List Tm) (vh : Value) (i : Nat) (V : Nat → Value) (S : Nat → List Tm) (wr : World) : Prop where
  ww : WW (fun k => SlAll gw V0 k ∨ w.heap.size ≤ k) gw gm now born V S wr
  hand : Hand (mid was now l) T (L.drop i) S
  kept : Kept (SlAll gw V0) w wr
  row : wr.ownsRow 0 51 3 vh L.length (tms L)
  dif : ∀ k j, vh.ownBlock = some k → j < 320 → (V j).ownBlock ≠ some k
section
variable {gw gm : Nat} {was now born : Int} {T : List Tm} {V0 V : Nat → Value} {S : Nat → List Tm} {w wr w2 : World} {l i : Nat} {L : List Tm} {vh : Value}
theorem ToW.below (h : ToW gw gm was now born T V0 w l V S wr) (hb : Below wr.heap.size wr w2) : ToW gw gm was now born T V0 w l V S w2 := ⟨h.ww.below hb, h.inv, h.kept.trans (Kept.below (F := fun _ => False) hb) (fun _ hx => hx.elim)⟩
theorem HaW.below (h : HaW gw gm was now born T V0 w l L vh i V S wr) (hb : Below wr.heap.size wr w2) : HaW gw gm was now born T V0 w l L vh i V S w2 := ⟨h.ww.below hb, h.hand, h.kept.trans (Kept.below (F := fun _ => False) hb) (fun _ hx => hx.elim), ownsRow_below h.row hb, h.dif⟩
theorem inv_few {p : Int → Nat} (h : Inv p T S) (i : Nat) : (S i).length ≤ T.length := (h.nodup i).length_le_of_subset fun t ht => ((h.mem _ t).1 ht).1
theorem hand_few {p : Int → Nat} (h : Hand p T L S) (i : Nat) : (S i).length ≤ T.length := (h.nodup i).length_le_of_subset fun t ht => ((h.mem i t).1 (.inl ht)).1
/-- a slot is begun -/
theorem ToW.begin (h : ToW gw gm was now born T V0 w l V S wr) (hl : 0 < l) (hl4 : l ≤ 4) (hT : ∀ t, t ∈ T → Ahead was now t.at') (hc : cut now l < 320) :
    HaW gw gm was now born T V0 w (l - 1) (S (cut now l)) (V (cut now l)) 0 (updV V (cut now l) (.slice none 0 0)) (upd S (cut now l) []) (wr.setCell ⟨gw, 3 + cut now l, none⟩ (.slice none 0 0)) := by
  have hst := h.ww.stored (c := cut now l) hc (v' := .slice none 0 0) (l' := []) (B := w.heap.size) h.kept.size (fun k _ _ => rfl) (Nat.le_refl _) (World.ownsRow_nil _ _ _ _) (fun g e => by simp [Value.ownBlock] at e)
  have hr := h.ww.row _ hc
  refine ⟨hst.wide fun k hk => ?_, h.inv.down hl hl4 hT, h.kept.setCell (p := ⟨gw, 3 + cut now l, none⟩) (.inl (.inl rfl)) _, own_setO hr (own_neR hr h.ww.var (by decide)) _, fun k j hk hj he => ?_⟩
  · rcases hk with hk | hk
    · exact hk
    · exact .inr hk
  · unfold updV at he
    split at he
    · simp [Value.ownBlock] at he
    · rename_i hne
      exact hne (h.ww.inj j _ k hj hc he hk)
/-- one is put -/
theorem HaW.put {t : Tm} {v' : Value} (h : HaW gw gm was now born T V0 w l L vh i V S wr) (ht : L[i]? = some t) (hq : mid was now l t.at' = pl now t.at')
    (hw : WW (fun k => (SlAll gw V0 k ∨ w.heap.size ≤ k) ∨ wr.heap.size ≤ k) gw gm now born (updV V (pl now t.at') v') (upd S (pl now t.at') (S (pl now t.at') ++ [t])) w2) (hv : ∀ k, v'.ownBlock = some k → (V (pl now t.at')).ownBlock = some k ∨ wr.heap.size ≤ k) (hk : Kept (SlF gw V (pl now t.at')) wr w2) :
    HaW gw gm was now born T V0 w l L vh (i + 1) (updV V (pl now t.at') v') (upd S (pl now t.at') (S (pl now t.at') ++ [t])) w2 := by
  have hd : L.drop i = t :: L.drop (i + 1) := by
    obtain ⟨hi, rfl⟩ := List.getElem?_eq_some_iff.1 ht
    exact List.drop_eq_getElem_cons hi
  have hh := h.hand
  rw [hd] at hh
  have hp := hh.put
  rw [hq] at hp
  have hsub : ∀ k, SlF gw V (pl now t.at') k → SlAll gw V0 k ∨ w.heap.size ≤ k := fun k hk => by
    rcases hk with hk | hk
    · exact .inl (.inl hk)
    · exact h.ww.rowF _ k (pl_lt _ _) hk
  refine ⟨hw.wide fun k hk => ?_, hp, h.kept.trans hk hsub, own_block h.row fun k hk' => hk.block k (h.row.lt k hk').2 (fun hs => ?_), fun k j hk' hj he => ?_⟩
  · rcases hk with hk | hk
    · exact hk
    · exact .inr (Nat.le_trans h.kept.size hk)
  · rcases hs with hs | hs
    · exact own_neR h.row h.ww.var (by decide) (by rw [hk', hs])
    · exact h.dif k _ hk' (pl_lt _ _) hs
  · unfold updV at he
    split at he
    · rcases hv k he with h1 | h1
      · exact h.dif k _ hk' (pl_lt _ _) h1
      · have := (h.row.lt k hk').2
        omega
    · exact h.dif k j hk' hj he
theorem HaW.done (h : HaW gw gm was now born T V0 w l L vh L.length V S wr) : ToW gw gm was now born T V0 w l V S wr :=
  ⟨h.ww, by have := h.hand; rw [List.drop_length] at this; exact this.done, h.kept⟩
end
theorem WW.tight {F : Nat → Prop} {gw gm : Nat} {now born : Int} {V : Nat → Value} {S : Nat → List Tm} {w : World} (h : WW F gw gm now born V S w) : WW (fun k => SlAll gw V k ∨ w.heap.size ≤ k) gw gm now born V S w :=
  ⟨h.var, .inl (.inl rfl), h.row, fun i k hi hk => .inl (.inr ⟨i, hi, hk⟩), h.inj⟩
theorem wid_pow {l : Nat} (h : l ≤ 4) : wid l = 2 ^ min (6 * l) 64 := by
  have : l = 0 ∨ l = 1 ∨ l = 2 ∨ l = 3 ∨ l = 4 := by omega
  rcases this with rfl | rfl | rfl | rfl | rfl <;> rfl
set_option maxRecDepth 20000 in
set_option maxHeartbeats 8000000 in
theorem to_any (F : Nat → Prop) (gw gm : Nat) (was now born : Int) (T : List Tm) (V : Nat → Value) (S : Nat → List Tm) (w : World) (h : WW F gw gm was born V S w) (hi : Inv (pl was) T S) (hT : ∀ t, t ∈ T → Ahead was now t.at') (hs : T.length ≤ 200) (hw : 0 ≤ was ∧ was ≤ now ∧ now ≤ 1000000000000) :
    Calls Try.prog 19 #[.pointer (some ⟨gw, 0, none⟩), .int .i64 now] w fun e w' => e = .returned (.tuple #[]) ∧ ∃ V' S', WW (fun k => SlAll gw V k ∨ w.heap.size ≤ k) gw gm now born V' S' w' ∧ Inv (pl now) T S' ∧ Kept (SlAll gw V) w w' := by
  have c0 := h.c0
  have f0 := h.var.frozen 0
  have lw := h.var.lt
  obtain ⟨W1, hW1⟩ : ∃ W, W = w.setCell ⟨gw, 0, none⟩ (.int .i64 now) := ⟨_, rfl⟩
  have HT := Lib.hid hT
  have HS := Lib.hid hs
  have HW := Lib.hid hw
  have HT0 : Hid (ToW gw gm was now born T V w 4 V S W1) := Lib.hid ⟨by rw [hW1]; exact h.tight.setNow now, hi.congr fun t ht => mid_top _ _ _, by rw [hW1]; exact (Kept.refl _ _).setCell (p := ⟨gw, 0, none⟩) (.inl (.inl rfl)) _⟩
  clear h hi hT hs hw
  go_enter Try.func19, Try.ntmps19
  go_upto_region 2 with fail
  rw [← hW1]
  clear hW1 c0 f0 lw
  go_wp2_with fail
  go_loopw [5] (fun x wr => ∃ (l : Nat) (V' : Nat → Value) (S' : Nat → List Tm), l ≤ 4 ∧ x = .int .i64 l ∧ Hid (ToW gw gm was now born T V w l V' S' wr)) (fun v _ => (intOf v).toNat)
  case atStart => exact ⟨4, V, S, by omega, rfl, HT0⟩
  case round =>
    clear HT0
    obtain ⟨l, V1, S1, hl, rfl, HTO⟩ := hrel
    by_cases hl0 : 0 < l
    · obtain ⟨m, hm⟩ : ∃ m, 6 * l = m := ⟨_, rfl⟩
      have hw6 : IntKind.i64.wrap (6 * (l : Int)) = (m : Int) := by rw [IntWalk.i64_in _ (by omega)]; omega
      have hw1 : IntKind.i64.wrap ((l : Int) - 1) = ((l - 1 : Nat) : Int) := by rw [IntWalk.i64_in _ (by omega)]; omega
      have hwid := wid_pow hl
      rw [hm] at hwid
      obtain ⟨D, hD⟩ : ∃ D, wid l = D := ⟨_, rfl⟩
      have hpow : (2 : Int) ^ min m 64 = D := by rw [← hwid, hD]
      have lw := HTO.out.ww.var.lt
      have HD := Lib.hid hD
      have hl1 : (0 : Int) < (l : Int) := by omega
      clear hm hwid hD
      cases hq : (was / D == now / D) with
      | true =>
        have HSM : Hid (ToW gw gm was now born T V w (l - 1) V1 S1 wr) := Lib.hid ⟨HTO.out.ww, HTO.out.inv.congr fun t ht => mid_same (HT.out t ht) hl0 (by rw [HD.out]; simpa using hq), HTO.out.kept⟩
        go_wp2_with fail
        go_quiet (fail)
        go_wp2_with fail
        go_roundw
        case rel => exact ⟨l - 1, V1, S1, by omega, rfl, Lib.hid (HSM.out.below ((Drawn.drewN wr nq).below _))⟩
        case measure => simp [intOf]; omega
      | false =>
        obtain ⟨kk, hkk, hk2, hk3⟩ := slot_bits D now
        have hcut : cut now l = 64 * l + kk := by unfold cut; rw [HD.out, hk2]
        have k1 : (0 : Int) ≤ (kk : Int) := by omega
        have k2 : (kk : Int) < 64 := by omega
        have k3 : (0 : Int) ≤ (l : Int) := by omega
        have k4 : (l : Int) < 5 := by omega
        have HCU := Lib.hid hcut
        clear hk2 hcut
        go_wp2_with fail
        go_quiet (fail)
        obtain ⟨n1, hn1⟩ : ∃ n, nq = n := ⟨_, rfl⟩
        rw [hn1]
        clear hn1 nq
        go_wp2_with fail
        go_quiet (fail)
        go_upto_region 7 with fail
        obtain ⟨W2, hW2⟩ : ∃ W, W = (wr.drewN n1).drewN nq := ⟨_, rfl⟩
        have HTO2 : Hid (ToW gw gm was now born T V w l V1 S1 W2) := Lib.hid (by rw [hW2]; exact (HTO.out.below ((Drawn.drewN wr n1).below _)).below ((Drawn.drewN _ nq).below _))
        rw [← hW2]
        obtain ⟨o, ho⟩ : ∃ o, 3 + l * 64 + kk = o := ⟨_, rfl⟩
        rw [ho]
        obtain ⟨c, hc⟩ : ∃ c, cut now l = c := ⟨_, rfl⟩
        have hoc : 3 + c = o := by have := HCU.out; omega
        have hc320 : c < 320 := by have := HCU.out; omega
        have hrow := HTO2.out.ww.row c hc320
        obtain ⟨va, vc, hv, hvc, hvm⟩ := own_sliceF hrow
        obtain ⟨n, hn⟩ : ∃ n, (S1 c).length = n := ⟨_, rfl⟩
        rw [hn] at hv hvc
        have d0 : W2.cell? ⟨gw, o, none⟩ = some (.slice va n vc) := by rw [← hoc, ← hv]; exact HTO2.out.ww.cs hc320
        have d1 := HTO2.out.ww.var.frozen o
        have d2 := HTO2.out.ww.var.lt
        have HH0 : Hid (HaW gw gm was now born T V w (l - 1) (S1 c) (.slice va n vc) 0 (updV V1 c (.slice none 0 0)) (upd S1 c []) (W2.setCell ⟨gw, o, none⟩ (.slice none 0 0))) := Lib.hid (by
          have := HTO2.out.begin hl0 hl HT.out (by rw [hc]; exact hc320)
          rw [hc, hoc, hv] at this
          exact this)
        have HQM : Hid (∀ t, t ∈ S1 c → mid was now (l - 1) t.at' = pl now t.at') := Lib.hid (fun t ht => by
          obtain ⟨h1, h2⟩ := (HTO2.out.inv.mem c t).1 ht
          exact (mid_in (HT.out t h1) hl0 hl (by rw [hc]; exact h2)).1)
        have HTS : Hid (∀ t, t ∈ S1 c → t ∈ T) := Lib.hid (fun t ht => ((HTO2.out.inv.mem c t).1 ht).1)
        have HN := Lib.hid hn
        have hn200 : n ≤ 200 := by have := inv_few HTO2.out.inv c; have := HS.out; omega
        clear hW2 ho hc hoc hc320 hrow hv hvc hvm hn hq k1 k2 k3 k4 hkk hk3 hpow hw6
        obtain ⟨W3, hW3⟩ : ∃ W, W = W2.setCell ⟨gw, o, none⟩ (.slice none 0 0) := ⟨_, rfl⟩
        rw [← hW3] at HH0
        go_upto_region 9 with fail
        rw [← hW3]
        clear hW3 d0 d1 d2
        go_wp2_with fail
        go_loopw [49] (fun x wx => ∃ (i : Nat) (V2 : Nat → Value) (S2 : Nat → List Tm), i ≤ n ∧ x = .int .i64 i ∧ Hid (HaW gw gm was now born T V w (l - 1) (S1 c) (.slice va n vc) i V2 S2 wx)) (fun v _ => n - (intOf v).toNat)
        case atStart => exact ⟨0, _, _, by omega, rfl, HH0⟩
        case round =>
          clear HH0
          obtain ⟨i, V2, S2, hi, rfl, HH⟩ := hrel
          by_cases hin : i < n
          · obtain ⟨t, ht⟩ : ∃ t, (S1 c)[i]? = some t := ⟨_, List.getElem?_eq_getElem (by have := HN.out; omega)⟩
            have hrow := HH.out.row
            obtain ⟨g, hg⟩ : ∃ g, va = some ⟨g, 0, none⟩ := by
              rcases hrow.2 with ⟨e, e'⟩ | ⟨g, cap, cur, e, _⟩
              · have := HN.out; omega
              · simp only [Value.slice.injEq] at e
                exact ⟨g, e.1⟩
            subst hg
            rw [HN.out] at hrow
            obtain ⟨f, hf, _, hnc, _, hx⟩ := own_toRow hrow
            obtain ⟨x0, x1, x2⟩ := TmAt.of hx ht
            have q0 : wr.cell? ⟨g, i * 3, none⟩ = some (.int .i64 t.at') := by rw [← x0]; exact hf.cell (by omega)
            have q1 : wr.cell? ⟨g, i * 3 + 1, none⟩ = some (.int .i64 t.id) := by rw [← x1]; exact hf.cell (by omega)
            have q2 : wr.cell? ⟨g, i * 3 + 2, none⟩ = some (.int .i64 t.born) := by rw [← x2]; exact hf.cell (by omega)
            have lg := hf.lt
            obtain ⟨W4, hW4⟩ : ∃ W, W = wr.alloc (.cells #[.int .i64 t.at', .int .i64 t.id, .int .i64 t.born] 51) := ⟨_, rfl⟩
            have hb4 : Below wr.heap.size wr W4 := by rw [hW4]; exact (Below.refl _ _).alloc (Nat.le_refl _) _
            have HH4 := Lib.hid (HH.out.below hb4)
            obtain ⟨bx, hbx⟩ : ∃ c, wr.heap.size = c := ⟨_, rfl⟩
            have v0 : W4.cell? ⟨bx, 0, none⟩ = some (.int .i64 t.at') := by rw [hW4, ← hbx]; simp
            have v1 : W4.cell? ⟨bx, 1, none⟩ = some (.int .i64 t.id) := by rw [hW4, ← hbx]; simp
            have v2 : W4.cell? ⟨bx, 2, none⟩ = some (.int .i64 t.born) := by rw [hW4, ← hbx]; simp
            have v3 : bx < W4.heap.size := by rw [hW4, ← hbx]; simp
            have hTt := HT.out t (HTS.out t (List.mem_of_getElem? ht))
            have HPU := Lib.hid (put_any _ gw gm now born V2 S2 t W4 HH4.out.ww (by have := HW.out; omega) (by have := HW.out; have h1 := hTt.ge; have h2 := hTt.near; omega) (by have := hand_few HH4.out.hand (pl now t.at'); have := HS.out; omega))
            have HTT := Lib.hid ht
            have i1 : (0 : Int) ≤ (i : Int) := by omega
            have i2 : (i : Int) < (n : Int) := by omega
            clear ht hrow hf hnc hx x0 x1 x2 hb4 hTt
            go_upto_region 12 with fail
            rw [← hW4]
            clear hW4 q0 q1 q2 lg hbx
            go_wp2_with (go_at_call 15; refine Calls.mono HPU.out ?_; rintro e w5 ⟨rfl, v', hw5, hv5, hk5⟩; have HH5 := Lib.hid (HH4.out.put HTT.out (HQM.out t (List.mem_of_getElem? HTT.out)) hw5 hv5 hk5); clear hw5 hv5 hk5)
            go_roundw
            case rel => exact ⟨i + 1, _, _, by omega, by simp, HH5⟩
            case measure => simp [intOf]; omega
          · obtain rfl : i = n := by omega
            have HFI : Hid (ToW gw gm was now born T V w (l - 1) V2 S2 wr) := Lib.hid (by
              have := HH.out
              rw [← HN.out] at this
              exact this.done)
            go_wp2_with fail
            go_roundw
            case rel => exact ⟨l - 1, V2, S2, by omega, rfl, HFI⟩
            case measure => simp [intOf]; omega
    · obtain rfl : l = 0 := by omega
      go_wp2_with fail
      go_end0
      exact ⟨rfl, V1, S1, HTO.out.ww, HTO.out.inv.congr fun t ht => (mid_end (HT.out t ht)).symm, HTO.out.kept⟩
end Go.Proofs.Ytjoejdpoehpkiaa
