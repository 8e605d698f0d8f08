/- Contracts: the document's wheel: Advance. -/
import Derived.Test.YtjoejdpoehpkiaaWheelCanR
import Derived.Deep.LoopGhost
namespace Go.Proofs.Ytjoejdpoehpkiaa
open Go.ChangeShapes Go.WideShapes Go.ChangeAt Go.RowKit
set_option linter.unusedVariables false
open Wh
structure RAd (G : Nat → Prop) (gr : Nat) (now : Int) (T out left : List Tm) (v vo : Value) (w wr : World) : Prop where
  wh : RWh (fun k => G k ∨ w.heap.size ≤ k) gr now v left wr
  own : spanRow wr w.heap.size 38 2 vo out.length (fires out)
  dif : ∀ k, vo.ownBlock = some k → v.ownBlock ≠ some k
  kept : Kept G w wr
  told : Wh.Told T out left
  le : ∀ t, t ∈ out → t.at' ≤ now
section
variable {G : Nat → Prop} {gr : Nat} {now : Int} {T out left : List Tm} {v vo : Value} {w wr w' : World}
theorem RAd.below (h : RAd G gr now T out left v vo w wr) (hb : Below wr.heap.size wr w') : RAd G gr now T out left v vo w w' :=
  ⟨h.wh.below hb, h.own.below hb, h.dif, h.kept.trans (Kept.below (F := fun _ => False) hb) (fun _ hx => hx.elim), h.told, h.le⟩
theorem RAd.pushed {x : Tm} {w3 : World} {g off cap : Nat} (h : RAd G gr now T out left v vo w wr) (hs : spanRow w3 w.heap.size 38 2 (.slice (some ⟨g, off, none⟩) (out.length + 1) cap) (out.length + 1) (fires out ++ [.int .i64 x.at', .int .i64 x.id])) (hg : wr.grownBy w3 vo.ownBlock) (hb : vo.ownBlock = some g ∨ wr.heap.size ≤ g) :
    RWh (fun k => G k ∨ w.heap.size ≤ k) gr now v left w3 ∧ spanRow w3 w.heap.size 38 2 (.slice (some ⟨g, off, none⟩) (out ++ [x]).length cap) (out ++ [x]).length (fires (out ++ [x])) ∧ v.ownBlock ≠ some g ∧ Kept G w w3 := by
  have hne : ∀ k, v.ownBlock = some k → vo.ownBlock ≠ some k := fun k hk ho => h.dif k ho hk
  refine ⟨⟨rowIs_grown h.wh.var hg (fun e => span_ne h.own h.wh.var (by decide) e.symm), h.wh.fr, h.wh.row.block fun k hk => hg.block k (h.wh.row.lt k hk).2 (fun e => hne k hk e.symm), h.wh.rowF⟩, by rw [List.length_append, fires_push]; exact hs, fun e => ?_, h.kept.grown hg (fun k hk => .inr (h.own.lt k hk).1)⟩
  rcases hb with h1 | h1
  · exact hne g e h1
  · have := (h.wh.row.lt g e).2
    omega
end
/-- what is left once the k-th has been struck behind its push -/
theorem RAd.struck {G : Nat → Prop} {gr : Nat} {now : Int} {T out left : List Tm} {x : Tm} {b off n cap k g2 off2 cap2 : Nat} {vo : Value} {w wr w4 w5 : World} {sp : Addr} {m3 cap3 : Nat} (h : RAd G gr now T out left (.slice (some ⟨b, off, none⟩) n cap) vo w wr)
    (hP : RWh (fun k => G k ∨ w.heap.size ≤ k) gr now (.slice (some ⟨b, off, none⟩) n cap) left w4 ∧ spanRow w4 w.heap.size 38 2 (.slice (some ⟨g2, off2, none⟩) (out ++ [x]).length cap2) (out ++ [x]).length (fires (out ++ [x])) ∧ (Value.slice (some ⟨b, off, none⟩) n cap).ownBlock ≠ some g2 ∧ Kept G w w4)
    (hc : Came T) (hf : Frst left left.length k x) (hx : x.at' ≤ now) (hb : Below w4.heap.size w4 w5) (hs : spanRow w5 0 38 2 (.slice (some sp) m3 cap3) m3 (fires (left.take k) ++ fires (left.drop (k + 1)))) (hg : sp.block = b ∨ w4.heap.size ≤ sp.block) (hm : (left.take k ++ left.drop (k + 1)).length = m3) :
    RAd G gr now T (out ++ [x]) (left.take k ++ left.drop (k + 1)) (.slice (some sp) m3 cap3) (.slice (some ⟨g2, off2, none⟩) (out ++ [x]).length cap2) w (w5.setCell ⟨gr, 1, none⟩ (.slice (some sp) m3 cap3)) := by
  obtain ⟨h1, h2, h3, h4⟩ := hP
  obtain ⟨r1, r2⟩ := RWh.stored (B := w.heap.size) (qs' := left.take k ++ left.drop (k + 1)) h1 hb hs hg (fires_app _ _) hm h4.size
  have hv := (h1.below hb).var
  have ho := h2.below hb
  have hne := span_ne ho hv (by decide)
  have hgl := h2.lt g2 rfl
  refine ⟨r1.wide fun k hk => ?_, ho.block fun k hk => Below.heap_setCell w5 _ _ k (fun e => hne (by rw [hk, e])), fun k hk he => ?_, h4.trans r2 (fun y hy => hy), h.told.one hc hf, fun t ht => ?_⟩
  · rcases hk with hk | hk
    · exact hk
    · exact .inr hk
  · obtain rfl : g2 = k := by simpa [Value.ownBlock] using hk
    have he : sp.block = g2 := by simpa [Value.ownBlock] using he
    rcases hg with e | e
    · exact h3 (by rw [← he, e]; rfl)
    · omega
  · rcases List.mem_append.1 ht with h5 | h5
    · exact h.le t h5
    · rw [List.mem_singleton] at h5
      rw [h5]
      exact hx
def RAdvP (G : Nat → Prop) (gr : Nat) (now : Int) (qs : List Tm) (n : Int) (w : World) (e : Ending) (w' : World) : Prop :=
  (¬ (0 ≤ n ∧ n ≤ 16777216) ∧ e = .returned (.tuple #[.slice none 0 0, .int .i64 1]) ∧ w' = w) ∨
  ((0 ≤ n ∧ n ≤ 16777216) ∧ ∃ out left vo v', e = .returned (.tuple #[vo, .int .i64 0]) ∧ Upto qs out left (now + n) ∧ RWh (fun k => G k ∨ w.heap.size ≤ k) gr (now + n) v' left w' ∧ spanRow w' w.heap.size 38 2 vo out.length (fires out) ∧ Kept G w w')
theorem RAd.fin {G : Nat → Prop} {gr : Nat} {now n : Int} {T out left : List Tm} {v vo : Value} {w wr : World} {e : Ending} (h : RAd G gr (now + n) T out left v vo w wr) (hn : 0 ≤ n ∧ n ≤ 16777216) (hgt : ∀ t, t ∈ left → now + n < t.at') (he : e = .returned (.tuple #[vo, .int .i64 0])) : RAdvP G gr now T n w e wr :=
  .inr ⟨hn, out, left, vo, v, he, ⟨h.told, h.le, hgt⟩, h.wh, h.own, h.kept⟩
set_option maxRecDepth 20000 in
set_option maxHeartbeats 8000000 in
theorem rAdvance_any (G : Nat → Prop) (gr : Nat) (now : Int) (v : Value) (qs : List Tm) (n : Int) (w : World) (h : RWh G gr now v qs w) (hl : qs.length ≤ 200) (hc : Came qs) (hn : 0 ≤ now ∧ now ≤ 1099511627776) :
    Calls Try.prog 10 #[.pointer (some ⟨gr, 0, none⟩), .int .i64 n] w fun e w' => RAdvP G gr now qs n w e w' := by
  have c0 := h.c0
  have f0 := h.var.frozen 0
  have lr := h.var.lt
  have HC := Lib.hid hc
  have HL := Lib.hid hl
  have HH := Lib.hid h
  clear h hc hl
  by_cases hlo : n < 0
  · have HE : Hid (¬ (0 ≤ n ∧ n ≤ 16777216)) := Lib.hid (by omega)
    go_enter Try.func10, Try.ntmps10
    go_wp2_with fail
    go_ret2
    exact .inl ⟨HE.out, rfl, rfl⟩
  · cases hhi : decide (n > 16777216) with
    | true =>
      have HE : Hid (¬ (0 ≤ n ∧ n ≤ 16777216)) := Lib.hid (by simp at hhi; omega)
      go_enter Try.func10, Try.ntmps10
      go_wp2_with fail
      go_ret2
      exact .inl ⟨HE.out, rfl, rfl⟩
    | false =>
      have hn2 : 0 ≤ n ∧ n ≤ 16777216 := by simp at hhi; omega
      have HE := Lib.hid hn2
      have hwr : IntKind.i64.wrap (now + n) = now + n := IntWalk.i64_in _ (by omega)
      obtain ⟨W1, hW1⟩ : ∃ W, W = w.setCell ⟨gr, 0, none⟩ (.int .i64 (now + n)) := ⟨_, rfl⟩
      have HR1 : Hid (RAd G gr (now + n) qs [] qs v (.slice none 0 0) w W1) := Lib.hid (by
        have hne : ∀ k, v.ownBlock = some k → k ≠ gr := fun k hk e => span_ne HH.out.row HH.out.var (by decide) (by rw [hk, e])
        refine ⟨⟨?_, .inl HH.out.fr, ?_, fun k hk => .inl (HH.out.rowF k hk)⟩, spanRow.nil _ _ _ _, fun k hk => by simp [Value.ownBlock] at hk, ?_, Wh.Told.start qs, fun t ht => by simp at ht⟩
        · rw [hW1]
          refine (HH.out.var.set 0 _).congr fun i hi => ?_
          have : i = 0 ∨ i = 1 := by omega
          rcases this with rfl | rfl <;> rfl
        · rw [hW1]
          exact HH.out.row.block fun k hk => Below.heap_setCell w _ _ k (hne k hk)
        · rw [hW1]
          exact (Kept.refl G w).setCell (p := ⟨gr, 0, none⟩) (.inl HH.out.fr) _)
      go_enter Try.func10, Try.ntmps10
      go_upto_region 4 with fail
      rw [← hW1]
      clear hW1 c0 f0 hn2
      go_wp2_with fail
      clear hwr hhi
      obtain ⟨e', he'⟩ : ∃ e, now + n = e := ⟨_, rfl⟩
      rw [he'] at HR1
      have HEE := Lib.hid he'
      have HEB : Hid (0 ≤ e' ∧ e' ≤ 1099528404992) := Lib.hid (by have := HE.out; omega)
      clear he'
      go_loopg [6] qs.length (fun g x wr => ∃ (out left : List Tm) (v vo : Value), left.length = g ∧ vo = x ∧ Hid (RAd G gr e' qs out left v vo w wr))
      case atStart => exact ⟨[], qs, v, _, rfl, rfl, HR1⟩
      case round =>
        clear HR1
        obtain ⟨out, left, v, vo, hg, rfl, HR⟩ := hrel
        have HLL : Hid (left.length ≤ 200 ∧ out.length ≤ 200 ∧ Came left) := Lib.hid (by
          have h1 := HR.out.told.left'
          have h2 : left.Sublist qs := by rw [h1]; exact List.filter_sublist
          have h3 := h2.length_le
          have h4 := HL.out
          have h5 : out.length ≤ qs.length := by
            have hnd : out.Nodup := HR.out.told.row.imp fun {a b} hab e => by subst e; exact lt_irrefl _ hab
            exact hnd.length_le_of_subset fun t ht => HR.out.told.sub t ht
          exact ⟨by omega, by omega, HC.out.sub h2⟩)
        have hkl : gr < wr.heap.size := HR.out.wh.var.lt
        go_wp2_with fail
        refine Calls.mono (first_any _ gr e' v left _ HR.out.wh HLL.out.1) ?_
        rintro e w2 ⟨z, rfl, hz, hb⟩
        have HR2 := Lib.hid (HR.out.below hb)
        have HZ := Lib.hid hz
        clear hb
        rcases hz with ⟨hq, rfl⟩ | ⟨k, x, hf, rfl⟩
        · have HQ := Lib.hid hq
          clear hq
          go_wp2_with fail
          go_quiet (fail)
          go_wp2_with fail
          go_ret2
          have h3 := HR2.out.below ((Drawn.drewN w2 nq).below _)
          rw [← HEE.out] at h3
          exact h3.fin HE.out (fun t ht => by rw [HQ.out] at ht; simp at ht) rfl
        · obtain ⟨a, cap, rfl, hW⟩ := HR2.out.wh.row.fw
          obtain ⟨m, hm⟩ : ∃ m, left.length = m := ⟨_, rfl⟩
          have HM := Lib.hid hm
          have d0 := HR2.out.wh.c0
          have d1 := HR2.out.wh.c1
          have dl := HR2.out.wh.var.lt
          rw [hm] at d1
          have hkm := hf.le'
          obtain ⟨b, off, rfl, hb', x0, x1⟩ := fireCells hW.vals hf.at'
          have HF := Lib.hid hf
          rw [hm] at hkm
          have k1 : (0 : Int) ≤ (k : Int) := by omega
          have k2 : (k : Int) < (m : Int) := by omega
          have k3 : ¬ (k : Int) < 0 := by omega
          have HKM := Lib.hid hkm
          have hm2 : m ≤ 200 := by have := HLL.out.1; omega
          clear hf hW hm hkm
          cases hgt : decide (x.at' > e') with
          | true =>
            go_wp2_with fail
            go_quiet (fail)
            go_wp2_with fail
            go_ret2
            have h3 := HR2.out.below ((Drawn.drewN w2 nq).below _)
            rw [← HEE.out] at h3 hgt
            exact h3.fin HE.out (fun t ht => by
              obtain ⟨i, hi, rfl⟩ := List.getElem_of_mem ht
              have := (HF.out.least i _ hi (List.getElem?_eq_getElem hi)).1
              simp at hgt
              omega) rfl
          | false =>
            have HGT := Lib.hid hgt
            go_wp2_with fail
            go_quiet (fail)
            go_upto_region 8 with fail
            obtain ⟨W3, hW3⟩ : ∃ W, W = w2.drewN nq := ⟨_, rfl⟩
            have hb3 : Below w2.heap.size w2 W3 := by rw [hW3]; exact (Drawn.drewN w2 nq).below _
            rw [← hW3]
            have HR3 : Hid (RAd G gr e' qs out left (.slice (some ⟨b, off, none⟩) m cap) vo w W3) := Lib.hid (by rw [← HM.out]; exact HR2.out.below hb3)
            have e0 := HR3.out.wh.c0
            have e1 := HR3.out.wh.c1
            have el := HR3.out.wh.var.lt
            have y0 := (hb3.cell (p := ⟨b, off + k * 2, none⟩) hb').trans x0
            have y1 := (hb3.cell (p := ⟨b, off + k * 2 + 1, none⟩) hb').trans x1
            have yb := Nat.lt_of_lt_of_le hb' hb3.size
            obtain ⟨so, hso⟩ : ∃ n, out.length = n := ⟨_, rfl⟩
            have HSO := Lib.hid hso
            have hso2 : so ≤ 200 := by have := HLL.out.2.1; omega
            clear hW3 hb3 d0 d1 dl x0 x1 hb' hso
            go_upto_region 9 with (at_builtin; go_loud (refine wpList_push_span _ (by rfl) _ _ 26 (by rfl) w.heap.size 38 (.agg #[.int .i64 0, .int .i64 0]) 2 16 Try.underlying26 infoFire (by rfl) vo so _ [.int .i64 x.at', .int .i64 x.id] _ rfl (by rfl) (by have h := HR3.out.own; rw [HSO.out] at h; exact h) (by rfl) (by rfl) (by intro u hu; simp at hu; rcases hu with rfl | rfl <;> rfl) (by unfold maxLen; omega) (by omega) HR3.out.kept.size ?_; intro g2 off2 cap2 w4 hs4 hg4 hgb4; have HP4 := Lib.hid (HR3.out.pushed (by rw [HSO.out]; exact hs4) hg4 hgb4); clear hs4 hg4 hgb4))
            obtain ⟨b9, off9, e9, hst⟩ := HP4.out.1.strike HM.out HF.out.at'
            simp only [Option.some.injEq, Addr.mk.injEq, and_true] at e9
            obtain ⟨rfl, rfl⟩ := e9
            have HS3 := Lib.hid (hst.below (Below.refl w4.heap.size w4).drew)
            have HB4 := Lib.hid (Below.refl w4.heap.size w4).drew
            have d1 : w4.cell? ⟨gr, 1, none⟩ = some (.slice (some ⟨b, off, none⟩) m cap) := hst.wh.c1
            have lr2 := hst.wh.var.lt
            have f0 := hst.wh.var.frozen 1
            have hcap := hst.cap'
            clear hst e0 e1 el y0 y1 yb
            have hwr : IntKind.i64.wrap ((k : Int) + 1) = (k : Int) + 1 := IntWalk.i64_in _ (by omega)
            have i2 : (k : Int) ≤ (cap : Int) := by omega
            have i3 : (0 : Int) ≤ (k : Int) + 1 := by omega
            have i4 : (k : Int) + 1 ≤ (m : Int) := by omega
            have i5 : (m : Int) ≤ (cap : Int) := by omega
            have HML : Hid ((left.take k ++ left.drop (k + 1)).length = k + (m - (k + 1))) := Lib.hid (by rw [List.length_append, List.length_take, List.length_drop, HM.out]; omega)
            have HME : Hid ((left.take k ++ left.drop (k + 1)).length = gk - 1 ∧ 0 < gk) := Lib.hid (by rw [HML.out, ← hg, HM.out]; omega)
            have HGX : Hid (x.at' ≤ e') := Lib.hid (by have := HGT.out; simp at this; exact this)
            clear hgt hg
            by_cases hc1 : k + 1 = cap
            · have HXV : Hid (Vals w4.drew (some (⟨b, off, none⟩ : Addr)) (fires (left.drop (k + 1)))) := Lib.hid (by
                have h1 := HS3.out.tlen
                intro hp
                rw [h1] at hp
                omega)
              have HL3 : Hid ((fires (left.drop (k + 1))).length = 0 * 2) := Lib.hid (by rw [HS3.out.tlen]; omega)
              go_region_law (refine step_append_span _ (by rfl) _ _ 26 (by rfl) 38 (.agg #[.int .i64 0, .int .i64 0]) 2 16 Try.underlying26 infoFire (by rfl) (by decide) ⟨b, off, none⟩ k (fires (left.take k)) (by rfl) HS3.out.span ⟨b, off, none⟩ 0 _ (fires (left.drop (k + 1))) (by rfl) rfl HL3.out HXV.out (by unfold maxLen; omega) (by omega) ?_; intro sp cap3 w3 hs3 hb3 hg3; have HS5 := Lib.hid hs3; have HB5 := Lib.hid hb3; have HG5 := Lib.hid hg3; have g0 : w3.cell? ⟨gr, 1, none⟩ = some (.slice (some ⟨b, off, none⟩) m cap) := (hb3.cell (p := ⟨gr, 1, none⟩) lr2).trans d1; have g1 : w3.frozen? ⟨gr, 1, none⟩ = false := (hb3.frozen (p := ⟨gr, 1, none⟩) lr2).trans f0; have g2 : gr < w3.heap.size := Nat.lt_of_lt_of_le lr2 hb3.size; clear hs3 hb3 hg3)
              all_goals
                go_wp2_with fail
                have hr := HR3.out.struck HP4.out HC.out HF.out HGX.out (HB4.out.trans HB5.out) HS5.out HG5.out (by rw [HML.out]; omega)
                rw [show (out ++ [x]).length = so + 1 from by simp [HSO.out]] at hr
                go_roundg (gk - 1)
                case measure => have := HME.out; omega
                case rel => exact ⟨_, _, _, _, HME.out.1, rfl, Lib.hid (by simp only [Nat.add_zero, hc1] at hr ⊢; exact hr)⟩
            · have hc2 : ¬ cap = k + 1 := fun e => hc1 e.symm
              go_region_law (refine step_append_span _ (by rfl) _ _ 26 (by rfl) 38 (.agg #[.int .i64 0, .int .i64 0]) 2 16 Try.underlying26 infoFire (by rfl) (by decide) ⟨b, off, none⟩ k (fires (left.take k)) (by rfl) HS3.out.span ⟨b, off + (k + 1) * 2, none⟩ (m - (k + 1)) _ (fires (left.drop (k + 1))) (by rfl) rfl HS3.out.tlen HS3.out.tail (by unfold maxLen; omega) (by omega) ?_; intro sp cap3 w3 hs3 hb3 hg3; have HS5 := Lib.hid hs3; have HB5 := Lib.hid hb3; have HG5 := Lib.hid hg3; have g0 : w3.cell? ⟨gr, 1, none⟩ = some (.slice (some ⟨b, off, none⟩) m cap) := (hb3.cell (p := ⟨gr, 1, none⟩) lr2).trans d1; have g1 : w3.frozen? ⟨gr, 1, none⟩ = false := (hb3.frozen (p := ⟨gr, 1, none⟩) lr2).trans f0; have g2 : gr < w3.heap.size := Nat.lt_of_lt_of_le lr2 hb3.size; clear hs3 hb3 hg3)
              all_goals
                go_wp2_with fail
                have hr := HR3.out.struck HP4.out HC.out HF.out HGX.out (HB4.out.trans HB5.out) HS5.out HG5.out HML.out
                rw [show (out ++ [x]).length = so + 1 from by simp [HSO.out]] at hr
                go_roundg (gk - 1)
                case measure => have := HME.out; omega
                case rel => exact ⟨_, _, _, _, HME.out.1, rfl, Lib.hid hr⟩
end Go.Proofs.Ytjoejdpoehpkiaa
