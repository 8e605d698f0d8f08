/- Contract: a thing is put into the queue. -/
import Derived.Test.YtfjoakhcgpckgaaQueueNew
namespace Go.Proofs.Ytfjoakhcgpckgaa
open Go.ChangeShapes Go.WideShapes Go.ChangeAt Go.RowKit
set_option linter.unusedVariables false
open Hp
set_option maxHeartbeats 1600000 in
theorem Put_there (F : Nat → Prop) (gq gm : Nat) (born : Int) (M : Int → Option Nat) (q : Nat) (v : Value) (ts : List Th) (w : World) (prio id : Int) (h : QW F gq gm born M q v ts w) (hid : (Lit.int .i64 id).wf = true) (b : Nat) (hb : M id = some b) :
    Calls Try.prog 22 #[.pointer (some ⟨gq, 0, none⟩), .int .i64 prio, .int .i64 id] w fun e w' => e = .returned (.int .i64 6) ∧ w' = w := by
  have c1 : w.cell? ⟨gq, 1, none⟩ = some (.map (some gm)) := h.hw.var.cell (i := 1) (by omega)
  have lq := h.hw.var.lt
  have hl := h.map.look hid
  rw [hb] at hl
  unfold ptrOf at hl
  clear h hb
  go_enter Try.func22, Try.ntmps22
  go_wp2_with fail
  go_ret
  exact ⟨rfl, rfl⟩
theorem map_ne {w : World} {gm q : Nat} {M : Int → Option Nat} (hm : MapW gm M q w) {c : Nat} {t : TypeId} {n : Nat} {f : Nat → Value} (h : w.rowIs c t n f) : c ≠ gm := fun e => by
  subst e
  obtain ⟨D, ⟨es, clock, e1, _⟩, _⟩ := hm
  obtain ⟨cs, hb, _⟩ := h
  rw [e1] at hb
  simp at hb
theorem map_own_ne {w : World} {gm q : Nat} {M : Int → Option Nat} (hm : MapW gm M q w) {E : TypeId} {v : Value} {n : Nat} {xs : List Value} (h : w.ownsRow 0 E 1 v n xs) : some gm ≠ v.ownBlock := fun e => by
  rcases h.2 with ⟨rfl, _⟩ | ⟨g, cap, cur, rfl, hb, hg, h3⟩
  · cases e
  · obtain rfl : gm = g := by simpa [Value.ownBlock] using e
    obtain ⟨D, ⟨es, clock, e1, _⟩, _⟩ := hm
    rw [e1] at hg
    simp at hg
theorem own_grown {w w' : World} {E : TypeId} {v : Value} {n : Nat} {xs : List Value} {gm : Nat} (h : w.ownsRow 0 E 1 v n xs) (hg : w.grownBy w' (some gm)) (hne : some gm ≠ v.ownBlock) : w'.ownsRow 0 E 1 v n xs := by
  refine ⟨h.1, ?_⟩
  rcases h.2 with h2 | ⟨g, cap, cur, rfl, hb, hgg, h3⟩
  · exact .inl h2
  · have hlt := (Array.getElem?_eq_some_iff.1 hgg).1
    exact .inr ⟨g, cap, cur, rfl, hb, by rw [hg.block g hlt (fun e => hne (by rw [← e]; rfl))]; exact hgg, h3⟩
theorem HW.mapped {F : Nat → Prop} {gq gm q : Nat} {born : Int} {v : Value} {ts : List Th} {M : Int → Option Nat} {w w' : World} (h : HW F gq gm born v ts w) (hm : MapW gm M q w) (hg : w.grownBy w' (some gm)) : HW F gq gm born v ts w' :=
  ⟨rowIs_grown h.var hg (fun e => map_ne hm h.var (Option.some.inj e)), h.fq, own_grown h.row hg (map_own_ne hm h.row), h.rowF, fun j t hj => ⟨(h.th j t hj).1, rowIs_grown (h.th j t hj).2 hg (fun e => map_ne hm (h.th j t hj).2 (Option.some.inj e))⟩, h.inj⟩
theorem HW.without {F : Nat → Prop} {gq gm q : Nat} {born : Int} {v : Value} {ts : List Th} {M : Int → Option Nat} {w : World} (h : HW F gq gm born v ts w) (hm : MapW gm M q w) : HW (fun k => F k ∧ k ≠ gm) gq gm born v ts w :=
  ⟨h.var, ⟨h.fq, map_ne hm h.var⟩, h.row, fun k hk => ⟨h.rowF k hk, fun e => map_own_ne hm h.row (by rw [hk, e])⟩, fun j t hj => ⟨⟨(h.th j t hj).1, map_ne hm (h.th j t hj).2⟩, (h.th j t hj).2⟩, h.inj⟩
/-- one more has come -/
theorem HW.older {F : Nat → Prop} {gq gm : Nat} {born : Int} {v : Value} {ts : List Th} {w : World} (h : HW F gq gm born v ts w) (b' : Int) : HW F gq gm b' v ts (w.setCell ⟨gq, 2, none⟩ (.int .i64 b')) :=
  ⟨(h.var.set 2 _).congr fun c hc => by
    unfold qF
    have : c = 0 ∨ c = 1 ∨ c = 2 := by omega
    rcases this with rfl | rfl | rfl <;> rfl, h.fq, own_setOther h.row (own_ne h.row h.var (by decide)) _, h.rowF, fun j t hj => ⟨(h.th j t hj).1, (h.th j t hj).2.setOther (a := ⟨gq, 2, none⟩) (row_ne (h.th j t hj).2 h.var (by decide)) _⟩, h.inj⟩
set_option maxRecDepth 20000 in
set_option maxHeartbeats 1600000 in
theorem Put_full (F : Nat → Prop) (gq gm : Nat) (born : Int) (M : Int → Option Nat) (q : Nat) (v : Value) (ts : List Th) (w : World) (prio id : Int) (h : QW F gq gm born M q v ts w) (hid : (Lit.int .i64 id).wf = true) (hb : M id = none) (hl : ts.length = 200) :
    Calls Try.prog 22 #[.pointer (some ⟨gq, 0, none⟩), .int .i64 prio, .int .i64 id] w fun e w' => e = .returned (.int .i64 7) ∧ w' = w := by
  have c0 := h.hw.cell
  have c1 : w.cell? ⟨gq, 1, none⟩ = some (.map (some gm)) := h.hw.var.cell (i := 1) (by omega)
  have lq := h.hw.var.lt
  have hk := h.map.look hid
  rw [hb] at hk
  unfold ptrOf at hk
  obtain ⟨g, cap, rfl, _, _⟩ := h.hw.slice (by omega)
  rw [hl] at c0
  clear h hb hl
  go_enter Try.func22, Try.ntmps22
  go_wp2_with fail
  go_ret
  exact ⟨rfl, rfl⟩
set_option maxRecDepth 20000 in
set_option maxHeartbeats 1600000 in
theorem Put_good (F : Nat → Prop) (gq gm : Nat) (born : Int) (M : Int → Option Nat) (q : Nat) (v : Value) (ts : List Th) (w : World) (prio id : Int) (h : QW F gq gm born M q v ts w) (hid : (Lit.int .i64 id).wf = true) (hb : M id = none) (hl : ts.length < 200) (hbo : 0 ≤ born ∧ born ≤ 1000000000) (hq : q ≤ 1000000) :
    Calls Try.prog 22 #[.pointer (some ⟨gq, 0, none⟩), .int .i64 prio, .int .i64 id] w fun e w' => e = .returned (.int .i64 0) ∧ ∃ v' us t, t.prio = prio ∧ t.id = id ∧ t.born = born + 1 ∧ us.Perm (ts ++ [t]) ∧ QW (fun k => F k ∨ w.heap.size ≤ k) gq gm (born + 1) (setM M id (some t.blk)) (q + 1) v' us w' ∧ Kept F w w' := by
  have c0 := h.hw.cell
  have c1 : w.cell? ⟨gq, 1, none⟩ = some (.map (some gm)) := h.hw.var.cell (i := 1) (by omega)
  have c2 : w.cell? ⟨gq, 2, none⟩ = some (.int .i64 born) := h.hw.var.cell (i := 2) (by omega)
  have f2 := h.hw.var.frozen 2
  have lq := h.hw.var.lt
  have hk := h.map.look hid
  rw [hb] at hk
  unfold ptrOf at hk
  obtain ⟨n, hn⟩ : ∃ n, ts.length = n := ⟨_, rfl⟩
  have hsl : ∃ a cap, v = .slice a n cap := by
    rcases h.hw.row.2 with ⟨e, h0⟩ | ⟨g, cap, cur, e, _⟩
    · exact ⟨none, 0, by rw [e, ← hn, h0]⟩
    · exact ⟨_, cap, by rw [e, hn]⟩
  obtain ⟨va, vc, rfl⟩ := hsl
  have h200 : ((n : Int) == 200) = false := by simp; omega
  have w0 : IntKind.i64.wrap (born + 1) = born + 1 := IntWalk.i64_in _ (by omega)
  have HQ := Lib.hid h
  have HN := Lib.hid hn
  have HL := Lib.hid hl
  have HBN := Lib.hid hb
  obtain ⟨W1, hW1⟩ : ∃ W, W = w.setCell ⟨gq, 2, none⟩ (.int .i64 (born + 1)) := ⟨_, rfl⟩
  clear h hb hl hn
  go_enter Try.func22, Try.ntmps22
  go_upto_region 6 with fail
  rw [← hW1]
  have HW1 := Lib.hid (show HW F gq gm (born + 1) (.slice va n vc) ts W1 from by rw [hW1]; exact HQ.out.hw.older _)
  have HM1 := Lib.hid (show MapW gm M q W1 from by
    rw [hW1]
    exact HQ.out.map.block (Below.heap_setCell w _ _ gm (fun e => map_ne HQ.out.map HQ.out.hw.var e.symm)))
  have HK1 := Lib.hid (show Kept F w W1 from by rw [hW1]; exact (Kept.refl F w).setCell (p := ⟨gq, 2, none⟩) (.inl HQ.out.hw.fq) _)
  have hs1 : W1.heap.size = w.heap.size := by rw [hW1]; simp
  have HS1 := Lib.hid hs1
  have lq1 : gq < W1.heap.size := by omega
  have d2 : W1.cell? ⟨gq, 2, none⟩ = some (.int .i64 (born + 1)) := HW1.out.var.cell (i := 2) (by omega)
  clear c0 c1 c2 f2 hs1 hW1
  obtain ⟨t, ht⟩ : ∃ t : Th, t = ⟨prio, id, born + 1, W1.heap.size⟩ := ⟨_, rfl⟩
  obtain ⟨W2, hW2⟩ : ∃ W, W = W1.alloc (.cells #[.int .i64 prio, .int .i64 id, .int .i64 (born + 1), .int .i64 0] 179) := ⟨_, rfl⟩
  go_upto_region 7 with fail
  rw [← hW2]
  have hbk : t.blk = W1.heap.size := by rw [ht]
  have hB2 : Below W1.heap.size W1 W2 := by rw [hW2]; exact (Below.refl _ _).alloc (Nat.le_refl _) _
  have HW2 := Lib.hid (HW1.out.below hB2)
  have HM2 := Lib.hid (HM1.out.below hB2)
  have HT2 := Lib.hid (show W2.rowIs t.blk 179 4 (thF t 0) from by
    rw [hbk, hW2]
    refine World.rowIs_alloc W1 _ _ _ fun i hi => ?_
    have hi : i < 4 := hi
    have : i = 0 ∨ i = 1 ∨ i = 2 ∨ i = 3 := by omega
    rcases this with rfl | rfl | rfl | rfl <;> (rw [ht]; rfl))
  have HK2 := Lib.hid (HK1.out.trans (Kept.below (F := F) hB2) (fun x hx => .inl hx))
  have HTB := Lib.hid (show w.heap.size ≤ t.blk from by rw [hbk]; have := HS1.out; omega)
  have HTN : Hid (∀ (j : Nat) (a : Th), ts[j]? = some a → a.blk ≠ t.blk) := Lib.hid fun j a hj e => by
    have := (HW1.out.th j a hj).2.lt
    rw [e, hbk] at this
    omega
  have HTT := Lib.hid ht
  have e1 : W2.cell? ⟨gq, 1, none⟩ = some (.map (some gm)) := HW2.out.var.cell (i := 1) (by omega)
  have lq2 : gq < W2.heap.size := HW2.out.var.lt
  rw [← hbk]
  clear hW2 hB2 hbk ht d2
  go_wp2_with (first
    | (at_mapUpdate; refine wpList_mapPut _ (by rfl) _ _ _ (by rfl) gm q M id t.blk (by rfl) HM2.out (by unfold maxLen; omega) hid (by rfl) (by rfl) ?_; intro w3 hm3 hg3; have HM3 := Lib.hid hm3; have HW3 := Lib.hid (HW2.out.mapped HM2.out hg3); have HT3 := Lib.hid (rowIs_grown HT2.out hg3 (fun e => map_ne HM2.out HT2.out (Option.some.inj e))); have HK3 := Lib.hid (HK2.out.grown hg3 (fun k hk => .inl (by cases hk; exact HQ.out.fm))); have lq3 : gq < w3.heap.size := HW3.out.var.lt; clear hm3 hg3)
    | (go_at_call 110; refine Calls.mono (hPush_any (fun k => (F k ∨ w.heap.size ≤ k) ∧ k ≠ gm) gq gm (born + 1) (.slice va n vc) ts t 0 _ ((HW3.out.without HM3.out).wide (fun k hk => ⟨.inl hk.1, hk.2⟩)) HQ.out.heap HT3.out ⟨.inr HTB.out, map_ne HM3.out HT3.out⟩ HTN.out (by have := HL.out; omega)) ?_; rintro e w4 ⟨rfl, v', us, hp, hh, hw4, hk4⟩))
  have hs3 := HK3.out.size
  have hmem : ∀ x, x ∈ us ↔ x ∈ ts ∨ x = t := fun x => by rw [hp.mem_iff]; simp
  have hqw : QW (fun k => F k ∨ w.heap.size ≤ k) gq gm (born + 1) (setM M id (some t.blk)) (q + 1) v' us w4 := by
    refine ⟨hw4.wide fun k hk => ?_, HM3.out.kept hk4 (fun hf => hf.2 rfl), .inl HQ.out.fm, hh, fun x b => ?_, fun x hx => ?_, ?_⟩
    · rcases hk with hk | hk
      · exact hk.1
      · exact .inr (by omega)
    · have htid : t.id = id := by rw [HTT.out]
      unfold setM
      by_cases e : x = id
      · rw [if_pos e]
        subst e
        constructor
        · intro h
          exact ⟨t, (hmem t).2 (.inr rfl), htid, Option.some.inj h⟩
        · rintro ⟨y, hy, h1, h2⟩
          rcases (hmem y).1 hy with h3 | h3
          · have := (HQ.out.ids x y.blk).2 ⟨y, h3, h1, rfl⟩
            rw [HBN.out] at this
            cases this
          · rw [← h2, h3]
      · rw [if_neg e]
        constructor
        · intro h
          obtain ⟨y, h1, h2, h3⟩ := (HQ.out.ids x b).1 h
          exact ⟨y, (hmem y).2 (.inl h1), h2, h3⟩
        · rintro ⟨y, hy, h1, h2⟩
          rcases (hmem y).1 hy with h3 | h3
          · exact (HQ.out.ids x b).2 ⟨y, h3, h1, h2⟩
          · rw [h3] at h1
            exact (e (h1.symm.trans htid)).elim
    · rcases (hmem x).1 hx with h1 | h1
      · have := HQ.out.old x h1; omega
      · rw [h1, HTT.out]; exact Int.le_refl _
    · refine (hp.map Th.born).nodup_iff.2 ?_
      rw [List.map_append, List.nodup_append]
      refine ⟨HQ.out.dif, by simp, fun a ha b hb => ?_⟩
      obtain ⟨y, hy, rfl⟩ := List.mem_map.1 ha
      have := HQ.out.old y hy
      simp only [List.map_cons, List.map_nil, List.mem_singleton] at hb
      rw [hb, HTT.out]
      simp only
      omega
  have hkk := HK3.out.trans hk4 (fun x hx => hx.1)
  go_ret
  exact ⟨rfl, v', us, t, by rw [HTT.out], by rw [HTT.out], by rw [HTT.out], hp, hqw, hkk⟩
end Go.Proofs.Ytfjoakhcgpckgaa
