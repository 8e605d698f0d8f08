/- The program's wheel as a whole; contract: Add. -/
import Derived.Test.YtjoejdpoehpkiaaWheelNext
import Derived.Test.YtjoejdpoehpkiaaWheelAddR
namespace Go.Proofs.Ytjoejdpoehpkiaa
open Go.ChangeShapes Go.WideShapes Go.ChangeAt Go.RowKit
set_option linter.unusedVariables false
open Wh
theorem BoxM.ne_row {gm q c : Nat} {f : Int → Int} {h : Int → Bool} {w : World} (hM : BoxM gm q f h c w) {b : Nat} {t : TypeId} {n : Nat} {g : Nat → Value} (k : w.rowIs b t n g) : b ≠ gm := fun e => by
  subst e
  obtain ⟨D, ⟨es, clock, e1, _⟩, _⟩ := hM
  obtain ⟨cs, hb, _⟩ := k
  rw [e1] at hb
  simp at hb
theorem BoxM.ne_own {gm q c : Nat} {f : Int → Int} {h : Int → Bool} {w : World} (hM : BoxM gm q f h c w) {base n size : Nat} {E : TypeId} {v : Value} {xs : List Value} (k : w.ownsRow base E size v n xs) : v.ownBlock ≠ some gm := fun e => by
  rcases k.2 with ⟨rfl, _⟩ | ⟨g, cap, cur, rfl, hb, hg, h3⟩
  · cases e
  · obtain rfl : g = gm := by simpa [Value.ownBlock] using e
    obtain ⟨D, ⟨es, clock, e1, _⟩, _⟩ := hM
    rw [e1] at hg
    simp at hg
theorem BoxM.lenRun {gm q c : Nat} {f : Int → Int} {h : Int → Bool} {w : World} (hM : BoxM gm q f h c w) (ty : TypeId) : (Builtin.len_ #[43] ty #[.map (some gm)]).run Try.prog w = .ok (.int .i64 (c : Int)) w := by
  obtain ⟨D, ho, hm, hd, hh, hc⟩ := hM
  rw [ho.len Try.underlying43 ty, hc]
theorem wfInt {z : Int} (h : -9223372036854775808 ≤ z ∧ z ≤ 9223372036854775807) : (Lit.int .i64 z).wf = true := by
  simp only [Lit.wf, IntKind.min, IntKind.max, IntKind.signed, IntKind.bits, Bool.and_eq_true, decide_eq_true_eq, if_true]; omega
/-- what is in a wheel; k calls at most have been made -/
structure In (k : Nat) (now born : Int) (T : List Tm) (S : Nat → List Tm) (f : Int → Int) (h : Int → Bool) (c q : Nat) : Prop where
  mt : MapT T f h c
  inv : Inv (pl now) T S
  came : Came T
  old : ∀ t, t ∈ T → t.born ≤ born
  far : ∀ t, t ∈ T → now < t.at' ∧ t.at' ≤ now + 16777216
  short : T.length ≤ 200
  few : 0 ≤ born ∧ born ≤ (k : Int) ∧ q ≤ k
  nows : 0 ≤ now ∧ now ≤ (k : Int) * 16777216
  wf : ∀ t, t ∈ T → (Lit.int .i64 t.id).wf = true
structure PW (F : Nat → Prop) (gw gm k : Nat) (now born : Int) (T : List Tm) (V : Nat → Value) (S : Nat → List Tm) (f : Int → Int) (h : Int → Bool) (c q : Nat) (w : World) : Prop where
  ww : WW F gw gm now born V S w
  map : BoxM gm q f h c w
  fm : F gm
  in' : In k now born T S f h c q
def PWE (F : Nat → Prop) (gw k : Nat) (now : Int) (T : List Tm) (w : World) : Prop := ∃ gm born V S f h c q, PW F gw gm k now born T V S f h c q w
theorem In.next {k : Nat} {now born : Int} {T : List Tm} {S : Nat → List Tm} {f : Int → Int} {h : Int → Bool} {c q : Nat} (H : In k now born T S f h c q) : In (k + 1) now born T S f h c q :=
  ⟨H.mt, H.inv, H.came, H.old, H.far, H.short, by have := H.few; omega, by have := H.nows; omega, H.wf⟩
section
variable {F G : Nat → Prop} {gw gm k : Nat} {now born : Int} {T : List Tm} {V : Nat → Value} {S : Nat → List Tm} {f : Int → Int} {h : Int → Bool} {c q : Nat} {w w' : World}
theorem PW.kept_all (H : PW F gw gm k now born T V S f h c q w) (hb : ∀ x, F x → x < w.heap.size → w'.heap[x]? = w.heap[x]?) : PW F gw gm k now born T V S f h c q w' := ⟨H.ww.kept_all hb, H.map.kept (hb gm H.fm H.map.lt), H.fm, H.in'⟩
theorem PW.below (H : PW F gw gm k now born T V S f h c q w) (hb : Below w.heap.size w w') : PW F gw gm k now born T V S f h c q w' := H.kept_all fun x _ hx => hb.block x hx
theorem PW.wide (H : PW F gw gm k now born T V S f h c q w) (hG : ∀ x, F x → G x) : PW G gw gm k now born T V S f h c q w := ⟨H.ww.wide hG, H.map, hG _ H.fm, H.in'⟩
theorem PWE.kept_all (H : PWE F gw k now T w) (hb : ∀ x, F x → x < w.heap.size → w'.heap[x]? = w.heap[x]?) : PWE F gw k now T w' := by
  obtain ⟨gm, born, V, S, f, h, c, q, H⟩ := H
  exact ⟨gm, born, V, S, f, h, c, q, H.kept_all hb⟩
theorem PWE.below (H : PWE F gw k now T w) (hb : Below w.heap.size w w') : PWE F gw k now T w' := H.kept_all fun x _ hx => hb.block x hx
theorem PWE.wide (H : PWE F gw k now T w) (hG : ∀ x, F x → G x) : PWE G gw k now T w := by
  obtain ⟨gm, born, V, S, f, h, c, q, H⟩ := H
  exact ⟨gm, born, V, S, f, h, c, q, H.wide hG⟩
theorem PWE.small (H : PWE F gw k now T w) : PWE (fun x => F x ∧ x < w.heap.size) gw k now T w := by
  obtain ⟨gm, born, V, S, f, h, c, q, H⟩ := H
  exact ⟨gm, born, V, S, f, h, c, q, H.ww.small, H.map, ⟨H.fm, H.map.lt⟩, H.in'⟩
theorem PWE.next (H : PWE F gw k now T w) : PWE F gw (k + 1) now T w := by
  obtain ⟨gm, born, V, S, f, h, c, q, H⟩ := H
  exact ⟨gm, born, V, S, f, h, c, q, H.ww, H.map, H.fm, H.in'.next⟩
end
/-- a store into one of the first cells of a wheel's struct -/
theorem WW.setHead {F : Nat → Prop} {gw gm : Nat} {now born now' born' : Int} {V : Nat → Value} {S : Nat → List Tm} {w : World} (h : WW F gw gm now born V S w) {i : Nat} {u : Value} (hi : i < 3) (he : ∀ j, j < 323 → (if j = i then u else wF now born gm V j) = wF now' born' gm V j) : WW F gw gm now' born' V S (w.setCell ⟨gw, i, none⟩ u) :=
  ⟨(h.var.set i u).congr he, h.fw, fun j hj => own_setO (h.row j hj) (own_neR (h.row j hj) h.var (by decide)) _, h.rowF, h.inj⟩
theorem WW.setBorn {F : Nat → Prop} {gw gm : Nat} {now born : Int} {V : Nat → Value} {S : Nat → List Tm} {w : World} (h : WW F gw gm now born V S w) (z : Int) : WW F gw gm now z V S (w.setCell ⟨gw, 1, none⟩ (.int .i64 z)) :=
  h.setHead (by omega) fun j hj => by
    unfold wF
    by_cases e : j = 1
    · subst e; rfl
    · rw [if_neg e, if_neg e]
      simp only [if_neg e]
theorem WW.setNow {F : Nat → Prop} {gw gm : Nat} {now born : Int} {V : Nat → Value} {S : Nat → List Tm} {w : World} (h : WW F gw gm now born V S w) (z : Int) : WW F gw gm z born V S (w.setCell ⟨gw, 0, none⟩ (.int .i64 z)) :=
  h.setHead (by omega) fun j hj => by
    unfold wF
    by_cases e : j = 0
    · subst e; rfl
    · rw [if_neg e, if_neg e, if_neg e]
/-- the map has turned, alone -/
theorem WW.mapped {F : Nat → Prop} {gw gm q c : Nat} {f : Int → Int} {hh : Int → Bool} {now born : Int} {V : Nat → Value} {S : Nat → List Tm} {w w' : World} (h : WW F gw gm now born V S w) (hM : BoxM gm q f hh c w) (hg : w.grownBy w' (some gm)) : WW F gw gm now born V S w' :=
  ⟨rowIs_grown h.var hg (fun e => hM.ne_row h.var (Option.some.inj e)), h.fw, fun i hi => own_block (h.row i hi) fun k hk => hg.block k ((h.row i hi).lt k hk).2 (fun e => hM.ne_own (h.row i hi) (by rw [hk]; exact congrArg _ (Option.some.inj e))), h.rowF, h.inj⟩
theorem In.add {k : Nat} {now born : Int} {T : List Tm} {S : Nat → List Tm} {f : Int → Int} {h : Int → Bool} {c q : Nat} (H : In k now born T S f h c q) {t : Tm} (hb : t.born = born + 1) (h1 : now < t.at') (h2 : t.at' - now ≤ 16777216) (h3 : ∀ u, u ∈ T → u.id ≠ t.id) (h4 : T.length ≠ 200) (hw : (Lit.int .i64 t.id).wf = true) :
    In (k + 1) now (born + 1) (T ++ [t]) (upd S (pl now t.at') (S (pl now t.at') ++ [t])) (setI f t.id t.at') (setB h t.id) (c + 1) (q + 1) := by
  have hs := H.short
  have hf := H.few
  have hn := H.nows
  refine ⟨⟨fun id => ?_, fun u hu => ?_, by rw [H.mt.len]; simp⟩, H.inv.add (fun ht => h3 t ht rfl), H.came.add (fun x hx => by have := H.old x hx; omega) h3, fun u hu => ?_, fun u hu => ?_, by simp; omega, by omega, by omega, fun u hu => ?_⟩
  · unfold setB
    rw [Bool.or_eq_true, H.mt.mem]
    simp only [decide_eq_true_eq, List.mem_append, List.mem_singleton]
    constructor
    · rintro (⟨u, h5, h6⟩ | h5)
      · exact ⟨u, .inl h5, h6⟩
      · exact ⟨t, .inr rfl, h5⟩
    · rintro ⟨u, h5 | h5, h6⟩
      · exact .inl ⟨u, h5, h6⟩
      · subst h5; exact .inr h6
  · unfold setI
    rcases List.mem_append.1 hu with h5 | h5
    · rw [if_neg (h3 u h5)]; exact H.mt.at' u h5
    · rw [List.mem_singleton] at h5; subst h5; rw [if_pos rfl]
  · rcases List.mem_append.1 hu with h5 | h5
    · have := H.old u h5; omega
    · rw [List.mem_singleton] at h5; subst h5; omega
  · rcases List.mem_append.1 hu with h5 | h5
    · exact H.far u h5
    · rw [List.mem_singleton] at h5; subst h5; omega
  · rcases List.mem_append.1 hu with h5 | h5
    · exact H.wf u h5
    · rw [List.mem_singleton] at h5; subst h5; exact hw
def WAddP (F : Nat → Prop) (gw k : Nat) (now : Int) (T : List Tm) (x id : Int) (w : World) (e : Ending) (w' : World) : Prop :=
  ∃ t z T', t.at' = x ∧ t.id = id ∧ e = .returned (.int .i64 z) ∧ AddS now T t z T' ∧ PWE (fun y => F y ∨ w.heap.size ≤ y) gw (k + 1) now T' w' ∧ Kept F w w'
set_option maxRecDepth 20000 in
set_option maxHeartbeats 8000000 in
theorem wAdd_any (F : Nat → Prop) (gw k : Nat) (now : Int) (T : List Tm) (x id : Int) (w : World) (H : PWE F gw k now T w) (hk : k ≤ 300) (hx : -9223372036854775808 ≤ x ∧ x ≤ 9223372036854775807) (hid : (Lit.int .i64 id).wf = true) :
    Calls Try.prog 5 #[.pointer (some ⟨gw, 0, none⟩), .int .i64 x, .int .i64 id] w fun e w' => WAddP F gw k now T x id w e w' := by
  obtain ⟨gm, born, V, S, f, h, c, q, H⟩ := H
  have c0 := H.ww.c0
  have c1 := H.ww.c1
  have c2 := H.ww.c2
  have f1 := H.ww.var.frozen 1
  have lw := H.ww.var.lt
  have hlk := H.map.look hid
  have hln := H.map.lenRun
  have hn := H.in'.nows
  have hfw := H.in'.few
  have HH := Lib.hid H
  obtain ⟨fi, hfi⟩ : ∃ y, f id = y := ⟨_, rfl⟩
  obtain ⟨hi, hhi⟩ : ∃ y, h id = y := ⟨_, rfl⟩
  rw [hfi, hhi] at hlk
  have HHI := Lib.hid hhi
  have HID := Lib.hid hid
  have HK := Lib.hid hk
  have HX := Lib.hid hx
  have HPE : Hid (PWE (fun y => F y ∨ w.heap.size ≤ y) gw (k + 1) now T w) := Lib.hid (PWE.wide (PWE.next ⟨_, _, _, _, _, _, _, _, H⟩) (fun y hy => .inl hy))
  have HF9 : Hid (0 ≤ now ∧ now ≤ 5033164800) := Lib.hid (by omega)
  clear H hfi hhi hid
  cases h1 : decide (x ≤ now) with
  | true =>
    have HE : Hid (AddS now T ⟨x, id, 0⟩ 11 T) := Lib.hid (.inl ⟨by simpa using h1, rfl, rfl⟩)
    clear hn hfw
    go_enter Try.func5, Try.ntmps5
    go_wp2_with fail
    go_ret
    exact ⟨⟨x, id, 0⟩, 11, T, rfl, rfl, rfl, HE.out, HPE.out, Kept.refl _ _⟩
  | false =>
    have hlt : now < x := by simpa using h1
    have hwr : IntKind.i64.wrap (x - now) = x - now := IntWalk.i64_in _ (by omega)
    have HLT := Lib.hid hlt
    cases h2 : decide (x - now > 16777216) with
    | true =>
      have HE : Hid (AddS now T ⟨x, id, 0⟩ 4 T) := Lib.hid (.inr (.inl ⟨hlt, by simpa using h2, rfl, rfl⟩))
      clear hlt hn hfw
      go_enter Try.func5, Try.ntmps5
      go_wp2_with fail
      go_ret
      exact ⟨⟨x, id, 0⟩, 4, T, rfl, rfl, rfl, HE.out, HPE.out, Kept.refl _ _⟩
    | false =>
      have HNE : Hid (x - now ≤ 16777216) := Lib.hid (by simpa using h2)
      cases hi with
      | true =>
        have HE : Hid (AddS now T ⟨x, id, 0⟩ 6 T) := Lib.hid (.inr (.inr (.inl ⟨HLT.out, HNE.out, (HH.out.in'.mt.mem id).1 HHI.out, rfl, rfl⟩)))
        clear hlt hn hfw
        go_enter Try.func5, Try.ntmps5
        go_wp2_with fail
        go_ret
        exact ⟨⟨x, id, 0⟩, 6, T, rfl, rfl, rfl, HE.out, HPE.out, Kept.refl _ _⟩
      | false =>
        have HU : Hid (∀ u, u ∈ T → u.id ≠ id) := Lib.hid (fun u hu e => by
          have := (HH.out.in'.mt.mem id).2 ⟨u, hu, e⟩
          rw [HHI.out] at this
          cases this)
        have HCL := Lib.hid HH.out.in'.mt.len
        by_cases h200 : c = 200
        · have HE : Hid (AddS now T ⟨x, id, 0⟩ 7 T) := Lib.hid (.inr (.inr (.inr (.inl ⟨HLT.out, HNE.out, HU.out, HCL.out.symm.trans h200, rfl, rfl⟩))))
          have h3 : ((c : Int) == 200) = true := by simp; omega
          clear hlt hn hfw h200
          go_enter Try.func5, Try.ntmps5
          go_wp2_with fail
          go_ret
          exact ⟨⟨x, id, 0⟩, 7, T, rfl, rfl, rfl, HE.out, HPE.out, Kept.refl _ _⟩
        · have h3 : ((c : Int) == 200) = false := by simp; omega
          have hw2 : IntKind.i64.wrap (born + 1) = born + 1 := IntWalk.i64_in _ (by omega)
          obtain ⟨bo, hbo⟩ : ∃ b, born + 1 = b := ⟨_, rfl⟩
          rw [hbo] at hw2
          have HE : Hid (AddS now T ⟨x, id, bo⟩ 0 (T ++ [⟨x, id, bo⟩])) := Lib.hid (.inr (.inr (.inr (.inr ⟨HLT.out, HNE.out, HU.out, by rw [← HCL.out]; exact h200, rfl, rfl⟩))))
          have HIN : Hid (In (k + 1) now bo (T ++ [⟨x, id, bo⟩]) (upd S (pl now x) (S (pl now x) ++ [⟨x, id, bo⟩])) (setI f id x) (setB h id) (c + 1) (q + 1)) := Lib.hid (by
            have := HH.out.in'.add (t := ⟨x, id, bo⟩) hbo.symm HLT.out HNE.out HU.out (by rw [← HCL.out]; exact h200) HID.out
            rw [hbo] at this
            exact this)
          obtain ⟨W1, hW1⟩ : ∃ W, W = w.setCell ⟨gw, 1, none⟩ (.int .i64 bo) := ⟨_, rfl⟩
          have HW1 : Hid (WW F gw gm now bo V S W1) := Lib.hid (by rw [hW1]; exact HH.out.ww.setBorn bo)
          have HM1 : Hid (BoxM gm q f h c W1) := Lib.hid (by rw [hW1]; exact HH.out.map.kept (Below.heap_setCell w _ _ gm (fun e => HH.out.map.ne_row HH.out.ww.var e.symm)))
          have HK1 : Hid (Kept F w W1) := Lib.hid (by rw [hW1]; exact (Kept.refl F w).setCell (p := ⟨gw, 1, none⟩) (.inl HH.out.ww.fw) _)
          obtain ⟨W2, hup, hM2, hg2⟩ := HM1.out.upd (by unfold maxLen; omega) (id := id) (u := x) HID.out (wfInt HX.out)
          have HM2 : Hid (BoxM gm (q + 1) (setI f id x) (setB h id) (c + 1) W2) := Lib.hid (by rw [HHI.out] at hM2; exact hM2)
          have HW2 := Lib.hid (HW1.out.mapped HM1.out hg2)
          have HK2 := Lib.hid (HK1.out.grown hg2 (fun k hk => .inl (by cases hk; exact HH.out.fm)))
          have d1 := HW1.out.c2
          have d2 := HW1.out.var.lt
          have e1 := HW2.out.c1
          have e2 := HW2.out.var.lt
          have HSL : Hid ((S (pl now x)).length ≤ 200) := Lib.hid (by
            have hs := HH.out.in'.short
            have := (HH.out.in'.inv.nodup (pl now x)).length_le_of_subset (l₂ := T) (fun t ht => ((HH.out.in'.inv.mem _ t).1 ht).1)
            omega)
          have HPU := Lib.hid (put_any F gw gm now bo V S ⟨x, id, bo⟩ W2 HW2.out (by have := HF9.out; omega) (by have := HF9.out; have := HLT.out; have := HNE.out; show 0 ≤ x ∧ x ≤ _; omega) HSL.out)
          clear hlt hn hfw h200 hM2 hg2
          go_enter Try.func5, Try.ntmps5
          go_upto_region 11 with fail
          rw [← hW1]
          clear hW1 c0 c1 c2 f1 hlk hln
          go_wp2_with (go_at_call 15; refine Calls.mono HPU.out ?_; rintro e w3 ⟨rfl, v', hw3, -, hk3⟩; have HW3 := Lib.hid hw3; have HK3 := Lib.hid hk3; clear hw3 hk3)
          go_ret
          have hkF : ∀ y, SlF gw V (pl now x) y → F y := fun y hy => by
            rcases hy with rfl | hy
            · exact HH.out.ww.fw
            · exact HH.out.ww.rowF _ y (pl_lt _ _) hy
          have hm3 : BoxM gm (q + 1) (setI f id x) (setB h id) (c + 1) w3 := HM2.out.kept (HK3.out.block gm HM2.out.lt (fun hs => by
            rcases hs with hs | hs
            · exact HM2.out.ne_row HW2.out.var hs.symm
            · exact HM2.out.ne_own (HW2.out.row _ (pl_lt _ _)) hs))
          refine ⟨⟨x, id, bo⟩, 0, _, rfl, rfl, rfl, HE.out, ⟨gm, bo, _, _, _, _, _, _, HW3.out.wide (fun y hy => ?_), hm3, .inl HH.out.fm, HIN.out⟩, HK2.out.trans HK3.out (fun y hy => .inl (hkF y hy))⟩
          rcases hy with hy | hy
          · exact .inl hy
          · exact .inr (by have := HK2.out.size; omega)
end Go.Proofs.Ytjoejdpoehpkiaa
